/-
  Contracts and laws that the claim's theorem leans on, joined out of the texts Ka4 Ka5D Ka5 Ka6D Ka6 Ka7D Ka7 Ka8D Ka8 Va0D Va0 SySeal Kc0D (own work of this seat): Contracts: the digest's end, and the digest of parts; Contracts: the digest of one part, of two parts; Contracts: the digest of one part, of two parts; Contracts: the digest by the document: padding, one block; Contracts: the digest by the document: padding, one block; Contracts: the digest by the document; Contracts: the digest by the document; Contracts: the digest of parts that can't be turned; a digest's bytes by the document; Contracts: the digest of parts that can't be turned; a digest's bytes by the document; Contracts: numbers and texts as bytes, as the document's answer has them; Contracts: numbers and texts as bytes, as the document's answer has them; Macs and tags, plainly; Contracts: macs and tags by the document.
-/
import Derived.Test.YtnmccoincblecaaGreatC04
import Derived.Test.YtnmccoincblecaaGreatC10
set_option linter.unusedVariables false
set_option linter.unusedSimpArgs false
set_option maxHeartbeats 1000000
namespace Go.Proofs.YtnmccoincblecaaGreat
open Go Sy Go.Proofs
theorem cg_ (H : List Int) (W : List Int) (N : Nat) (H1 : List Int) (W1 : List Int) (z : Nat) (H2 : List Int) (W2 : List Int) (H3 : List Int) (W3 : List Int) (d : List Int) :
  f4 zp (ba9 H W N H1 W1 z H2 W2 H3 W3 d) [] = some (V.agg [V.seg .u8 (32 : Nat) d], [(Nm.o (0 : Nat), B.flat [V.seg .u32 (8 : Nat) H3, V.seg .u8 (64 : Nat) W3, V.int .i64 (↑(N + (1 : Nat) + z + (8 : Nat)) : Int)])], [InR .i64 ((8 : Int) * (↑N : Int)), T zp (104 : Nat) [V.ptr (Nm.o (0 : Nat)) (0 : Nat) (0 : Nat) (0 : Nat) (0 : Nat), V.sl (Nm.o 513) (1 : Nat) (0 : Nat) (0 : Nat) (0 : Nat) (1 : Nat) (some (1 : Nat))] [(Nm.o (0 : Nat), B.flat [V.seg .u32 (8 : Nat) H, V.seg .u8 (64 : Nat) W, V.int .i64 (↑N : Int)]), (Nm.o 513, B.rows (1 : Nat) (1 : Nat) (j4 [[V.int .u8 (128 : Int)]]) false)] (V.tup []) [(Nm.o (0 : Nat), B.flat [V.seg .u32 (8 : Nat) H1, V.seg .u8 (64 : Nat) W1, V.int .i64 (↑(N + (1 : Nat)) : Int)]), (Nm.o 513, B.rows (1 : Nat) (1 : Nat) (j4 [[V.int .u8 (128 : Int)]]) false)], i5 zp none (1 : Nat) (cB (cB (cL (cR (cR (cR (f8 (Bd.f (ba9 H W N H1 W1 z H2 W2 H3 W3 d))))))))) (z + (1 : Nat)) (St.mk (mkT 63 [(0, V.ptr (Nm.o (0 : Nat)) (0 : Nat) (0 : Nat) (0 : Nat) (0 : Nat)), (2, V.ptr (Nm.o (1 : Nat)) (0 : Nat) (0 : Nat) (0 : Nat) (0 : Nat)), (3, V.int .i64 ((8 : Int) * (↑N : Int)))]) [(Nm.o (0 : Nat), B.flat [V.seg .u32 (8 : Nat) H1, V.seg .u8 (64 : Nat) W1, V.int .i64 (↑(N + (1 : Nat)) : Int)]), (Nm.o (1 : Nat), B.flat [V.seg .u8 (32 : Nat) v7])] (2 : Nat) []) (Exit.exit (0 : Nat)) (St.mk (mkT 63 [(0, V.ptr (Nm.o (0 : Nat)) (0 : Nat) (0 : Nat) (0 : Nat) (0 : Nat)), (2, V.ptr (Nm.o (1 : Nat)) (0 : Nat) (0 : Nat) (0 : Nat) (0 : Nat)), (3, V.int .i64 ((8 : Int) * (↑N : Int)))]) [(Nm.o (0 : Nat), B.flat [V.seg .u32 (8 : Nat) H2, V.seg .u8 (64 : Nat) W2, V.int .i64 (↑(N + (1 : Nat) + z) : Int)]), (Nm.o (1 : Nat), B.flat [V.seg .u8 (32 : Nat) v7])] (2 : Nat) []), (8 : Nat) = (8 : Nat), H1 = H1, (64 : Nat) = (64 : Nat), W1 = W1, (↑(N + (1 : Nat)) : Int) = (↑(N + (1 : Nat)) : Int), (32 : Nat) = (32 : Nat), (List.replicate 32 (0 : Int)) = v7, (0 : Nat) = (0 : Nat), (0 : Nat) = (0 : Nat), (0 : Nat) = (0 : Nat), (0 : Nat) = (0 : Nat), (0 : Nat) = (0 : Nat), (0 : Nat) = (0 : Nat), (8 : Int) * (↑N : Int) = (8 : Int) * (↑N : Int), (0 : Int) ≤ (8 : Int) ∧ (8 : Int) ≤ (8 : Int), (8 : Int) ≤ (281474976710656 : Int), (8 : Int) ≤ (281474976710656 : Int), i5 zp none (1 : Nat) (cB (cB (cR (cL (cR (cR (cR (cR (cR (f8 (Bd.f (ba9 H W N H1 W1 z H2 W2 H3 W3 d)))))))))))) 9 (St.mk (mkT 63 [(0, V.ptr (Nm.o (0 : Nat)) (0 : Nat) (0 : Nat) (0 : Nat) (0 : Nat)), (2, V.ptr (Nm.o (1 : Nat)) (0 : Nat) (0 : Nat) (0 : Nat) (0 : Nat)), (3, V.int .i64 ((8 : Int) * (↑N : Int))), (4, V.sl (Nm.o (2 : Nat)) (1 : Nat) (0 : Nat) (0 : Nat) (0 : Nat) (8 : Nat) none), (26, V.int .i64 (8 : Int)), (27, V.int .i64 (0 : Int))]) [(Nm.o (0 : Nat), B.flat [V.seg .u32 (8 : Nat) H2, V.seg .u8 (64 : Nat) W2, V.int .i64 (↑(N + (1 : Nat) + z) : Int)]), (Nm.o (1 : Nat), B.flat [V.seg .u8 (32 : Nat) v7]), (Nm.o (2 : Nat), B.rows (1 : Nat) (8 : Nat) (enR N (0 : Nat)) false)] (3 : Nat) []) (Exit.exit (2 : Nat)) (St.mk (mkT 63 [(0, V.ptr (Nm.o (0 : Nat)) (0 : Nat) (0 : Nat) (0 : Nat) (0 : Nat)), (2, V.ptr (Nm.o (1 : Nat)) (0 : Nat) (0 : Nat) (0 : Nat) (0 : Nat)), (3, V.int .i64 ((8 : Int) * (↑N : Int))), (4, V.sl (Nm.o (2 : Nat)) (1 : Nat) (0 : Nat) (0 : Nat) (0 : Nat) (8 : Nat) none), (26, V.int .i64 (8 : Int)), (27, V.int .i64 (8 : Int))]) [(Nm.o (0 : Nat), B.flat [V.seg .u32 (8 : Nat) H2, V.seg .u8 (64 : Nat) W2, V.int .i64 (↑(N + (1 : Nat) + z) : Int)]), (Nm.o (1 : Nat), B.flat [V.seg .u8 (32 : Nat) v7]), (Nm.o (2 : Nat), B.rows (1 : Nat) (8 : Nat) (enR N (8 : Nat)) false)] (3 : Nat) []), (8 : Nat) = (8 : Nat), H2 = H2, (64 : Nat) = (64 : Nat), W2 = W2, (↑(N + (1 : Nat) + z) : Int) = (↑(N + (1 : Nat) + z) : Int), (32 : Nat) = (32 : Nat), v7 = v7, 8 = (8 : Nat), ∀ (k : Nat), k < 8 → [V.int .u8 (0 : Int)] = [V.int .u8 (0 : Int)], false = false → false = false, (0 : Nat) = (0 : Nat), (0 : Nat) = (0 : Nat), (0 : Nat) = (0 : Nat), (0 : Nat) = (0 : Nat), (0 : Nat) = (0 : Nat), (0 : Nat) = (0 : Nat), (8 : Int) * (↑N : Int) = (8 : Int) * (↑N : Int), (0 : Nat) = (0 : Nat), (0 : Nat) = (0 : Nat), (0 : Nat) = (0 : Nat), 8 = (8 : Nat), (none : Option Nat) = none ∨ none = some 8, (8 : Int) = (8 : Int), (0 : Int) = (0 : Int), T zp (104 : Nat) [V.ptr (Nm.o (0 : Nat)) (0 : Nat) (0 : Nat) (0 : Nat) (0 : Nat), V.sl (Nm.o (2 : Nat)) (1 : Nat) (0 : Nat) (0 : Nat) (0 : Nat) (8 : Nat) none] [(Nm.o (0 : Nat), B.flat [V.seg .u32 (8 : Nat) H2, V.seg .u8 (64 : Nat) W2, V.int .i64 (↑(N + (1 : Nat) + z) : Int)]), (Nm.o (2 : Nat), B.rows (1 : Nat) (8 : Nat) (enR N (8 : Nat)) false)] (V.tup []) [(Nm.o (0 : Nat), B.flat [V.seg .u32 (8 : Nat) H3, V.seg .u8 (64 : Nat) W3, V.int .i64 (↑(N + (1 : Nat) + z + (8 : Nat)) : Int)]), (Nm.o (2 : Nat), B.rows (1 : Nat) (8 : Nat) (enR N (8 : Nat)) false)], i5 zp none (1 : Nat) (cB (cB (cR (cL (cR (cR (cR (cR (cR (cR (cR (f8 (Bd.f (ba9 H W N H1 W1 z H2 W2 H3 W3 d)))))))))))))) 33 (St.mk (mkT 63 [(0, V.ptr (Nm.o (0 : Nat)) (0 : Nat) (0 : Nat) (0 : Nat) (0 : Nat)), (2, V.ptr (Nm.o (1 : Nat)) (0 : Nat) (0 : Nat) (0 : Nat) (0 : Nat)), (43, V.int .i64 (0 : Int))]) [(Nm.o (0 : Nat), B.flat [V.seg .u32 (8 : Nat) H3, V.seg .u8 (64 : Nat) W3, V.int .i64 (↑(N + (1 : Nat) + z + (8 : Nat)) : Int)]), (Nm.o (1 : Nat), B.flat [V.seg .u8 (32 : Nat) v7])] (2 : Nat) []) (Exit.exit (4 : Nat)) (St.mk (mkT 63 [(0, V.ptr (Nm.o (0 : Nat)) (0 : Nat) (0 : Nat) (0 : Nat) (0 : Nat)), (2, V.ptr (Nm.o (1 : Nat)) (0 : Nat) (0 : Nat) (0 : Nat) (0 : Nat)), (43, V.int .i64 (32 : Int))]) [(Nm.o (0 : Nat), B.flat [V.seg .u32 (8 : Nat) H3, V.seg .u8 (64 : Nat) W3, V.int .i64 (↑(N + (1 : Nat) + z + (8 : Nat)) : Int)]), (Nm.o (1 : Nat), B.flat [V.seg .u8 (32 : Nat) d])] (2 : Nat) []), (8 : Nat) = (8 : Nat), H3 = H3, (64 : Nat) = (64 : Nat), W3 = W3, (↑(N + (1 : Nat) + z + (8 : Nat)) : Int) = (↑(N + (1 : Nat) + z + (8 : Nat)) : Int), (32 : Nat) = (32 : Nat), v7 = v7, (0 : Nat) = (0 : Nat), (0 : Nat) = (0 : Nat), (0 : Nat) = (0 : Nat), (0 : Nat) = (0 : Nat), (0 : Nat) = (0 : Nat), (0 : Nat) = (0 : Nat), (0 : Int) = (0 : Int)]) := by kernel_rfl
theorem bY5 (H : List Int) (W : List Int) (n : Nat) (N : Nat) (H2 : List Int) (W2 : List Int) :
  i6 zp (cm9 H W n N H2 W2) [true] = (some (.normal, St.mk (mkT 63 [(0, .ptr (.o 0) 0 0 0 0), (2, .ptr (.o 1) 0 0 0 0), (3, .int .i64 ((8 : Int) * (↑N : Int)))]) [(.o 0, .flat [.seg .u32 8 H2, .seg .u8 64 W2, .int .i64 (↑(n + 1) : Int)]), (.o 1, .flat [.seg .u8 32 v7])] 2 [], [(0 : Int) ≤ (↑n : Int) ∧ (0 : Int) < (64 : Int), (!decide ((↑n : Int) % (64 : Int) = (56 : Int))) = true, T zp 104 [.ptr (.o 0) 0 0 0 0, .sl (.o 450) 1 0 0 0 1 (some 1)] [(.o 0, .flat [.seg .u32 8 H, .seg .u8 64 W, .int .i64 ↑n]), (.o 450, .rows 1 1 (j4 [[.int .u8 0]]) false)] (.tup []) [(.o 0, .flat [.seg .u32 8 H2, .seg .u8 64 W2, .int .i64 (↑(n + 1) : Int)]), (.o 450, .rows 1 1 (j4 [[.int .u8 0]]) false)], q (8 : Nat), q H2, q (64 : Nat), q W2, q (↑(n + (1 : Nat)) : Int), q (32 : Nat), q v7, q0, q0, q0, q0, q0, q0, q ((8 : Int) * (↑N : Int))]) : Option (Exit × St × List Prop)) := by kernel_rfl
theorem bY4 (H : List Int) (W : List Int) (n : Nat) (N : Nat) (H2 : List Int) (W2 : List Int) :
  i6 zp (cm9 H W n N H2 W2) [false] = (some (.exit 0, St.mk (mkT 63 [(0, .ptr (.o 0) 0 0 0 0), (2, .ptr (.o 1) 0 0 0 0), (3, .int .i64 ((8 : Int) * (↑N : Int)))]) [(.o 0, .flat [.seg .u32 8 H, .seg .u8 64 W, .int .i64 ↑n]), (.o 1, .flat [.seg .u8 32 v7])] 2 [], [(0 : Int) ≤ (↑n : Int) ∧ (0 : Int) < (64 : Int), (!decide ((↑n : Int) % (64 : Int) = (56 : Int))) = false, q (8 : Nat), q H, q (64 : Nat), q W, q (↑n : Int), q (32 : Nat), q v7, q0, q0, q0, q0, q0, q0, q ((8 : Int) * (↑N : Int))]) : Option (Exit × St × List Prop)) := by kernel_rfl
theorem bY3 (H : List Int) (W : List Int) (n : Nat) (N : Nat) (j : Nat) :
  i6 zp (cm8 H W n N j) [true] = (some (.normal, St.mk (mkT 63 [(0, .ptr (.o 0) 0 0 0 0), (2, .ptr (.o 1) 0 0 0 0), (3, .int .i64 ((8 : Int) * (↑N : Int))), (4, .sl (.o 2) 1 0 0 0 8 none), (26, .int .i64 8), (27, .int .i64 (↑(j + 1) : Int))]) [(.o 0, .flat [.seg .u32 8 H, .seg .u8 64 W, .int .i64 ↑n]), (.o 1, .flat [.seg .u8 32 v7]), (.o 2, .rows 1 8 (enR N (j + 1)) false)] 3 [], [decide ((↑j : Int) < (8 : Int)) = true, InR .i64 ((8 : Int) * (↑j : Int)), InR .i64 ((56 : Int) - (8 : Int) * (↑j : Int)), (0 : Int) ≤ (56 : Int) - (8 : Int) * (↑j : Int) ∧ (56 : Int) - (8 : Int) * (↑j : Int) ≤ (64 : Int), (0 : Int) ≤ (↑j : Int) ∧ (↑j : Int) < (8 : Int), (0 : Nat) + Int.toNat (↑j : Int) < (8 : Nat), InR .i64 ((↑j : Int) + (1 : Int)), q (8 : Nat), q H, q (64 : Nat), q W, q (↑n : Int), q (32 : Nat), q v7, q (8 : Nat), ∀ (k : Nat), k < (8 : Nat) → Bool.rec [V.int .u8 (if k < j then Z2 ((8 : Int) * (↑N : Int)) k else (0 : Int))] [V.int .u8 (IntKind.wrap .u8 ((8 : Int) * (↑N : Int) / (2 : Int) ^ Int.toNat ((56 : Int) - (8 : Int) * (↑j : Int))))] (Nat.beq k ((0 : Nat) + Int.toNat (↑j : Int))) = [V.int .u8 (if k < j + (1 : Nat) then Z2 ((8 : Int) * (↑N : Int)) k else (0 : Int))], false = false → false = false, q0, q0, q0, q0, q0, q0, q ((8 : Int) * (↑N : Int)), q0, q0, q0, q (8 : Nat), (none : Option Nat) = none ∨ (none : Option Nat) = none, q (8 : Int), (↑j : Int) + (1 : Int) = (↑(j + (1 : Nat)) : Int)]) : Option (Exit × St × List Prop)) := by kernel_rfl
theorem bY2 (H : List Int) (W : List Int) (n : Nat) (N : Nat) (j : Nat) :
  i6 zp (cm8 H W n N j) [false] = (some (.exit 2, St.mk (mkT 63 [(0, .ptr (.o 0) 0 0 0 0), (2, .ptr (.o 1) 0 0 0 0), (3, .int .i64 ((8 : Int) * (↑N : Int))), (4, .sl (.o 2) 1 0 0 0 8 none), (26, .int .i64 8), (27, .int .i64 8)]) [(.o 0, .flat [.seg .u32 8 H, .seg .u8 64 W, .int .i64 ↑n]), (.o 1, .flat [.seg .u8 32 v7]), (.o 2, .rows 1 8 (enR N 8) false)] 3 [], [decide ((↑j : Int) < (8 : Int)) = false, q (8 : Nat), q H, q (64 : Nat), q W, q (↑n : Int), q (32 : Nat), q v7, q (8 : Nat), ∀ (k : Nat), k < (8 : Nat) → [V.int .u8 (if k < j then Z2 ((8 : Int) * (↑N : Int)) k else (0 : Int))] = [V.int .u8 (if k < (8 : Nat) then Z2 ((8 : Int) * (↑N : Int)) k else (0 : Int))], false = false → false = false, q0, q0, q0, q0, q0, q0, q ((8 : Int) * (↑N : Int)), q0, q0, q0, q (8 : Nat), (none : Option Nat) = none ∨ (none : Option Nat) = none, q (8 : Int), (↑j : Int) = (8 : Int)]) : Option (Exit × St × List Prop)) := by kernel_rfl
theorem bY1 (H : List Int) (W : List Int) (n : Nat) (d : List Int) (k : Nat) (d2 : List Int) :
  i6 zp (cm7 H W n d k d2) [true] = (some (.normal, St.mk (mkT 63 [(0, .ptr (.o 0) 0 0 0 0), (2, .ptr (.o 1) 0 0 0 0), (43, .int .i64 (↑(k + 1) : Int))]) [(.o 0, .flat [.seg .u32 8 H, .seg .u8 64 W, .int .i64 ↑n]), (.o 1, .flat [.seg .u8 32 d2])] 2 [], [decide ((↑k : Int) < (32 : Int)) = true, (0 : Int) ≤ (↑k : Int) ∧ (0 : Int) < (4 : Int) ∧ InR .i64 ((↑k : Int) / (4 : Int)), (0 : Int) ≤ (↑k : Int) / (4 : Int) ∧ (↑k : Int) / (4 : Int) < (8 : Int), (0 : Nat) + Int.toNat ((↑k : Int) / (4 : Int)) < (8 : Nat), (0 : Int) ≤ (↑k : Int) ∧ (0 : Int) < (4 : Int), InR .i64 ((8 : Int) * ((↑k : Int) % (4 : Int))), InR .i64 ((24 : Int) - (8 : Int) * ((↑k : Int) % (4 : Int))), (0 : Int) ≤ (24 : Int) - (8 : Int) * ((↑k : Int) % (4 : Int)) ∧ (24 : Int) - (8 : Int) * ((↑k : Int) % (4 : Int)) ≤ (32 : Int), (0 : Int) ≤ (↑k : Int) ∧ (↑k : Int) < (32 : Int), (0 : Nat) + Int.toNat (↑k : Int) < (32 : Nat), InR .i64 ((↑k : Int) + (1 : Int)), q (8 : Nat), q H, q (64 : Nat), q W, q (↑n : Int), q (32 : Nat), List.set d ((0 : Nat) + Int.toNat (↑k : Int)) (IntKind.wrap .u8 (List.getD H ((0 : Nat) + Int.toNat ((↑k : Int) / (4 : Int))) (0 : Int) / (2 : Int) ^ Int.toNat ((24 : Int) - (8 : Int) * ((↑k : Int) % (4 : Int))))) = d2, q0, q0, q0, q0, q0, q0, (↑k : Int) + (1 : Int) = (↑(k + (1 : Nat)) : Int)]) : Option (Exit × St × List Prop)) := by kernel_rfl
theorem bY0 (H : List Int) (W : List Int) (n : Nat) (d : List Int) (k : Nat) (d2 : List Int) :
  i6 zp (cm7 H W n d k d2) [false] = (some (.exit 4, St.mk (mkT 63 [(0, .ptr (.o 0) 0 0 0 0), (2, .ptr (.o 1) 0 0 0 0), (43, .int .i64 32)]) [(.o 0, .flat [.seg .u32 8 H, .seg .u8 64 W, .int .i64 ↑n]), (.o 1, .flat [.seg .u8 32 d])] 2 [], [decide ((↑k : Int) < (32 : Int)) = false, q (8 : Nat), q H, q (64 : Nat), q W, q (↑n : Int), q (32 : Nat), q d, q0, q0, q0, q0, q0, q0, (↑k : Int) = (32 : Int)]) : Option (Exit × St × List Prop)) := by kernel_rfl
theorem g1 (v : Int) : ∀ k, k < [v].length → j4 [[V.int .u8 v]] k = [.int .u8 ([v].getD k 0)] := by
 intro k hk
 have : k = 0 := by simp at hk; omega
 subst this
 rfl
theorem cl2 (H W : List Int) (n : Int) : Z4 (stB H W n) := Z4.flat rfl
theorem ct9 {B H W : List Int} (hI : Inv B H W) (l : List Int) (hb : B.length + l.length ≤ 1000000000000) (f : Nat → List V) (hf : ∀ k, k < l.length → f k = [.int .u8 (l.getD k 0)]) (cap : Option Nat) (g : Bool) :
  ∃ H2 W2, Inv (B ++ l) H2 W2 ∧ T Tryz.prog 104 [p0K 0, .sl (.o 5) 1 0 0 0 l.length cap] [(.o 0, stB H W (B.length : Nat)), (.o 5, .rows 1 l.length f g)] (.tup []) [(.o 0, stB H2 W2 ((B.length + l.length : Nat) : Int)), (.o 5, .rows 1 l.length f g)] := by
 obtain ⟨H2, W2, h1, h2⟩ := cf0 hI l hb
 refine ⟨H2, W2, h1, ?_⟩
 refine T.lendH (pre0' := [(.o 0, stB H W (B.length : Nat))]) (pre1 := [(.o 5, .rows 1 l.length f g)]) h2 rfl ?_ rfl ?_ G3.tup0 ?_ ?_
 ·simp only [All]; and_intros
  all_goals first | exact True.intro | (intro k hk; rw [Nat.zero_add]; exact hf k hk) | omega | (intro h; cases h; done)
 ·simp only [All]; and_intros
  all_goals first | exact True.intro
 ·intro q hq
  obtain rfl := List.mem_singleton.1 hq
  exact cl2 _ _ _
 ·rintro n ⟨b, hb1⟩ ⟨b', hb2⟩
  cases List.mem_singleton.1 hb1
  cases List.mem_singleton.1 hb2
theorem a__ {B H W : List Int} (hI : Inv B H W) (l : List Int) (hb : B.length + l.length ≤ 1000000000000) (f : Nat → List V) (hf : ∀ k, k < l.length → f k = [.int .u8 (l.getD k 0)]) (cap : Option Nat) (g : Bool) {x : Nat} (hx : [Nm.o 0, Nm.o x].Nodup) :
  ∃ H2 W2, Inv (B ++ l) H2 W2 ∧ T Tryz.prog 104 [p0K 0, .sl (.o x) 1 0 0 0 l.length cap] [(.o 0, stB H W (B.length : Nat)), (.o x, .rows 1 l.length f g)] (.tup []) [(.o 0, stB H2 W2 ((B.length + l.length : Nat) : Int)), (.o x, .rows 1 l.length f g)] := by
 obtain ⟨H2, W2, h1, h2⟩ := ct9 hI l hb f hf cap g
 obtain ⟨σ, hσ, h3⟩ := T.at h2 [.o 0, .o 5] [.o 0, .o x] (by decide) hx rfl
 simp only [List.map_cons, List.map_nil, List.cons.injEq, and_true] at hσ
 exact ⟨H2, W2, h1, by simpa [V.rens, V.ren, c5.ren, Sy.B.ren, p0K, stB, hσ.1, hσ.2] using h3⟩
theorem en0 (N : Nat) : ∀ (r : Nat) (B H W : List Int), Inv B H W → (B.length + r) % 64 = 56 → (∀ i, i < r → (B.length + i) % 64 ≠ 56) → B.length + r ≤ 100000000000 → ∃ H2 W2, Inv (B ++ List.replicate r 0) H2 W2 ∧
  i5 Tryz.prog none 1 (cB (cB (cL (cR (cR (cR (f8 Tryz.f105))))))) (r + 1) (enI H W B.length N) (.exit 0) (enI H2 W2 (B.length + r) N) := by
 intro r
 induction r with
 | zero =>
  intro B H W hI h1 h2 h3
  refine ⟨H, W, by rw [List.replicate_zero, List.append_nil]; exact hI, ?_⟩
  refine i5.out ?_ (by simp)
  refine f9 NG MO _ (bY4 H W B.length N [] []) ?_ (by show 1 ≤ 2; decide)
  have e : (!decide ((B.length : Int) % 64 = 56)) = false := by rw [decide_eq_true (by omega)]; rfl
  simp only [All]; and_intros
  all_goals first | exact True.intro | exact e | omega
 | succ r ih =>
  intro B H W hI h1 h2 h3
  have h0 := h2 0 (Nat.succ_pos _)
  have e : (!decide ((B.length : Int) % 64 = 56)) = true := by rw [decide_eq_false (by omega)]; rfl
  obtain ⟨H1, W1, hI1, hT⟩ := a__ hI [0] (by simp; omega) (j4 [[V.int IntKind.u8 0]]) (g1 _) (some 1) false (x := 450) (by decide)
  have hl : (B ++ [0]).length = B.length + 1 := by simp
  obtain ⟨H2, W2, hI2, hL⟩ := ih (B ++ [0]) H1 W1 hI1 (by rw [hl]; omega) (fun i hi => by rw [hl]; have := h2 (i + 1) (by omega); rwa [show B.length + 1 + i = B.length + (i + 1) by omega]) (by rw [hl]; omega)
  rw [hl] at hL
  rw [List.append_assoc, show [0] ++ List.replicate r 0 = List.replicate (r + 1) (0 : Int) from rfl] at hI2
  rw [show B.length + 1 + r = B.length + (r + 1) by omega] at hL
  refine ⟨H2, W2, hI2, i5.step ?_ hL⟩
  refine f9 NG MO _ (bY5 H W B.length N H1 W1) ?_ (by show 1 ≤ 2; decide)
  simp only [All]; and_intros
  all_goals first | exact True.intro | exact e | exact hT | omega
theorem enLL (H W : List Int) (n N : Nat) (hN : N ≤ 100000000000) : i5 Tryz.prog none 1 (cB (cB (cR (cL (cR (cR (cR (cR (cR (f8 Tryz.f105)))))))))) (8 + 1) (enL H W n N 0) (.exit 2) (enL H W n N 8) := by
 have hstep : ∀ j, j < 8 → R Tryz.prog none 1 (cB (cB (cR (cL (cR (cR (cR (cR (cR (f8 Tryz.f105)))))))))) (enL H W n N j) .normal (enL H W n N (j + 1)) := by
  intro j hj
  have e1 : Int.toNat (56 - 8 * (j : Int)) = 56 - 8 * j := by omega
  have key : ∀ k, k < 8 → (Bool.rec [V.int IntKind.u8 (if k < j then Z2 (8 * (N : Int)) k else 0)] [V.int IntKind.u8 (IntKind.wrap IntKind.u8 (8 * (N : Int) / 2 ^ (56 - 8 * j)))] (Nat.beq k j) : List V) = [V.int IntKind.u8 (if k < j + 1 then Z2 (8 * (N : Int)) k else 0)] := by
   intro k hk
   cases hb : Nat.beq k j with
   | true =>
    have := Nat.eq_of_beq_eq_true hb; subst this
    rw [show (if k < k + 1 then Z2 (8 * (N : Int)) k else 0) = Z2 (8 * (N : Int)) k from if_pos (Nat.lt_succ_self k)]; rfl
   | false =>
    have hne : k ≠ j := fun e => by rw [e, Nat.beq_refl] at hb; cases hb
    by_cases h : k < j
    ·rw [if_pos h, if_pos (by omega)]
    ·rw [if_neg h, if_neg (by omega)]
  refine f9 NG MO _ (bY3 H W n N j) ?_ (by show 1 ≤ 3; decide)
  simp only [All, e1, Int.toNat_natCast, Nat.zero_add]; and_intros
  all_goals first | exact True.intro | exact key | (with_reducible assumption) | (rw [decide_eq_true_eq]; omega) | (simp only [IntKind.min, IntKind.max, IntKind.signed, IntKind.bits, if_true]; omega) | omega | (intro h; exact h) | exact .inl True.intro
 have hend : R Tryz.prog none 1 (cB (cB (cR (cL (cR (cR (cR (cR (cR (f8 Tryz.f105)))))))))) (enL H W n N 8) (.exit 2) (enL H W n N 8) := by
  refine f9 NG MO _ (bY2 H W n N 8) ?_ (by show 1 ≤ 3; decide)
  simp only [All]; and_intros
  all_goals first | exact True.intro | (rw [decide_eq_false_iff_not]; omega) | (intro _ _; exact True.intro) | omega | (intro h; exact h) | exact .inl True.intro
 exact i5.inv (fun j => enL H W n N j) 8 hstep hend (by simp)
theorem enJL (H W : List Int) (n : Nat) : i5 Tryz.prog none 1 (cB (cB (cR (cL (cR (cR (cR (cR (cR (cR (cR (f8 Tryz.f105)))))))))))) (32 + 1) (enJ H W n (dA H 0) 0) (.exit 4) (enJ H W n (dA H 32) 32) := by
 have hstep : ∀ k, k < 32 → R Tryz.prog none 1 (cB (cB (cR (cL (cR (cR (cR (cR (cR (cR (cR (f8 Tryz.f105)))))))))))) (enJ H W n (dA H k) k) .normal (enJ H W n (dA H (k + 1)) (k + 1)) := by
  intro k hk
  have e1 : Int.toNat (24 - 8 * ((k : Int) % 4)) = 24 - 8 * (k % 4) := by omega
  have e2 : Int.toNat ((k : Int) / 4) = k / 4 := by omega
  refine f9 NG MO _ (bY1 H W n (dA H k) k (dA H (k + 1))) ?_ (by show 1 ≤ 2; decide)
  simp only [All, e1, e2, Int.toNat_natCast, Nat.zero_add]; and_intros
  all_goals first | exact True.intro | rfl | (with_reducible assumption) | (rw [decide_eq_true_eq]; omega) | (simp only [IntKind.min, IntKind.max, IntKind.signed, IntKind.bits, if_true]; omega) | omega
 have hend : R Tryz.prog none 1 (cB (cB (cR (cL (cR (cR (cR (cR (cR (cR (cR (f8 Tryz.f105)))))))))))) (enJ H W n (dA H 32) 32) (.exit 4) (enJ H W n (dA H 32) 32) := by
  refine f9 NG MO _ (bY0 H W n (dA H 32) 32 []) ?_ (by show 1 ≤ 2; decide)
  simp only [All]; and_intros
  all_goals first | exact True.intro | (rw [decide_eq_false_iff_not]; omega) | omega
 exact i5.inv (fun k => enJ H W n (dA H k) k) 32 hstep hend (by simp)
theorem T_en {B H W : List Int} (hI : Inv B H W) (hb : B.length ≤ 10000000000) : ∃ H3 W3 n3, T Tryz.prog 105 [p0K 0] [(.o 0, stB H W (B.length : Nat))] (.agg [.seg .u8 32 (C9 B)]) [(.o 0, stB H3 W3 n3)] := by
 obtain ⟨H1, W1, hI1, hT1⟩ := a__ hI [128] (by simp; omega) (j4 [[V.int IntKind.u8 128]]) (g1 _) (some 1) false (x := 513) (by decide)
 have hl1 : (B ++ [128]).length = B.length + 1 := by simp
 have hz : E1 (B.length + 1) < 64 := by unfold E1; omega
 obtain ⟨H2, W2, hI2, hL2⟩ := en0 B.length (E1 (B.length + 1)) (B ++ [128]) H1 W1 hI1 (by rw [hl1]; exact aG7 _) (fun i hi => by rw [hl1]; exact aZ7 hi) (by rw [hl1]; omega)
 have hl2 : (B ++ [128] ++ List.replicate (E1 (B.length + 1)) 0).length = B.length + 1 + E1 (B.length + 1) := by rw [List.length_append, hl1, List.length_replicate]
 rw [hl1] at hL2
 have h8 := av9 (8 * (B.length : Int))
 obtain ⟨H3, W3, hI3, hT3⟩ := a__ hI2 (aG3 (8 * (B.length : Int))) (by rw [hl2, h8]; omega) (enR B.length 8) (fun k hk => by rw [h8] at hk; rw [bE0 hk, enR, if_pos hk]) none false (x := 2) (by decide)
 rw [hl2, h8] at hT3
 have hLL := enLL H2 W2 (B.length + 1 + E1 (B.length + 1)) B.length (by omega)
 have hJ := enJL H3 W3 (B.length + 1 + E1 (B.length + 1) + 8)
 have hH3 : dA H3 32 = C9 B := by rw [C9, T1, ← hI3.h]
 rw [hH3] at hJ
 refine ⟨H3, W3, ((B.length + 1 + E1 (B.length + 1) + 8 : Nat) : Int), ?_⟩
 refine f5 (cg_ H W B.length H1 W1 (E1 (B.length + 1)) H2 W2 H3 W3 (C9 B)) Tryz.func105 ?_
 simp only [All]; and_intros
 all_goals first | exact True.intro | exact hT1 | exact hL2 | exact hLL | exact hT3 | exact hJ | rfl | (intro _ _; exact True.intro) | (simp only [IntKind.min, IntKind.max, IntKind.signed, IntKind.bits, if_true]; omega) | omega | (intro h; exact h) | exact .inl True.intro
def ax9 : List Int := List.replicate 64 0
def suW (H W : List Int) (n : Int) : List V → List Cl
 | .ptr s _ _ _ _ :: _ => [{ pre := [s], val := .tup [], post := [(s, stB H W n)] }]
 | _ => []
def suE (d H W : List Int) (n : Int) : List V → List Cl
 | .ptr s _ _ _ _ :: _ => [{ pre := [s], val := .agg [.seg .u8 32 d], post := [(s, stB H W n)] }]
 | _ => []
noncomputable def suDb (H1 W1 : List Int) (n1 : Int) (H2 W2 : List Int) (n2 : Int) (d H3 W3 : List Int) (n3 : Int) : Nat → List V → c5 → Nat → List Cl := dbQ [
 (103, fun _ _ lo => [{ val := .ptr (.o lo) 0 0 0 0, post := [(.o lo, stB iv ax9 0)] }]),
 (104, fun a _ lo => bif Nat.ble lo 1000 then suW H1 W1 n1 a else suW H2 W2 n2 a),
 (105, fun a _ _ => suE d H3 W3 n3 a)]
theorem T_be : T Tryz.prog 103 [] [] (p0K 65) [(.o 65, stB iv ax9 0)] := by
 have h : T Tryz.prog 103 [] [] (p0K 192) [(.o 192, stB iv ax9 0)] := T5 NG MO _ cg2 Tryz.func103 (by kernel_rfl) True.intro (O1 (by kernel_rfl)) (by kernel_rfl)
 obtain ⟨σ, hσ, h3⟩ := T.at h [.o 192] [.o 65] (by decide) (by decide) rfl
 simp only [List.map_cons, List.map_nil, List.cons.injEq, and_true] at hσ
 simpa [V.rens, V.ren, c5.ren, Sy.B.ren, p0K, stB, hσ] using h3
theorem bK9 {B H W : List Int} (hI : Inv B H W) (l : List Int) (hb : B.length + l.length ≤ 1000000000000) (s : Nat) : ∃ H2 W2, Inv (B ++ l) H2 W2 ∧ T Tryz.prog 104 [p0K s, rb l] [(.o s, stB H W (B.length : Nat))] (.tup []) [(.o s, stB H2 W2 ((B.length + l.length : Nat) : Int))] := by
 obtain ⟨H2, W2, h1, h2⟩ := cf0 hI l hb
 obtain ⟨σ, hσ, h3⟩ := T.at h2 [.o 0] [.o s] (by decide) (by simp) rfl
 simp only [List.map_cons, List.map_nil, List.cons.injEq, and_true] at hσ
 exact ⟨H2, W2, h1, by simpa [V.rens, V.ren, c5.ren, Sy.B.ren, p0K, stB, rb, hσ] using h3⟩
theorem cr0 {B H W : List Int} (hI : Inv B H W) (hb : B.length ≤ 10000000000) (s : Nat) : ∃ H3 W3 n3, T Tryz.prog 105 [p0K s] [(.o s, stB H W (B.length : Nat))] (.agg [.seg .u8 32 (C9 B)]) [(.o s, stB H3 W3 n3)] := by
 obtain ⟨H3, W3, n3, h2⟩ := T_en hI hb
 obtain ⟨σ, hσ, h3⟩ := T.at h2 [.o 0] [.o s] (by decide) (by simp) rfl
 simp only [List.map_cons, List.map_nil, List.cons.injEq, and_true] at hσ
 exact ⟨H3, W3, n3, by simpa [V.rens, V.ren, c5.ren, Sy.B.ren, p0K, stB, hσ] using h3⟩
def obS (a : Nat) (l : List Int) : V := .sl (.o a) 1 0 0 0 l.length none
def obB (l : List Int) : B := .rows 1 l.length (ib l) true
def paI (l L : List Int) : St := ⟨mkT 34 [(0, rb l), (3, obS 0 L)], [(.o 0, obB L)], 1, []⟩
def paJ (l L : List Int) (j : Nat) : St := ⟨mkT 34 [(0, rb l), (3, obS 0 L), (4, .int .i64 (8 * (l.length : Int))), (5, .int .i64 (7 - (j : Nat)))], [(.o 0, obB L)], 1, []⟩
noncomputable def bz1 (l L0 : List Int) (z : Nat) (L1 L2 : List Int) : Bd := { f := Tryz.f136, args := [rb l], kb := { db := fun _ _ _ _ => [], lp := fun id t => bif Nat.beq id 0 then [(True, .loop (z + 1) (B6 [(.o 0, nmV (r9 t.tmps 3))] (paI l L0)) (.exit 0) (paI l L1))] else [(True, .loop (8 + 1) (wTo (paJ l L1 0)) (.exit 2) (paJ l L2 8))] }, names := fun _ => [.o 0] }
noncomputable def cn0 (l L L2 : List Int) : Pc := { c := cB (cB (cL (cR (cR (f8 Tryz.f136))))), st := paI l L, kb := kb0, k := fun x_ t => match x_ with
 | .normal => some (B6 [(.o 0, nmV (r9 t.tmps 3))] (paI l L2))
 | _ => some (wTo (paI l L)) }
noncomputable def cn1 (l L : List Int) (j : Nat) (L2 : List Int) : Pc := { c := cB (cB (cR (cL (cR (cR (cR (cR (f8 Tryz.f136)))))))), st := paJ l L j, kb := kb0, k := fun x_ t => match x_ with
 | .normal => some (B6 [(.o 0, nmV (r9 t.tmps 3))] (paJ l L2 (j + 1)))
 | _ => some (wTo (paJ l L 8)) }
def z8L : List Int := List.replicate 8 0
def btI (h b w : List Int) (i : Nat) : St := ⟨mkT 191 [(1, rb b), (2, p0K 0), (4, p0K 2), (5, p0K 1), (6, .int .i64 (i : Nat))], [(.o 0, .flat [.seg .u32 8 h]), (.o 1, .flat [.seg .u32 64 w]), (.o 2, .flat [.seg .u32 8 z8L])], 3, []⟩
def btJ (h w : List Int) (k : Nat) : St := ⟨mkT 191 [(2, p0K 0), (4, p0K 2), (5, p0K 1), (7, .int .i64 ((16 + k : Nat) : Int))], [(.o 0, .flat [.seg .u32 8 h]), (.o 1, .flat [.seg .u32 64 w]), (.o 2, .flat [.seg .u32 8 z8L])], 3, []⟩
def btK (h w : List Int) (s : S8) (t : Nat) : St := ⟨mkT 191 [(2, p0K 0), (4, p0K 2), (5, p0K 1), (10, p0K 3), (11, .int .i64 (t : Nat))], [(.o 0, .flat [.seg .u32 8 h]), (.o 1, .flat [.seg .u32 64 w]), (.o 2, .flat [.seg .u32 8 z8L]), (.o 3, .flat [.seg .u32 8 [s.a, s.b, s.c, s.d, s.e, s.f, s.g, s.h]])], 4, []⟩
def btL (h l : List Int) (i : Nat) : St := ⟨mkT 191 [(2, p0K 0), (4, p0K 2), (10, p0K 3), (16, .int .i64 (i : Nat))], [(.o 0, .flat [.seg .u32 8 h]), (.o 2, .flat [.seg .u32 8 z8L]), (.o 3, .flat [.seg .u32 8 l])], 4, []⟩
noncomputable def aO2 (h b w w2 : List Int) (s0 s : S8) (h2 : List Int) : Bd := { f := Tryz.f137, args := [.agg [.seg .u32 8 h], rb b], kb := { db := fun _ _ _ _ => [], lp := fun id t => bif Nat.beq id 0 then [(True, .loop (16 + 1) (B6 [(.o 0, nmV (r9 t.tmps 2)), (.o 1, nmV (r9 t.tmps 5)), (.o 2, nmV (r9 t.tmps 4))] (btI h b (List.replicate 64 0) 0)) (.exit 0) (btI h b w 16))] else bif Nat.beq id 2 then [(True, .loop (48 + 1) (wTo (btJ h w 0)) (.exit 2) (btJ h w2 48))] else bif Nat.beq id 4 then [(True, .loop (64 + 1) (B6 [(.o 3, nmV (r9 t.tmps 10))] (btK h w2 s0 0)) (.exit 4) (btK h w2 s 64))] else [(True, .loop (8 + 1) (wTo (btL h s.l 0)) (.exit 6) (btL h2 s.l 8))] } }
def co9 : List V → c5 → Nat → List Cl := fun l _ _ => match l with
 | [.int _ x, .int _ n] => [{ val := .int .u32 (C8 x n) }]
 | _ => []
noncomputable def cn7 (h b w : List Int) (i : Nat) (w2 : List Int) : Pc := { c := cB (cB (cR (cL (cR (cR (f8 Tryz.f137)))))), st := btI h b w i, kb := kb0, k := fun x_ _ => match x_ with
 | .normal => some (wTo (btI h b w2 (i + 1)))
 | _ => some (wTo (btI h b w 16)) }
noncomputable def cn8 (h w : List Int) (k : Nat) (w2 : List Int) : Pc := { c := cB (cB (cR (cL (cR (cR (cR (f8 Tryz.f137))))))), st := btJ h w k, kb := { db := dbQ [(146, co9)] }, k := fun x_ _ => match x_ with
 | .normal => some (wTo (btJ h w2 (k + 1)))
 | _ => some (wTo (btJ h w 48)) }
noncomputable def cn9 (h w : List Int) (s : S8) (t : Nat) (s2 : S8) : Pc := { c := cB (cB (cR (cL (cR (cR (cR (cR (cR (f8 Tryz.f137))))))))), st := btK h w s t, kb := { db := dbQ [(146, co9), (147, cl4)] }, k := fun x_ _ => match x_ with
 | .normal => some (wTo (btK h w s2 (t + 1)))
 | _ => some (wTo (btK h w s 64)) }
noncomputable def cn_ (h l : List Int) (i : Nat) (h2 : List Int) : Pc := { c := cB (cB (cR (cL (cR (cR (cR (cR (cR (cR (f8 Tryz.f137)))))))))), st := btL h l i, kb := kb0, k := fun x_ _ => match x_ with
 | .normal => some (wTo (btL h2 l (i + 1)))
 | _ => some (wTo (btL h l 8)) }
theorem ci4 (l : List Int) (L0 : List Int) (z : Nat) (L1 : List Int) (L2 : List Int) :
  f4 zp (bz1 l L0 z L1 L2) [] = (some (.sl (.o 0) 1 0 0 0 (List.length L2) none, [(.o 0, .rows 1 (List.length L2) (ib L2) true)], [q0, ∀ (k : Nat), k < List.length l → true = true, ((0 : Nat) + List.length l) * (1 : Nat) ≤ (140737488355328 : Nat), q ((0 : Nat) + List.length l), 1 ≤ (1 : Nat), ∀ (k : Nat), k < (1 : Nat) → s6 (j4 [[V.int .u8 (128 : Int)]] ((0 : Nat) + k)) = true, ((0 : Nat) + List.length l + (1 : Nat)) * (1 : Nat) ≤ (140737488355328 : Nat), i5 zp none 0 (cB (cB (cL (cR (cR (f8 (Bd.f (bz1 l L0 z L1 L2)))))))) (z + 1) (St.mk (mkT 34 [(0, .ros 1 (List.length l) (ib l) false), (3, .sl (.o 0) 1 0 0 0 (List.length L0) none)]) [(.o 0, .rows 1 (List.length L0) (ib L0) true)] 1 []) (.exit 0) (St.mk (mkT 34 [(0, .ros 1 (List.length l) (ib l) false), (3, .sl (.o 0) 1 0 0 0 (List.length L1) none)]) [(.o 0, .rows 1 (List.length L1) (ib L1) true)] 1 []), (0 : Nat) + List.length l + (1 : Nat) = List.length L0, ∀ (k : Nat), k < (0 : Nat) + List.length l + (1 : Nat) → r6 ((0 : Nat) + List.length l) (r6 (0 : Nat) (j4 []) (ib l)) (fun k => j4 [[V.int .u8 (128 : Int)]] ((0 : Nat) + k)) k = [V.int .u8 (List.getD L0 k (0 : Int))], true = false → true = false, q (List.length l), ∀ (k : Nat), k < List.length l → [V.int .u8 (List.getD l k (0 : Int))] = [V.int .u8 (List.getD l k (0 : Int))], false = true → false = true, q0, q0, q0, (0 : Nat) + List.length l + (1 : Nat) = List.length L0, (none : Option Nat) = none ∨ (none : Option Nat) = none, InR .i64 ((8 : Int) * (↑(List.length l) : Int)), i5 zp none 0 (cB (cB (cR (cL (cR (cR (cR (cR (f8 (Bd.f (bz1 l L0 z L1 L2))))))))))) 9 (St.mk (mkT 34 [(0, .ros 1 (List.length l) (ib l) false), (3, .sl (.o 0) 1 0 0 0 (List.length L1) none), (4, .int .i64 ((8 : Int) * (↑(List.length l) : Int))), (5, .int .i64 7)]) [(.o 0, .rows 1 (List.length L1) (ib L1) true)] 1 []) (.exit 2) (St.mk (mkT 34 [(0, .ros 1 (List.length l) (ib l) false), (3, .sl (.o 0) 1 0 0 0 (List.length L2) none), (4, .int .i64 ((8 : Int) * (↑(List.length l) : Int))), (5, .int .i64 ((7 : Int) - (8 : Int)))]) [(.o 0, .rows 1 (List.length L2) (ib L2) true)] 1 []), q (List.length L1), ∀ (k : Nat), k < List.length L1 → [V.int .u8 (List.getD L1 k (0 : Int))] = [V.int .u8 (List.getD L1 k (0 : Int))], true = false → true = false, q (List.length l), ∀ (k : Nat), k < List.length l → [V.int .u8 (List.getD l k (0 : Int))] = [V.int .u8 (List.getD l k (0 : Int))], false = true → false = true, q0, q0, q0, q (List.length L1), (none : Option Nat) = none ∨ (none : Option Nat) = none, q ((8 : Int) * (↑(List.length l) : Int)), q (7 : Int)]) : Option (V × c5 × List Prop)) := by kernel_rfl
theorem bY_ (l : List Int) (L : List Int) (L2 : List Int) :
  i6 zp (cn0 l L L2) [true] = (some (.normal, St.mk (mkT 34 [(0, .ros 1 (List.length l) (ib l) false), (3, .sl (.o 0) 1 0 0 0 (List.length L2) none)]) [(.o 0, .rows 1 (List.length L2) (ib L2) true)] 1 [], [(0 : Int) ≤ (↑(List.length L) : Int) ∧ (0 : Int) < (64 : Int), (!decide ((↑(List.length L) : Int) % (64 : Int) = (56 : Int))) = true, q (List.length L), 1 ≤ (1 : Nat), ∀ (k : Nat), k < (1 : Nat) → s6 (j4 [[V.int .u8 (0 : Int)]] ((0 : Nat) + k)) = true, (List.length L + (1 : Nat)) * (1 : Nat) ≤ (140737488355328 : Nat), List.length L + (1 : Nat) = List.length L2, ∀ (k : Nat), k < List.length L + (1 : Nat) → r6 (List.length L) (ib L) (fun k => j4 [[V.int .u8 (0 : Int)]] ((0 : Nat) + k)) k = [V.int .u8 (List.getD L2 k (0 : Int))], true = false → true = false, q (List.length l), ∀ (k : Nat), k < List.length l → [V.int .u8 (List.getD l k (0 : Int))] = [V.int .u8 (List.getD l k (0 : Int))], false = true → false = true, q0, q0, q0, List.length L + (1 : Nat) = List.length L2, (none : Option Nat) = none ∨ (none : Option Nat) = none]) : Option (Exit × St × List Prop)) := by kernel_rfl
theorem bY9 (l : List Int) (L : List Int) (L2 : List Int) :
  i6 zp (cn0 l L L2) [false] = (some (.exit 0, St.mk (mkT 34 [(0, .ros 1 (List.length l) (ib l) false), (3, .sl (.o 0) 1 0 0 0 (List.length L) none)]) [(.o 0, .rows 1 (List.length L) (ib L) true)] 1 [], [(0 : Int) ≤ (↑(List.length L) : Int) ∧ (0 : Int) < (64 : Int), (!decide ((↑(List.length L) : Int) % (64 : Int) = (56 : Int))) = false, q (List.length L), ∀ (k : Nat), k < List.length L → [V.int .u8 (List.getD L k (0 : Int))] = [V.int .u8 (List.getD L k (0 : Int))], true = false → true = false, q (List.length l), ∀ (k : Nat), k < List.length l → [V.int .u8 (List.getD l k (0 : Int))] = [V.int .u8 (List.getD l k (0 : Int))], false = true → false = true, q0, q0, q0, q (List.length L), (none : Option Nat) = none ∨ (none : Option Nat) = none]) : Option (Exit × St × List Prop)) := by kernel_rfl
theorem bZ1 (l : List Int) (L : List Int) (j : Nat) (L2 : List Int) :
  i6 zp (cn1 l L j L2) [true] = (some (.normal, St.mk (mkT 34 [(0, .ros 1 (List.length l) (ib l) false), (3, .sl (.o 0) 1 0 0 0 (List.length L2) none), (4, .int .i64 ((8 : Int) * (↑(List.length l) : Int))), (5, .int .i64 ((7 : Int) - (↑(j + 1) : Int)))]) [(.o 0, .rows 1 (List.length L2) (ib L2) true)] 1 [], [decide ((0 : Int) ≤ (7 : Int) - (↑j : Int)) = true, InR .i64 ((8 : Int) * ((7 : Int) - (↑j : Int))), (0 : Int) ≤ (8 : Int) * ((7 : Int) - (↑j : Int)) ∧ (8 : Int) * ((7 : Int) - (↑j : Int)) ≤ (64 : Int), q (List.length L), 1 ≤ (1 : Nat), ∀ (k : Nat), k < (1 : Nat) → s6 (j4 [[V.int .u8 (IntKind.wrap .u8 ((8 : Int) * (↑(List.length l) : Int) / (2 : Int) ^ Int.toNat ((8 : Int) * ((7 : Int) - (↑j : Int)))))]] ((0 : Nat) + k)) = true, (List.length L + (1 : Nat)) * (1 : Nat) ≤ (140737488355328 : Nat), InR .i64 ((7 : Int) - (↑j : Int) - (1 : Int)), List.length L + (1 : Nat) = List.length L2, ∀ (k : Nat), k < List.length L + (1 : Nat) → r6 (List.length L) (ib L) (fun k => j4 [[V.int .u8 (IntKind.wrap .u8 ((8 : Int) * (↑(List.length l) : Int) / (2 : Int) ^ Int.toNat ((8 : Int) * ((7 : Int) - (↑j : Int)))))]] ((0 : Nat) + k)) k = [V.int .u8 (List.getD L2 k (0 : Int))], true = false → true = false, q (List.length l), ∀ (k : Nat), k < List.length l → [V.int .u8 (List.getD l k (0 : Int))] = [V.int .u8 (List.getD l k (0 : Int))], false = true → false = true, q0, q0, q0, List.length L + (1 : Nat) = List.length L2, (none : Option Nat) = none ∨ (none : Option Nat) = none, q ((8 : Int) * (↑(List.length l) : Int)), (7 : Int) - (↑j : Int) - (1 : Int) = (7 : Int) - (↑(j + (1 : Nat)) : Int)]) : Option (Exit × St × List Prop)) := by kernel_rfl
theorem bZ0 (l : List Int) (L : List Int) (j : Nat) (L2 : List Int) :
  i6 zp (cn1 l L j L2) [false] = (some (.exit 2, St.mk (mkT 34 [(0, .ros 1 (List.length l) (ib l) false), (3, .sl (.o 0) 1 0 0 0 (List.length L) none), (4, .int .i64 ((8 : Int) * (↑(List.length l) : Int))), (5, .int .i64 ((7 : Int) - (8 : Int)))]) [(.o 0, .rows 1 (List.length L) (ib L) true)] 1 [], [decide ((0 : Int) ≤ (7 : Int) - (↑j : Int)) = false, q (List.length L), ∀ (k : Nat), k < List.length L → [V.int .u8 (List.getD L k (0 : Int))] = [V.int .u8 (List.getD L k (0 : Int))], true = false → true = false, q (List.length l), ∀ (k : Nat), k < List.length l → [V.int .u8 (List.getD l k (0 : Int))] = [V.int .u8 (List.getD l k (0 : Int))], false = true → false = true, q0, q0, q0, q (List.length L), (none : Option Nat) = none ∨ (none : Option Nat) = none, q ((8 : Int) * (↑(List.length l) : Int)), (7 : Int) - (↑j : Int) = (7 : Int) - (8 : Int)]) : Option (Exit × St × List Prop)) := by kernel_rfl
theorem cg3 (h : List Int) (b : List Int) (w : List Int) (w2 : List Int) (s0 : S8) (s : S8) (h2 : List Int) :
  f4 zp (aO2 h b w w2 s0 s h2) [] = (some (.agg [.seg .u32 8 h2], [], [i5 zp none 0 (cB (cB (cR (cL (cR (cR (f8 (Bd.f (aO2 h b w w2 s0 s h2))))))))) 17 (St.mk (mkT 191 [(1, .ros 1 (List.length b) (ib b) false), (2, .ptr (.o 0) 0 0 0 0), (4, .ptr (.o 2) 0 0 0 0), (5, .ptr (.o 1) 0 0 0 0), (6, .int .i64 0)]) [(.o 0, .flat [.seg .u32 8 h]), (.o 1, .flat [.seg .u32 64 (List.replicate 64 (0 : Int))]), (.o 2, .flat [.seg .u32 8 (List.replicate 8 (0 : Int))])] 3 []) (.exit 0) (St.mk (mkT 191 [(1, .ros 1 (List.length b) (ib b) false), (2, .ptr (.o 0) 0 0 0 0), (4, .ptr (.o 2) 0 0 0 0), (5, .ptr (.o 1) 0 0 0 0), (6, .int .i64 16)]) [(.o 0, .flat [.seg .u32 8 h]), (.o 1, .flat [.seg .u32 64 w]), (.o 2, .flat [.seg .u32 8 (List.replicate 8 (0 : Int))])] 3 []), q (8 : Nat), q h, q (64 : Nat), q ((List.replicate 64 (0 : Int))), q (8 : Nat), q ((List.replicate 8 (0 : Int))), q (List.length b), ∀ (k : Nat), k < List.length b → [V.int .u8 (List.getD b k (0 : Int))] = [V.int .u8 (List.getD b k (0 : Int))], false = true → false = true, q0, q0, q0, q0, q0, q0, q0, q0, q0, q1, i5 zp none 0 (cB (cB (cR (cL (cR (cR (cR (f8 (Bd.f (aO2 h b w w2 s0 s h2)))))))))) 49 (St.mk (mkT 191 [(2, .ptr (.o 0) 0 0 0 0), (4, .ptr (.o 2) 0 0 0 0), (5, .ptr (.o 1) 0 0 0 0), (7, .int .i64 16)]) [(.o 0, .flat [.seg .u32 8 h]), (.o 1, .flat [.seg .u32 64 w]), (.o 2, .flat [.seg .u32 8 (List.replicate 8 (0 : Int))])] 3 []) (.exit 2) (St.mk (mkT 191 [(2, .ptr (.o 0) 0 0 0 0), (4, .ptr (.o 2) 0 0 0 0), (5, .ptr (.o 1) 0 0 0 0), (7, .int .i64 64)]) [(.o 0, .flat [.seg .u32 8 h]), (.o 1, .flat [.seg .u32 64 w2]), (.o 2, .flat [.seg .u32 8 (List.replicate 8 (0 : Int))])] 3 []), q (8 : Nat), q h, q (64 : Nat), q w, q (8 : Nat), q ((List.replicate 8 (0 : Int))), q0, q0, q0, q0, q0, q0, q0, q0, q0, q (16 : Int), i5 zp none 0 (cB (cB (cR (cL (cR (cR (cR (cR (cR (f8 (Bd.f (aO2 h b w w2 s0 s h2)))))))))))) 65 (St.mk (mkT 191 [(2, .ptr (.o 0) 0 0 0 0), (4, .ptr (.o 2) 0 0 0 0), (5, .ptr (.o 1) 0 0 0 0), (10, .ptr (.o 3) 0 0 0 0), (11, .int .i64 0)]) [(.o 0, .flat [.seg .u32 8 h]), (.o 1, .flat [.seg .u32 64 w2]), (.o 2, .flat [.seg .u32 8 (List.replicate 8 (0 : Int))]), (.o 3, .flat [.seg .u32 8 [S8.a s0, S8.b s0, S8.c s0, S8.d s0, S8.e s0, S8.f s0, S8.g s0, S8.h s0]])] 4 []) (.exit 4) (St.mk (mkT 191 [(2, .ptr (.o 0) 0 0 0 0), (4, .ptr (.o 2) 0 0 0 0), (5, .ptr (.o 1) 0 0 0 0), (10, .ptr (.o 3) 0 0 0 0), (11, .int .i64 64)]) [(.o 0, .flat [.seg .u32 8 h]), (.o 1, .flat [.seg .u32 64 w2]), (.o 2, .flat [.seg .u32 8 (List.replicate 8 (0 : Int))]), (.o 3, .flat [.seg .u32 8 [S8.a s, S8.b s, S8.c s, S8.d s, S8.e s, S8.f s, S8.g s, S8.h s]])] 4 []), q (8 : Nat), q h, q (64 : Nat), q w2, q (8 : Nat), q ((List.replicate 8 (0 : Int))), q (8 : Nat), h = [S8.a s0, S8.b s0, S8.c s0, S8.d s0, S8.e s0, S8.f s0, S8.g s0, S8.h s0], q0, q0, q0, q0, q0, q0, q0, q0, q0, q0, q0, q0, q1, i5 zp none 0 (cB (cB (cR (cL (cR (cR (cR (cR (cR (cR (f8 (Bd.f (aO2 h b w w2 s0 s h2))))))))))))) 9 (St.mk (mkT 191 [(2, .ptr (.o 0) 0 0 0 0), (4, .ptr (.o 2) 0 0 0 0), (10, .ptr (.o 3) 0 0 0 0), (16, .int .i64 0)]) [(.o 0, .flat [.seg .u32 8 h]), (.o 2, .flat [.seg .u32 8 (List.replicate 8 (0 : Int))]), (.o 3, .flat [.seg .u32 8 [S8.a s, S8.b s, S8.c s, S8.d s, S8.e s, S8.f s, S8.g s, S8.h s]])] 4 []) (.exit 6) (St.mk (mkT 191 [(2, .ptr (.o 0) 0 0 0 0), (4, .ptr (.o 2) 0 0 0 0), (10, .ptr (.o 3) 0 0 0 0), (16, .int .i64 8)]) [(.o 0, .flat [.seg .u32 8 h2]), (.o 2, .flat [.seg .u32 8 (List.replicate 8 (0 : Int))]), (.o 3, .flat [.seg .u32 8 [S8.a s, S8.b s, S8.c s, S8.d s, S8.e s, S8.f s, S8.g s, S8.h s]])] 4 []), q (8 : Nat), q h, q (8 : Nat), q ((List.replicate 8 (0 : Int))), q (8 : Nat), q ([S8.a s, S8.b s, S8.c s, S8.d s, S8.e s, S8.f s, S8.g s, S8.h s]), q0, q0, q0, q0, q0, q0, q0, q0, q0, q1]) : Option (V × c5 × List Prop)) := by kernel_rfl
theorem bZ_ (h : List Int) (b : List Int) (w : List Int) (i : Nat) (w2 : List Int) :
  i6 zp (cn7 h b w i w2) [true] = (some (.normal, St.mk (mkT 191 [(1, .ros 1 (List.length b) (ib b) false), (2, .ptr (.o 0) 0 0 0 0), (4, .ptr (.o 2) 0 0 0 0), (5, .ptr (.o 1) 0 0 0 0), (6, .int .i64 (↑(i + 1) : Int))]) [(.o 0, .flat [.seg .u32 8 h]), (.o 1, .flat [.seg .u32 64 w2]), (.o 2, .flat [.seg .u32 8 (List.replicate 8 (0 : Int))])] 3 [], [decide ((↑i : Int) < (16 : Int)) = true, InR .i64 ((4 : Int) * (↑i : Int)), (0 : Int) ≤ (4 : Int) * (↑i : Int) ∧ (4 : Int) * (↑i : Int) < (↑(List.length b) : Int), (0 : Int) ≤ (24 : Int) ∧ (24 : Int) ≤ (32 : Int), InR .i64 ((4 : Int) * (↑i : Int)), InR .i64 ((4 : Int) * (↑i : Int) + (1 : Int)), (0 : Int) ≤ (4 : Int) * (↑i : Int) + (1 : Int) ∧ (4 : Int) * (↑i : Int) + (1 : Int) < (↑(List.length b) : Int), (0 : Int) ≤ (16 : Int) ∧ (16 : Int) ≤ (32 : Int), InR .i64 ((4 : Int) * (↑i : Int)), InR .i64 ((4 : Int) * (↑i : Int) + (2 : Int)), (0 : Int) ≤ (4 : Int) * (↑i : Int) + (2 : Int) ∧ (4 : Int) * (↑i : Int) + (2 : Int) < (↑(List.length b) : Int), (0 : Int) ≤ (8 : Int) ∧ (8 : Int) ≤ (32 : Int), InR .i64 ((4 : Int) * (↑i : Int)), InR .i64 ((4 : Int) * (↑i : Int) + (3 : Int)), (0 : Int) ≤ (4 : Int) * (↑i : Int) + (3 : Int) ∧ (4 : Int) * (↑i : Int) + (3 : Int) < (↑(List.length b) : Int), (0 : Int) ≤ (↑i : Int) ∧ (↑i : Int) < (64 : Int), (0 : Nat) + Int.toNat (↑i : Int) < (64 : Nat), InR .i64 ((↑i : Int) + (1 : Int)), q (8 : Nat), q h, q (64 : Nat), List.set w ((0 : Nat) + Int.toNat (↑i : Int)) (n6 (fun x x_1 y => x_1 ||| y) .u32 (n6 (fun x x_1 y => x_1 ||| y) .u32 (n6 (fun x x_1 y => x_1 ||| y) .u32 (IntKind.wrap .u32 (IntKind.wrap .u32 (List.getD b (Int.toNat ((4 : Int) * (↑i : Int))) (0 : Int)) * (16777216 : Int))) (IntKind.wrap .u32 (IntKind.wrap .u32 (List.getD b (Int.toNat ((4 : Int) * (↑i : Int) + (1 : Int))) (0 : Int)) * (65536 : Int)))) (IntKind.wrap .u32 (IntKind.wrap .u32 (List.getD b (Int.toNat ((4 : Int) * (↑i : Int) + (2 : Int))) (0 : Int)) * (256 : Int)))) (IntKind.wrap .u32 (List.getD b (Int.toNat ((4 : Int) * (↑i : Int) + (3 : Int))) (0 : Int)))) = w2, q (8 : Nat), q ((List.replicate 8 (0 : Int))), q (List.length b), ∀ (k : Nat), k < List.length b → [V.int .u8 (List.getD b k (0 : Int))] = [V.int .u8 (List.getD b k (0 : Int))], false = true → false = true, q0, q0, q0, q0, q0, q0, q0, q0, q0, (↑i : Int) + (1 : Int) = (↑(i + (1 : Nat)) : Int)]) : Option (Exit × St × List Prop)) := by kernel_rfl
theorem bZ9 (h : List Int) (b : List Int) (w : List Int) (i : Nat) (w2 : List Int) :
  i6 zp (cn7 h b w i w2) [false] = (some (.exit 0, St.mk (mkT 191 [(1, .ros 1 (List.length b) (ib b) false), (2, .ptr (.o 0) 0 0 0 0), (4, .ptr (.o 2) 0 0 0 0), (5, .ptr (.o 1) 0 0 0 0), (6, .int .i64 16)]) [(.o 0, .flat [.seg .u32 8 h]), (.o 1, .flat [.seg .u32 64 w]), (.o 2, .flat [.seg .u32 8 (List.replicate 8 (0 : Int))])] 3 [], [decide ((↑i : Int) < (16 : Int)) = false, q (8 : Nat), q h, q (64 : Nat), q w, q (8 : Nat), q ((List.replicate 8 (0 : Int))), q (List.length b), ∀ (k : Nat), k < List.length b → [V.int .u8 (List.getD b k (0 : Int))] = [V.int .u8 (List.getD b k (0 : Int))], false = true → false = true, q0, q0, q0, q0, q0, q0, q0, q0, q0, (↑i : Int) = (16 : Int)]) : Option (Exit × St × List Prop)) := by kernel_rfl
theorem b1_ (h : List Int) (w : List Int) (k : Nat) (w2 : List Int) :
  i6 zp (cn8 h w k w2) [true] = (some (.normal, St.mk (mkT 191 [(2, .ptr (.o 0) 0 0 0 0), (4, .ptr (.o 2) 0 0 0 0), (5, .ptr (.o 1) 0 0 0 0), (7, .int .i64 (↑(16 + (k + 1)) : Int))]) [(.o 0, .flat [.seg .u32 8 h]), (.o 1, .flat [.seg .u32 64 w2]), (.o 2, .flat [.seg .u32 8 (List.replicate 8 (0 : Int))])] 3 [], [decide ((↑((16 : Nat) + k) : Int) < (64 : Int)) = true, InR .i64 ((↑((16 : Nat) + k) : Int) - (15 : Int)), (0 : Int) ≤ (↑((16 : Nat) + k) : Int) - (15 : Int) ∧ (↑((16 : Nat) + k) : Int) - (15 : Int) < (64 : Int), (0 : Nat) + Int.toNat ((↑((16 : Nat) + k) : Int) - (15 : Int)) < (64 : Nat), InR .i64 ((↑((16 : Nat) + k) : Int) - (2 : Int)), (0 : Int) ≤ (↑((16 : Nat) + k) : Int) - (2 : Int) ∧ (↑((16 : Nat) + k) : Int) - (2 : Int) < (64 : Int), (0 : Nat) + Int.toNat ((↑((16 : Nat) + k) : Int) - (2 : Int)) < (64 : Nat), InR .i64 ((↑((16 : Nat) + k) : Int) - (16 : Int)), (0 : Int) ≤ (↑((16 : Nat) + k) : Int) - (16 : Int) ∧ (↑((16 : Nat) + k) : Int) - (16 : Int) < (64 : Int), (0 : Nat) + Int.toNat ((↑((16 : Nat) + k) : Int) - (16 : Int)) < (64 : Nat), T zp 146 [.int .u32 (List.getD w (0 + Int.toNat ((↑(16 + k) : Int) - (15 : Int))) (0 : Int)), .int .i64 7] [] (.int .u32 (C8 (List.getD w (0 + Int.toNat ((↑(16 + k) : Int) - (15 : Int))) (0 : Int)) (7 : Int))) [], T zp 146 [.int .u32 (List.getD w (0 + Int.toNat ((↑(16 + k) : Int) - (15 : Int))) (0 : Int)), .int .i64 18] [] (.int .u32 (C8 (List.getD w (0 + Int.toNat ((↑(16 + k) : Int) - (15 : Int))) (0 : Int)) (18 : Int))) [], (0 : Int) ≤ (3 : Int) ∧ (3 : Int) ≤ (32 : Int), InR .i64 ((↑((16 : Nat) + k) : Int) - (7 : Int)), (0 : Int) ≤ (↑((16 : Nat) + k) : Int) - (7 : Int) ∧ (↑((16 : Nat) + k) : Int) - (7 : Int) < (64 : Int), (0 : Nat) + Int.toNat ((↑((16 : Nat) + k) : Int) - (7 : Int)) < (64 : Nat), T zp 146 [.int .u32 (List.getD w (0 + Int.toNat ((↑(16 + k) : Int) - (2 : Int))) (0 : Int)), .int .i64 17] [] (.int .u32 (C8 (List.getD w (0 + Int.toNat ((↑(16 + k) : Int) - (2 : Int))) (0 : Int)) (17 : Int))) [], T zp 146 [.int .u32 (List.getD w (0 + Int.toNat ((↑(16 + k) : Int) - (2 : Int))) (0 : Int)), .int .i64 19] [] (.int .u32 (C8 (List.getD w (0 + Int.toNat ((↑(16 + k) : Int) - (2 : Int))) (0 : Int)) (19 : Int))) [], (0 : Int) ≤ (10 : Int) ∧ (10 : Int) ≤ (32 : Int), (0 : Int) ≤ (↑((16 : Nat) + k) : Int) ∧ (↑((16 : Nat) + k) : Int) < (64 : Int), (0 : Nat) + Int.toNat (↑((16 : Nat) + k) : Int) < (64 : Nat), InR .i64 ((↑((16 : Nat) + k) : Int) + (1 : Int)), q (8 : Nat), q h, q (64 : Nat), List.set w ((0 : Nat) + Int.toNat (↑((16 : Nat) + k) : Int)) (IntKind.wrap .u32 (IntKind.wrap .u32 (IntKind.wrap .u32 (List.getD w ((0 : Nat) + Int.toNat ((↑((16 : Nat) + k) : Int) - (16 : Int))) (0 : Int) + n6 (fun x x_1 y => x_1 ^^^ y) .u32 (n6 (fun x x_1 y => x_1 ^^^ y) .u32 (C8 (List.getD w ((0 : Nat) + Int.toNat ((↑((16 : Nat) + k) : Int) - (15 : Int))) (0 : Int)) (7 : Int)) (C8 (List.getD w ((0 : Nat) + Int.toNat ((↑((16 : Nat) + k) : Int) - (15 : Int))) (0 : Int)) (18 : Int))) (List.getD w ((0 : Nat) + Int.toNat ((↑((16 : Nat) + k) : Int) - (15 : Int))) (0 : Int) / (8 : Int))) + List.getD w ((0 : Nat) + Int.toNat ((↑((16 : Nat) + k) : Int) - (7 : Int))) (0 : Int)) + n6 (fun x x_1 y => x_1 ^^^ y) .u32 (n6 (fun x x_1 y => x_1 ^^^ y) .u32 (C8 (List.getD w ((0 : Nat) + Int.toNat ((↑((16 : Nat) + k) : Int) - (2 : Int))) (0 : Int)) (17 : Int)) (C8 (List.getD w ((0 : Nat) + Int.toNat ((↑((16 : Nat) + k) : Int) - (2 : Int))) (0 : Int)) (19 : Int))) (List.getD w ((0 : Nat) + Int.toNat ((↑((16 : Nat) + k) : Int) - (2 : Int))) (0 : Int) / (1024 : Int)))) = w2, q (8 : Nat), q ((List.replicate 8 (0 : Int))), q0, q0, q0, q0, q0, q0, q0, q0, q0, (↑((16 : Nat) + k) : Int) + (1 : Int) = (↑((16 : Nat) + (k + (1 : Nat))) : Int)]) : Option (Exit × St × List Prop)) := by kernel_rfl
theorem b0_ (h : List Int) (w : List Int) (k : Nat) (w2 : List Int) :
  i6 zp (cn8 h w k w2) [false] = (some (.exit 2, St.mk (mkT 191 [(2, .ptr (.o 0) 0 0 0 0), (4, .ptr (.o 2) 0 0 0 0), (5, .ptr (.o 1) 0 0 0 0), (7, .int .i64 64)]) [(.o 0, .flat [.seg .u32 8 h]), (.o 1, .flat [.seg .u32 64 w]), (.o 2, .flat [.seg .u32 8 (List.replicate 8 (0 : Int))])] 3 [], [decide ((↑((16 : Nat) + k) : Int) < (64 : Int)) = false, q (8 : Nat), q h, q (64 : Nat), q w, q (8 : Nat), q ((List.replicate 8 (0 : Int))), q0, q0, q0, q0, q0, q0, q0, q0, q0, (↑((16 : Nat) + k) : Int) = (64 : Int)]) : Option (Exit × St × List Prop)) := by kernel_rfl
theorem b3_ (h : List Int) (w : List Int) (s : S8) (t : Nat) (s2 : S8) :
  i6 zp (cn9 h w s t s2) [true] = (some (.normal, St.mk (mkT 191 [(2, .ptr (.o 0) 0 0 0 0), (4, .ptr (.o 2) 0 0 0 0), (5, .ptr (.o 1) 0 0 0 0), (10, .ptr (.o 3) 0 0 0 0), (11, .int .i64 (↑(t + 1) : Int))]) [(.o 0, .flat [.seg .u32 8 h]), (.o 1, .flat [.seg .u32 64 w]), (.o 2, .flat [.seg .u32 8 (List.replicate 8 (0 : Int))]), (.o 3, .flat [.seg .u32 8 [S8.a s2, S8.b s2, S8.c s2, S8.d s2, S8.e s2, S8.f s2, S8.g s2, S8.h s2]])] 4 [], [decide ((↑t : Int) < (64 : Int)) = true, (0 : Int) ≤ (0 : Int) ∧ (0 : Int) < (8 : Int), 0 < (8 : Nat), (0 : Int) ≤ (4 : Int) ∧ (4 : Int) < (8 : Int), 4 < (8 : Nat), (0 : Int) ≤ (7 : Int) ∧ (7 : Int) < (8 : Int), 7 < (8 : Nat), T zp 146 [.int .u32 (List.getD [S8.a s, S8.b s, S8.c s, S8.d s, S8.e s, S8.f s, S8.g s, S8.h s] 4 (0 : Int)), .int .i64 6] [] (.int .u32 (C8 (List.getD [S8.a s, S8.b s, S8.c s, S8.d s, S8.e s, S8.f s, S8.g s, S8.h s] 4 (0 : Int)) (6 : Int))) [], T zp 146 [.int .u32 (List.getD [S8.a s, S8.b s, S8.c s, S8.d s, S8.e s, S8.f s, S8.g s, S8.h s] 4 (0 : Int)), .int .i64 11] [] (.int .u32 (C8 (List.getD [S8.a s, S8.b s, S8.c s, S8.d s, S8.e s, S8.f s, S8.g s, S8.h s] 4 (0 : Int)) (11 : Int))) [], T zp 146 [.int .u32 (List.getD [S8.a s, S8.b s, S8.c s, S8.d s, S8.e s, S8.f s, S8.g s, S8.h s] 4 (0 : Int)), .int .i64 25] [] (.int .u32 (C8 (List.getD [S8.a s, S8.b s, S8.c s, S8.d s, S8.e s, S8.f s, S8.g s, S8.h s] 4 (0 : Int)) (25 : Int))) [], (0 : Int) ≤ (5 : Int) ∧ (5 : Int) < (8 : Int), 5 < (8 : Nat), (0 : Int) ≤ (6 : Int) ∧ (6 : Int) < (8 : Int), 6 < (8 : Nat), T zp 147 [.int .i64 ↑t] [] (.int .u32 (kN (Int.toNat (↑t : Int)))) [], (0 : Int) ≤ (↑t : Int) ∧ (↑t : Int) < (64 : Int), (0 : Nat) + Int.toNat (↑t : Int) < (64 : Nat), T zp 146 [.int .u32 (List.getD [S8.a s, S8.b s, S8.c s, S8.d s, S8.e s, S8.f s, S8.g s, S8.h s] 0 (0 : Int)), .int .i64 2] [] (.int .u32 (C8 (List.getD [S8.a s, S8.b s, S8.c s, S8.d s, S8.e s, S8.f s, S8.g s, S8.h s] 0 (0 : Int)) (2 : Int))) [], T zp 146 [.int .u32 (List.getD [S8.a s, S8.b s, S8.c s, S8.d s, S8.e s, S8.f s, S8.g s, S8.h s] 0 (0 : Int)), .int .i64 13] [] (.int .u32 (C8 (List.getD [S8.a s, S8.b s, S8.c s, S8.d s, S8.e s, S8.f s, S8.g s, S8.h s] 0 (0 : Int)) (13 : Int))) [], T zp 146 [.int .u32 (List.getD [S8.a s, S8.b s, S8.c s, S8.d s, S8.e s, S8.f s, S8.g s, S8.h s] 0 (0 : Int)), .int .i64 22] [] (.int .u32 (C8 (List.getD [S8.a s, S8.b s, S8.c s, S8.d s, S8.e s, S8.f s, S8.g s, S8.h s] 0 (0 : Int)) (22 : Int))) [], (0 : Int) ≤ (1 : Int) ∧ (1 : Int) < (8 : Int), 1 < (8 : Nat), (0 : Int) ≤ (2 : Int) ∧ (2 : Int) < (8 : Int), 2 < (8 : Nat), (0 : Int) ≤ (1 : Int) ∧ (1 : Int) < (8 : Int), 1 < (8 : Nat), (0 : Int) ≤ (2 : Int) ∧ (2 : Int) < (8 : Int), 2 < (8 : Nat), (0 : Int) ≤ (1 : Int) ∧ (1 : Int) < (8 : Int), 1 < (8 : Nat), (0 : Int) ≤ (2 : Int) ∧ (2 : Int) < (8 : Int), 2 < (8 : Nat), (0 : Int) ≤ (3 : Int) ∧ (3 : Int) < (8 : Int), 3 < (8 : Nat), (0 : Int) ≤ (5 : Int) ∧ (5 : Int) < (8 : Int), 5 < (8 : Nat), (0 : Int) ≤ (6 : Int) ∧ (6 : Int) < (8 : Int), 6 < (8 : Nat), InR .i64 ((↑t : Int) + (1 : Int)), q (8 : Nat), q h, q (64 : Nat), q w, q (8 : Nat), q ((List.replicate 8 (0 : Int))), q (8 : Nat), [IntKind.wrap .u32 (IntKind.wrap .u32 (IntKind.wrap .u32 (IntKind.wrap .u32 (IntKind.wrap .u32 (List.getD [S8.a s, S8.b s, S8.c s, S8.d s, S8.e s, S8.f s, S8.g s, S8.h s] 7 (0 : Int) + n6 (fun x x_1 y => x_1 ^^^ y) .u32 (n6 (fun x x_1 y => x_1 ^^^ y) .u32 (C8 (List.getD [S8.a s, S8.b s, S8.c s, S8.d s, S8.e s, S8.f s, S8.g s, S8.h s] 4 (0 : Int)) (6 : Int)) (C8 (List.getD [S8.a s, S8.b s, S8.c s, S8.d s, S8.e s, S8.f s, S8.g s, S8.h s] 4 (0 : Int)) (11 : Int))) (C8 (List.getD [S8.a s, S8.b s, S8.c s, S8.d s, S8.e s, S8.f s, S8.g s, S8.h s] 4 (0 : Int)) (25 : Int))) + n6 (fun x x_1 y => x_1 ^^^ y) .u32 (n6 (fun x x_1 y => x_1 &&& y) .u32 (List.getD [S8.a s, S8.b s, S8.c s, S8.d s, S8.e s, S8.f s, S8.g s, S8.h s] 4 (0 : Int)) (List.getD [S8.a s, S8.b s, S8.c s, S8.d s, S8.e s, S8.f s, S8.g s, S8.h s] 5 (0 : Int))) (n6 (fun x x_1 y => x_1 &&& y) .u32 (n6 (fun x x_1 y => x_1 ^^^ y) .u32 (4294967295 : Int) (List.getD [S8.a s, S8.b s, S8.c s, S8.d s, S8.e s, S8.f s, S8.g s, S8.h s] 4 (0 : Int))) (List.getD [S8.a s, S8.b s, S8.c s, S8.d s, S8.e s, S8.f s, S8.g s, S8.h s] 6 (0 : Int)))) + kN (Int.toNat (↑t : Int))) + List.getD w ((0 : Nat) + Int.toNat (↑t : Int)) (0 : Int)) + IntKind.wrap .u32 (n6 (fun x x_1 y => x_1 ^^^ y) .u32 (n6 (fun x x_1 y => x_1 ^^^ y) .u32 (C8 (List.getD [S8.a s, S8.b s, S8.c s, S8.d s, S8.e s, S8.f s, S8.g s, S8.h s] 0 (0 : Int)) (2 : Int)) (C8 (List.getD [S8.a s, S8.b s, S8.c s, S8.d s, S8.e s, S8.f s, S8.g s, S8.h s] 0 (0 : Int)) (13 : Int))) (C8 (List.getD [S8.a s, S8.b s, S8.c s, S8.d s, S8.e s, S8.f s, S8.g s, S8.h s] 0 (0 : Int)) (22 : Int)) + n6 (fun x x_1 y => x_1 ^^^ y) .u32 (n6 (fun x x_1 y => x_1 ^^^ y) .u32 (n6 (fun x x_1 y => x_1 &&& y) .u32 (List.getD [S8.a s, S8.b s, S8.c s, S8.d s, S8.e s, S8.f s, S8.g s, S8.h s] 0 (0 : Int)) (List.getD [S8.a s, S8.b s, S8.c s, S8.d s, S8.e s, S8.f s, S8.g s, S8.h s] 1 (0 : Int))) (n6 (fun x x_1 y => x_1 &&& y) .u32 (List.getD [S8.a s, S8.b s, S8.c s, S8.d s, S8.e s, S8.f s, S8.g s, S8.h s] 0 (0 : Int)) (List.getD [S8.a s, S8.b s, S8.c s, S8.d s, S8.e s, S8.f s, S8.g s, S8.h s] 2 (0 : Int)))) (n6 (fun x x_1 y => x_1 &&& y) .u32 (List.getD [S8.a s, S8.b s, S8.c s, S8.d s, S8.e s, S8.f s, S8.g s, S8.h s] 1 (0 : Int)) (List.getD [S8.a s, S8.b s, S8.c s, S8.d s, S8.e s, S8.f s, S8.g s, S8.h s] 2 (0 : Int))))), List.getD [S8.a s, S8.b s, S8.c s, S8.d s, S8.e s, S8.f s, S8.g s, S8.h s] 0 (0 : Int), List.getD [S8.a s, S8.b s, S8.c s, S8.d s, S8.e s, S8.f s, S8.g s, S8.h s] 1 (0 : Int), List.getD [S8.a s, S8.b s, S8.c s, S8.d s, S8.e s, S8.f s, S8.g s, S8.h s] 2 (0 : Int), IntKind.wrap .u32 (List.getD [S8.a s, S8.b s, S8.c s, S8.d s, S8.e s, S8.f s, S8.g s, S8.h s] 3 (0 : Int) + IntKind.wrap .u32 (IntKind.wrap .u32 (IntKind.wrap .u32 (IntKind.wrap .u32 (List.getD [S8.a s, S8.b s, S8.c s, S8.d s, S8.e s, S8.f s, S8.g s, S8.h s] 7 (0 : Int) + n6 (fun x x_1 y => x_1 ^^^ y) .u32 (n6 (fun x x_1 y => x_1 ^^^ y) .u32 (C8 (List.getD [S8.a s, S8.b s, S8.c s, S8.d s, S8.e s, S8.f s, S8.g s, S8.h s] 4 (0 : Int)) (6 : Int)) (C8 (List.getD [S8.a s, S8.b s, S8.c s, S8.d s, S8.e s, S8.f s, S8.g s, S8.h s] 4 (0 : Int)) (11 : Int))) (C8 (List.getD [S8.a s, S8.b s, S8.c s, S8.d s, S8.e s, S8.f s, S8.g s, S8.h s] 4 (0 : Int)) (25 : Int))) + n6 (fun x x_1 y => x_1 ^^^ y) .u32 (n6 (fun x x_1 y => x_1 &&& y) .u32 (List.getD [S8.a s, S8.b s, S8.c s, S8.d s, S8.e s, S8.f s, S8.g s, S8.h s] 4 (0 : Int)) (List.getD [S8.a s, S8.b s, S8.c s, S8.d s, S8.e s, S8.f s, S8.g s, S8.h s] 5 (0 : Int))) (n6 (fun x x_1 y => x_1 &&& y) .u32 (n6 (fun x x_1 y => x_1 ^^^ y) .u32 (4294967295 : Int) (List.getD [S8.a s, S8.b s, S8.c s, S8.d s, S8.e s, S8.f s, S8.g s, S8.h s] 4 (0 : Int))) (List.getD [S8.a s, S8.b s, S8.c s, S8.d s, S8.e s, S8.f s, S8.g s, S8.h s] 6 (0 : Int)))) + kN (Int.toNat (↑t : Int))) + List.getD w ((0 : Nat) + Int.toNat (↑t : Int)) (0 : Int))), List.getD [S8.a s, S8.b s, S8.c s, S8.d s, S8.e s, S8.f s, S8.g s, S8.h s] 4 (0 : Int), List.getD [S8.a s, S8.b s, S8.c s, S8.d s, S8.e s, S8.f s, S8.g s, S8.h s] 5 (0 : Int), List.getD [S8.a s, S8.b s, S8.c s, S8.d s, S8.e s, S8.f s, S8.g s, S8.h s] 6 (0 : Int)] = [S8.a s2, S8.b s2, S8.c s2, S8.d s2, S8.e s2, S8.f s2, S8.g s2, S8.h s2], q0, q0, q0, q0, q0, q0, q0, q0, q0, q0, q0, q0, (↑t : Int) + (1 : Int) = (↑(t + (1 : Nat)) : Int)]) : Option (Exit × St × List Prop)) := by kernel_rfl
theorem b2_ (h : List Int) (w : List Int) (s : S8) (t : Nat) (s2 : S8) :
  i6 zp (cn9 h w s t s2) [false] = (some (.exit 4, St.mk (mkT 191 [(2, .ptr (.o 0) 0 0 0 0), (4, .ptr (.o 2) 0 0 0 0), (5, .ptr (.o 1) 0 0 0 0), (10, .ptr (.o 3) 0 0 0 0), (11, .int .i64 64)]) [(.o 0, .flat [.seg .u32 8 h]), (.o 1, .flat [.seg .u32 64 w]), (.o 2, .flat [.seg .u32 8 (List.replicate 8 (0 : Int))]), (.o 3, .flat [.seg .u32 8 [S8.a s, S8.b s, S8.c s, S8.d s, S8.e s, S8.f s, S8.g s, S8.h s]])] 4 [], [decide ((↑t : Int) < (64 : Int)) = false, q (8 : Nat), q h, q (64 : Nat), q w, q (8 : Nat), q ((List.replicate 8 (0 : Int))), q (8 : Nat), q ([S8.a s, S8.b s, S8.c s, S8.d s, S8.e s, S8.f s, S8.g s, S8.h s]), q0, q0, q0, q0, q0, q0, q0, q0, q0, q0, q0, q0, (↑t : Int) = (64 : Int)]) : Option (Exit × St × List Prop)) := by kernel_rfl
theorem b5_ (h : List Int) (l : List Int) (i : Nat) (h2 : List Int) :
  i6 zp (cn_ h l i h2) [true] = (some (.normal, St.mk (mkT 191 [(2, .ptr (.o 0) 0 0 0 0), (4, .ptr (.o 2) 0 0 0 0), (10, .ptr (.o 3) 0 0 0 0), (16, .int .i64 (↑(i + 1) : Int))]) [(.o 0, .flat [.seg .u32 8 h2]), (.o 2, .flat [.seg .u32 8 (List.replicate 8 (0 : Int))]), (.o 3, .flat [.seg .u32 8 l])] 4 [], [decide ((↑i : Int) < (8 : Int)) = true, (0 : Int) ≤ (↑i : Int) ∧ (↑i : Int) < (8 : Int), (0 : Nat) + Int.toNat (↑i : Int) < (8 : Nat), (0 : Int) ≤ (↑i : Int) ∧ (↑i : Int) < (8 : Int), (0 : Nat) + Int.toNat (↑i : Int) < (8 : Nat), (0 : Int) ≤ (↑i : Int) ∧ (↑i : Int) < (8 : Int), (0 : Nat) + Int.toNat (↑i : Int) < (8 : Nat), InR .i64 ((↑i : Int) + (1 : Int)), q (8 : Nat), List.set h ((0 : Nat) + Int.toNat (↑i : Int)) (IntKind.wrap .u32 (List.getD h ((0 : Nat) + Int.toNat (↑i : Int)) (0 : Int) + List.getD l ((0 : Nat) + Int.toNat (↑i : Int)) (0 : Int))) = h2, q (8 : Nat), q ((List.replicate 8 (0 : Int))), q (8 : Nat), q l, q0, q0, q0, q0, q0, q0, q0, q0, q0, (↑i : Int) + (1 : Int) = (↑(i + (1 : Nat)) : Int)]) : Option (Exit × St × List Prop)) := by kernel_rfl
theorem b4_ (h : List Int) (l : List Int) (i : Nat) (h2 : List Int) :
  i6 zp (cn_ h l i h2) [false] = (some (.exit 6, St.mk (mkT 191 [(2, .ptr (.o 0) 0 0 0 0), (4, .ptr (.o 2) 0 0 0 0), (10, .ptr (.o 3) 0 0 0 0), (16, .int .i64 8)]) [(.o 0, .flat [.seg .u32 8 h]), (.o 2, .flat [.seg .u32 8 (List.replicate 8 (0 : Int))]), (.o 3, .flat [.seg .u32 8 l])] 4 [], [decide ((↑i : Int) < (8 : Int)) = false, q (8 : Nat), q h, q (8 : Nat), q ((List.replicate 8 (0 : Int))), q (8 : Nat), q l, q0, q0, q0, q0, q0, q0, q0, q0, q0, (↑i : Int) = (8 : Int)]) : Option (Exit × St × List Prop)) := by kernel_rfl
theorem aG9 (v : Int) (k : Nat) (hk : k < 1) : s6 (j4 [[V.int .u8 v]] k) = true := by
 have : k = 0 := by omega
 subst this; rfl
theorem T_pa (l : List Int) (hb : l.length ≤ 10000000000) : T Tryz.prog 136 [rb l] [] (obS 0 (T1 l)) [(.o 0, obB (T1 l))] := by
 have hz : E1 (l.length + 1) < 64 := by unfold E1; omega
 have hA : i5 Tryz.prog none 0 (cB (cB (cL (cR (cR (f8 Tryz.f136)))))) (E1 (l.length + 1) + 1) (paI l (l ++ [128] ++ List.replicate 0 0)) (.exit 0) (paI l (l ++ [128] ++ List.replicate (E1 (l.length + 1)) 0)) := by
  have hl : ∀ k, (l ++ [128] ++ List.replicate k (0 : Int)).length = l.length + 1 + k := fun k => by simp; omega
  have hstep : ∀ k, k < E1 (l.length + 1) → R Tryz.prog none 0 (cB (cB (cL (cR (cR (f8 Tryz.f136)))))) (paI l (l ++ [128] ++ List.replicate k 0)) .normal (paI l (l ++ [128] ++ List.replicate (k + 1) 0)) := by
   intro k hk
   have h1 := aZ7 hk
   have hlk := hl k
   have hlk1 := hl (k + 1)
   have e : (!decide (((l ++ [128] ++ List.replicate k (0 : Int)).length : Int) % 64 = 56)) = true := by rw [hlk, decide_eq_false (by omega)]; rfl
   have hc := ctb (l ++ [128] ++ List.replicate k 0) 0
   rw [show l ++ [128] ++ List.replicate k (0 : Int) ++ [0] = l ++ [128] ++ List.replicate (k + 1) 0 by rw [List.append_assoc (l ++ [128]), ← List.replicate_succ']] at hc
   refine f9 NG MO _ (bY_ l (l ++ [128] ++ List.replicate k 0) (l ++ [128] ++ List.replicate (k + 1) 0)) ?_ (Nat.zero_le _)
   simp only [All]; and_intros
   all_goals first | exact True.intro | exact e | exact hc | (intro j hj; rw [Nat.zero_add]; exact aG9 0 j hj) | (intro _ _; exact True.intro) | omega | (intro h; exact h) | exact .inl True.intro
  have hend : R Tryz.prog none 0 (cB (cB (cL (cR (cR (f8 Tryz.f136)))))) (paI l (l ++ [128] ++ List.replicate (E1 (l.length + 1)) 0)) (.exit 0) (paI l (l ++ [128] ++ List.replicate (E1 (l.length + 1)) 0)) := by
   have h1 := aG7 (l.length + 1)
   have hlk := hl (E1 (l.length + 1))
   have e : (!decide (((l ++ [128] ++ List.replicate (E1 (l.length + 1)) (0 : Int)).length : Int) % 64 = 56)) = false := by rw [hlk, decide_eq_true (by omega)]; rfl
   refine f9 NG MO _ (bY9 l (l ++ [128] ++ List.replicate (E1 (l.length + 1)) 0) []) ?_ (Nat.zero_le _)
   simp only [All]; and_intros
   all_goals first | exact True.intro | exact e | (intro _ _; exact True.intro) | omega | (intro h; exact h) | exact .inl True.intro
  exact i5.inv (fun k => paI l (l ++ [128] ++ List.replicate k 0)) (E1 (l.length + 1)) hstep hend (by simp)
 have hB : ∀ L : List Int, L.length ≤ 20000000000 → i5 Tryz.prog none 0 (cB (cB (cR (cL (cR (cR (cR (cR (f8 Tryz.f136))))))))) (8 + 1) (paJ l (L ++ J4 (8 * (l.length : Int)) 0) 0) (.exit 2) (paJ l (L ++ J4 (8 * (l.length : Int)) 8) 8) := by
  intro L hL
  have hl : ∀ j, (L ++ J4 (8 * (l.length : Int)) j).length = L.length + j := fun j => by simp [J4]
  have hstep : ∀ j, j < 8 → R Tryz.prog none 0 (cB (cB (cR (cL (cR (cR (cR (cR (f8 Tryz.f136))))))))) (paJ l (L ++ J4 (8 * (l.length : Int)) j) j) .normal (paJ l (L ++ J4 (8 * (l.length : Int)) (j + 1)) (j + 1)) := by
   intro j hj
   have hlj := hl j
   have hlj1 := hl (j + 1)
   have e1 : Int.toNat (8 * (7 - (j : Int))) = 56 - 8 * j := by omega
   have hc := ctb (L ++ J4 (8 * (l.length : Int)) j) (IntKind.wrap .u8 (8 * (l.length : Int) / 2 ^ (56 - 8 * j)))
   rw [show L ++ J4 (8 * (l.length : Int)) j ++ [IntKind.wrap .u8 (8 * (l.length : Int) / 2 ^ (56 - 8 * j))] = L ++ J4 (8 * (l.length : Int)) (j + 1) by rw [bq_, List.append_assoc]; rfl] at hc
   refine f9 NG MO _ (bZ1 l (L ++ J4 (8 * (l.length : Int)) j) j (L ++ J4 (8 * (l.length : Int)) (j + 1))) ?_ (Nat.zero_le _)
   simp only [All, e1]; and_intros
   all_goals first | exact True.intro | exact hc | (intro j hj; rw [Nat.zero_add]; exact aG9 _ j hj) | (rw [decide_eq_true_eq]; omega) | (intro _ _; exact True.intro) | (simp only [IntKind.min, IntKind.max, IntKind.signed, IntKind.bits, if_true]; omega) | omega | (intro h; exact h) | exact .inl True.intro
  have hend : R Tryz.prog none 0 (cB (cB (cR (cL (cR (cR (cR (cR (f8 Tryz.f136))))))))) (paJ l (L ++ J4 (8 * (l.length : Int)) 8) 8) (.exit 2) (paJ l (L ++ J4 (8 * (l.length : Int)) 8) 8) := by
   refine f9 NG MO _ (bZ0 l (L ++ J4 (8 * (l.length : Int)) 8) 8 []) ?_ (Nat.zero_le _)
   simp only [All]; and_intros
   all_goals first | exact True.intro | (rw [decide_eq_false_iff_not]; omega) | (intro _ _; exact True.intro) | omega | (intro h; exact h) | exact .inl True.intro
  exact i5.inv (fun j => paJ l (L ++ J4 (8 * (l.length : Int)) j) j) 8 hstep hend (by simp)
 have hB1 := hB (l ++ [128] ++ List.replicate (E1 (l.length + 1)) 0) (by simp; omega)
 rw [List.replicate_zero, List.append_nil] at hA
 rw [show J4 (8 * (l.length : Int)) 0 = [] from rfl, List.append_nil] at hB1
 have hl0 : (l ++ [(128 : Int)]).length = l.length + 1 := by simp
 have hc0 := ctb l 128
 refine f5 (ci4 l (l ++ [128]) (E1 (l.length + 1)) (l ++ [128] ++ List.replicate (E1 (l.length + 1)) 0) (T1 l)) Tryz.func136 ?_
 simp only [All, cat0, Nat.zero_add]; and_intros
 all_goals first | exact True.intro | exact hA | exact hB1 | (intro k hk; have := hc0 k hk; simp only [Nat.zero_add] at this; exact this) | (intro j hj; exact aG9 128 j hj) | (intro _ _; exact True.intro) | (simp only [IntKind.min, IntKind.max, IntKind.signed, IntKind.bits, if_true]; omega) | omega | (intro h; exact h) | exact .inl True.intro
theorem T_bt {h b : List Int} (hh : h.length = 8) (hb : b.length = 64) : T Tryz.prog 137 [.agg [.seg .u32 8 h], rb b] [] (.agg [.seg .u32 8 (blk h b)]) [] := by
 have hA : i5 Tryz.prog none 0 (cB (cB (cR (cL (cR (cR (f8 Tryz.f137))))))) (16 + 1) (btI h b (wA b 0) 0) (.exit 0) (btI h b (wA b 16) 16) := by
  have hstep : ∀ i, i < 16 → R Tryz.prog none 0 (cB (cB (cR (cL (cR (cR (f8 Tryz.f137))))))) (btI h b (wA b i) i) .normal (btI h b (wA b (i + 1)) (i + 1)) := by
   intro i hi
   obtain ⟨e0, e1, e2, e3⟩ := tn4 i
   refine f9 NG MO _ (bZ_ h b (wA b i) i (wA b (i + 1))) ?_ (Nat.zero_le _)
   simp only [All, e0, e1, e2, e3, hb, Nat.zero_add, Int.toNat_natCast]; and_intros
   all_goals first | exact True.intro | rfl | (rw [decide_eq_true_eq]; omega) | (intro _ _; exact True.intro) | (simp only [IntKind.min, IntKind.max, IntKind.signed, IntKind.bits, if_true]; omega) | omega | (intro h; exact h)
  have hend : R Tryz.prog none 0 (cB (cB (cR (cL (cR (cR (f8 Tryz.f137))))))) (btI h b (wA b 16) 16) (.exit 0) (btI h b (wA b 16) 16) := by
   refine f9 NG MO _ (bZ9 h b (wA b 16) 16 []) ?_ (Nat.zero_le _)
   simp only [All]; and_intros
   all_goals first | exact True.intro | (rw [decide_eq_false_iff_not]; omega) | (intro _ _; exact True.intro) | omega | (intro h; exact h)
  exact i5.inv (fun i => btI h b (wA b i) i) 16 hstep hend (by simp)
 have hB : i5 Tryz.prog none 0 (cB (cB (cR (cL (cR (cR (cR (f8 Tryz.f137)))))))) (48 + 1) (btJ h (wB b 0) 0) (.exit 2) (btJ h (wB b 48) 48) := by
  have hstep : ∀ k, k < 48 → R Tryz.prog none 0 (cB (cB (cR (cL (cR (cR (cR (f8 Tryz.f137)))))))) (btJ h (wB b k) k) .normal (btJ h (wB b (k + 1)) (k + 1)) := by
   intro k hk
   obtain ⟨e0, e1, e2, e3⟩ := cp4 k
   have h1 := ag_ ((wB b k).getD (k + 1) 0) (n := 7) (by decide)
   have h2 := ag_ ((wB b k).getD (k + 1) 0) (n := 18) (by decide)
   have h3 := ag_ ((wB b k).getD (k + 14) 0) (n := 17) (by decide)
   have h4 := ag_ ((wB b k).getD (k + 14) 0) (n := 19) (by decide)
   refine f9 NG MO _ (b1_ h (wB b k) k (wB b (k + 1))) ?_ (Nat.zero_le _)
   simp only [All, e0, e1, e2, e3, Nat.zero_add, Int.toNat_natCast]; and_intros
   all_goals first | exact True.intro | exact h1 | exact h2 | exact h3 | exact h4 | rfl | (rw [decide_eq_true_eq]; omega) | (simp only [IntKind.min, IntKind.max, IntKind.signed, IntKind.bits, if_true]; omega) | omega
  have hend : R Tryz.prog none 0 (cB (cB (cR (cL (cR (cR (cR (f8 Tryz.f137)))))))) (btJ h (wB b 48) 48) (.exit 2) (btJ h (wB b 48) 48) := by
   refine f9 NG MO _ (b0_ h (wB b 48) 48 []) ?_ (Nat.zero_le _)
   simp only [All]; and_intros
   all_goals first | exact True.intro | (rw [decide_eq_false_iff_not]; omega) | omega
  exact i5.inv (fun k => btJ h (wB b k) k) 48 hstep hend (by simp)
 have hC : ∀ w, i5 Tryz.prog none 0 (cB (cB (cR (cL (cR (cR (cR (cR (cR (f8 Tryz.f137)))))))))) (64 + 1) (btK h w (rnd w (S8.of h) 0) 0) (.exit 4) (btK h w (rnd w (S8.of h) 64) 64) := by
  intro w
  have hstep : ∀ t, t < 64 → R Tryz.prog none 0 (cB (cB (cR (cL (cR (cR (cR (cR (cR (f8 Tryz.f137)))))))))) (btK h w (rnd w (S8.of h) t) t) .normal (btK h w (rnd w (S8.of h) (t + 1)) (t + 1)) := by
   intro t ht
   have h1 := ag_ (rnd w (S8.of h) t).e (n := 6) (by decide)
   have h2 := ag_ (rnd w (S8.of h) t).e (n := 11) (by decide)
   have h3 := ag_ (rnd w (S8.of h) t).e (n := 25) (by decide)
   have h4 := ag_ (rnd w (S8.of h) t).a (n := 2) (by decide)
   have h5 := ag_ (rnd w (S8.of h) t).a (n := 13) (by decide)
   have h6 := ag_ (rnd w (S8.of h) t).a (n := 22) (by decide)
   have h7 := T_kc ht
   refine f9 NG MO _ (b3_ h w (rnd w (S8.of h) t) t (rnd w (S8.of h) (t + 1))) ?_ (Nat.zero_le _)
   simp only [All, Nat.zero_add, Int.toNat_natCast]; and_intros
   all_goals first | exact True.intro | exact h1 | exact h2 | exact h3 | exact h4 | exact h5 | exact h6 | exact h7 | rfl | (with_reducible assumption) | (rw [decide_eq_true_eq]; omega) | (simp only [IntKind.min, IntKind.max, IntKind.signed, IntKind.bits, if_true]; omega) | omega
  have hend : R Tryz.prog none 0 (cB (cB (cR (cL (cR (cR (cR (cR (cR (f8 Tryz.f137)))))))))) (btK h w (rnd w (S8.of h) 64) 64) (.exit 4) (btK h w (rnd w (S8.of h) 64) 64) := by
   refine f9 NG MO _ (b2_ h w (rnd w (S8.of h) 64) 64 ⟨0, 0, 0, 0, 0, 0, 0, 0⟩) ?_ (Nat.zero_le _)
   simp only [All]; and_intros
   all_goals first | exact True.intro | (rw [decide_eq_false_iff_not]; omega) | omega
  exact i5.inv (fun t => btK h w (rnd w (S8.of h) t) t) 64 hstep hend (by simp)
 have hD : ∀ l, i5 Tryz.prog none 0 (cB (cB (cR (cL (cR (cR (cR (cR (cR (cR (f8 Tryz.f137))))))))))) (8 + 1) (btL (hF h l 0) l 0) (.exit 6) (btL (hF h l 8) l 8) := by
  intro l
  have hstep : ∀ i, i < 8 → R Tryz.prog none 0 (cB (cB (cR (cL (cR (cR (cR (cR (cR (cR (f8 Tryz.f137))))))))))) (btL (hF h l i) l i) .normal (btL (hF h l (i + 1)) l (i + 1)) := by
   intro i hi
   refine f9 NG MO _ (b5_ (hF h l i) l i (hF h l (i + 1))) ?_ (Nat.zero_le _)
   simp only [All, Nat.zero_add, Int.toNat_natCast]; and_intros
   all_goals first | exact True.intro | rfl | (with_reducible assumption) | (rw [decide_eq_true_eq]; omega) | (simp only [IntKind.min, IntKind.max, IntKind.signed, IntKind.bits, if_true]; omega) | omega
  have hend : R Tryz.prog none 0 (cB (cB (cR (cL (cR (cR (cR (cR (cR (cR (f8 Tryz.f137))))))))))) (btL (hF h l 8) l 8) (.exit 6) (btL (hF h l 8) l 8) := by
   refine f9 NG MO _ (b4_ (hF h l 8) l 8 []) ?_ (Nat.zero_le _)
   simp only [All]; and_intros
   all_goals first | exact True.intro | (rw [decide_eq_false_iff_not]; omega) | omega
  exact i5.inv (fun i => btL (hF h l i) l i) 8 hstep hend (by simp)
 have hC1 := hC (wB b 48)
 have hD1 := hD (rnd (wB b 48) (S8.of h) 64).l
 have hbk : hF h (rnd (wB b 48) (S8.of h) 64).l 8 = blk h b := rfl
 rw [hbk] at hD1
 have h8 : h = [(S8.of h).a, (S8.of h).b, (S8.of h).c, (S8.of h).d, (S8.of h).e, (S8.of h).f, (S8.of h).g, (S8.of h).h] := of8 hh
 generalize hw : wB b 48 = w at hB hC1 hD1
 generalize hs : rnd w (S8.of h) 64 = s at hC1 hD1
 generalize hwA : wA b 16 = w16 at hA
 generalize hs0 : S8.of h = s0 at hC1 h8
 have hB1 : i5 Tryz.prog none 0 (cB (cB (cR (cL (cR (cR (cR (f8 Tryz.f137)))))))) (48 + 1) (btJ h w16 0) (.exit 2) (btJ h w 48) := by rw [← hwA]; exact hB
 refine f5 (cg3 h b w16 w s0 s (blk h b)) Tryz.func137 ?_
 simp only [All]; and_intros
 all_goals first | exact True.intro | exact hA | exact hB1 | exact hC1 | exact hD1 | exact h8 | (intro _ _; exact True.intro) | (intro h; exact h)
def duI (p h : List Int) (i : Nat) : St := ⟨mkT 47 [(2, p0K 2), (3, p0K 0), (4, obS 1 p), (5, .int .i64 (64 * (i : Nat)))], [(.o 0, .flat [.seg .u32 8 h]), (.o 1, obB p), (.o 2, .flat [.seg .u8 32 v7])], 3, []⟩
def duJ (h d : List Int) (i : Nat) : St := ⟨mkT 47 [(2, p0K 2), (3, p0K 0), (6, p0K 3), (7, .int .i64 (i : Nat))], [(.o 0, .flat [.seg .u32 8 h]), (.o 2, .flat [.seg .u8 32 v7]), (.o 3, .flat [.seg .u8 32 d])], 4, []⟩
def duK (h d : List Int) (i k : Nat) : St := ⟨mkT 47 [(2, p0K 2), (3, p0K 0), (6, p0K 3), (7, .int .i64 (i : Nat)), (8, .int .i64 (k : Nat))], [(.o 0, .flat [.seg .u32 8 h]), (.o 2, .flat [.seg .u8 32 v7]), (.o 3, .flat [.seg .u8 32 d])], 4, []⟩
noncomputable def bx5 (l p h : List Int) (n : Nat) (d : List Int) : Bd := { f := Tryz.f99, args := [rb l], kb := { db := dbQ [(136, fun _ _ lo => [{ val := obS lo p, post := [(.o lo, obB p)] }])], lp := fun id t => bif Nat.beq id 0 then [(True, .loop (n + 1) (B6 [(.o 0, nmV (r9 t.tmps 3)), (.o 1, nmV (r9 t.tmps 4)), (.o 2, nmV (r9 t.tmps 2))] (duI p iv 0)) (.exit 0) (duI p h n))] else [(True, .loop (8 + 1) (B6 [(.o 3, nmV (r9 t.tmps 6))] (duJ h v7 0)) (.exit 2) (duJ h d 8))] } }
noncomputable def co0 (p h : List Int) (i : Nat) (h2 : List Int) (n : Nat) : Pc := { c := cB (cB (cR (cL (cR (cR (cR (f8 Tryz.f99))))))), st := duI p h i, kb := { db := dbQ [(137, fun _ _ _ => [{ rd := [.o 1], val := .agg [.seg .u32 8 h2] }])] }, k := fun x_ _ => match x_ with
 | .normal => some (wTo (duI p h2 (i + 1)))
 | _ => some (wTo (duI p h n)) }
noncomputable def duC : Code := cB (cB (cR (cL (cR (cR (cR (cR (cR (f8 Tryz.f99)))))))))
noncomputable def bH7 (h d : List Int) (i : Nat) (d2 : List Int) : Pc := { c := duC, st := duJ h d i, kb := { db := fun _ _ _ _ => [], lp := fun _ _ => [(True, .loop (4 + 1) (wTo (duK h d i 0)) (.exit 4) (duK h d2 i 4))] }, k := fun x_ _ => match x_ with
 | .normal => some (wTo (duJ h d2 (i + 1)))
 | _ => some (wTo (duJ h d 8)) }
noncomputable def co1 (h d : List Int) (i k : Nat) (d2 : List Int) : Pc := { c := cB (cB (cR (cB (cL (cR duC))))), st := duK h d i k, kb := kb0, k := fun x_ _ => match x_ with
 | .normal => some (wTo (duK h d2 i (k + 1)))
 | _ => some (wTo (duK h d i 4)) }
theorem cg9 (l : List Int) (p : List Int) (h : List Int) (n : Nat) (d : List Int) :
  f4 zp (bx5 l p h n d) [] = (some (.agg [.seg .u8 32 d], [], [T zp 136 [.ros 1 (List.length l) (ib l) false] [] (.sl (.o 320) 1 0 0 0 (List.length p) none) [(.o 320, .rows 1 (List.length p) (ib p) true)], i5 zp none 0 (cB (cB (cR (cL (cR (cR (cR (f8 (Bd.f (bx5 l p h n d)))))))))) (n + 1) (St.mk (mkT 47 [(2, .ptr (.o 2) 0 0 0 0), (3, .ptr (.o 0) 0 0 0 0), (4, .sl (.o 1) 1 0 0 0 (List.length p) none), (5, .int .i64 0)]) [(.o 0, .flat [.seg .u32 8 [(1779033703 : Int), (3144134277 : Int), (1013904242 : Int), (2773480762 : Int), (1359893119 : Int), (2600822924 : Int), (528734635 : Int), (1541459225 : Int)]]), (.o 1, .rows 1 (List.length p) (ib p) true), (.o 2, .flat [.seg .u8 32 v7])] 3 []) (.exit 0) (St.mk (mkT 47 [(2, .ptr (.o 2) 0 0 0 0), (3, .ptr (.o 0) 0 0 0 0), (4, .sl (.o 1) 1 0 0 0 (List.length p) none), (5, .int .i64 ((64 : Int) * (↑n : Int)))]) [(.o 0, .flat [.seg .u32 8 h]), (.o 1, .rows 1 (List.length p) (ib p) true), (.o 2, .flat [.seg .u8 32 v7])] 3 []), q (8 : Nat), q ([(1779033703 : Int), (3144134277 : Int), (1013904242 : Int), (2773480762 : Int), (1359893119 : Int), (2600822924 : Int), (528734635 : Int), (1541459225 : Int)]), q (List.length p), ∀ (k : Nat), k < List.length p → [V.int .u8 (List.getD p k (0 : Int))] = [V.int .u8 (List.getD p k (0 : Int))], true = false → true = false, q (32 : Nat), z32 = v7, q0, q0, q0, q0, q0, q0, q0, q0, q0, q (List.length p), (none : Option Nat) = none ∨ (none : Option Nat) = none, q1, i5 zp none 0 (cB (cB (cR (cL (cR (cR (cR (cR (cR (f8 (Bd.f (bx5 l p h n d)))))))))))) 9 (St.mk (mkT 47 [(2, .ptr (.o 2) 0 0 0 0), (3, .ptr (.o 0) 0 0 0 0), (6, .ptr (.o 3) 0 0 0 0), (7, .int .i64 0)]) [(.o 0, .flat [.seg .u32 8 h]), (.o 2, .flat [.seg .u8 32 v7]), (.o 3, .flat [.seg .u8 32 v7])] 4 []) (.exit 2) (St.mk (mkT 47 [(2, .ptr (.o 2) 0 0 0 0), (3, .ptr (.o 0) 0 0 0 0), (6, .ptr (.o 3) 0 0 0 0), (7, .int .i64 8)]) [(.o 0, .flat [.seg .u32 8 h]), (.o 2, .flat [.seg .u8 32 v7]), (.o 3, .flat [.seg .u8 32 d])] 4 []), q (8 : Nat), q h, q (32 : Nat), q v7, q (32 : Nat), z32 = v7, q0, q0, q0, q0, q0, q0, q0, q0, q0, q1]) : Option (V × c5 × List Prop)) := by kernel_rfl
theorem b7_ (p : List Int) (h : List Int) (i : Nat) (h2 : List Int) (n : Nat) :
  i6 zp (co0 p h i h2 n) [true] = (some (.normal, St.mk (mkT 47 [(2, .ptr (.o 2) 0 0 0 0), (3, .ptr (.o 0) 0 0 0 0), (4, .sl (.o 1) 1 0 0 0 (List.length p) none), (5, .int .i64 ((64 : Int) * (↑(i + 1) : Int)))]) [(.o 0, .flat [.seg .u32 8 h2]), (.o 1, .rows 1 (List.length p) (ib p) true), (.o 2, .flat [.seg .u8 32 v7])] 3 [], [decide ((64 : Int) * (↑i : Int) < (↑(List.length p) : Int)) = true, InR .i64 ((64 : Int) * (↑i : Int) + (64 : Int)), (0 : Int) ≤ (64 : Int) * (↑i : Int) + (64 : Int) ∧ (64 : Int) * (↑i : Int) + (64 : Int) ≤ (↑(i3 none (List.length p)) : Int), (0 : Int) ≤ (64 : Int) * (↑i : Int) ∧ (64 : Int) * (↑i : Int) ≤ (↑(i3 (some ((64 : Int) * (↑i : Int) + (64 : Int))) (List.length p)) : Int), Int.toNat ((64 : Int) * (↑i : Int)) = (0 : Nat) ∨ Int.toNat ((64 : Int) * (↑i : Int)) < i3 none (List.length p), T zp 137 [.agg [.seg .u32 8 h], .sl (.o 1) 1 (R0 0 (some ((64 : Int) * (↑i : Int)))) 0 0 (i3 (some ((64 : Int) * (↑i : Int) + (64 : Int))) (List.length p) - i3 (some ((64 : Int) * (↑i : Int))) 0) none] [(.o 1, .rows 1 (List.length p) (ib p) true)] (.agg [.seg .u32 8 h2]) [(.o 1, .rows 1 (List.length p) (ib p) true)], InR .i64 ((64 : Int) * (↑i : Int) + (64 : Int)), q (8 : Nat), q h2, q (List.length p), ∀ (k : Nat), k < List.length p → [V.int .u8 (List.getD p k (0 : Int))] = [V.int .u8 (List.getD p k (0 : Int))], true = false → true = false, q (32 : Nat), q v7, q0, q0, q0, q0, q0, q0, q0, q0, q0, q (List.length p), (none : Option Nat) = none ∨ (none : Option Nat) = none, (64 : Int) * (↑i : Int) + (64 : Int) = (64 : Int) * (↑(i + (1 : Nat)) : Int)]) : Option (Exit × St × List Prop)) := by kernel_rfl
theorem b6_ (p : List Int) (h : List Int) (i : Nat) (h2 : List Int) (n : Nat) :
  i6 zp (co0 p h i h2 n) [false] = (some (.exit 0, St.mk (mkT 47 [(2, .ptr (.o 2) 0 0 0 0), (3, .ptr (.o 0) 0 0 0 0), (4, .sl (.o 1) 1 0 0 0 (List.length p) none), (5, .int .i64 ((64 : Int) * (↑n : Int)))]) [(.o 0, .flat [.seg .u32 8 h]), (.o 1, .rows 1 (List.length p) (ib p) true), (.o 2, .flat [.seg .u8 32 v7])] 3 [], [decide ((64 : Int) * (↑i : Int) < (↑(List.length p) : Int)) = false, q (8 : Nat), q h, q (List.length p), ∀ (k : Nat), k < List.length p → [V.int .u8 (List.getD p k (0 : Int))] = [V.int .u8 (List.getD p k (0 : Int))], true = false → true = false, q (32 : Nat), q v7, q0, q0, q0, q0, q0, q0, q0, q0, q0, q (List.length p), (none : Option Nat) = none ∨ (none : Option Nat) = none, (64 : Int) * (↑i : Int) = (64 : Int) * (↑n : Int)]) : Option (Exit × St × List Prop)) := by kernel_rfl
theorem b9_ (h : List Int) (d : List Int) (i : Nat) (d2 : List Int) :
  i6 zp (bH7 h d i d2) [true] = (some (.normal, St.mk (mkT 47 [(2, .ptr (.o 2) 0 0 0 0), (3, .ptr (.o 0) 0 0 0 0), (6, .ptr (.o 3) 0 0 0 0), (7, .int .i64 (↑(i + 1) : Int))]) [(.o 0, .flat [.seg .u32 8 h]), (.o 2, .flat [.seg .u8 32 v7]), (.o 3, .flat [.seg .u8 32 d2])] 4 [], [decide ((↑i : Int) < (8 : Int)) = true, i5 zp none 0 (cB (cB (cR (cB (cL (cR (Pc.c (bH7 h d i d2)))))))) 5 (St.mk (mkT 47 [(2, .ptr (.o 2) 0 0 0 0), (3, .ptr (.o 0) 0 0 0 0), (6, .ptr (.o 3) 0 0 0 0), (7, .int .i64 ↑i), (8, .int .i64 0)]) [(.o 0, .flat [.seg .u32 8 h]), (.o 2, .flat [.seg .u8 32 v7]), (.o 3, .flat [.seg .u8 32 d])] 4 []) (.exit 4) (St.mk (mkT 47 [(2, .ptr (.o 2) 0 0 0 0), (3, .ptr (.o 0) 0 0 0 0), (6, .ptr (.o 3) 0 0 0 0), (7, .int .i64 ↑i), (8, .int .i64 4)]) [(.o 0, .flat [.seg .u32 8 h]), (.o 2, .flat [.seg .u8 32 v7]), (.o 3, .flat [.seg .u8 32 d2])] 4 []), q (8 : Nat), q h, q (32 : Nat), q v7, q (32 : Nat), q d, q0, q0, q0, q0, q0, q0, q0, q0, q0, q (↑i : Int), q1, InR .i64 ((↑i : Int) + (1 : Int)), q (8 : Nat), q h, q (32 : Nat), q v7, q (32 : Nat), q d2, q0, q0, q0, q0, q0, q0, q0, q0, q0, (↑i : Int) + (1 : Int) = (↑(i + (1 : Nat)) : Int)]) : Option (Exit × St × List Prop)) := by kernel_rfl
theorem b8_ (h : List Int) (d : List Int) (i : Nat) (d2 : List Int) :
  i6 zp (bH7 h d i d2) [false] = (some (.exit 2, St.mk (mkT 47 [(2, .ptr (.o 2) 0 0 0 0), (3, .ptr (.o 0) 0 0 0 0), (6, .ptr (.o 3) 0 0 0 0), (7, .int .i64 8)]) [(.o 0, .flat [.seg .u32 8 h]), (.o 2, .flat [.seg .u8 32 v7]), (.o 3, .flat [.seg .u8 32 d])] 4 [], [decide ((↑i : Int) < (8 : Int)) = false, q (8 : Nat), q h, q (32 : Nat), q v7, q (32 : Nat), q d, q0, q0, q0, q0, q0, q0, q0, q0, q0, (↑i : Int) = (8 : Int)]) : Option (Exit × St × List Prop)) := by kernel_rfl
theorem b_1 (h : List Int) (d : List Int) (i : Nat) (k : Nat) (d2 : List Int) :
  i6 zp (co1 h d i k d2) [true] = (some (.normal, St.mk (mkT 47 [(2, .ptr (.o 2) 0 0 0 0), (3, .ptr (.o 0) 0 0 0 0), (6, .ptr (.o 3) 0 0 0 0), (7, .int .i64 ↑i), (8, .int .i64 (↑(k + 1) : Int))]) [(.o 0, .flat [.seg .u32 8 h]), (.o 2, .flat [.seg .u8 32 v7]), (.o 3, .flat [.seg .u8 32 d2])] 4 [], [decide ((↑k : Int) < (4 : Int)) = true, InR .i64 ((4 : Int) * (↑i : Int)), InR .i64 ((4 : Int) * (↑i : Int) + (↑k : Int)), (0 : Int) ≤ (↑i : Int) ∧ (↑i : Int) < (8 : Int), (0 : Nat) + Int.toNat (↑i : Int) < (8 : Nat), InR .i64 ((8 : Int) * (↑k : Int)), InR .i64 ((24 : Int) - (8 : Int) * (↑k : Int)), (0 : Int) ≤ (24 : Int) - (8 : Int) * (↑k : Int) ∧ (24 : Int) - (8 : Int) * (↑k : Int) ≤ (32 : Int), (0 : Int) ≤ (4 : Int) * (↑i : Int) + (↑k : Int) ∧ (4 : Int) * (↑i : Int) + (↑k : Int) < (32 : Int), (0 : Nat) + Int.toNat ((4 : Int) * (↑i : Int) + (↑k : Int)) < (32 : Nat), InR .i64 ((↑k : Int) + (1 : Int)), q (8 : Nat), q h, q (32 : Nat), q v7, q (32 : Nat), List.set d ((0 : Nat) + Int.toNat ((4 : Int) * (↑i : Int) + (↑k : Int))) (IntKind.wrap .u8 (List.getD h ((0 : Nat) + Int.toNat (↑i : Int)) (0 : Int) / (2 : Int) ^ Int.toNat ((24 : Int) - (8 : Int) * (↑k : Int)))) = d2, q0, q0, q0, q0, q0, q0, q0, q0, q0, q (↑i : Int), (↑k : Int) + (1 : Int) = (↑(k + (1 : Nat)) : Int)]) : Option (Exit × St × List Prop)) := by kernel_rfl
theorem b_0 (h : List Int) (d : List Int) (i : Nat) (k : Nat) (d2 : List Int) :
  i6 zp (co1 h d i k d2) [false] = (some (.exit 4, St.mk (mkT 47 [(2, .ptr (.o 2) 0 0 0 0), (3, .ptr (.o 0) 0 0 0 0), (6, .ptr (.o 3) 0 0 0 0), (7, .int .i64 ↑i), (8, .int .i64 4)]) [(.o 0, .flat [.seg .u32 8 h]), (.o 2, .flat [.seg .u8 32 v7]), (.o 3, .flat [.seg .u8 32 d])] 4 [], [decide ((↑k : Int) < (4 : Int)) = false, q (8 : Nat), q h, q (32 : Nat), q v7, q (32 : Nat), q d, q0, q0, q0, q0, q0, q0, q0, q0, q0, q (↑i : Int), (↑k : Int) = (4 : Int)]) : Option (Exit × St × List Prop)) := by kernel_rfl
theorem cq8 {p h : List Int} (hh : h.length = 8) {i X Y : Nat} (hX : X = 64 * i) (hY : Y = 64) (hp : 64 * i + 64 ≤ p.length) : T Tryz.prog 137 [.agg [.seg .u32 8 h], .sl (.o 1) 1 X 0 0 Y none] [(.o 1, obB p)] (.agg [.seg .u32 8 (blk h (U9 p i))]) [(.o 1, obB p)] := by
 have hl := bC2 p i
 refine T.lendG (T_bt hh hl) rfl ?_ (G3.agg rfl) (by simp) (by rintro n ⟨b, hb⟩; cases hb)
 simp only [All, hl]; and_intros
 all_goals first | exact True.intro | (intro k hk; show [V.int .u8 (p.getD (X + k) 0)] = [V.int .u8 ((U9 p i).getD k 0)]; rw [bC1 (by omega), hX]) | (with_reducible assumption) | omega | (intro h; cases h; done)
theorem duKL (h d : List Int) (i : Nat) (hi : i < 8) : i5 Tryz.prog none 0 (cB (cB (cR (cB (cL (cR duC)))))) (4 + 1) (duK h (dA h (4 * i + 0)) i 0) (.exit 4) (duK h (dA h (4 * i + 4)) i 4) := by
 have hstep : ∀ k, k < 4 → R Tryz.prog none 0 (cB (cB (cR (cB (cL (cR duC)))))) (duK h (dA h (4 * i + k)) i k) .normal (duK h (dA h (4 * i + (k + 1))) i (k + 1)) := by
  intro k hk
  have e1 : Int.toNat (4 * (i : Int) + (k : Int)) = 4 * i + k := by omega
  have e2 : Int.toNat (24 - 8 * (k : Int)) = 24 - 8 * k := by omega
  have e3 : dA h (4 * i + (k + 1)) = (dA h (4 * i + k)).set (4 * i + k) (IntKind.wrap .u8 (h.getD i 0 / 2 ^ (24 - 8 * k))) := by
   show (dA h (4 * i + k)).set (4 * i + k) (w8 (h.getD ((4 * i + k) / 4) 0 / 2 ^ (24 - 8 * ((4 * i + k) % 4)))) = _
   rw [show (4 * i + k) / 4 = i by omega, show (4 * i + k) % 4 = k by omega]; rfl
  refine f9 NG MO _ (b_1 h (dA h (4 * i + k)) i k (dA h (4 * i + (k + 1)))) ?_ (Nat.zero_le _)
  simp only [All, e1, e2, Int.toNat_natCast, Nat.zero_add]; and_intros
  all_goals first | exact True.intro | exact e3.symm | (with_reducible assumption) | (rw [decide_eq_true_eq]; omega) | (simp only [IntKind.min, IntKind.max, IntKind.signed, IntKind.bits, if_true]; omega) | omega
 have hend : R Tryz.prog none 0 (cB (cB (cR (cB (cL (cR duC)))))) (duK h (dA h (4 * i + 4)) i 4) (.exit 4) (duK h (dA h (4 * i + 4)) i 4) := by
  refine f9 NG MO _ (b_0 h (dA h (4 * i + 4)) i 4 []) ?_ (Nat.zero_le _)
  simp only [All]; and_intros
  all_goals first | exact True.intro | (rw [decide_eq_false_iff_not]; omega) | omega
 exact i5.inv (fun k => duK h (dA h (4 * i + k)) i k) 4 hstep hend (by simp)
theorem duJL (h : List Int) : i5 Tryz.prog none 0 duC (8 + 1) (duJ h (dA h (4 * 0)) 0) (.exit 2) (duJ h (dA h (4 * 8)) 8) := by
 have hstep : ∀ i, i < 8 → R Tryz.prog none 0 duC (duJ h (dA h (4 * i)) i) .normal (duJ h (dA h (4 * (i + 1))) (i + 1)) := by
  intro i hi
  have hK := duKL h [] i hi
  refine f9 NG MO _ (b9_ h (dA h (4 * i)) i (dA h (4 * (i + 1)))) ?_ (Nat.zero_le _)
  simp only [All]; and_intros
  all_goals first | exact True.intro | exact hK | (rw [decide_eq_true_eq]; omega) | (simp only [IntKind.min, IntKind.max, IntKind.signed, IntKind.bits, if_true]; omega) | omega
 have hend : R Tryz.prog none 0 duC (duJ h (dA h (4 * 8)) 8) (.exit 2) (duJ h (dA h (4 * 8)) 8) := by
  refine f9 NG MO _ (b8_ h (dA h (4 * 8)) 8 []) ?_ (Nat.zero_le _)
  simp only [All]; and_intros
  all_goals first | exact True.intro | (rw [decide_eq_false_iff_not]; omega) | omega
 exact i5.inv (fun i => duJ h (dA h (4 * i)) i) 8 hstep hend (by simp)
theorem T_du (l : List Int) (hb : l.length ≤ 10000000000) : T Tryz.prog 99 [rb l] [] (.agg [.seg .u8 32 (C9 l)]) [] := by
 have hP : T Tryz.prog 136 [rb l] [] (obS 320 (T1 l)) [(.o 320, obB (T1 l))] := by
  obtain ⟨σ, hσ, h3⟩ := T.at (T_pa l hb) [.o 0] [.o 320] (by decide) (by decide) rfl
  simp only [List.map_cons, List.map_nil, List.cons.injEq, and_true] at hσ
  simpa [V.rens, V.ren, c5.ren, Sy.B.ren, obS, obB, rb, hσ] using h3
 have hlen := bE_ l
 have hpl : (T1 l).length ≤ 20000000000 := by
  have : E1 (l.length + 1) < 64 := by unfold E1; omega
  simp only [T1, List.length_append, List.length_replicate, List.length_cons, List.length_nil, av9]
  omega
 have hs : C9 l = dA (hK (T1 l) ((T1 l).length / 64)) (4 * 8) := rfl
 generalize T1 l = p at hP hlen hpl hs
 have hA : i5 Tryz.prog none 0 (cB (cB (cR (cL (cR (cR (cR (f8 Tryz.f99)))))))) (p.length / 64 + 1) (duI p (hK p 0) 0) (.exit 0) (duI p (hK p (p.length / 64)) (p.length / 64)) := by
  have hstep : ∀ i, i < p.length / 64 → R Tryz.prog none 0 (cB (cB (cR (cL (cR (cR (cR (f8 Tryz.f99)))))))) (duI p (hK p i) i) .normal (duI p (hK p (i + 1)) (i + 1)) := by
   intro i hi
   have e1 : R0 0 (some (64 * (i : Int))) = 64 * i := by show 0 + (64 * (i : Int)).toNat = _; omega
   have e2 : i3 (some (64 * (i : Int) + 64)) p.length = 64 * i + 64 := by show (64 * (i : Int) + 64).toNat = _; omega
   have e3 : i3 (some (64 * (i : Int))) 0 = 64 * i := by show (64 * (i : Int)).toNat = _; omega
   have e4 : i3 (none : Option Int) p.length = p.length := rfl
   have hB := cq8 (p := p) (bp8 p i) (i := i) (X := 64 * i) (Y := 64 * i + 64 - 64 * i) rfl (by omega) (by omega)
   refine f9 NG MO _ (b7_ p (hK p i) i (hK p (i + 1)) 0) ?_ (Nat.zero_le _)
   simp only [All, e1, e2, e3, e4]; and_intros
   all_goals first | exact True.intro | exact hB | (rw [decide_eq_true_eq]; omega) | (intro _ _; exact True.intro) | (simp only [IntKind.min, IntKind.max, IntKind.signed, IntKind.bits, if_true]; omega) | omega | (intro h; exact h) | exact .inl True.intro
  have hend : R Tryz.prog none 0 (cB (cB (cR (cL (cR (cR (cR (f8 Tryz.f99)))))))) (duI p (hK p (p.length / 64)) (p.length / 64)) (.exit 0) (duI p (hK p (p.length / 64)) (p.length / 64)) := by
   refine f9 NG MO _ (b6_ p (hK p (p.length / 64)) (p.length / 64) [] (p.length / 64)) ?_ (Nat.zero_le _)
   simp only [All]; and_intros
   all_goals first | exact True.intro | (rw [decide_eq_false_iff_not]; omega) | (intro _ _; exact True.intro) | (intro h; exact h) | exact .inl True.intro
  exact i5.inv (fun i => duI p (hK p i) i) (p.length / 64) hstep hend (by simp)
 have hJ := duJL (hK p (p.length / 64))
 rw [← hs] at hJ
 generalize hK p (p.length / 64) = h at hA hJ
 generalize p.length / 64 = n at hA
 generalize C9 l = d at hJ
 refine f5 (cg9 l p h n d) Tryz.func99 ?_
 simp only [All]; and_intros
 all_goals first | exact True.intro | exact hP | exact hA | exact hJ | rfl | (intro _ _; exact True.intro) | (intro h; exact h) | exact .inl True.intro
def rbs (n : Nat) (ls : Nat → List Int) : V := .ros 1 n (fun k => [rb (ls k)]) false
noncomputable def bdR2 (ls : Nat → List Int) (H1 W1 : List Int) (n1 : Int) (H2 W2 : List Int) (n2 : Int) (d H3 W3 : List Int) (n3 : Int) : Bd := { f := Tryz.f82, args := [rbs 2 ls], base := 1, kb := { db := suDb H1 W1 n1 H2 W2 n2 d H3 W3 n3, lp := fun _ _ => [(True, .rounds 3)], lit := true } }
def byI (d L : List Int) (k : Nat) : St := ⟨mkT 16 [(1, p0K 0), (3, obS 1 L), (4, .int .i64 (k : Nat))], [(.o 0, .flat [.seg .u8 32 d]), (.o 1, obB L)], 2, []⟩
noncomputable def cg4 (d : List Int) : Bd := { f := Tryz.f101, args := [.agg [.seg .u8 32 d]], kb := { db := fun _ _ _ _ => [], fx := fun id _ => bif Nat.beq id 2 then [.virt 3 1] else [], lp := fun _ t => [(True, .loop (32 + 1) (B6 [(.o 0, nmV (r9 t.tmps 1)), (.o 1, nmV (r9 t.tmps 3))] (byI d [] 0)) (.exit 0) (byI d d 32))] }, names := fun _ => [.o 1] }
noncomputable def cm1 (d L : List Int) (k : Nat) (L2 : List Int) : Pc := { c := cB (cB (cR (cL (cR (cR (f8 Tryz.f101)))))), st := byI d L k, kb := kb0, k := fun x_ t => match x_ with
 | .normal => some (B6 [(.o 1, nmV (r9 t.tmps 3))] (byI d L2 (k + 1)))
 | _ => some (wTo (byI d L 32)) }
theorem ci6 (ls : Nat → List Int) (H1 : List Int) (W1 : List Int) (n1 : Int) (H2 : List Int) (W2 : List Int) (n2 : Int) (d : List Int) (H3 : List Int) (W3 : List Int) (n3 : Int) :
  f4 zp (bdR2 ls H1 W1 n1 H2 W2 n2 d H3 W3 n3) [] = (some (.agg [.seg .u8 32 d], [], [T zp 103 [] [] (.ptr (.o 65) 0 0 0 0) [(.o 65, .flat [.seg .u32 8 [(1779033703 : Int), (3144134277 : Int), (1013904242 : Int), (2773480762 : Int), (1359893119 : Int), (2600822924 : Int), (528734635 : Int), (1541459225 : Int)], .seg .u8 64 ax9, .int .i64 0])], q2, (0 : Int) ≤ (0 : Int) ∧ (0 : Int) < (2 : Int), T zp 104 [.ptr (.o 65) 0 0 0 0, .ros 1 (List.length (ls 0)) (ib (ls 0)) false] [(.o 65, .flat [.seg .u32 8 [(1779033703 : Int), (3144134277 : Int), (1013904242 : Int), (2773480762 : Int), (1359893119 : Int), (2600822924 : Int), (528734635 : Int), (1541459225 : Int)], .seg .u8 64 ax9, .int .i64 0])] (.tup []) [(.o 65, .flat [.seg .u32 8 H1, .seg .u8 64 W1, .int .i64 n1])], InR .i64 (1 : Int), q2, (0 : Int) ≤ (1 : Int) ∧ (1 : Int) < (2 : Int), T zp 104 [.ptr (.o 65) 0 0 0 0, .ros 1 (List.length (ls 1)) (ib (ls 1)) false] [(.o 65, .flat [.seg .u32 8 H1, .seg .u8 64 W1, .int .i64 n1])] (.tup []) [(.o 65, .flat [.seg .u32 8 H2, .seg .u8 64 W2, .int .i64 n2])], InR .i64 (2 : Int), q false, T zp 105 [.ptr (.o 65) 0 0 0 0] [(.o 65, .flat [.seg .u32 8 H2, .seg .u8 64 W2, .int .i64 n2])] (.agg [.seg .u8 32 d]) [(.o 65, .flat [.seg .u32 8 H3, .seg .u8 64 W3, .int .i64 n3])]]) : Option (V × c5 × List Prop)) := by kernel_rfl
theorem cg5 (d : List Int) :
  f4 zp (cg4 d) [] = (some (.sl (.o 1) 1 0 0 0 (List.length d) none, [(.o 1, .rows 1 (List.length d) (ib d) true)], [i5 zp none 0 (cB (cB (cR (cL (cR (cR (f8 (Bd.f (cg4 d))))))))) 33 (St.mk (mkT 16 [(1, .ptr (.o 0) 0 0 0 0), (3, .sl (.o 1) 1 0 0 0 0 none), (4, .int .i64 0)]) [(.o 0, .flat [.seg .u8 32 d]), (.o 1, .rows 1 0 (ib []) true)] 2 []) (.exit 0) (St.mk (mkT 16 [(1, .ptr (.o 0) 0 0 0 0), (3, .sl (.o 1) 1 0 0 0 (List.length d) none), (4, .int .i64 32)]) [(.o 0, .flat [.seg .u8 32 d]), (.o 1, .rows 1 (List.length d) (ib d) true)] 2 []), q (32 : Nat), q d, (0 : Nat) = 0, ∀ (k : Nat), k < (0 : Nat) → [] = [V.int .u8 (0 : Int)], true = false → true = false, q0, q0, q0, q0, q0, q0, (0 : Nat) = 0, (none : Option Nat) = none ∨ (none : Option Nat) = none, q1]) : Option (V × c5 × List Prop)) := by kernel_rfl
theorem bX8 (d : List Int) (L : List Int) (k : Nat) (L2 : List Int) :
  i6 zp (cm1 d L k L2) [true] = (some (.normal, St.mk (mkT 16 [(1, .ptr (.o 0) 0 0 0 0), (3, .sl (.o 1) 1 0 0 0 (List.length L2) none), (4, .int .i64 (↑(k + 1) : Int))]) [(.o 0, .flat [.seg .u8 32 d]), (.o 1, .rows 1 (List.length L2) (ib L2) true)] 2 [], [decide ((↑k : Int) < (32 : Int)) = true, (0 : Int) ≤ (↑k : Int) ∧ (↑k : Int) < (32 : Int), (0 : Nat) + Int.toNat (↑k : Int) < (32 : Nat), q (List.length L), 1 ≤ (1 : Nat), ∀ (k_1 : Nat), k_1 < (1 : Nat) → s6 (j4 [[V.int .u8 (List.getD d ((0 : Nat) + Int.toNat (↑k : Int)) (0 : Int))]] ((0 : Nat) + k_1)) = true, (List.length L + (1 : Nat)) * (1 : Nat) ≤ (140737488355328 : Nat), InR .i64 ((↑k : Int) + (1 : Int)), q (32 : Nat), q d, List.length L + (1 : Nat) = List.length L2, ∀ (k_1 : Nat), k_1 < List.length L + (1 : Nat) → r6 (List.length L) (ib L) (fun k_2 => j4 [[V.int .u8 (List.getD d ((0 : Nat) + Int.toNat (↑k : Int)) (0 : Int))]] ((0 : Nat) + k_2)) k_1 = [V.int .u8 (List.getD L2 k_1 (0 : Int))], true = false → true = false, q0, q0, q0, q0, q0, q0, List.length L + (1 : Nat) = List.length L2, (none : Option Nat) = none ∨ (none : Option Nat) = none, (↑k : Int) + (1 : Int) = (↑(k + (1 : Nat)) : Int)]) : Option (Exit × St × List Prop)) := by kernel_rfl
theorem bX7 (d : List Int) (L : List Int) (k : Nat) (L2 : List Int) :
  i6 zp (cm1 d L k L2) [false] = (some (.exit 0, St.mk (mkT 16 [(1, .ptr (.o 0) 0 0 0 0), (3, .sl (.o 1) 1 0 0 0 (List.length L) none), (4, .int .i64 32)]) [(.o 0, .flat [.seg .u8 32 d]), (.o 1, .rows 1 (List.length L) (ib L) true)] 2 [], [decide ((↑k : Int) < (32 : Int)) = false, q (32 : Nat), q d, q (List.length L), ∀ (k : Nat), k < List.length L → [V.int .u8 (List.getD L k (0 : Int))] = [V.int .u8 (List.getD L k (0 : Int))], true = false → true = false, q0, q0, q0, q0, q0, q0, q (List.length L), (none : Option Nat) = none ∨ (none : Option Nat) = none, (↑k : Int) = (32 : Int)]) : Option (Exit × St × List Prop)) := by kernel_rfl
theorem bK8 (ls : Nat → List Int) (hb : (ls 0).length + (ls 1).length ≤ 10000000000) : T Tryz.prog 82 [rbs 2 ls] [] (.agg [.seg .u8 32 (C9 (ls 0 ++ ls 1))]) [] := by
 have hB := T_be
 obtain ⟨H1, W1, hI1, hT1⟩ := bK9 (bW4 (W := ax9) (by simp [ax9])) (ls 0) (by simp; omega) 65
 rw [List.nil_append] at hI1
 rw [List.length_nil, Nat.zero_add] at hT1
 obtain ⟨H2, W2, hI2, hT2⟩ := bK9 hI1 (ls 1) (by omega) 65
 obtain ⟨H3, W3, n3, hT3⟩ := cr0 hI2 (by rw [List.length_append]; omega) 65
 rw [List.length_append] at hT3
 refine f5 (ci6 ls H1 W1 ((ls 0).length : Nat) H2 W2 (((ls 0).length + (ls 1).length : Nat) : Int) (C9 (ls 0 ++ ls 1)) H3 W3 n3) Tryz.func82 ?_
 simp only [All]; and_intros
 all_goals first | exact True.intro | exact hB | exact hT1 | exact hT2 | exact hT3 | (simp only [IntKind.min, IntKind.max, IntKind.signed, IntKind.bits, if_true]; omega) | omega
theorem T_by {d : List Int} (hd : d.length = 32) : T Tryz.prog 101 [.agg [.seg .u8 32 d]] [] (obS 1 d) [(.o 1, obB d)] := by
 have hl : ∀ k, k ≤ 32 → (d.take k).length = k := fun k hk => by rw [List.length_take]; omega
 have hL : i5 Tryz.prog none 0 (cB (cB (cR (cL (cR (cR (f8 Tryz.f101))))))) (32 + 1) (byI d (d.take 0) 0) (.exit 0) (byI d (d.take 32) 32) := by
  have hstep : ∀ k, k < 32 → R Tryz.prog none 0 (cB (cB (cR (cL (cR (cR (f8 Tryz.f101))))))) (byI d (d.take k) k) .normal (byI d (d.take (k + 1)) (k + 1)) := by
   intro k hk
   have e1 := hl k (by omega)
   have e2 := hl (k + 1) (by omega)
   have hc := ctb (d.take k) (d.getD k 0)
   rw [show d.take k ++ [d.getD k 0] = d.take (k + 1) by rw [List.getD_eq_getElem?_getD, List.getElem?_eq_getElem (by omega), Option.getD_some, List.take_append_getElem]] at hc
   simp only [Nat.zero_add] at hc
   refine f9 NG MO _ (bX8 d (d.take k) k (d.take (k + 1))) ?_ (Nat.zero_le _)
   simp only [All, Int.toNat_natCast, Nat.zero_add]; and_intros
   all_goals first | exact True.intro | (intro j hj; exact hc j hj) | (intro j hj; exact aG9 _ j hj) | (with_reducible assumption) | (rw [decide_eq_true_eq]; omega) | (simp only [IntKind.min, IntKind.max, IntKind.signed, IntKind.bits, if_true]; omega) | omega | (intro h; exact h) | exact .inl True.intro
  have hend : R Tryz.prog none 0 (cB (cB (cR (cL (cR (cR (f8 Tryz.f101))))))) (byI d (d.take 32) 32) (.exit 0) (byI d (d.take 32) 32) := by
   refine f9 NG MO _ (bX7 d (d.take 32) 32 []) ?_ (Nat.zero_le _)
   simp only [All]; and_intros
   all_goals first | exact True.intro | (rw [decide_eq_false_iff_not]; omega) | (intro _ _; exact True.intro) | omega | (intro h; exact h) | exact .inl True.intro
  exact i5.inv (fun k => byI d (d.take k) k) 32 hstep hend (by simp)
 rw [List.take_zero, show d.take 32 = d from List.take_of_length_le (by omega)] at hL
 refine f5 (cg5 d) Tryz.func101 ?_
 simp only [All]; and_intros
 all_goals first | exact True.intro | exact hL | omega | (intro h; exact h) | exact .inl True.intro
def v8 (n k : Nat) : List UInt8 := (i4 8 n).drop ((i4 8 n).length - k)
def dgI (n k : Nat) : St := ⟨mkT 15 [(0, .int .i64 (n / 256 ^ k : Nat)), (3, sb (.o 1) (v8 n k))], [(.o 1, bs (v8 n k))], 2, []⟩
def dgS (n : Nat) (b : Bool) : St := ⟨mkT 15 ((0, .int .i64 (n : Nat)) :: (if b then [(3, .snil)] else [])), [], 1, []⟩
noncomputable def pcDa (n : Nat) : Pc := { c := cL (f8 Tryz.f81), st := ⟨[.int .i64 (n : Nat)] ++ List.replicate 14 (.tup []), [], 1, []⟩, p := 1, kb := kb0, k := fun _ _ => some (wTo (dgS n false)) }
noncomputable def pcDb (n : Nat) : Pc := { c := cL (cR (f8 Tryz.f81)), st := dgS n false, p := 1, kb := kb0, k := fun _ _ => some (wTo (dgS n true)) }
noncomputable def cm4 (n : Nat) : Pc := { c := cR (cR (f8 Tryz.f81)), st := dgS n true, p := 1, kb := { db := fun _ _ _ _ => [], lp := fun _ t => match r9 t.tmps 3 with | .sl a _ _ _ _ _ _ => [(True, .loop ((i4 8 n).length + 1) (B6 [(.o 1, a)] (dgI n 0)) (.exit 0) (dgI n (i4 8 n).length))] | _ => [], fx := fun id _ => bif Nat.beq id 2 then [.virt 3 1] else [] }, k := kSb 2 63 (i4 8 n) }
noncomputable def cm6 (n k : Nat) : Pc := { c := cB (cB (cL (cR (cR (f8 Tryz.f81))))), st := dgI n k, p := 1, kb := kb0, k := fun e t => match e with
 | .normal => match r9 t.tmps 3 with
  | .sl a _ _ _ _ _ _ => some (B6 [(.o 1, a)] (dgI n (k + 1)))
  | _ => none
 | _ => some (wTo (dgI n k)) }
noncomputable def bdRp (n : Nat) (l : List UInt8) : Bd := { f := Tryz.f37, args := [sb (.o 0) l, .int .i64 n], pre := [(.o 0, bs l)], base := 1, kb := { db := fun k _ _ lo => bif Nat.beq k 81 then [{ val := sb (.o lo) (i4 8 n), post := [(.o lo, bs (i4 8 n))] }] else [] }, names := fun _ => [.o 63], k := kSb 4 63 (l ++ j8 n) }
noncomputable def cv9 (n : Nat) : Bd := { f := Tryz.f37, args := [.snil, .int .i64 n], base := 1, kb := { db := fun k _ _ lo => bif Nat.beq k 81 then [{ val := sb (.o lo) (i4 8 n), post := [(.o lo, bs (i4 8 n))] }] else [] }, names := fun _ => [.o 63], k := kSb 4 63 (j8 n) }
theorem cm2 (n : Nat) :
  i6 zp (pcDa n) [] = (some (.normal, St.mk (mkT 15 [(0, .int .i64 ↑n)]) [] 1 [], [q (↑n : Int)]) : Option (Exit × St × List Prop)) := by kernel_rfl
theorem cm3 (n : Nat) :
  i6 zp (pcDb n) [] = (some (.normal, St.mk (mkT 15 [(0, .int .i64 ↑n), (3, .snil)]) [] 1 [], [q (↑n : Int)]) : Option (Exit × St × List Prop)) := by kernel_rfl
theorem cm5 (n : Nat) :
  i6 zp (cm4 n) [] = (some (.ret, St.mk (mkT 15 [(2, sb (.o 63) (i4 8 n))]) [(.o 63, bs (i4 8 n))] 130 [], [i5 zp none 1 (cB (cB (cL (Pc.c (cm4 n))))) (List.length (i4 8 n) + 1) (St.mk (mkT 15 [(0, .int .i64 (↑(n / 1) : Int)), (3, .sl (.o 1) 1 0 0 0 (List.length (v8 n 0)) none)]) [(.o 1, bs (v8 n 0))] 2 []) (.exit 0) (St.mk (mkT 15 [(0, .int .i64 (↑(n / 256 ^ List.length (i4 8 n)) : Int)), (3, .sl (.o 1) 1 0 0 0 (List.length (v8 n (List.length (i4 8 n)))) none)]) [(.o 1, bs (v8 n (List.length (i4 8 n))))] 2 []), (0 : Nat) = List.length (v8 n (0 : Nat)), ∀ (k : Nat), k < (0 : Nat) → [] = bl (v8 n (0 : Nat)) k, true = false → true = false, (↑n : Int) = (↑(n / 1) : Int), q0, q0, q0, (0 : Nat) = List.length (v8 n (0 : Nat)), (none : Option Nat) = none ∨ (none : Option Nat) = none, List.length (v8 n (List.length (i4 (8 : Nat) n))) = List.length (i4 (8 : Nat) n), ∀ (k : Nat), k < List.length (v8 n (List.length (i4 (8 : Nat) n))) → bl (v8 n (List.length (i4 (8 : Nat) n))) k = bl (i4 (8 : Nat) n) k, true = false → true = false, q0, q0, q0, List.length (v8 n (List.length (i4 (8 : Nat) n))) = List.length (i4 (8 : Nat) n), (none : Option Nat) = none ∨ (none : Option Nat) = none]) : Option (Exit × St × List Prop)) := by kernel_rfl
theorem bX_ (n : Nat) (k : Nat) :
  i6 zp (cm6 n k) [true] = (some (.normal, St.mk (mkT 15 [(0, .int .i64 (↑(n / 256 ^ (k + 1)) : Int)), (3, .sl (.o 1) 1 0 0 0 (List.length (v8 n (k + 1))) none)]) [(.o 1, bs (v8 n (k + 1)))] 2 [], [decide ((0 : Int) < (↑(n / (256 : Nat) ^ k) : Int)) = true, (0 : Int) ≤ (↑(n / (256 : Nat) ^ k) : Int) ∧ (0 : Int) < (256 : Int), q (1 : Nat), (0 : Nat) + List.length (v8 n k) ≤ List.length (v8 n k), ∀ (k_1 : Nat), k_1 < List.length (v8 n k) → true = true, ((1 : Nat) + List.length (v8 n k)) * (1 : Nat) ≤ (140737488355328 : Nat), (0 : Int) ≤ (↑(n / (256 : Nat) ^ k) : Int) ∧ (0 : Int) < (256 : Int) ∧ InR .i64 ((↑(n / (256 : Nat) ^ k) : Int) / (256 : Int)), (1 : Nat) + List.length (v8 n k) = List.length (v8 n (k + (1 : Nat))), ∀ (k_1 : Nat), k_1 < (1 : Nat) + List.length (v8 n k) → r6 (1 : Nat) (j4 [[V.int .u8 (IntKind.wrap .u8 ((↑(n / (256 : Nat) ^ k) : Int) % (256 : Int)))]]) (fun k_2 => bl (v8 n k) ((0 : Nat) + k_2)) k_1 = bl (v8 n (k + (1 : Nat))) k_1, true = false → true = false, (↑(n / (256 : Nat) ^ k) : Int) / (256 : Int) = (↑(n / (256 : Nat) ^ (k + (1 : Nat))) : Int), q0, q0, q0, (1 : Nat) + List.length (v8 n k) = List.length (v8 n (k + (1 : Nat))), (none : Option Nat) = none ∨ (none : Option Nat) = none]) : Option (Exit × St × List Prop)) := by kernel_rfl
theorem bX9 (n : Nat) (k : Nat) :
  i6 zp (cm6 n k) [false] = (some (.exit 0, St.mk (mkT 15 [(0, .int .i64 (↑(n / 256 ^ k) : Int)), (3, .sl (.o 1) 1 0 0 0 (List.length (v8 n k)) none)]) [(.o 1, bs (v8 n k))] 2 [], [decide ((0 : Int) < (↑(n / (256 : Nat) ^ k) : Int)) = false, q (List.length (v8 n k)), ∀ (k_1 : Nat), k_1 < List.length (v8 n k) → bl (v8 n k) k_1 = bl (v8 n k) k_1, true = false → true = false, q (↑(n / (256 : Nat) ^ k) : Int), q0, q0, q0, q (List.length (v8 n k)), (none : Option Nat) = none ∨ (none : Option Nat) = none]) : Option (Exit × St × List Prop)) := by kernel_rfl
theorem bS9 (n : Nat) (l : List UInt8) :
  f4 zp (bdRp n l) [false] = (some (.sl (.o 63) 1 0 0 0 (List.length (l ++ j8 n)) none, [(.o 63, bs (l ++ j8 n))], [q0, (0 : Nat) + List.length l ≤ List.length l, ∀ (k : Nat), k < List.length l → true = true, ((0 : Nat) + List.length l) * (1 : Nat) ≤ (140737488355328 : Nat), q false, T zp 81 [.int .i64 ↑n] [] (sb (.o 513) (i4 8 n)) [(.o 513, bs (i4 8 n))], q ((0 : Nat) + List.length l), 1 ≤ (1 : Nat), ∀ (k : Nat), k < (1 : Nat) → s6 (j4 [[V.int .u8 (IntKind.wrap .u8 (↑(List.length (i4 (8 : Nat) n)) : Int))]] ((0 : Nat) + k)) = true, ((0 : Nat) + List.length l + (1 : Nat)) * (1 : Nat) ≤ (140737488355328 : Nat), q ((0 : Nat) + List.length l + (1 : Nat)), (0 : Nat) + List.length (i4 (8 : Nat) n) ≤ List.length (i4 (8 : Nat) n), ∀ (k : Nat), k < List.length (i4 (8 : Nat) n) → true = true, ((0 : Nat) + List.length l + (1 : Nat) + List.length (i4 (8 : Nat) n)) * (1 : Nat) ≤ (140737488355328 : Nat), (0 : Nat) + List.length l + (1 : Nat) + List.length (i4 (8 : Nat) n) = List.length (l ++ j8 n), ∀ (k : Nat), k < (0 : Nat) + List.length l + (1 : Nat) + List.length (i4 (8 : Nat) n) → r6 ((0 : Nat) + List.length l + (1 : Nat)) (r6 ((0 : Nat) + List.length l) (r6 (0 : Nat) (j4 []) fun k => bl l ((0 : Nat) + k)) fun k => j4 [[V.int .u8 (IntKind.wrap .u8 (↑(List.length (i4 (8 : Nat) n)) : Int))]] ((0 : Nat) + k)) (fun k => bl (i4 (8 : Nat) n) ((0 : Nat) + k)) k = bl (l ++ j8 n) k, true = false → true = false, q0, q0, q0, (0 : Nat) + List.length l + (1 : Nat) + List.length (i4 (8 : Nat) n) = List.length (l ++ j8 n), (none : Option Nat) = none ∨ (none : Option Nat) = none]) : Option (V × c5 × List Prop)) := by kernel_rfl
theorem bA0 (n : Nat) :
  f4 zp (cv9 n) [false] = (some (.sl (.o 63) 1 0 0 0 (List.length (j8 n)) none, [(.o 63, bs (j8 n))], [q0, 0 ≤ (140737488355328 : Nat), q false, T zp 81 [.int .i64 ↑n] [] (sb (.o 513) (i4 8 n)) [(.o 513, bs (i4 8 n))], q 0, 1 ≤ (1 : Nat), ∀ (k : Nat), k < (1 : Nat) → s6 (j4 [[V.int .u8 (IntKind.wrap .u8 (↑(List.length (i4 (8 : Nat) n)) : Int))]] ((0 : Nat) + k)) = true, 1 ≤ (140737488355328 : Nat), q 1, (0 : Nat) + List.length (i4 (8 : Nat) n) ≤ List.length (i4 (8 : Nat) n), ∀ (k : Nat), k < List.length (i4 (8 : Nat) n) → true = true, (1 + List.length (i4 (8 : Nat) n)) * (1 : Nat) ≤ (140737488355328 : Nat), 1 + List.length (i4 (8 : Nat) n) = List.length (j8 n), ∀ (k : Nat), k < 1 + List.length (i4 (8 : Nat) n) → r6 1 (r6 0 (r6 (0 : Nat) (j4 []) fun x => []) fun k => j4 [[V.int .u8 (IntKind.wrap .u8 (↑(List.length (i4 (8 : Nat) n)) : Int))]] ((0 : Nat) + k)) (fun k => bl (i4 (8 : Nat) n) ((0 : Nat) + k)) k = bl (j8 n) k, true = false → true = false, q0, q0, q0, 1 + List.length (i4 (8 : Nat) n) = List.length (j8 n), (none : Option Nat) = none ∨ (none : Option Nat) = none]) : Option (V × c5 × List Prop)) := by kernel_rfl
theorem cl5 (n : Nat) : v8 n 0 = [] := by simp [v8]
theorem bq7 (n : Nat) : v8 n (i4 8 n).length = i4 8 n := by simp [v8]
theorem bq6 {n k : Nat} (h : k ≤ (i4 8 n).length) : (v8 n k).length = k := by simp [v8]; omega
theorem bW5 {n k : Nat} (h : n < 9223372036854775808) (hk : k < (i4 8 n).length) : v8 n (k + 1) = UInt8.ofNat (n / 256 ^ k % 256) :: v8 n k := by
 have hg := ak1 8 n ((i4 8 n).length - (k + 1)) (K9 h) (by omega)
 rw [show (i4 8 n).length - 1 - ((i4 8 n).length - (k + 1)) = k by omega] at hg
 have hi : (i4 8 n).length - (k + 1) < (i4 8 n).length := by omega
 rw [List.getElem?_eq_getElem hi, Option.some.injEq] at hg
 rw [v8, List.drop_eq_getElem_cons hi, hg, v8, show (i4 8 n).length - (k + 1) + 1 = (i4 8 n).length - k by omega]
theorem aQ4 {n : Nat} {f f' g g' : Nat → List V} (h : ∀ k, k < n → f k = f' k) (h' : ∀ k, g k = g' k) (k : Nat) : r6 n f g k = r6 n f' g' k := by
 unfold r6
 cases hb : Nat.blt k n with
 | true => exact h k (Nat.le_of_ble_eq_true hb)
 | false => exact h' _
theorem bn8 (l : List UInt8) {v : Int} {x : UInt8} (h : v = (x.toNat : Int)) (k : Nat) : r6 1 (j4 [[V.int .u8 v]]) (fun k => bl l (0 + k)) k = bl (x :: l) k := by
 rw [show x :: l = [x] ++ l from rfl, I2]
 refine aQ4 (n := 1) (fun j hj => ?_) (fun j => by rw [Nat.zero_add]) k
 rw [show j = 0 by omega, h]; rfl
theorem aU3 (l D : List UInt8) {v : Int} {x : UInt8} (h : v = (x.toNat : Int)) (k : Nat) : r6 (0 + l.length + 1) (r6 (0 + l.length) (r6 0 (j4 []) fun k => bl l (0 + k)) fun k => j4 [[V.int .u8 v]] (0 + k)) (fun k => bl D (0 + k)) k = bl (l ++ x :: D) k := by
 rw [show l ++ x :: D = (l ++ [x]) ++ D by simp, I2, List.length_append, List.length_singleton]
 simp only [Nat.zero_add]
 refine aQ4 (fun j hj => ?_) (fun _ => rfl) k
 have := ab6 l v x h j hj
 simp only [Nat.zero_add] at this
 exact this
theorem cq_ {n : Nat} (h : n < 9223372036854775808) : T Tryz.prog 81 [.int .i64 n] [] (sb (.o 63) (i4 8 n)) [(.o 63, bs (i4 8 n))] := by
 have h1 := F1 8 n (K9 h)
 have hL : i5 Tryz.prog none 1 (cB (cB (cL (cR (cR (f8 Tryz.f81)))))) ((i4 8 n).length + 1) (dgI n 0) (.exit 0) (dgI n (i4 8 n).length) := by
  refine i5.inv (dgI n) (i4 8 n).length (fun k hk => ?_) ?_ (by simp)
  ·refine f9 NG MO _ (bX_ n k) ?_ (show 1 ≤ 2 by decide)
   have hp : 0 < n / 256 ^ k := h1.2.2 k hk
   have hq : n / 256 ^ k ≤ n := Nat.div_le_self _ _
   have e := bW5 h hk
   have hl := bq6 (n := n) (k := k) (by omega)
   have hv : IntKind.wrap IntKind.u8 (((n / 256 ^ k : Nat) : Int) % 256) = ((UInt8.ofNat (n / 256 ^ k % 256)).toNat : Int) := by
    rw [show ((n / 256 ^ k : Nat) : Int) % 256 = ((n / 256 ^ k % 256 : Nat) : Int) from rfl, bv7]; simp
   have hd : ((n / 256 ^ k : Nat) : Int) / 256 = ((n / 256 ^ (k + 1) : Nat) : Int) := by
    rw [Nat.pow_succ, ← Nat.div_div_eq_div_mul]; rfl
   have hI : InR IntKind.i64 (((n / 256 ^ k : Nat) : Int) / 256) := by
    generalize n / 256 ^ k = q at hq
    simp [InR, IntKind.min, IntKind.max, IntKind.signed, IntKind.bits]; omega
   simp only [All]
   and_intros
   all_goals first | (rw [decide_eq_true_eq]; omega) | exact hd | exact hI.1 | exact hI.2 | (rw [e, List.length_cons]; omega) | (rw [e]; intro j _; exact bn8 _ hv j) | omega | trivial | (simp [IntKind.min, IntKind.max, IntKind.signed, IntKind.bits] <;> omega)
  ·refine f9 NG MO _ (bX9 n (i4 8 n).length) ?_ (show 1 ≤ 2 by decide)
   have hz := h1.2.1
   simp only [All]
   and_intros
   all_goals first | (rw [decide_eq_false_iff_not]; omega) | trivial | (simp; done)
 have ha := f9 NG MO _ (cm2 n) (by simp [All]) (Nat.le_refl _)
 have hb := f9 NG MO _ (cm3 n) (by simp [All]) (Nat.le_refl _)
 have hc := f9 NG MO _ (cm5 n) (by
  simp only [All]
  and_intros
  all_goals first | exact hL | trivial | (simp only [cl5]; rfl) | (simp only [bq7]; done) | (simp only [Nat.div_one]; done) | (intro k hk; omega) | (rw [bq7]; intro _ _; rfl)) (Nat.le_refl _)
 exact aN2 (c0 := []) Tryz.func81 (by kernel_rfl) (R.seq ha (R.seq hb hc)) (names := [.o 63]) (tl := none) rfl trivial (O1 (by kernel_rfl)) (by kernel_rfl)
theorem cb3 {n : Nat} (h : n < 9223372036854775808) {m : Nat} : T Tryz.prog 81 [.int .i64 n] [] (sb (.o m) (i4 8 n)) [(.o m, bs (i4 8 n))] := by
 obtain ⟨σ, hσ, h1⟩ := T.at (cq_ h) [.o 63] [.o m] (by simp) (by simp) rfl
 simp only [List.map_cons, List.map_nil, List.cons.injEq, and_true] at hσ
 simpa [V.rens, V.ren, sb, bs, c5.ren, B.ren, hσ] using h1
theorem ct5 {n : Nat} (h : n < 9223372036854775808) {l : List UInt8} (hl : l.length ≤ 70368744177664) : T Tryz.prog 37 [sb (.o 0) l, .int .i64 n] [(.o 0, bs l)] (sb (.o 63) (l ++ j8 n)) [(.o 63, bs (l ++ j8 n))] := by
 have h1 := F1 8 n (K9 h)
 have hv : IntKind.wrap IntKind.u8 ((i4 8 n).length : Int) = ((UInt8.ofNat (i4 8 n).length).toNat : Int) := as6 _
 refine f5 (bS9 n l) Tryz.func37 ?_
 simp only [All]
 and_intros
 all_goals first | exact cb3 h | omega | (intro k _; exact aU3 l (i4 8 n) hv k) | (intro k hk; rw [show k = 0 by omega]; rfl) | (simp [j8, IntKind.min, IntKind.max, IntKind.signed, IntKind.bits] <;> omega)
theorem T_rp {z : Int} (h : p9 z) {l : List UInt8} (hl : l.length ≤ 70368744177664) {a m : Nat} (hne : a ≠ m) : T Tryz.prog 37 [sb (.o a) l, .int .i64 z] [(.o a, bs l)] (sb (.o m) (l ++ c6 z)) [(.o m, bs (l ++ c6 z))] := by
 have e : ((z.toNat : Nat) : Int) = z := Int.toNat_of_nonneg h.1
 have h0 := ct5 (n := z.toNat) (by have := h.2; omega) hl
 rw [e] at h0
 obtain ⟨σ, hσ, h1⟩ := T.at h0 [.o 0, .o 63] [.o a, .o m] (by simp) (by simp [hne]) rfl
 simp only [List.map_cons, List.map_nil, List.cons.injEq, and_true] at hσ
 simpa [V.rens, V.ren, sb, bs, c5.ren, B.ren, hσ.1, hσ.2, c6] using h1
theorem ct4 {n : Nat} (h : n < 9223372036854775808) : T Tryz.prog 37 [.snil, .int .i64 n] [] (sb (.o 63) (j8 n)) [(.o 63, bs (j8 n))] := by
 have h1 := F1 8 n (K9 h)
 have hv : IntKind.wrap IntKind.u8 ((i4 8 n).length : Int) = ((UInt8.ofNat (i4 8 n).length).toNat : Int) := as6 _
 refine f5 (bA0 n) Tryz.func37 ?_
 simp only [All]
 and_intros
 all_goals first | exact cb3 h | omega | (intro k _; exact aU3 [] (i4 8 n) hv k) | (intro k hk; rw [show k = 0 by omega]; rfl) | (simp [j8, IntKind.min, IntKind.max, IntKind.signed, IntKind.bits] <;> omega)
theorem bO6 {z : Int} (h : p9 z) {m : Nat} : T Tryz.prog 37 [.snil, .int .i64 z] [] (sb (.o m) (c6 z)) [(.o m, bs (c6 z))] := by
 have e : ((z.toNat : Nat) : Int) = z := Int.toNat_of_nonneg h.1
 have h0 := ct4 (n := z.toNat) (by have := h.2; omega)
 rw [e] at h0
 obtain ⟨σ, hσ, h1⟩ := T.at h0 [.o 63] [.o m] (by simp) (by simp) rfl
 simp only [List.map_cons, List.map_nil, List.cons.injEq, and_true] at hσ
 simpa [V.rens, V.ren, sb, bs, c5.ren, B.ren, hσ, c6] using h1
end Go.Proofs.YtnmccoincblecaaGreat
namespace Sy
open Go
def x8 (x y : Int) : Int := n6 (fun _ x y => x ^^^ y) .u8 x y
def w6 (k : List Int) (x : Int) : List Int := (List.range 64).map fun i => x8 (k.getD i 0) x
def H4 (k : List Int) (x : Int) (j : Nat) : List Int := (List.range 64).map fun i => if i < j then x8 (k.getD i 0) x else k.getD i 0
theorem W8 (k : List Int) (x : Int) : (w6 k x).length = 64 := by simp [w6]
theorem aw3 (k : List Int) (x : Int) (j : Nat) : (H4 k x j).length = 64 := by simp [H4]
theorem bE7 (k : List Int) (x : Int) : H4 k x 64 = w6 k x := by
 unfold H4 w6
 apply List.map_congr_left
 intro i hi
 rw [if_pos (List.mem_range.1 hi)]
theorem bE8 (k : List Int) (x : Int) (j : Nat) {i : Nat} (h : i < 64) : (H4 k x j).getD i 0 = if i < j then x8 (k.getD i 0) x else k.getD i 0 := by
 rw [H4, List.getD_eq_getElem?_getD, List.getElem?_map, List.getElem?_range h]; rfl
theorem bE9 (k : List Int) (x : Int) {j : Nat} (h : j < 64) : (H4 k x j).set j (x8 ((H4 k x j).getD j 0) x) = H4 k x (j + 1) := by
 apply List.ext_getElem?
 intro i
 rw [List.getElem?_set]
 by_cases hi : i < 64
 ·have e : ∀ j', (H4 k x j')[i]? = some (if i < j' then x8 (k.getD i 0) x else k.getD i 0) := fun j' => by
   rw [H4, List.getElem?_map, List.getElem?_range hi]; rfl
  rw [e, e]
  by_cases h1 : j = i
  ·subst h1
   rw [if_pos rfl, if_pos (by rw [aw3]; exact h), bE8 k x j h, if_neg (Nat.lt_irrefl j), if_pos (Nat.lt_succ_self j)]
  ·rw [if_neg h1]
   by_cases h2 : i < j
   ·rw [if_pos h2, if_pos (by omega)]
   ·rw [if_neg h2, if_neg (by omega)]
 ·have e : ∀ j', (H4 k x j')[i]? = none := fun j' => by rw [List.getElem?_eq_none_iff, aw3]; omega
  rw [e, e, aw3]
  by_cases h1 : j = i
  ·subst h1; rw [if_pos rfl, if_neg (by omega)]
  ·rw [if_neg h1]
theorem br6 (k : List Int) (x : Int) : H4 k x 0 = (List.range 64).map fun i => k.getD i 0 := by
 unfold H4
 apply List.map_congr_left
 intro i _
 rw [if_neg (Nat.not_lt_zero i)]
def W0 (k b : List Int) : List Int := C9 (w6 k 92 ++ C9 (w6 k 54 ++ b))
theorem bo2 (H : List Int) : ∀ i, (dA H i).length = 32
 | 0 => by simp [dA]
 | i + 1 => by rw [dA, List.length_set, bo2 H i]
theorem T4 (B : List Int) : (C9 B).length = 32 := bo2 _ _
theorem aS5 (k b : List Int) : (W0 k b).length = 32 := T4 _
def uI (l : List UInt8) : List Int := l.map fun x => (x.toNat : Int)
theorem ac6 (l : List UInt8) : (uI l).length = l.length := by simp [uI]
theorem cp5 (a b : List UInt8) : uI (a ++ b) = uI a ++ uI b := by simp [uI]
theorem bv4 (l : List UInt8) (i : Nat) : (uI l).getD i 0 = ((l.getD i 0).toNat : Int) := by
 simp only [uI, List.getD_eq_getElem?_getD, List.getElem?_map]
 cases l[i]? <;> rfl
def bI (s : ByteArray) : List Int := uI s.data.toList
theorem ay7 (s : ByteArray) : (bI s).length = s.size := by rw [bI, ac6]; rfl
theorem bi3 (s : ByteArray) (i : Nat) : (bI s).getD i 0 = B1 s i := by rw [bI, bv4]; rfl
theorem bq1 (a b : List Int) : ib (a ++ b) = r6 a.length (ib a) (ib b) := by
 funext k
 unfold ib r6
 cases h : Nat.blt k a.length
 ·have h1 : a.length ≤ k := by
   rcases Nat.lt_or_ge k a.length with h2 | h2
   ·rw [← Nat.blt_eq] at h2; rw [h2] at h; cases h
   ·exact h2
  simp [List.getD_eq_getElem?_getD, List.getElem?_append_right h1]
 ·rw [Nat.blt_eq] at h
  simp [List.getD_eq_getElem?_getD, List.getElem?_append_left h]
theorem br7 {k : List Int} {x : Int} {j : Nat} (h : j < 64) : (w6 k x).take (j + 1) = (w6 k x).take j ++ [x8 (k.getD j 0) x] := by
 have hj : j < (w6 k x).length := by rw [W8]; exact h
 rw [← List.take_append_getElem hj]
 congr 2
 simp [w6]
def K5 (d : List Int) (j : Nat) : List Int := (List.range 16).map fun i => if i < j then d.getD i 0 else 0
def ac4 (d : List Int) : List Int := (List.range 16).map fun i => d.getD i 0
theorem ax7 (d : List Int) (j : Nat) : (K5 d j).length = 16 := by simp [K5]
theorem bJ2 (d : List Int) : (ac4 d).length = 16 := by simp [ac4]
theorem bJ0 (d : List Int) : K5 d 16 = ac4 d := by
 unfold K5 ac4
 apply List.map_congr_left
 intro i hi
 rw [if_pos (List.mem_range.1 hi)]
theorem bv1 (d : List Int) : K5 d 0 = List.replicate 16 0 := by simp [K5]; rfl
theorem bJ1 (d : List Int) {j : Nat} (h : j < 16) : (K5 d j).set j (d.getD j 0) = K5 d (j + 1) := by
 apply List.ext_getElem?
 intro i
 rw [List.getElem?_set]
 by_cases hi : i < 16
 ·have e : ∀ j', (K5 d j')[i]? = some (if i < j' then d.getD i 0 else 0) := fun j' => by
   rw [K5, List.getElem?_map, List.getElem?_range hi]; rfl
  rw [e, e]
  by_cases h1 : j = i
  ·subst h1
   rw [if_pos rfl, if_pos (by rw [ax7]; exact h), if_pos (Nat.lt_succ_self j)]
  ·rw [if_neg h1]
   by_cases h2 : i < j
   ·rw [if_pos h2, if_pos (by omega)]
   ·rw [if_neg h2, if_neg (by omega)]
 ·have e : ∀ j', (K5 d j')[i]? = none := fun j' => by rw [List.getElem?_eq_none_iff, ax7]; omega
  rw [e, e, ax7]
  by_cases h1 : j = i
  ·subst h1; rw [if_pos rfl, if_neg (by omega)]
  ·rw [if_neg h1]
def aq8 (kb : List UInt8) (body : ByteArray) : List Int := ac4 (W0 (C9 (uI kb)) (bI body))
end Sy
namespace Go.Proofs.YtnmccoincblecaaGreat
open Go Sy Go.Proofs
def pdI (k : List Int) (x : Int) (L : List Int) (j : Nat) : St := ⟨mkT 33 [(0, rb k), (1, .int .u8 x), (5, obS 0 L), (6, .int .i64 (j : Nat))], [(.o 0, obB L)], 1, []⟩
noncomputable def ci5 (k : List Int) (x : Int) (L : List Int) : Bd := { f := Tryz.f100, args := [rb k, .int .u8 x], kb := { db := fun _ _ _ _ => [], fx := fun id _ => bif Nat.beq id 4 then [.virt 5 1] else [], lp := fun _ t => [(True, .loop (64 + 1) (B6 [(.o 0, nmV (r9 t.tmps 5))] (pdI k x [] 0)) (.exit 0) (pdI k x L 64))] }, names := fun _ => [.o 0] }
noncomputable def bG4 (k : List Int) (x : Int) (L : List Int) (j : Nat) (L2 : List Int) : Pc := { c := cB (cB (cR (cL (cR (cR (cR (f8 Tryz.f100))))))), st := pdI k x L j, kb := kb0, k := fun x_ t => match x_ with
 | .normal => some (B6 [(.o 0, nmV (r9 t.tmps 5))] (pdI k x L2 (j + 1)))
 | _ => some (wTo (pdI k x L 64)) }
def nmL : V → List Nm
 | .sl a _ _ _ _ _ _ => [a]
 | _ => []
def mcP (p1 p2 : List Int) : List V → c5 → Nat → List Cl := fun a _ lo => match a with
 | [_, .int _ 54] => [{ val := obS lo p1, post := [(.o lo, obB p1)] }]
 | [_, .int _ 92] => [{ val := obS lo p2, post := [(.o lo, obB p2)] }]
 | _ => []
def rdC (v : V) : List V → List Cl
 | .sl a _ _ _ _ _ _ :: _ => [{ rd := [a], val := v }]
 | _ => []
def obC (l : List Int) : List V → c5 → Nat → List Cl := fun _ _ lo => [{ val := obS lo l, post := [(.o lo, obB l)] }]
def ubC (l : List UInt8) : List V → c5 → Nat → List Cl := fun _ _ lo => [{ val := sb (.o lo) l, post := [(.o lo, bs l)] }]
def agD (d : List Int) : V := .agg [.seg .u8 32 d]
noncomputable def bdMc (k b p1 p2 d1 d2 : List Int) : Bd := { f := Tryz.f65, args := [rb k, rb b], kb := { db := dbQ [(100, mcP p1 p2), (99, fun a _ lo => bif Nat.ble lo 600 then rdC (agD d1) a else rdC (agD d2) a), (101, obC d1)] } }
def kyV (s : ByteArray) (n : Int) : V := .agg [.str s, .int .i64 n]
noncomputable def bdRz (s : ByteArray) : Bd := { f := Tryz.f36, args := [.snil, .str s], base := 1, kb := { db := fun k a _ lo => bif Nat.beq k 37 then F6 (c6 s.size) a lo else [] }, k := kSb 4 63 (j3 s), names := fun _ => [.o 63] }
noncomputable def bdKy (s : ByteArray) (n id : Int) (l1 l2 : List UInt8) (d : List Int) : Bd := { f := Tryz.f66, args := [kyV s n, .int .i64 id], kb := { db := dbQ [(36, ubC l1), (37, fun a _ lo => F6 l2 a lo), (99, fun a _ _ => rdC (agD d) a), (101, obC d)] }, names := fun t => nmL (r9 t.tmps 4) }
def sgI (d L : List Int) (j : Nat) : St := ⟨mkT 36 [(6, p0K 0), (8, p0K 1), (9, p0K 2), (10, .int .i64 (j : Nat))], [(.o 0, .flat [.seg .u8 16 (List.replicate 16 0)]), (.o 1, .flat [.seg .u8 16 L]), (.o 2, .flat [.seg .u8 32 d])], 3, []⟩
noncomputable def bc9 (s : ByteArray) (n id : Int) (b : ByteArray) (k d t : List Int) : Bd := { f := Tryz.f20, args := [kyV s n, .int .i64 id, .str b], kb := { db := dbQ [(66, obC k), (65, fun a _ _ => rdC (agD d) a)], lp := fun _ t2 => [(True, .loop (16 + 1) (B6 [(.o 0, nmV (r9 t2.tmps 6)), (.o 1, nmV (r9 t2.tmps 8)), (.o 2, nmV (r9 t2.tmps 9))] (sgI d (List.replicate 16 0) 0)) (.exit 0) (sgI d t 16))] } }
noncomputable def cn3 (d L : List Int) (j : Nat) (L2 : List Int) : Pc := { c := cB (cB (cR (cL (cR (cR (cR (cR (f8 Tryz.f20)))))))), st := sgI d L j, kb := kb0, k := fun x_ _ => match x_ with
 | .normal => some (wTo (sgI d L2 (j + 1)))
 | _ => some (wTo (sgI d L 16)) }
end Go.Proofs.YtnmccoincblecaaGreat
