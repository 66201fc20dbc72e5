/-
  Contracts and laws that the claim's theorem leans on, joined out of the texts Ka4 Ka5D Ka5 Ka6D Ka6 Ka7D Ka7 Ka8D Ka8 Va0D Va0 SySeal Kc0D Kc0 Kc1D Kc1 Qc0D Qc0 Qd0D Qd0 Qg0 (own work of this seat): Contracts: the digest's end, and the digest of parts; Contracts: the digest of one part, of two parts; Contracts: the digest of one part, of two parts; Contracts: the digest by the document: padding, one block; Contracts: the digest by the document: padding, one block; Contracts: the digest by the document; Contracts: the digest by the document; Contracts: the digest of parts that can't be turned; a digest's bytes by the document; Contracts: the digest of parts that can't be turned; a digest's bytes by the document; Contracts: numbers and texts as bytes, as the document's answer has them; Contracts: numbers and texts as bytes, as the document's answer has them; Macs and tags, plainly; Contracts: macs and tags by the document; Contracts: macs and tags by the document; Contracts: macs and tags by the program; Contracts: macs and tags by the program; Contracts: the example that each statement of envelopes asks for; Contracts: the example that each statement of envelopes asks for; The law of envelopes that come back: the walk; The law of envelopes that come back: the walk; The shapes of envelopes that are handed in.
-/
import Derived.Test.YtnmccoincblecaaGreatC04
import Derived.Test.YtnmccoincblecaaGreatC10
set_option linter.unusedVariables false
set_option linter.unusedSimpArgs false
set_option maxHeartbeats 1000000
namespace Go.Proofs.YtnmccoincblecaaGreat
open Go Sy Go.Proofs
theorem bdEn_p (H : List Int) (W : List Int) (N : Nat) (H1 : List Int) (W1 : List Int) (z : Nat) (H2 : List Int) (W2 : List Int) (H3 : List Int) (W3 : List Int) (d : List Int) :
  along Tryz.prog (bdEn H W N H1 W1 z H2 W2 H3 W3 d) [] = some (V.agg [V.seg IntKind.u8 (32 : Nat) d], [(Nm.o (0 : Nat), B.flat [V.seg IntKind.u32 (8 : Nat) H3, V.seg IntKind.u8 (64 : Nat) W3, V.int IntKind.i64 (↑(N + (1 : Nat) + z + (8 : Nat)) : Int)])], [InR IntKind.i64 ((8 : Int) * (↑N : Int)), T Tryz.prog (104 : Nat) [V.ptr (Nm.o (0 : Nat)) (0 : Nat) (0 : Nat) (0 : Nat) (0 : Nat), V.sl (Nm.o (nat_lit 513)) (1 : Nat) (0 : Nat) (0 : Nat) (0 : Nat) (1 : Nat) (some (1 : Nat))] [(Nm.o (0 : Nat), B.flat [V.seg IntKind.u32 (8 : Nat) H, V.seg IntKind.u8 (64 : Nat) W, V.int IntKind.i64 (↑N : Int)]), (Nm.o (nat_lit 513), B.rows (1 : Nat) (1 : Nat) (getL [[V.int IntKind.u8 (128 : Int)]]) false)] (V.tup []) [(Nm.o (0 : Nat), B.flat [V.seg IntKind.u32 (8 : Nat) H1, V.seg IntKind.u8 (64 : Nat) W1, V.int IntKind.i64 (↑(N + (1 : Nat)) : Int)]), (Nm.o (nat_lit 513), B.rows (1 : Nat) (1 : Nat) (getL [[V.int IntKind.u8 (128 : Int)]]) false)], RLoop Tryz.prog none (1 : Nat) (cB (cB (cL (cR (cR (cR (bodyOf (Bd.f (bdEn H W N H1 W1 z H2 W2 H3 W3 d))))))))) (z + (1 : Nat)) (St.mk [V.ptr (Nm.o (0 : Nat)) (0 : Nat) (0 : Nat) (0 : Nat) (0 : Nat), V.any, V.ptr (Nm.o (1 : Nat)) (0 : Nat) (0 : Nat) (0 : Nat) (0 : Nat), V.int IntKind.i64 ((8 : Int) * (↑N : Int)), V.any, V.any, V.any, V.any, V.any, V.any, V.any, V.any, V.any, V.any, V.any, V.any, V.any, V.any, V.any, V.any, V.any, V.any, V.any, V.any, V.any, V.any, V.any, V.any, V.any, V.any, V.any, V.any, V.any, V.any, V.any, V.any, V.any, V.any, V.any, V.any, V.any, V.any, V.any, V.any, V.any, V.any, V.any, V.any, V.any, V.any, V.any, V.any, V.any, V.any, V.any, V.any, V.any, V.any, V.any, V.any, V.any, V.any, V.any] [(Nm.o (0 : Nat), B.flat [V.seg IntKind.u32 (8 : Nat) H1, V.seg IntKind.u8 (64 : Nat) W1, V.int IntKind.i64 (↑(N + (1 : Nat)) : Int)]), (Nm.o (1 : Nat), B.flat [V.seg IntKind.u8 (32 : Nat) z32L])] (2 : Nat) []) (Exit.exit (0 : Nat)) (St.mk [V.ptr (Nm.o (0 : Nat)) (0 : Nat) (0 : Nat) (0 : Nat) (0 : Nat), V.any, V.ptr (Nm.o (1 : Nat)) (0 : Nat) (0 : Nat) (0 : Nat) (0 : Nat), V.int IntKind.i64 ((8 : Int) * (↑N : Int)), V.any, V.any, V.any, V.any, V.any, V.any, V.any, V.any, V.any, V.any, V.any, V.any, V.any, V.any, V.any, V.any, V.any, V.any, V.any, V.any, V.any, V.any, V.any, V.any, V.any, V.any, V.any, V.any, V.any, V.any, V.any, V.any, V.any, V.any, V.any, V.any, V.any, V.any, V.any, V.any, V.any, V.any, V.any, V.any, V.any, V.any, V.any, V.any, V.any, V.any, V.any, V.any, V.any, V.any, V.any, V.any, V.any, V.any, V.any] [(Nm.o (0 : Nat), B.flat [V.seg IntKind.u32 (8 : Nat) H2, V.seg IntKind.u8 (64 : Nat) W2, V.int IntKind.i64 (↑(N + (1 : Nat) + z) : Int)]), (Nm.o (1 : Nat), B.flat [V.seg IntKind.u8 (32 : Nat) z32L])] (2 : Nat) []), (8 : Nat) = (8 : Nat), H1 = H1, (64 : Nat) = (64 : Nat), W1 = W1, (↑(N + (1 : Nat)) : Int) = (↑(N + (1 : Nat)) : Int), (32 : Nat) = (32 : Nat), [(0 : Int), (0 : Int), (0 : Int), (0 : Int), (0 : Int), (0 : Int), (0 : Int), (0 : Int), (0 : Int), (0 : Int), (0 : Int), (0 : Int), (0 : Int), (0 : Int), (0 : Int), (0 : Int), (0 : Int), (0 : Int), (0 : Int), (0 : Int), (0 : Int), (0 : Int), (0 : Int), (0 : Int), (0 : Int), (0 : Int), (0 : Int), (0 : Int), (0 : Int), (0 : Int), (0 : Int), (0 : Int)] = z32L, (0 : Nat) = (0 : Nat), (0 : Nat) = (0 : Nat), (0 : Nat) = (0 : Nat), (0 : Nat) = (0 : Nat), (0 : Nat) = (0 : Nat), (0 : Nat) = (0 : Nat), (8 : Int) * (↑N : Int) = (8 : Int) * (↑N : Int), (0 : Int) ≤ (8 : Int) ∧ (8 : Int) ≤ (8 : Int), (8 : Int) ≤ (281474976710656 : Int), (8 : Int) ≤ (281474976710656 : Int), RLoop Tryz.prog none (1 : Nat) (cB (cB (cR (cL (cR (cR (cR (cR (cR (bodyOf (Bd.f (bdEn H W N H1 W1 z H2 W2 H3 W3 d)))))))))))) (nat_lit 9) (St.mk [V.ptr (Nm.o (0 : Nat)) (0 : Nat) (0 : Nat) (0 : Nat) (0 : Nat), V.any, V.ptr (Nm.o (1 : Nat)) (0 : Nat) (0 : Nat) (0 : Nat) (0 : Nat), V.int IntKind.i64 ((8 : Int) * (↑N : Int)), V.sl (Nm.o (2 : Nat)) (1 : Nat) (0 : Nat) (0 : Nat) (0 : Nat) (8 : Nat) none, V.any, V.any, V.any, V.any, V.any, V.any, V.any, V.any, V.any, V.any, V.any, V.any, V.any, V.any, V.any, V.any, V.any, V.any, V.any, V.any, V.any, V.int IntKind.i64 (8 : Int), V.int IntKind.i64 (0 : Int), V.any, V.any, V.any, V.any, V.any, V.any, V.any, V.any, V.any, V.any, V.any, V.any, V.any, V.any, V.any, V.any, V.any, V.any, V.any, V.any, V.any, V.any, V.any, V.any, V.any, V.any, V.any, V.any, V.any, V.any, V.any, V.any, V.any, V.any, V.any] [(Nm.o (0 : Nat), B.flat [V.seg IntKind.u32 (8 : Nat) H2, V.seg IntKind.u8 (64 : Nat) W2, V.int IntKind.i64 (↑(N + (1 : Nat) + z) : Int)]), (Nm.o (1 : Nat), B.flat [V.seg IntKind.u8 (32 : Nat) z32L]), (Nm.o (2 : Nat), B.rows (1 : Nat) (8 : Nat) (enR N (0 : Nat)) false)] (3 : Nat) []) (Exit.exit (2 : Nat)) (St.mk [V.ptr (Nm.o (0 : Nat)) (0 : Nat) (0 : Nat) (0 : Nat) (0 : Nat), V.any, V.ptr (Nm.o (1 : Nat)) (0 : Nat) (0 : Nat) (0 : Nat) (0 : Nat), V.int IntKind.i64 ((8 : Int) * (↑N : Int)), V.sl (Nm.o (2 : Nat)) (1 : Nat) (0 : Nat) (0 : Nat) (0 : Nat) (8 : Nat) none, V.any, V.any, V.any, V.any, V.any, V.any, V.any, V.any, V.any, V.any, V.any, V.any, V.any, V.any, V.any, V.any, V.any, V.any, V.any, V.any, V.any, V.int IntKind.i64 (8 : Int), V.int IntKind.i64 (8 : Int), V.any, V.any, V.any, V.any, V.any, V.any, V.any, V.any, V.any, V.any, V.any, V.any, V.any, V.any, V.any, V.any, V.any, V.any, V.any, V.any, V.any, V.any, V.any, V.any, V.any, V.any, V.any, V.any, V.any, V.any, V.any, V.any, V.any, V.any, V.any] [(Nm.o (0 : Nat), B.flat [V.seg IntKind.u32 (8 : Nat) H2, V.seg IntKind.u8 (64 : Nat) W2, V.int IntKind.i64 (↑(N + (1 : Nat) + z) : Int)]), (Nm.o (1 : Nat), B.flat [V.seg IntKind.u8 (32 : Nat) z32L]), (Nm.o (2 : Nat), B.rows (1 : Nat) (8 : Nat) (enR N (8 : Nat)) false)] (3 : Nat) []), (8 : Nat) = (8 : Nat), H2 = H2, (64 : Nat) = (64 : Nat), W2 = W2, (↑(N + (1 : Nat) + z) : Int) = (↑(N + (1 : Nat) + z) : Int), (32 : Nat) = (32 : Nat), z32L = z32L, nat_lit 8 = (8 : Nat), ∀ (k : Nat), k < nat_lit 8 → [V.int IntKind.u8 (0 : Int)] = [V.int IntKind.u8 (0 : Int)], false = false → false = false, (0 : Nat) = (0 : Nat), (0 : Nat) = (0 : Nat), (0 : Nat) = (0 : Nat), (0 : Nat) = (0 : Nat), (0 : Nat) = (0 : Nat), (0 : Nat) = (0 : Nat), (8 : Int) * (↑N : Int) = (8 : Int) * (↑N : Int), (0 : Nat) = (0 : Nat), (0 : Nat) = (0 : Nat), (0 : Nat) = (0 : Nat), nat_lit 8 = (8 : Nat), (none : Option Nat) = none ∨ none = some (nat_lit 8), (8 : Int) = (8 : Int), (0 : Int) = (0 : Int), T Tryz.prog (104 : Nat) [V.ptr (Nm.o (0 : Nat)) (0 : Nat) (0 : Nat) (0 : Nat) (0 : Nat), V.sl (Nm.o (2 : Nat)) (1 : Nat) (0 : Nat) (0 : Nat) (0 : Nat) (8 : Nat) none] [(Nm.o (0 : Nat), B.flat [V.seg IntKind.u32 (8 : Nat) H2, V.seg IntKind.u8 (64 : Nat) W2, V.int IntKind.i64 (↑(N + (1 : Nat) + z) : Int)]), (Nm.o (2 : Nat), B.rows (1 : Nat) (8 : Nat) (enR N (8 : Nat)) false)] (V.tup []) [(Nm.o (0 : Nat), B.flat [V.seg IntKind.u32 (8 : Nat) H3, V.seg IntKind.u8 (64 : Nat) W3, V.int IntKind.i64 (↑(N + (1 : Nat) + z + (8 : Nat)) : Int)]), (Nm.o (2 : Nat), B.rows (1 : Nat) (8 : Nat) (enR N (8 : Nat)) false)], RLoop Tryz.prog none (1 : Nat) (cB (cB (cR (cL (cR (cR (cR (cR (cR (cR (cR (bodyOf (Bd.f (bdEn H W N H1 W1 z H2 W2 H3 W3 d)))))))))))))) (nat_lit 33) (St.mk [V.ptr (Nm.o (0 : Nat)) (0 : Nat) (0 : Nat) (0 : Nat) (0 : Nat), V.any, V.ptr (Nm.o (1 : Nat)) (0 : Nat) (0 : Nat) (0 : Nat) (0 : Nat), V.any, V.any, V.any, V.any, V.any, V.any, V.any, V.any, V.any, V.any, V.any, V.any, V.any, V.any, V.any, V.any, V.any, V.any, V.any, V.any, V.any, V.any, V.any, V.any, V.any, V.any, V.any, V.any, V.any, V.any, V.any, V.any, V.any, V.any, V.any, V.any, V.any, V.any, V.any, V.any, V.int IntKind.i64 (0 : Int), V.any, V.any, V.any, V.any, V.any, V.any, V.any, V.any, V.any, V.any, V.any, V.any, V.any, V.any, V.any, V.any, V.any, V.any, V.any] [(Nm.o (0 : Nat), B.flat [V.seg IntKind.u32 (8 : Nat) H3, V.seg IntKind.u8 (64 : Nat) W3, V.int IntKind.i64 (↑(N + (1 : Nat) + z + (8 : Nat)) : Int)]), (Nm.o (1 : Nat), B.flat [V.seg IntKind.u8 (32 : Nat) z32L])] (2 : Nat) []) (Exit.exit (4 : Nat)) (St.mk [V.ptr (Nm.o (0 : Nat)) (0 : Nat) (0 : Nat) (0 : Nat) (0 : Nat), V.any, V.ptr (Nm.o (1 : Nat)) (0 : Nat) (0 : Nat) (0 : Nat) (0 : Nat), V.any, V.any, V.any, V.any, V.any, V.any, V.any, V.any, V.any, V.any, V.any, V.any, V.any, V.any, V.any, V.any, V.any, V.any, V.any, V.any, V.any, V.any, V.any, V.any, V.any, V.any, V.any, V.any, V.any, V.any, V.any, V.any, V.any, V.any, V.any, V.any, V.any, V.any, V.any, V.any, V.int IntKind.i64 (32 : Int), V.any, V.any, V.any, V.any, V.any, V.any, V.any, V.any, V.any, V.any, V.any, V.any, V.any, V.any, V.any, V.any, V.any, V.any, V.any] [(Nm.o (0 : Nat), B.flat [V.seg IntKind.u32 (8 : Nat) H3, V.seg IntKind.u8 (64 : Nat) W3, V.int IntKind.i64 (↑(N + (1 : Nat) + z + (8 : Nat)) : Int)]), (Nm.o (1 : Nat), B.flat [V.seg IntKind.u8 (32 : Nat) d])] (2 : Nat) []), (8 : Nat) = (8 : Nat), H3 = H3, (64 : Nat) = (64 : Nat), W3 = W3, (↑(N + (1 : Nat) + z + (8 : Nat)) : Int) = (↑(N + (1 : Nat) + z + (8 : Nat)) : Int), (32 : Nat) = (32 : Nat), z32L = z32L, (0 : Nat) = (0 : Nat), (0 : Nat) = (0 : Nat), (0 : Nat) = (0 : Nat), (0 : Nat) = (0 : Nat), (0 : Nat) = (0 : Nat), (0 : Nat) = (0 : Nat), (0 : Int) = (0 : Int)]) := by kernel_rfl

theorem pcEn_p1 (H : List Int) (W : List Int) (n : Nat) (N : Nat) (H2 : List Int) (W2 : List Int) :
  alongPc Tryz.prog (pcEn H W n N H2 W2) [true] = (some (.normal, St.mk [.ptr (.o 0) 0 0 0 0, .any, .ptr (.o 1) 0 0 0 0, .int .i64 ((8 : Int) * (↑N : Int)), .any, .any, .any, .any, .any, .any, .any, .any, .any, .any, .any, .any, .any, .any, .any, .any, .any, .any, .any, .any, .any, .any, .any, .any, .any, .any, .any, .any, .any, .any, .any, .any, .any, .any, .any, .any, .any, .any, .any, .any, .any, .any, .any, .any, .any, .any, .any, .any, .any, .any, .any, .any, .any, .any, .any, .any, .any, .any, .any] [(.o 0, .flat [.seg .u32 8 H2, .seg .u8 64 W2, .int .i64 (↑(n + 1) : Int)]), (.o 1, .flat [.seg .u8 32 z32L])] 2 [], [(0 : Int) ≤ (↑n : Int) ∧ (0 : Int) < (64 : Int), (!decide ((↑n : Int) % (64 : Int) = (56 : Int))) = true, T Tryz.prog 104 [.ptr (.o 0) 0 0 0 0, .sl (.o 450) 1 0 0 0 1 (some 1)] [(.o 0, .flat [.seg .u32 8 H, .seg .u8 64 W, .int .i64 ↑n]), (.o 450, .rows 1 1 (getL [[.int .u8 0]]) false)] (.tup []) [(.o 0, .flat [.seg .u32 8 H2, .seg .u8 64 W2, .int .i64 (↑(n + 1) : Int)]), (.o 450, .rows 1 1 (getL [[.int .u8 0]]) false)], q (8 : Nat), q H2, q (64 : Nat), q W2, q (↑(n + (1 : Nat)) : Int), q (32 : Nat), q z32L, q0, q0, q0, q0, q0, q0, q ((8 : Int) * (↑N : Int))]) : Option (Exit × St × List Prop)) := by kernel_rfl
theorem pcEn_p0 (H : List Int) (W : List Int) (n : Nat) (N : Nat) (H2 : List Int) (W2 : List Int) :
  alongPc Tryz.prog (pcEn H W n N H2 W2) [false] = (some (.exit 0, St.mk [.ptr (.o 0) 0 0 0 0, .any, .ptr (.o 1) 0 0 0 0, .int .i64 ((8 : Int) * (↑N : Int)), .any, .any, .any, .any, .any, .any, .any, .any, .any, .any, .any, .any, .any, .any, .any, .any, .any, .any, .any, .any, .any, .any, .any, .any, .any, .any, .any, .any, .any, .any, .any, .any, .any, .any, .any, .any, .any, .any, .any, .any, .any, .any, .any, .any, .any, .any, .any, .any, .any, .any, .any, .any, .any, .any, .any, .any, .any, .any, .any] [(.o 0, .flat [.seg .u32 8 H, .seg .u8 64 W, .int .i64 ↑n]), (.o 1, .flat [.seg .u8 32 z32L])] 2 [], [(0 : Int) ≤ (↑n : Int) ∧ (0 : Int) < (64 : Int), (!decide ((↑n : Int) % (64 : Int) = (56 : Int))) = false, q (8 : Nat), q H, q (64 : Nat), q W, q (↑n : Int), q (32 : Nat), q z32L, q0, q0, q0, q0, q0, q0, q ((8 : Int) * (↑N : Int))]) : Option (Exit × St × List Prop)) := by kernel_rfl

theorem pcEl_p1 (H : List Int) (W : List Int) (n : Nat) (N : Nat) (j : Nat) :
  alongPc Tryz.prog (pcEl H W n N j) [true] = (some (.normal, St.mk [.ptr (.o 0) 0 0 0 0, .any, .ptr (.o 1) 0 0 0 0, .int .i64 ((8 : Int) * (↑N : Int)), .sl (.o 2) 1 0 0 0 8 none, .any, .any, .any, .any, .any, .any, .any, .any, .any, .any, .any, .any, .any, .any, .any, .any, .any, .any, .any, .any, .any, .int .i64 8, .int .i64 (↑(j + 1) : Int), .any, .any, .any, .any, .any, .any, .any, .any, .any, .any, .any, .any, .any, .any, .any, .any, .any, .any, .any, .any, .any, .any, .any, .any, .any, .any, .any, .any, .any, .any, .any, .any, .any, .any, .any] [(.o 0, .flat [.seg .u32 8 H, .seg .u8 64 W, .int .i64 ↑n]), (.o 1, .flat [.seg .u8 32 z32L]), (.o 2, .rows 1 8 (enR N (j + 1)) false)] 3 [], [decide ((↑j : Int) < (8 : Int)) = true, InR IntKind.i64 ((8 : Int) * (↑j : Int)), InR IntKind.i64 ((56 : Int) - (8 : Int) * (↑j : Int)), (0 : Int) ≤ (56 : Int) - (8 : Int) * (↑j : Int) ∧ (56 : Int) - (8 : Int) * (↑j : Int) ≤ (64 : Int), (0 : Int) ≤ (↑j : Int) ∧ (↑j : Int) < (8 : Int), (0 : Nat) + Int.toNat (↑j : Int) < (8 : Nat), InR IntKind.i64 ((↑j : Int) + (1 : Int)), q (8 : Nat), q H, q (64 : Nat), q W, q (↑n : Int), q (32 : Nat), q z32L, q (8 : Nat), ∀ (k : Nat), k < (8 : Nat) → Bool.rec [V.int IntKind.u8 (if k < j then lenE ((8 : Int) * (↑N : Int)) k else (0 : Int))] [V.int IntKind.u8 (IntKind.wrap IntKind.u8 ((8 : Int) * (↑N : Int) / (2 : Int) ^ Int.toNat ((56 : Int) - (8 : Int) * (↑j : Int))))] (Nat.beq k ((0 : Nat) + Int.toNat (↑j : Int))) = [V.int IntKind.u8 (if k < j + (1 : Nat) then lenE ((8 : Int) * (↑N : Int)) k else (0 : Int))], false = false → false = false, q0, q0, q0, q0, q0, q0, q ((8 : Int) * (↑N : Int)), q0, q0, q0, q (8 : Nat), (none : Option Nat) = none ∨ (none : Option Nat) = none, q (8 : Int), (↑j : Int) + (1 : Int) = (↑(j + (1 : Nat)) : Int)]) : Option (Exit × St × List Prop)) := by kernel_rfl
theorem pcEl_p0 (H : List Int) (W : List Int) (n : Nat) (N : Nat) (j : Nat) :
  alongPc Tryz.prog (pcEl H W n N j) [false] = (some (.exit 2, St.mk [.ptr (.o 0) 0 0 0 0, .any, .ptr (.o 1) 0 0 0 0, .int .i64 ((8 : Int) * (↑N : Int)), .sl (.o 2) 1 0 0 0 8 none, .any, .any, .any, .any, .any, .any, .any, .any, .any, .any, .any, .any, .any, .any, .any, .any, .any, .any, .any, .any, .any, .int .i64 8, .int .i64 8, .any, .any, .any, .any, .any, .any, .any, .any, .any, .any, .any, .any, .any, .any, .any, .any, .any, .any, .any, .any, .any, .any, .any, .any, .any, .any, .any, .any, .any, .any, .any, .any, .any, .any, .any] [(.o 0, .flat [.seg .u32 8 H, .seg .u8 64 W, .int .i64 ↑n]), (.o 1, .flat [.seg .u8 32 z32L]), (.o 2, .rows 1 8 (enR N 8) false)] 3 [], [decide ((↑j : Int) < (8 : Int)) = false, q (8 : Nat), q H, q (64 : Nat), q W, q (↑n : Int), q (32 : Nat), q z32L, q (8 : Nat), ∀ (k : Nat), k < (8 : Nat) → [V.int IntKind.u8 (if k < j then lenE ((8 : Int) * (↑N : Int)) k else (0 : Int))] = [V.int IntKind.u8 (if k < (8 : Nat) then lenE ((8 : Int) * (↑N : Int)) k else (0 : Int))], false = false → false = false, q0, q0, q0, q0, q0, q0, q ((8 : Int) * (↑N : Int)), q0, q0, q0, q (8 : Nat), (none : Option Nat) = none ∨ (none : Option Nat) = none, q (8 : Int), (↑j : Int) = (8 : Int)]) : Option (Exit × St × List Prop)) := by kernel_rfl

theorem pcEj_p1 (H : List Int) (W : List Int) (n : Nat) (d : List Int) (k : Nat) (d2 : List Int) :
  alongPc Tryz.prog (pcEj H W n d k d2) [true] = (some (.normal, St.mk [.ptr (.o 0) 0 0 0 0, .any, .ptr (.o 1) 0 0 0 0, .any, .any, .any, .any, .any, .any, .any, .any, .any, .any, .any, .any, .any, .any, .any, .any, .any, .any, .any, .any, .any, .any, .any, .any, .any, .any, .any, .any, .any, .any, .any, .any, .any, .any, .any, .any, .any, .any, .any, .any, .int .i64 (↑(k + 1) : Int), .any, .any, .any, .any, .any, .any, .any, .any, .any, .any, .any, .any, .any, .any, .any, .any, .any, .any, .any] [(.o 0, .flat [.seg .u32 8 H, .seg .u8 64 W, .int .i64 ↑n]), (.o 1, .flat [.seg .u8 32 d2])] 2 [], [decide ((↑k : Int) < (32 : Int)) = true, (0 : Int) ≤ (↑k : Int) ∧ (0 : Int) < (4 : Int) ∧ InR IntKind.i64 ((↑k : Int) / (4 : Int)), (0 : Int) ≤ (↑k : Int) / (4 : Int) ∧ (↑k : Int) / (4 : Int) < (8 : Int), (0 : Nat) + Int.toNat ((↑k : Int) / (4 : Int)) < (8 : Nat), (0 : Int) ≤ (↑k : Int) ∧ (0 : Int) < (4 : Int), InR IntKind.i64 ((8 : Int) * ((↑k : Int) % (4 : Int))), InR IntKind.i64 ((24 : Int) - (8 : Int) * ((↑k : Int) % (4 : Int))), (0 : Int) ≤ (24 : Int) - (8 : Int) * ((↑k : Int) % (4 : Int)) ∧ (24 : Int) - (8 : Int) * ((↑k : Int) % (4 : Int)) ≤ (32 : Int), (0 : Int) ≤ (↑k : Int) ∧ (↑k : Int) < (32 : Int), (0 : Nat) + Int.toNat (↑k : Int) < (32 : Nat), InR IntKind.i64 ((↑k : Int) + (1 : Int)), q (8 : Nat), q H, q (64 : Nat), q W, q (↑n : Int), q (32 : Nat), List.set d ((0 : Nat) + Int.toNat (↑k : Int)) (IntKind.wrap IntKind.u8 (List.getD H ((0 : Nat) + Int.toNat ((↑k : Int) / (4 : Int))) (0 : Int) / (2 : Int) ^ Int.toNat ((24 : Int) - (8 : Int) * ((↑k : Int) % (4 : Int))))) = d2, q0, q0, q0, q0, q0, q0, (↑k : Int) + (1 : Int) = (↑(k + (1 : Nat)) : Int)]) : Option (Exit × St × List Prop)) := by kernel_rfl
theorem pcEj_p0 (H : List Int) (W : List Int) (n : Nat) (d : List Int) (k : Nat) (d2 : List Int) :
  alongPc Tryz.prog (pcEj H W n d k d2) [false] = (some (.exit 4, St.mk [.ptr (.o 0) 0 0 0 0, .any, .ptr (.o 1) 0 0 0 0, .any, .any, .any, .any, .any, .any, .any, .any, .any, .any, .any, .any, .any, .any, .any, .any, .any, .any, .any, .any, .any, .any, .any, .any, .any, .any, .any, .any, .any, .any, .any, .any, .any, .any, .any, .any, .any, .any, .any, .any, .int .i64 32, .any, .any, .any, .any, .any, .any, .any, .any, .any, .any, .any, .any, .any, .any, .any, .any, .any, .any, .any] [(.o 0, .flat [.seg .u32 8 H, .seg .u8 64 W, .int .i64 ↑n]), (.o 1, .flat [.seg .u8 32 d])] 2 [], [decide ((↑k : Int) < (32 : Int)) = false, q (8 : Nat), q H, q (64 : Nat), q W, q (↑n : Int), q (32 : Nat), q d, q0, q0, q0, q0, q0, q0, (↑k : Int) = (32 : Int)]) : Option (Exit × St × List Prop)) := by kernel_rfl

theorem g1 (v : Int) : ∀ k, k < [v].length → getL [[V.int .u8 v]] k = [.int .u8 ([v].getD k 0)] := by
 intro k hk
 have : k = 0 := by simp at hk; omega
 subst this
 rfl
theorem freeSt (H W : List Int) (n : Int) : FreeB (stB H W n) := FreeB.flat rfl
theorem T_wr5 {B H W : List Int} (hI : Inv B H W) (l : List Int) (hb : B.length + l.length ≤ 1000000000000) (f : Nat → List V) (hf : ∀ k, k < l.length → f k = [.int .u8 (l.getD k 0)]) (cap : Option Nat) (g : Bool) :
  ∃ H2 W2, Inv (B ++ l) H2 W2 ∧ T Tryz.prog 104 [p0K 0, .sl (.o 5) 1 0 0 0 l.length cap] [(.o 0, stB H W (B.length : Nat)), (.o 5, .rows 1 l.length f g)] (.tup []) [(.o 0, stB H2 W2 ((B.length + l.length : Nat) : Int)), (.o 5, .rows 1 l.length f g)] := by
 obtain ⟨H2, W2, h1, h2⟩ := T_wr hI l hb
 refine ⟨H2, W2, h1, ?_⟩
 refine T.lendH (pre0' := [(.o 0, stB H W (B.length : Nat))]) (pre1 := [(.o 5, .rows 1 l.length f g)]) h2 rfl ?_ rfl ?_ FreeV.tup0 ?_ ?_
 ·simp only [All]; and_intros
  all_goals first
   | exact True.intro
   | (intro k hk; rw [Nat.zero_add]; exact hf k hk)
   | (with_reducible assumption)
   | (rw [decide_eq_true_eq]; omega)
   | (rw [decide_eq_false_iff_not]; omega)
   | with_reducible rfl
   | (intro _ _; exact True.intro)
   | (intro _ _; with_reducible rfl)
   | (intro _ _; rfl)
   | (simp only [IntKind.min, IntKind.max, IntKind.signed, IntKind.bits, if_true]; omega)
   | omega
   | (intro h; exact h)
   | (intro h; cases h; done)
   | exact .inl rfl
   | exact .inl True.intro
   | exact .inr rfl
   | (simp; done)
 ·simp only [All]; and_intros
  all_goals first
   | exact True.intro
   | (with_reducible assumption)
   | (rw [decide_eq_true_eq]; omega)
   | (rw [decide_eq_false_iff_not]; omega)
   | with_reducible rfl
   | (intro _ _; exact True.intro)
   | (intro _ _; with_reducible rfl)
   | (intro _ _; rfl)
   | (simp only [IntKind.min, IntKind.max, IntKind.signed, IntKind.bits, if_true]; omega)
   | omega
   | (intro h; exact h)
   | (intro h; cases h; done)
   | exact .inl rfl
   | exact .inl True.intro
   | exact .inr rfl
   | (simp; done)
 ·intro q hq
  obtain rfl := List.mem_singleton.1 hq
  exact freeSt _ _ _
 ·rintro n ⟨b, hb1⟩ ⟨b', hb2⟩
  cases List.mem_singleton.1 hb1
  cases List.mem_singleton.1 hb2
theorem T_wrS {B H W : List Int} (hI : Inv B H W) (l : List Int) (hb : B.length + l.length ≤ 1000000000000) (f : Nat → List V) (hf : ∀ k, k < l.length → f k = [.int .u8 (l.getD k 0)]) (cap : Option Nat) (g : Bool) {x : Nat} (hx : [Nm.o 0, Nm.o x].Nodup) :
  ∃ H2 W2, Inv (B ++ l) H2 W2 ∧ T Tryz.prog 104 [p0K 0, .sl (.o x) 1 0 0 0 l.length cap] [(.o 0, stB H W (B.length : Nat)), (.o x, .rows 1 l.length f g)] (.tup []) [(.o 0, stB H2 W2 ((B.length + l.length : Nat) : Int)), (.o x, .rows 1 l.length f g)] := by
 obtain ⟨H2, W2, h1, h2⟩ := T_wr5 hI l hb f hf cap g
 obtain ⟨σ, hσ, h3⟩ := T.at h2 [.o 0, .o 5] [.o 0, .o x] (by decide) hx rfl
 simp only [List.map_cons, List.map_nil, List.cons.injEq, and_true] at hσ
 exact ⟨H2, W2, h1, by simpa [V.rens, V.ren, Heap.ren, Sy.B.ren, p0K, stB, hσ.1, hσ.2] using h3⟩
theorem en0 (N : Nat) : ∀ (r : Nat) (B H W : List Int), Inv B H W → (B.length + r) % 64 = 56 → (∀ i, i < r → (B.length + i) % 64 ≠ 56) → B.length + r ≤ 100000000000 → ∃ H2 W2, Inv (B ++ List.replicate r 0) H2 W2 ∧
  RLoop Tryz.prog none 1 (cB (cB (cL (cR (cR (cR (bodyOf Tryz.f105))))))) (r + 1) (enI H W B.length N) (.exit 0) (enI H2 W2 (B.length + r) N) := by
 intro r
 induction r with
 | zero =>
  intro B H W hI h1 h2 h3
  refine ⟨H, W, by rw [List.replicate_zero, List.append_nil]; exact hI, ?_⟩
  refine RLoop.out ?_ (by simp)
  refine R_alongPc NG MO _ (pcEn_p0 H W B.length N [] []) ?_ (by show 1 ≤ 2; decide)
  have e : (!decide ((B.length : Int) % 64 = 56)) = false := by rw [decide_eq_true (by omega)]; rfl
  simp only [All]; and_intros
  all_goals first
   | exact True.intro
   | exact e
   | (with_reducible assumption)
   | (rw [decide_eq_true_eq]; omega)
   | (rw [decide_eq_false_iff_not]; omega)
   | with_reducible rfl
   | (intro _ _; exact True.intro)
   | (intro _ _; with_reducible rfl)
   | (intro _ _; rfl)
   | (simp only [IntKind.min, IntKind.max, IntKind.signed, IntKind.bits, if_true]; omega)
   | omega
   | (intro h; exact h)
   | (intro h; cases h; done)
   | exact .inl rfl
   | exact .inl True.intro
   | exact .inr rfl
   | (simp; done)
 | succ r ih =>
  intro B H W hI h1 h2 h3
  have h0 := h2 0 (Nat.succ_pos _)
  have e : (!decide ((B.length : Int) % 64 = 56)) = true := by rw [decide_eq_false (by omega)]; rfl
  obtain ⟨H1, W1, hI1, hT⟩ := T_wrS hI [0] (by simp; omega) (getL [[V.int IntKind.u8 0]]) (g1 _) (some 1) false (x := 450) (by decide)
  have hl : (B ++ [0]).length = B.length + 1 := by simp
  obtain ⟨H2, W2, hI2, hL⟩ := ih (B ++ [0]) H1 W1 hI1 (by rw [hl]; omega) (fun i hi => by rw [hl]; have := h2 (i + 1) (by omega); rwa [show B.length + 1 + i = B.length + (i + 1) by omega]) (by rw [hl]; omega)
  rw [hl] at hL
  rw [List.append_assoc, show [0] ++ List.replicate r 0 = List.replicate (r + 1) (0 : Int) from rfl] at hI2
  rw [show B.length + 1 + r = B.length + (r + 1) by omega] at hL
  refine ⟨H2, W2, hI2, RLoop.step ?_ hL⟩
  refine R_alongPc NG MO _ (pcEn_p1 H W B.length N H1 W1) ?_ (by show 1 ≤ 2; decide)
  simp only [All]; and_intros
  all_goals first
   | exact True.intro
   | exact e
   | exact hT
   | (with_reducible assumption)
   | (rw [decide_eq_true_eq]; omega)
   | (rw [decide_eq_false_iff_not]; omega)
   | with_reducible rfl
   | (intro _ _; exact True.intro)
   | (intro _ _; with_reducible rfl)
   | (intro _ _; rfl)
   | (simp only [IntKind.min, IntKind.max, IntKind.signed, IntKind.bits, if_true]; omega)
   | omega
   | (intro h; exact h)
   | (intro h; cases h; done)
   | exact .inl rfl
   | exact .inl True.intro
   | exact .inr rfl
   | (simp; done)
theorem enLL (H W : List Int) (n N : Nat) (hN : N ≤ 100000000000) : RLoop Tryz.prog none 1 (cB (cB (cR (cL (cR (cR (cR (cR (cR (bodyOf Tryz.f105)))))))))) (8 + 1) (enL H W n N 0) (.exit 2) (enL H W n N 8) := by
 have hstep : ∀ j, j < 8 → R Tryz.prog none 1 (cB (cB (cR (cL (cR (cR (cR (cR (cR (bodyOf Tryz.f105)))))))))) (enL H W n N j) .normal (enL H W n N (j + 1)) := by
  intro j hj
  have e1 : Int.toNat (56 - 8 * (j : Int)) = 56 - 8 * j := by omega
  have key : ∀ k, k < 8 → (Bool.rec [V.int IntKind.u8 (if k < j then lenE (8 * (N : Int)) k else 0)] [V.int IntKind.u8 (IntKind.wrap IntKind.u8 (8 * (N : Int) / 2 ^ (56 - 8 * j)))] (Nat.beq k j) : List V) = [V.int IntKind.u8 (if k < j + 1 then lenE (8 * (N : Int)) k else 0)] := by
   intro k hk
   cases hb : Nat.beq k j with
   | true =>
    have := Nat.eq_of_beq_eq_true hb; subst this
    rw [show (if k < k + 1 then lenE (8 * (N : Int)) k else 0) = lenE (8 * (N : Int)) k from if_pos (Nat.lt_succ_self k)]; rfl
   | false =>
    have hne : k ≠ j := fun e => by rw [e, Nat.beq_refl] at hb; cases hb
    by_cases h : k < j
    ·rw [if_pos h, if_pos (by omega)]
    ·rw [if_neg h, if_neg (by omega)]
  refine R_alongPc NG MO _ (pcEl_p1 H W n N j) ?_ (by show 1 ≤ 3; decide)
  simp only [All, e1, Int.toNat_natCast, Nat.zero_add]; and_intros
  all_goals first
   | exact True.intro
   | exact key
   | (with_reducible assumption)
   | (rw [decide_eq_true_eq]; omega)
   | (rw [decide_eq_false_iff_not]; omega)
   | with_reducible rfl
   | (intro _ _; exact True.intro)
   | (intro _ _; with_reducible rfl)
   | (intro _ _; rfl)
   | (simp only [IntKind.min, IntKind.max, IntKind.signed, IntKind.bits, if_true]; omega)
   | omega
   | (intro h; exact h)
   | (intro h; cases h; done)
   | exact .inl rfl
   | exact .inl True.intro
   | exact .inr rfl
   | (simp; done)
 have hend : R Tryz.prog none 1 (cB (cB (cR (cL (cR (cR (cR (cR (cR (bodyOf Tryz.f105)))))))))) (enL H W n N 8) (.exit 2) (enL H W n N 8) := by
  refine R_alongPc NG MO _ (pcEl_p0 H W n N 8) ?_ (by show 1 ≤ 3; decide)
  simp only [All]; and_intros
  all_goals first
   | exact True.intro
   | (with_reducible assumption)
   | (rw [decide_eq_true_eq]; omega)
   | (rw [decide_eq_false_iff_not]; omega)
   | with_reducible rfl
   | (intro _ _; exact True.intro)
   | (intro _ _; with_reducible rfl)
   | (intro _ _; rfl)
   | (simp only [IntKind.min, IntKind.max, IntKind.signed, IntKind.bits, if_true]; omega)
   | omega
   | (intro h; exact h)
   | (intro h; cases h; done)
   | exact .inl rfl
   | exact .inl True.intro
   | exact .inr rfl
   | (simp; done)
 exact RLoop.inv (fun j => enL H W n N j) 8 hstep hend (by simp)
theorem enJL (H W : List Int) (n : Nat) : RLoop Tryz.prog none 1 (cB (cB (cR (cL (cR (cR (cR (cR (cR (cR (cR (bodyOf Tryz.f105)))))))))))) (32 + 1) (enJ H W n (dA H 0) 0) (.exit 4) (enJ H W n (dA H 32) 32) := by
 have hstep : ∀ k, k < 32 → R Tryz.prog none 1 (cB (cB (cR (cL (cR (cR (cR (cR (cR (cR (cR (bodyOf Tryz.f105)))))))))))) (enJ H W n (dA H k) k) .normal (enJ H W n (dA H (k + 1)) (k + 1)) := by
  intro k hk
  have e1 : Int.toNat (24 - 8 * ((k : Int) % 4)) = 24 - 8 * (k % 4) := by omega
  have e2 : Int.toNat ((k : Int) / 4) = k / 4 := by omega
  refine R_alongPc NG MO _ (pcEj_p1 H W n (dA H k) k (dA H (k + 1))) ?_ (by show 1 ≤ 2; decide)
  simp only [All, e1, e2, Int.toNat_natCast, Nat.zero_add]; and_intros
  all_goals first
   | exact True.intro
   | rfl
   | (with_reducible assumption)
   | (rw [decide_eq_true_eq]; omega)
   | (rw [decide_eq_false_iff_not]; omega)
   | with_reducible rfl
   | (intro _ _; exact True.intro)
   | (intro _ _; with_reducible rfl)
   | (intro _ _; rfl)
   | (simp only [IntKind.min, IntKind.max, IntKind.signed, IntKind.bits, if_true]; omega)
   | omega
   | (intro h; exact h)
   | (intro h; cases h; done)
   | exact .inl rfl
   | exact .inl True.intro
   | exact .inr rfl
   | (simp; done)
 have hend : R Tryz.prog none 1 (cB (cB (cR (cL (cR (cR (cR (cR (cR (cR (cR (bodyOf Tryz.f105)))))))))))) (enJ H W n (dA H 32) 32) (.exit 4) (enJ H W n (dA H 32) 32) := by
  refine R_alongPc NG MO _ (pcEj_p0 H W n (dA H 32) 32 []) ?_ (by show 1 ≤ 2; decide)
  simp only [All]; and_intros
  all_goals first
   | exact True.intro
   | (with_reducible assumption)
   | (rw [decide_eq_true_eq]; omega)
   | (rw [decide_eq_false_iff_not]; omega)
   | with_reducible rfl
   | (intro _ _; exact True.intro)
   | (intro _ _; with_reducible rfl)
   | (intro _ _; rfl)
   | (simp only [IntKind.min, IntKind.max, IntKind.signed, IntKind.bits, if_true]; omega)
   | omega
   | (intro h; exact h)
   | (intro h; cases h; done)
   | exact .inl rfl
   | exact .inl True.intro
   | exact .inr rfl
   | (simp; done)
 exact RLoop.inv (fun k => enJ H W n (dA H k) k) 32 hstep hend (by simp)
theorem T_en {B H W : List Int} (hI : Inv B H W) (hb : B.length ≤ 10000000000) : ∃ H3 W3 n3, T Tryz.prog 105 [p0K 0] [(.o 0, stB H W (B.length : Nat))] (.agg [.seg .u8 32 (shaV B)]) [(.o 0, stB H3 W3 n3)] := by
 obtain ⟨H1, W1, hI1, hT1⟩ := T_wrS hI [128] (by simp; omega) (getL [[V.int IntKind.u8 128]]) (g1 _) (some 1) false (x := 513) (by decide)
 have hl1 : (B ++ [128]).length = B.length + 1 := by simp
 have hz : padZ (B.length + 1) < 64 := by unfold padZ; omega
 obtain ⟨H2, W2, hI2, hL2⟩ := en0 B.length (padZ (B.length + 1)) (B ++ [128]) H1 W1 hI1 (by rw [hl1]; exact padZ_at _) (fun i hi => by rw [hl1]; exact padZ_lt hi) (by rw [hl1]; omega)
 have hl2 : (B ++ [128] ++ List.replicate (padZ (B.length + 1)) 0).length = B.length + 1 + padZ (B.length + 1) := by rw [List.length_append, hl1, List.length_replicate]
 rw [hl1] at hL2
 have h8 := lenB_len (8 * (B.length : Int))
 obtain ⟨H3, W3, hI3, hT3⟩ := T_wrS hI2 (lenB (8 * (B.length : Int))) (by rw [hl2, h8]; omega) (enR B.length 8) (fun k hk => by rw [h8] at hk; rw [lenB_get hk, enR, if_pos hk]) none false (x := 2) (by decide)
 rw [hl2, h8] at hT3
 have hLL := enLL H2 W2 (B.length + 1 + padZ (B.length + 1)) B.length (by omega)
 have hJ := enJL H3 W3 (B.length + 1 + padZ (B.length + 1) + 8)
 have hH3 : dA H3 32 = shaV B := by rw [shaV, padL, ← hI3.h]
 rw [hH3] at hJ
 refine ⟨H3, W3, ((B.length + 1 + padZ (B.length + 1) + 8 : Nat) : Int), ?_⟩
 refine T_al (bdEn_p H W B.length H1 W1 (padZ (B.length + 1)) H2 W2 H3 W3 (shaV B)) Tryz.func105 ?_
 simp only [All]; and_intros
 all_goals first
  | exact True.intro
  | exact hT1
  | exact hL2
  | exact hLL
  | exact hT3
  | exact hJ
  | rfl
  | (with_reducible assumption)
  | (rw [decide_eq_true_eq]; omega)
  | (rw [decide_eq_false_iff_not]; omega)
  | with_reducible rfl
  | (intro _ _; exact True.intro)
  | (intro _ _; with_reducible rfl)
  | (intro _ _; rfl)
  | (simp only [IntKind.min, IntKind.max, IntKind.signed, IntKind.bits, if_true]; omega)
  | omega
  | (intro h; exact h)
  | (intro h; cases h; done)
  | exact .inl rfl
  | exact .inl True.intro
  | exact .inr rfl
  | (simp; done)
end Go.Proofs.YtnmccoincblecaaGreat
namespace Go.Proofs.YtnmccoincblecaaGreat
open Go Sy Go.Proofs
def z64L : List Int := List.replicate 64 0
def suW (H W : List Int) (n : Int) : List V → List Cl
 | .ptr s _ _ _ _ :: _ => [{ pre := [s], val := .tup [], post := [(s, stB H W n)] }]
 | _ => []
def suE (d H W : List Int) (n : Int) : List V → List Cl
 | .ptr s _ _ _ _ :: _ => [{ pre := [s], val := .agg [.seg .u8 32 d], post := [(s, stB H W n)] }]
 | _ => []
noncomputable def suDb (H1 W1 : List Int) (n1 : Int) (H2 W2 : List Int) (n2 : Int) (d H3 W3 : List Int) (n3 : Int) : Nat → List V → Heap → Nat → List Cl := dbQ [
 (103, fun _ _ lo => [{ val := .ptr (.o lo) 0 0 0 0, post := [(.o lo, stB iv z64L 0)] }]),
 (104, fun a _ lo => bif Nat.ble lo 1000 then suW H1 W1 n1 a else suW H2 W2 n2 a),
 (105, fun a _ _ => suE d H3 W3 n3 a)]
end Go.Proofs.YtnmccoincblecaaGreat
namespace Go.Proofs.YtnmccoincblecaaGreat
open Go Sy Go.Proofs
theorem T_be : T Tryz.prog 103 [] [] (p0K 65) [(.o 65, stB iv z64L 0)] := by
 have h : T Tryz.prog 103 [] [] (p0K 192) [(.o 192, stB iv z64L 0)] := T_along NG MO _ bdBe_p Tryz.func103 (by kernel_rfl) True.intro (pinH_ok (by kernel_rfl)) (by kernel_rfl)
 obtain ⟨σ, hσ, h3⟩ := T.at h [.o 192] [.o 65] (by decide) (by decide) rfl
 simp only [List.map_cons, List.map_nil, List.cons.injEq, and_true] at hσ
 simpa [V.rens, V.ren, Heap.ren, Sy.B.ren, p0K, stB, hσ] using h3
theorem T_wrA {B H W : List Int} (hI : Inv B H W) (l : List Int) (hb : B.length + l.length ≤ 1000000000000) (s : Nat) : ∃ H2 W2, Inv (B ++ l) H2 W2 ∧ T Tryz.prog 104 [p0K s, rb l] [(.o s, stB H W (B.length : Nat))] (.tup []) [(.o s, stB H2 W2 ((B.length + l.length : Nat) : Int))] := by
 obtain ⟨H2, W2, h1, h2⟩ := T_wr hI l hb
 obtain ⟨σ, hσ, h3⟩ := T.at h2 [.o 0] [.o s] (by decide) (by simp) rfl
 simp only [List.map_cons, List.map_nil, List.cons.injEq, and_true] at hσ
 exact ⟨H2, W2, h1, by simpa [V.rens, V.ren, Heap.ren, Sy.B.ren, p0K, stB, rb, hσ] using h3⟩
theorem T_enA {B H W : List Int} (hI : Inv B H W) (hb : B.length ≤ 10000000000) (s : Nat) : ∃ H3 W3 n3, T Tryz.prog 105 [p0K s] [(.o s, stB H W (B.length : Nat))] (.agg [.seg .u8 32 (shaV B)]) [(.o s, stB H3 W3 n3)] := by
 obtain ⟨H3, W3, n3, h2⟩ := T_en hI hb
 obtain ⟨σ, hσ, h3⟩ := T.at h2 [.o 0] [.o s] (by decide) (by simp) rfl
 simp only [List.map_cons, List.map_nil, List.cons.injEq, and_true] at hσ
 exact ⟨H3, W3, n3, by simpa [V.rens, V.ren, Heap.ren, Sy.B.ren, p0K, stB, hσ] using h3⟩
end Go.Proofs.YtnmccoincblecaaGreat
namespace Go.Proofs.YtnmccoincblecaaGreat
open Go Sy Go.Proofs
end Go.Proofs.YtnmccoincblecaaGreat
namespace Go.Proofs.YtnmccoincblecaaGreat
open Go Sy Go.Proofs
end Go.Proofs.YtnmccoincblecaaGreat
namespace Go.Proofs.YtnmccoincblecaaGreat
open Go Sy Go.Proofs
end Go.Proofs.YtnmccoincblecaaGreat
namespace Go.Proofs.YtnmccoincblecaaGreat
open Go Sy Go.Proofs
end Go.Proofs.YtnmccoincblecaaGreat
namespace Go.Proofs.YtnmccoincblecaaGreat
open Go Sy Go.Proofs
def rbs (n : Nat) (ls : Nat → List Int) : V := .ros 1 n (fun k => [rb (ls k)]) false
noncomputable def bdR2 (ls : Nat → List Int) (H1 W1 : List Int) (n1 : Int) (H2 W2 : List Int) (n2 : Int) (d H3 W3 : List Int) (n3 : Int) : Bd := { f := Tryz.f82, args := [rbs 2 ls], base := 1, kb := { db := suDb H1 W1 n1 H2 W2 n2 d H3 W3 n3, lp := fun _ _ => [(True, .rounds 3)], lit := true } }
end Go.Proofs.YtnmccoincblecaaGreat
namespace Go.Proofs.YtnmccoincblecaaGreat
open Go Sy Go.Proofs
theorem bdR2_p (ls : Nat → List Int) (H1 : List Int) (W1 : List Int) (n1 : Int) (H2 : List Int) (W2 : List Int) (n2 : Int) (d : List Int) (H3 : List Int) (W3 : List Int) (n3 : Int) :
  along Tryz.prog (bdR2 ls H1 W1 n1 H2 W2 n2 d H3 W3 n3) [] = (some (.agg [.seg .u8 32 d], [], [T Tryz.prog 103 [] [] (.ptr (.o 65) 0 0 0 0) [(.o 65, .flat [.seg .u32 8 [(1779033703 : Int), (3144134277 : Int), (1013904242 : Int), (2773480762 : Int), (1359893119 : Int), (2600822924 : Int), (528734635 : Int), (1541459225 : Int)], .seg .u8 64 z64L, .int .i64 0])], q2, (0 : Int) ≤ (0 : Int) ∧ (0 : Int) < (2 : Int), T Tryz.prog 104 [.ptr (.o 65) 0 0 0 0, .ros 1 (List.length (ls 0)) (ib (ls 0)) false] [(.o 65, .flat [.seg .u32 8 [(1779033703 : Int), (3144134277 : Int), (1013904242 : Int), (2773480762 : Int), (1359893119 : Int), (2600822924 : Int), (528734635 : Int), (1541459225 : Int)], .seg .u8 64 z64L, .int .i64 0])] (.tup []) [(.o 65, .flat [.seg .u32 8 H1, .seg .u8 64 W1, .int .i64 n1])], InR IntKind.i64 (1 : Int), q2, (0 : Int) ≤ (1 : Int) ∧ (1 : Int) < (2 : Int), T Tryz.prog 104 [.ptr (.o 65) 0 0 0 0, .ros 1 (List.length (ls 1)) (ib (ls 1)) false] [(.o 65, .flat [.seg .u32 8 H1, .seg .u8 64 W1, .int .i64 n1])] (.tup []) [(.o 65, .flat [.seg .u32 8 H2, .seg .u8 64 W2, .int .i64 n2])], InR IntKind.i64 (2 : Int), q false, T Tryz.prog 105 [.ptr (.o 65) 0 0 0 0] [(.o 65, .flat [.seg .u32 8 H2, .seg .u8 64 W2, .int .i64 n2])] (.agg [.seg .u8 32 d]) [(.o 65, .flat [.seg .u32 8 H3, .seg .u8 64 W3, .int .i64 n3])]]) : Option (V × Heap × List Prop)) := by kernel_rfl

theorem T_sr2 (ls : Nat → List Int) (hb : (ls 0).length + (ls 1).length ≤ 10000000000) : T Tryz.prog 82 [rbs 2 ls] [] (.agg [.seg .u8 32 (shaV (ls 0 ++ ls 1))]) [] := by
 have hB := T_be
 obtain ⟨H1, W1, hI1, hT1⟩ := T_wrA (inv_nil (W := z64L) (by simp [z64L])) (ls 0) (by simp; omega) 65
 rw [List.nil_append] at hI1
 rw [List.length_nil, Nat.zero_add] at hT1
 obtain ⟨H2, W2, hI2, hT2⟩ := T_wrA hI1 (ls 1) (by omega) 65
 obtain ⟨H3, W3, n3, hT3⟩ := T_enA hI2 (by rw [List.length_append]; omega) 65
 rw [List.length_append] at hT3
 refine T_al (bdR2_p ls H1 W1 ((ls 0).length : Nat) H2 W2 (((ls 0).length + (ls 1).length : Nat) : Int) (shaV (ls 0 ++ ls 1)) H3 W3 n3) Tryz.func82 ?_
 simp only [All]; and_intros
 all_goals first
  | exact True.intro
  | exact hB
  | exact hT1
  | exact hT2
  | exact hT3
  | (with_reducible assumption)
  | (rw [decide_eq_true_eq]; omega)
  | (rw [decide_eq_false_iff_not]; omega)
  | with_reducible rfl
  | (intro _ _; exact True.intro)
  | (intro _ _; with_reducible rfl)
  | (intro _ _; rfl)
  | (simp only [IntKind.min, IntKind.max, IntKind.signed, IntKind.bits, if_true]; omega)
  | omega
  | (intro h; exact h)
  | (intro h; cases h; done)
  | exact .inl rfl
  | exact .inl True.intro
  | exact .inr rfl
  | (simp; done)
end Go.Proofs.YtnmccoincblecaaGreat
namespace Go.Proofs.YtnmccoincblecaaGreat
open Go Sy Go.Proofs
end Go.Proofs.YtnmccoincblecaaGreat
namespace Go.Proofs.YtnmccoincblecaaGreat
open Go Sy Go.Proofs
end Go.Proofs.YtnmccoincblecaaGreat
namespace Sy
open Go
def x8 (x y : Int) : Int := ibits (fun _ x y => x ^^^ y) .u8 x y
/-- A key's block, each byte turned by one. -/
def padK (k : List Int) (x : Int) : List Int := (List.range 64).map fun i => x8 (k.getD i 0) x
/-- So many of them are turned. -/
def padJ (k : List Int) (x : Int) (j : Nat) : List Int := (List.range 64).map fun i => if i < j then x8 (k.getD i 0) x else k.getD i 0
theorem padK_len (k : List Int) (x : Int) : (padK k x).length = 64 := by simp [padK]
theorem padJ_len (k : List Int) (x : Int) (j : Nat) : (padJ k x j).length = 64 := by simp [padJ]
theorem padJ_end (k : List Int) (x : Int) : padJ k x 64 = padK k x := by
 unfold padJ padK
 apply List.map_congr_left
 intro i hi
 rw [if_pos (List.mem_range.1 hi)]
theorem padJ_get (k : List Int) (x : Int) (j : Nat) {i : Nat} (h : i < 64) : (padJ k x j).getD i 0 = if i < j then x8 (k.getD i 0) x else k.getD i 0 := by
 rw [padJ, List.getD_eq_getElem?_getD, List.getElem?_map, List.getElem?_range h]; rfl
theorem padJ_set (k : List Int) (x : Int) {j : Nat} (h : j < 64) : (padJ k x j).set j (x8 ((padJ k x j).getD j 0) x) = padJ k x (j + 1) := by
 apply List.ext_getElem?
 intro i
 rw [List.getElem?_set]
 by_cases hi : i < 64
 ·have e : ∀ j', (padJ k x j')[i]? = some (if i < j' then x8 (k.getD i 0) x else k.getD i 0) := fun j' => by
   rw [padJ, List.getElem?_map, List.getElem?_range hi]; rfl
  rw [e, e]
  by_cases h1 : j = i
  ·subst h1
   rw [if_pos rfl, if_pos (by rw [padJ_len]; exact h), padJ_get k x j h, if_neg (Nat.lt_irrefl j), if_pos (Nat.lt_succ_self j)]
  ·rw [if_neg h1]
   by_cases h2 : i < j
   ·rw [if_pos h2, if_pos (by omega)]
   ·rw [if_neg h2, if_neg (by omega)]
 ·have e : ∀ j', (padJ k x j')[i]? = none := fun j' => by rw [List.getElem?_eq_none_iff, padJ_len]; omega
  rw [e, e, padJ_len]
  by_cases h1 : j = i
  ·subst h1; rw [if_pos rfl, if_neg (by omega)]
  ·rw [if_neg h1]
theorem padJ_zero (k : List Int) (x : Int) : padJ k x 0 = (List.range 64).map fun i => k.getD i 0 := by
 unfold padJ
 apply List.map_congr_left
 intro i _
 rw [if_neg (Nat.not_lt_zero i)]
def macV (k b : List Int) : List Int := shaV (padK k 92 ++ shaV (padK k 54 ++ b))
theorem dA_len (H : List Int) : ∀ i, (dA H i).length = 32
 | 0 => by simp [dA]
 | i + 1 => by rw [dA, List.length_set, dA_len H i]
theorem shaV_len (B : List Int) : (shaV B).length = 32 := dA_len _ _
theorem macV_len (k b : List Int) : (macV k b).length = 32 := shaV_len _
def uI (l : List UInt8) : List Int := l.map fun x => (x.toNat : Int)
theorem uI_len (l : List UInt8) : (uI l).length = l.length := by simp [uI]
theorem uI_app (a b : List UInt8) : uI (a ++ b) = uI a ++ uI b := by simp [uI]
theorem uI_get (l : List UInt8) (i : Nat) : (uI l).getD i 0 = ((l.getD i 0).toNat : Int) := by
 simp only [uI, List.getD_eq_getElem?_getD, List.getElem?_map]
 cases l[i]? <;> rfl
/-- A text's bytes. -/
def bI (s : ByteArray) : List Int := uI s.data.toList
theorem bI_len (s : ByteArray) : (bI s).length = s.size := by rw [bI, uI_len]; rfl
theorem bI_get (s : ByteArray) (i : Nat) : (bI s).getD i 0 = byteAt s i := by rw [bI, uI_get]; rfl
def tagL (d : List Int) : List Int := (List.range 16).map fun i => d.getD i 0
theorem tagL_len (d : List Int) : (tagL d).length = 16 := by simp [tagL]
/-- A tag: of what bytes the key is the digest, of which body. -/
def tagV (kb : List UInt8) (body : ByteArray) : List Int := tagL (macV (shaV (uI kb)) (bI body))
end Sy
namespace Go.Proofs.YtnmccoincblecaaGreat
open Go Sy Go.Proofs
def ubC (l : List UInt8) : List V → Heap → Nat → List Cl := fun _ _ lo => [{ val := sb (.o lo) l, post := [(.o lo, bs l)] }]
def agD (d : List Int) : V := .agg [.seg .u8 32 d]
def kyV (s : ByteArray) (n : Int) : V := .agg [.str s, .int .i64 n]
end Go.Proofs.YtnmccoincblecaaGreat
namespace Go.Proofs.YtnmccoincblecaaGreat
open Go Sy Go.Proofs
theorem ib_uI (l : List UInt8) (k : Nat) : bl l k = ib (uI l) k := by
 show [V.int .u8 ((l.getD k 0).toNat : Int)] = [V.int .u8 ((uI l).getD k 0)]
 rw [uI_get]
/-- A tag by the document, or why there is none. -/
def sgnV (s : ByteArray) (n id : Int) (b : ByteArray) : List Int := if 0 ≤ id ∧ id < n then tagV (textB s ++ putZ id) b else List.replicate 16 0
def sgnE (n id : Int) : Int := if 0 ≤ id ∧ id < n then 0 else 2
/-- Is a tag an identity's of a body? -/
def chkB (s : ByteArray) (n id : Int) (b : ByteArray) (t : List Int) : Bool := decide (0 ≤ id ∧ id < n) && decide (tagV (textB s ++ putZ id) b = t)
end Go.Proofs.YtnmccoincblecaaGreat
namespace Go.Proofs.YtnmccoincblecaaGreat
open Go Sy Go.Proofs
def msI (x : Int) (K : List Int) (ls : Nat → List Int) (L : List Int) (j : Nat) : St := ⟨mkT 24 [(0, .int .u8 x), (1, rbs 1 ls), (5, p0K 2), (6, p0K 1), (9, .int .i64 (j : Nat))], [(.o 0, .flat [.seg .u8 64 K]), (.o 1, .flat [.seg .u8 64 L]), (.o 2, .flat [.seg .u8 32 z32L])], 3, []⟩
def apF (xs : List Int) (g : Nat → List V) : Nat → List V := catF 1 (fun _ => [rb xs]) g
def apP : Prim → List V → Heap → Nat → List Cl := fun pr vs h lo => match pr with
 | .append _ _ => match vs with
  | [.sl y _ _ _ _ _ _, .ros _ n g _] => match pull y h with
   | some (.flat [.sl b _ _ _ _ _ _], _) => match pull b h with
    | some (.flat [.seg _ _ xs], _) => [{ pre := [y, b], val := .sl (.o lo) 1 0 0 0 (1 + n) none, post := [(.o lo, .rows 1 (1 + n) (apF xs g) true)] }]
    | _ => []
   | _ => []
  | _ => []
 | _ => []
def suC (d : List Int) : List V → Heap → Nat → List Cl := fun a _ _ => match a with
 | [.sl y _ _ _ _ _ _] => [{ pre := [y], val := agD d }]
 | _ => []
noncomputable def bdMs (x : Int) (K : List Int) (ls : Nat → List Int) (L d : List Int) : Bd := { f := Tryz.f106, args := [.int .u8 x, rbs 1 ls, p0K 0], pre := [(.o 0, .flat [.seg .u8 64 K])], base := 1, kb := { db := dbQ [(82, suC d)], pr := apP, lp := fun _ t => [(True, .loop (64 + 1) (wToS [(.o 1, nmV (getV t.tmps 6)), (.o 2, nmV (getV t.tmps 5))] (msI x K ls K 0)) (.exit 0) (msI x K ls L 64))] }, names := fun _ => [.o 0] }
noncomputable def pcMs (x : Int) (K : List Int) (ls : Nat → List Int) (L : List Int) (j : Nat) (L2 : List Int) : Pc := { c := cB (cB (cR (cL (cR (cR (bodyOf Tryz.f106)))))), st := msI x K ls L j, p := 1, kb := kb0, k := fun x_ _ => match x_ with
 | .normal => some (wTo (msI x K ls L2 (j + 1)))
 | _ => some (wTo (msI x K ls L 64)) }
def maC (d1 d2 : List Int) : List V → Heap → Nat → List Cl := fun a h _ => match a with
 | [.int _ 54, _, .ptr n _ _ _ _] => [{ rd := [n], val := agD d1 }]
 | [.int _ 92, .sl y _ _ _ _ _ _, .ptr n _ _ _ _] => match pull y h with
  | some (.flat [.sl b _ _ _ _ _ _], _) => match pull n h with
   | some (blk, _) => [{ pre := [n, y, b], val := agD d2, post := [(n, blk)] }]
   | none => []
  | _ => []
 | _ => []
noncomputable def bdMa (k : List Int) (ls : Nat → List Int) (d1 d2 : List Int) : Bd := { f := Tryz.f83, args := [rb k, rbs 1 ls], kb := { db := dbQ [(106, maC d1 d2)] } }
def kyB (s : ByteArray) (n : Int) : B := .flat [.str s, .int .i64 n]
noncomputable def bdLe (s : ByteArray) (n : Int) : Bd := { f := Tryz.f40, args := [p0K 0], pre := [(.o 0, kyB s n)], base := 1, kb := kb0, names := fun _ => [.o 0] }
noncomputable def bdDe (s : ByteArray) (n : Int) : Bd := { f := Tryz.f39, args := [.str s, .int .i64 n], kb := kb0, names := fun t => match getV t.tmps 4 with | .ptr a _ _ _ _ => [a] | _ => [] }
noncomputable def bdRe (s : ByteArray) (n : Int) : Bd := { f := Tryz.f38, args := [.str s, .int .i64 n], kb := kb0 }
noncomputable def bdTz (s : ByteArray) : Bd := { f := Tryz.f34, args := [.snil, .str s], base := 1, kb := { db := fun k a _ lo => bif Nat.beq k 35 then cNew (putZ s.size) a lo else [] }, k := kSb 4 63 (textB s), names := fun _ => [.o 63] }
def sgS (kd m : List Int) : Nat → List V → Heap → Nat → List Cl := dbQ [
 (82, fun a h _ => match a with
  | [.sl y _ _ _ _ _ _] => match pull y h with
   | some (.flat [.sl b _ _ _ _ _ _, .sl c _ _ _ _ _ _], _) => [{ pre := [y, b, c], val := agD kd }]
   | _ => []
  | _ => []),
 (83, fun a _ _ => match a with
  | [.sl y _ _ _ _ _ _, .sl b _ _ _ _ _ _] => [{ pre := [y, b], val := agD m }]
  | _ => [])]
def cpP (t : List Int) : Prim → List V → Heap → Nat → List Cl := fun pr vs _ _ => match pr with
 | .copy _ _ => match vs with
  | [.sl a _ _ _ _ _ _, .sl b _ _ _ _ _ _] => [{ pre := [a, b], val := .int .i64 16, post := [(a, .flat [.seg .u8 16 t])] }]
  | _ => []
 | _ => []
noncomputable def bdSg (s : ByteArray) (n id : Int) (b : ByteArray) (l1 l2 : List UInt8) (kd m t : List Int) : Bd := { f := Tryz.f41, args := [p0K 0, .int .i64 id, .str b], pre := [(.o 0, kyB s n)], base := 1, kb := { db := fun k a h lo => bif Nat.beq k 40 then [{ rd := [.o 0], val := .int .i64 n }] else bif Nat.beq k 34 then ubC l1 a h lo else bif Nat.beq k 35 then ubC l2 a h lo else sgS kd m k a h lo, pr := cpP t }, names := fun _ => [.o 0] }
noncomputable def bdCk (s : ByteArray) (n id : Int) (b : ByteArray) (t u : List Int) (e : Int) : Bd := { f := Tryz.f23, args := [p0K 0, .int .i64 id, .str b, .agg [.seg .u8 16 t]], pre := [(.o 0, kyB s n)], base := 1, kb := { db := fun k _ _ _ => bif Nat.beq k 41 then [{ rd := [.o 0], val := .tup [.agg [.seg .u8 16 u], .int .i64 e] }] else [] }, names := fun _ => [.o 0] }
end Go.Proofs.YtnmccoincblecaaGreat
namespace Go.Proofs.YtnmccoincblecaaGreat
open Go Sy Go.Proofs
theorem bdMs_p (x : Int) (K : List Int) (ls : Nat → List Int) (L : List Int) (d : List Int) :
  along Tryz.prog (bdMs x K ls L d) [] = (some (.agg [.seg .u8 32 d], [(.o 0, .flat [.seg .u8 64 K])], [RLoop Tryz.prog none 1 (cB (cB (cR (cL (cR (cR (bodyOf (Bd.f (bdMs x K ls L d))))))))) 65 (St.mk [.int .u8 x, .ros 1 1 (fun k => [.ros 1 (List.length (ls k)) (ib (ls k)) false]) false, .any, .any, .any, .ptr (.o 2) 0 0 0 0, .ptr (.o 1) 0 0 0 0, .any, .any, .int .i64 0, .any, .any, .any, .any, .any, .any, .any, .any, .any, .any, .any, .any, .any, .any] [(.o 0, .flat [.seg .u8 64 K]), (.o 1, .flat [.seg .u8 64 K]), (.o 2, .flat [.seg .u8 32 z32L])] 3 []) (.exit 0) (St.mk [.int .u8 x, .ros 1 1 (fun k => [.ros 1 (List.length (ls k)) (ib (ls k)) false]) false, .any, .any, .any, .ptr (.o 2) 0 0 0 0, .ptr (.o 1) 0 0 0 0, .any, .any, .int .i64 64, .any, .any, .any, .any, .any, .any, .any, .any, .any, .any, .any, .any, .any, .any] [(.o 0, .flat [.seg .u8 64 K]), (.o 1, .flat [.seg .u8 64 L]), (.o 2, .flat [.seg .u8 32 z32L])] 3 []), q (64 : Nat), q K, q (64 : Nat), q K, q (32 : Nat), z32 = z32L, q x, q (1 : Nat), ∀ (k : Nat), k < (1 : Nat) → [V.ros (1 : Nat) (List.length (ls k)) (ib (ls k)) false] = [V.ros (1 : Nat) (List.length (ls k)) (ib (ls k)) false], false = true → false = true, q0, q0, q0, q0, q0, q0, q1, TO Tryz.prog (Prim.append (171 : Nat) (171 : Nat)) [V.sl (Nm.o (nat_lit 67)) (0 : Nat) (0 : Nat) (0 : Nat) (0 : Nat) (1 : Nat) (some (1 : Nat)), V.ros (1 : Nat) (1 : Nat) (fun k => [V.ros (1 : Nat) (List.length (ls k)) (ib (ls k)) false]) false] [(Nm.o (nat_lit 67), B.flat [V.sl (Nm.o (1 : Nat)) (0 : Nat) (0 : Nat) (0 : Nat) (nat_lit 0) (nat_lit 64) (some (nat_lit 64))]), (Nm.o (1 : Nat), B.flat [V.seg IntKind.u8 (64 : Nat) L])] (V.sl (Nm.o (nat_lit 195)) (1 : Nat) (0 : Nat) (0 : Nat) (0 : Nat) (nat_lit 2) none) [(Nm.o (nat_lit 195), B.rows (1 : Nat) (nat_lit 2) (apF L fun k => [V.ros (1 : Nat) (List.length (ls k)) (ib (ls k)) false]) true)], T Tryz.prog 82 [.sl (.o 195) 1 0 0 0 2 none] [(.o 195, .rows 1 2 (apF L fun k => [.ros 1 (List.length (ls k)) (ib (ls k)) false]) true)] (.agg [.seg .u8 32 d]) []]) : Option (V × Heap × List Prop)) := by kernel_rfl

theorem pcMs_p1 (x : Int) (K : List Int) (ls : Nat → List Int) (L : List Int) (j : Nat) (L2 : List Int) :
  alongPc Tryz.prog (pcMs x K ls L j L2) [true] = (some (.normal, St.mk [.int .u8 x, .ros 1 1 (fun k => [.ros 1 (List.length (ls k)) (ib (ls k)) false]) false, .any, .any, .any, .ptr (.o 2) 0 0 0 0, .ptr (.o 1) 0 0 0 0, .any, .any, .int .i64 (↑(j + 1) : Int), .any, .any, .any, .any, .any, .any, .any, .any, .any, .any, .any, .any, .any, .any] [(.o 0, .flat [.seg .u8 64 K]), (.o 1, .flat [.seg .u8 64 L2]), (.o 2, .flat [.seg .u8 32 z32L])] 3 [], [decide ((↑j : Int) < (64 : Int)) = true, (0 : Int) ≤ (↑j : Int) ∧ (↑j : Int) < (64 : Int), (0 : Nat) + Int.toNat (↑j : Int) < (64 : Nat), (0 : Int) ≤ (↑j : Int) ∧ (↑j : Int) < (64 : Int), (0 : Nat) + Int.toNat (↑j : Int) < (64 : Nat), InR IntKind.i64 ((↑j : Int) + (1 : Int)), q (64 : Nat), q K, q (64 : Nat), List.set L ((0 : Nat) + Int.toNat (↑j : Int)) (ibits (fun x x_1 y => x_1 ^^^ y) IntKind.u8 (List.getD L ((0 : Nat) + Int.toNat (↑j : Int)) (0 : Int)) x) = L2, q (32 : Nat), q z32L, q x, q (1 : Nat), ∀ (k : Nat), k < (1 : Nat) → [V.ros (1 : Nat) (List.length (ls k)) (ib (ls k)) false] = [V.ros (1 : Nat) (List.length (ls k)) (ib (ls k)) false], false = true → false = true, q0, q0, q0, q0, q0, q0, (↑j : Int) + (1 : Int) = (↑(j + (1 : Nat)) : Int)]) : Option (Exit × St × List Prop)) := by kernel_rfl
theorem pcMs_p0 (x : Int) (K : List Int) (ls : Nat → List Int) (L : List Int) (j : Nat) (L2 : List Int) :
  alongPc Tryz.prog (pcMs x K ls L j L2) [false] = (some (.exit 0, St.mk [.int .u8 x, .ros 1 1 (fun k => [.ros 1 (List.length (ls k)) (ib (ls k)) false]) false, .any, .any, .any, .ptr (.o 2) 0 0 0 0, .ptr (.o 1) 0 0 0 0, .any, .any, .int .i64 64, .any, .any, .any, .any, .any, .any, .any, .any, .any, .any, .any, .any, .any, .any] [(.o 0, .flat [.seg .u8 64 K]), (.o 1, .flat [.seg .u8 64 L]), (.o 2, .flat [.seg .u8 32 z32L])] 3 [], [decide ((↑j : Int) < (64 : Int)) = false, q (64 : Nat), q K, q (64 : Nat), q L, q (32 : Nat), q z32L, q x, q (1 : Nat), ∀ (k : Nat), k < (1 : Nat) → [V.ros (1 : Nat) (List.length (ls k)) (ib (ls k)) false] = [V.ros (1 : Nat) (List.length (ls k)) (ib (ls k)) false], false = true → false = true, q0, q0, q0, q0, q0, q0, (↑j : Int) = (64 : Int)]) : Option (Exit × St × List Prop)) := by kernel_rfl

theorem bdMa_p0 (k : List Int) (ls : Nat → List Int) (d1 : List Int) (d2 : List Int) :
  along Tryz.prog (bdMa k ls d1 d2) [false] = (some (.agg [.seg .u8 32 d2], [], [decide ((64 : Int) < (↑(List.length k) : Int)) = false, nat_lit 64 ≤ (64 : Nat), ∀ (q : Nat), q < List.length k → true = true, T Tryz.prog 106 [.int .u8 54, .ros 1 1 (fun k => [.ros 1 (List.length (ls k)) (ib (ls k)) false]) false, .ptr (.o 256) 0 0 0 0] [(.o 256, .flat [.seg .u8 64 (segSet 64 [(0 : Int), (0 : Int), (0 : Int), (0 : Int), (0 : Int), (0 : Int), (0 : Int), (0 : Int), (0 : Int), (0 : Int), (0 : Int), (0 : Int), (0 : Int), (0 : Int), (0 : Int), (0 : Int), (0 : Int), (0 : Int), (0 : Int), (0 : Int), (0 : Int), (0 : Int), (0 : Int), (0 : Int), (0 : Int), (0 : Int), (0 : Int), (0 : Int), (0 : Int), (0 : Int), (0 : Int), (0 : Int), (0 : Int), (0 : Int), (0 : Int), (0 : Int), (0 : Int), (0 : Int), (0 : Int), (0 : Int), (0 : Int), (0 : Int), (0 : Int), (0 : Int), (0 : Int), (0 : Int), (0 : Int), (0 : Int), (0 : Int), (0 : Int), (0 : Int), (0 : Int), (0 : Int), (0 : Int), (0 : Int), (0 : Int), (0 : Int), (0 : Int), (0 : Int), (0 : Int), (0 : Int), (0 : Int), (0 : Int), (0 : Int)] 0 (Nat.min (List.length k) 64) (ib k))])] (.agg [.seg .u8 32 d1]) [(.o 256, .flat [.seg .u8 64 (segSet 64 [(0 : Int), (0 : Int), (0 : Int), (0 : Int), (0 : Int), (0 : Int), (0 : Int), (0 : Int), (0 : Int), (0 : Int), (0 : Int), (0 : Int), (0 : Int), (0 : Int), (0 : Int), (0 : Int), (0 : Int), (0 : Int), (0 : Int), (0 : Int), (0 : Int), (0 : Int), (0 : Int), (0 : Int), (0 : Int), (0 : Int), (0 : Int), (0 : Int), (0 : Int), (0 : Int), (0 : Int), (0 : Int), (0 : Int), (0 : Int), (0 : Int), (0 : Int), (0 : Int), (0 : Int), (0 : Int), (0 : Int), (0 : Int), (0 : Int), (0 : Int), (0 : Int), (0 : Int), (0 : Int), (0 : Int), (0 : Int), (0 : Int), (0 : Int), (0 : Int), (0 : Int), (0 : Int), (0 : Int), (0 : Int), (0 : Int), (0 : Int), (0 : Int), (0 : Int), (0 : Int), (0 : Int), (0 : Int), (0 : Int), (0 : Int)] 0 (Nat.min (List.length k) 64) (ib k))])], T Tryz.prog 106 [.int .u8 92, .sl (.o 1088) 0 0 0 0 1 (some 1), .ptr (.o 256) 0 0 0 0] [(.o 256, .flat [.seg .u8 64 (segSet 64 [(0 : Int), (0 : Int), (0 : Int), (0 : Int), (0 : Int), (0 : Int), (0 : Int), (0 : Int), (0 : Int), (0 : Int), (0 : Int), (0 : Int), (0 : Int), (0 : Int), (0 : Int), (0 : Int), (0 : Int), (0 : Int), (0 : Int), (0 : Int), (0 : Int), (0 : Int), (0 : Int), (0 : Int), (0 : Int), (0 : Int), (0 : Int), (0 : Int), (0 : Int), (0 : Int), (0 : Int), (0 : Int), (0 : Int), (0 : Int), (0 : Int), (0 : Int), (0 : Int), (0 : Int), (0 : Int), (0 : Int), (0 : Int), (0 : Int), (0 : Int), (0 : Int), (0 : Int), (0 : Int), (0 : Int), (0 : Int), (0 : Int), (0 : Int), (0 : Int), (0 : Int), (0 : Int), (0 : Int), (0 : Int), (0 : Int), (0 : Int), (0 : Int), (0 : Int), (0 : Int), (0 : Int), (0 : Int), (0 : Int), (0 : Int)] 0 (Nat.min (List.length k) 64) (ib k))]), (.o 1088, .flat [.sl (.o 832) 0 0 0 0 32 (some 32)]), (.o 832, .flat [.seg .u8 32 d1])] (.agg [.seg .u8 32 d2]) [(.o 256, .flat [.seg .u8 64 (segSet 64 [(0 : Int), (0 : Int), (0 : Int), (0 : Int), (0 : Int), (0 : Int), (0 : Int), (0 : Int), (0 : Int), (0 : Int), (0 : Int), (0 : Int), (0 : Int), (0 : Int), (0 : Int), (0 : Int), (0 : Int), (0 : Int), (0 : Int), (0 : Int), (0 : Int), (0 : Int), (0 : Int), (0 : Int), (0 : Int), (0 : Int), (0 : Int), (0 : Int), (0 : Int), (0 : Int), (0 : Int), (0 : Int), (0 : Int), (0 : Int), (0 : Int), (0 : Int), (0 : Int), (0 : Int), (0 : Int), (0 : Int), (0 : Int), (0 : Int), (0 : Int), (0 : Int), (0 : Int), (0 : Int), (0 : Int), (0 : Int), (0 : Int), (0 : Int), (0 : Int), (0 : Int), (0 : Int), (0 : Int), (0 : Int), (0 : Int), (0 : Int), (0 : Int), (0 : Int), (0 : Int), (0 : Int), (0 : Int), (0 : Int), (0 : Int)] 0 (Nat.min (List.length k) 64) (ib k))])]]) : Option (V × Heap × List Prop)) := by kernel_rfl

theorem bdLe_p0 (s : ByteArray) (n : Int) :
  along Tryz.prog (bdLe s n) [false] = (some (.int .i64 n, [(.o 0, .flat [.str s, .int .i64 n])], [q false]) : Option (V × Heap × List Prop)) := by kernel_rfl

theorem bdDe_p000 (s : ByteArray) (n : Int) :
  along Tryz.prog (bdDe s n) [false, false, false] = (some (.ptr (.o 960) 0 0 0 0, [(.o 960, .flat [.str s, .int .i64 n])], [decide (n < (1 : Int)) = false, decide ((4096 : Int) < n) = false, decide ((64 : Int) < (↑(ByteArray.size s) : Int)) = false]) : Option (V × Heap × List Prop)) := by kernel_rfl

theorem bdRe_p000 (s : ByteArray) (n : Int) :
  along Tryz.prog (bdRe s n) [false, false, false] = (some (.tup [.agg [.str s, .int .i64 n], .bool true], [], [decide (n < (1 : Int)) = false, decide ((4096 : Int) < n) = false, decide ((64 : Int) < (↑(ByteArray.size s) : Int)) = false]) : Option (V × Heap × List Prop)) := by kernel_rfl

theorem bdTz_p (s : ByteArray) :
  along Tryz.prog (bdTz s) [] = (some (.sl (.o 63) 1 0 0 0 (List.length (textB s)) none, [(.o 63, bs (textB s))], [T Tryz.prog 35 [.snil, .int .i64 (↑(ByteArray.size s) : Int)] [] (sb (.o 257) (putZ (↑(ByteArray.size s) : Int))) [(.o 257, bs (putZ (↑(ByteArray.size s) : Int)))], q (List.length (putZ (↑(ByteArray.size s) : Int))), (List.length (putZ (↑(ByteArray.size s) : Int)) + ByteArray.size s) * (1 : Nat) ≤ (140737488355328 : Nat), List.length (putZ (↑(ByteArray.size s) : Int)) + ByteArray.size s = List.length (textB s), ∀ (k : Nat), k < List.length (putZ (↑(ByteArray.size s) : Int)) + ByteArray.size s → catF (List.length (putZ (↑(ByteArray.size s) : Int))) (bl (putZ (↑(ByteArray.size s) : Int))) (fun k => [V.int IntKind.u8 (byteAt s k)]) k = bl (textB s) k, true = false → true = false, q0, q0, q0, List.length (putZ (↑(ByteArray.size s) : Int)) + ByteArray.size s = List.length (textB s), (none : Option Nat) = none ∨ (none : Option Nat) = none]) : Option (V × Heap × List Prop)) := by kernel_rfl

theorem bdSg_p011 (s : ByteArray) (n : Int) (id : Int) (b : ByteArray) (l1 : List UInt8) (l2 : List UInt8) (kd : List Int) (m : List Int) (t : List Int) :
  along Tryz.prog (bdSg s n id b l1 l2 kd m t) [false, true, true] = (some (.tup [.agg [.seg .u8 16 z16], .int .i64 2], [(.o 0, .flat [.str s, .int .i64 n])], [T Tryz.prog 40 [.ptr (.o 0) 0 0 0 0] [(.o 0, .flat [.str s, .int .i64 n])] (.int .i64 n) [(.o 0, .flat [.str s, .int .i64 n])], decide (n = (0 : Int)) = false, decide (id < (0 : Int)) = true, q2]) : Option (V × Heap × List Prop)) := by kernel_rfl
theorem bdSg_p001 (s : ByteArray) (n : Int) (id : Int) (b : ByteArray) (l1 : List UInt8) (l2 : List UInt8) (kd : List Int) (m : List Int) (t : List Int) :
  along Tryz.prog (bdSg s n id b l1 l2 kd m t) [false, false, true] = (some (.tup [.agg [.seg .u8 16 z16], .int .i64 2], [(.o 0, .flat [.str s, .int .i64 n])], [T Tryz.prog 40 [.ptr (.o 0) 0 0 0 0] [(.o 0, .flat [.str s, .int .i64 n])] (.int .i64 n) [(.o 0, .flat [.str s, .int .i64 n])], decide (n = (0 : Int)) = false, decide (id < (0 : Int)) = false, decide (n ≤ id) = true]) : Option (V × Heap × List Prop)) := by kernel_rfl
theorem bdSg_p000 (s : ByteArray) (n : Int) (id : Int) (b : ByteArray) (l1 : List UInt8) (l2 : List UInt8) (kd : List Int) (m : List Int) (t : List Int) :
  along Tryz.prog (bdSg s n id b l1 l2 kd m t) [false, false, false] = (some (.tup [.agg [.seg .u8 16 t], .int .i64 0], [(.o 0, .flat [.str s, .int .i64 n])], [T Tryz.prog 40 [.ptr (.o 0) 0 0 0 0] [(.o 0, .flat [.str s, .int .i64 n])] (.int .i64 n) [(.o 0, .flat [.str s, .int .i64 n])], decide (n = (0 : Int)) = false, decide (id < (0 : Int)) = false, decide (n ≤ id) = false, T Tryz.prog 34 [.snil, .str s] [] (sb (.o 1217) l1) [(.o 1217, bs l1)], T Tryz.prog 35 [.snil, .int .i64 id] [] (sb (.o 1345) l2) [(.o 1345, bs l2)], T Tryz.prog 82 [.sl (.o 1409) 0 0 0 0 2 (some 2)] [(.o 1409, .flat [.sl (.o 1217) 1 0 0 0 (List.length l1) none, .sl (.o 1345) 1 0 0 0 (List.length l2) none]), (.o 1217, bs l1), (.o 1345, bs l2)] (.agg [.seg .u8 32 kd]) [], T Tryz.prog 83 [.sl (.o 1537) 0 0 0 0 32 (some 32), .sl (.o 1857) 1 0 0 0 1 (some 1)] [(.o 1537, .flat [.seg .u8 32 kd]), (.o 1857, .rows 1 1 (getL [[.ros 1 (ByteArray.size b) (fun q => [.int .u8 (byteAt b q)]) false]]) false)] (.agg [.seg .u8 32 m]) [], TO Tryz.prog (Prim.copy (22 : Nat) (22 : Nat)) [V.sl (Nm.o (nat_lit 1)) (0 : Nat) (0 : Nat) (0 : Nat) (nat_lit 0) (nat_lit 16) (some (nat_lit 16)), V.sl (Nm.o (nat_lit 1985)) (0 : Nat) (0 : Nat) (0 : Nat) (nat_lit 0) (nat_lit 32) (some (nat_lit 32))] [(Nm.o (nat_lit 1), B.flat [V.seg IntKind.u8 (16 : Nat) z16]), (Nm.o (nat_lit 1985), B.flat [V.seg IntKind.u8 (32 : Nat) m])] (V.int IntKind.i64 (16 : Int)) [(Nm.o (nat_lit 1), B.flat [V.seg IntKind.u8 (16 : Nat) t])]]) : Option (V × Heap × List Prop)) := by kernel_rfl

theorem bdCk_p1 (s : ByteArray) (n : Int) (id : Int) (b : ByteArray) (t : List Int) (u : List Int) (e : Int) :
  along Tryz.prog (bdCk s n id b t u e) [true] = (some (.bool (decide (u = t)), [(.o 0, .flat [.str s, .int .i64 n])], [T Tryz.prog 41 [.ptr (.o 0) 0 0 0 0, .int .i64 id, .str b] [(.o 0, .flat [.str s, .int .i64 n])] (.tup [.agg [.seg .u8 16 u], .int .i64 e]) [(.o 0, .flat [.str s, .int .i64 n])], decide (e = (0 : Int)) = true]) : Option (V × Heap × List Prop)) := by kernel_rfl
theorem bdCk_p0 (s : ByteArray) (n : Int) (id : Int) (b : ByteArray) (t : List Int) (u : List Int) (e : Int) :
  along Tryz.prog (bdCk s n id b t u e) [false] = (some (.bool false, [(.o 0, .flat [.str s, .int .i64 n])], [T Tryz.prog 41 [.ptr (.o 0) 0 0 0 0, .int .i64 id, .str b] [(.o 0, .flat [.str s, .int .i64 n])] (.tup [.agg [.seg .u8 16 u], .int .i64 e]) [(.o 0, .flat [.str s, .int .i64 n])], decide (e = (0 : Int)) = false]) : Option (V × Heap × List Prop)) := by kernel_rfl

def k0 (k : List Int) : List Int := (List.range 64).map fun i => k.getD i 0
theorem T_msK {k : List Int} {x : Int} {ls : Nat → List Int} (hb : (ls 0).length ≤ 1000000000) : T Tryz.prog 106 [.int .u8 x, rbs 1 ls, p0K 0] [(.o 0, .flat [.seg .u8 64 (k0 k)])] (agD (shaV (padK k x ++ ls 0))) [(.o 0, .flat [.seg .u8 64 (k0 k)])] := by
 have hL : RLoop Tryz.prog none 1 (cB (cB (cR (cL (cR (cR (bodyOf Tryz.f106))))))) (64 + 1) (msI x (k0 k) ls (padJ k x 0) 0) (.exit 0) (msI x (k0 k) ls (padJ k x 64) 64) := by
  have hstep : ∀ j, j < 64 → R Tryz.prog none 1 (cB (cB (cR (cL (cR (cR (bodyOf Tryz.f106))))))) (msI x (k0 k) ls (padJ k x j) j) .normal (msI x (k0 k) ls (padJ k x (j + 1)) (j + 1)) := by
   intro j hj
   have e := padJ_set k x hj
   refine R_alongPc NG MO _ (pcMs_p1 x (k0 k) ls (padJ k x j) j (padJ k x (j + 1))) ?_ (by show 1 ≤ 3; decide)
   simp only [All, Int.toNat_natCast, Nat.zero_add]; and_intros
   all_goals first
    | exact True.intro
    | exact e
    | (with_reducible assumption)
    | (rw [decide_eq_true_eq]; omega)
    | (rw [decide_eq_false_iff_not]; omega)
    | with_reducible rfl
    | (intro _ _; exact True.intro)
    | (intro _ _; with_reducible rfl)
    | (intro _ _; rfl)
    | (simp only [IntKind.min, IntKind.max, IntKind.signed, IntKind.bits, if_true]; omega)
    | omega
    | (intro h; exact h)
    | (intro h; cases h; done)
    | exact .inl rfl
    | exact .inl True.intro
    | exact .inr rfl
    | (simp; done)
  have hend : R Tryz.prog none 1 (cB (cB (cR (cL (cR (cR (bodyOf Tryz.f106))))))) (msI x (k0 k) ls (padJ k x 64) 64) (.exit 0) (msI x (k0 k) ls (padJ k x 64) 64) := by
   refine R_alongPc NG MO _ (pcMs_p0 x (k0 k) ls (padJ k x 64) 64 []) ?_ (by show 1 ≤ 3; decide)
   simp only [All]; and_intros
   all_goals first
    | exact True.intro
    | (with_reducible assumption)
    | (rw [decide_eq_true_eq]; omega)
    | (rw [decide_eq_false_iff_not]; omega)
    | with_reducible rfl
    | (intro _ _; exact True.intro)
    | (intro _ _; with_reducible rfl)
    | (intro _ _; rfl)
    | (simp only [IntKind.min, IntKind.max, IntKind.signed, IntKind.bits, if_true]; omega)
    | omega
    | (intro h; exact h)
    | (intro h; cases h; done)
    | exact .inl rfl
    | exact .inl True.intro
    | exact .inr rfl
    | (simp; done)
  exact RLoop.inv (fun j => msI x (k0 k) ls (padJ k x j) j) 64 hstep hend (by simp)
 have hpl := padK_len k x
 rw [show padJ k x 0 = k0 k from padJ_zero k x, padJ_end] at hL
 generalize k0 k = K at *
 generalize padK k x = L at *
 have hT : TO Tryz.prog (.append 171 171) [.sl (.o 67) 0 0 0 0 1 (some 1), rbs 1 ls] [(.o 67, .flat [.sl (.o 1) 0 0 0 0 64 (some 64)]), (.o 1, .flat [.seg .u8 64 L])] (.sl (.o 195) 1 0 0 0 2 none) [(.o 195, .rows 1 2 (apF L fun k => [rb (ls k)]) true)] := by
  refine TO.frz (args := [.ros 1 1 (fun _ => [rb L]) true, rbs 1 ls]) (TO_app (base := 195) (cs := [∀ k, k < 1 → solid [rb (ls k)] = true, 0 < 1, (1 + 1) * 24 ≤ 140737488355328]) (by kernel_rfl) ?_ (fun ρ h => h _ ⟨_, List.mem_cons_self ..⟩)) ?_ ?_
  ·simp only [All]; and_intros
   all_goals first
    | exact True.intro
    | (intro k _; rfl)
    | (with_reducible assumption)
    | (rw [decide_eq_true_eq]; omega)
    | (rw [decide_eq_false_iff_not]; omega)
    | with_reducible rfl
    | (intro _ _; exact True.intro)
    | (intro _ _; with_reducible rfl)
    | (intro _ _; rfl)
    | (simp only [IntKind.min, IntKind.max, IntKind.signed, IntKind.bits, if_true]; omega)
    | omega
    | (intro h; exact h)
    | (intro h; cases h; done)
    | exact .inl rfl
    | exact .inl True.intro
    | exact .inr rfl
    | (simp; done)
  ·intro U ρ w xs H hv
   obtain ⟨y, z, rfl, h1, h2⟩ := T_two hv
   rw [VsRel]; refine ⟨y, _, rfl, ?_, ?_⟩
   ·refine ros_of_flat H (List.mem_cons_self ..) h1 (fun _ => rfl) (by simp [V.cell]) fun i hi => ⟨rfl, .sl (.o 1) 0 0 0 0 64 (some 64), by obtain rfl : i = 0 := (by omega); rfl, fun z hz => ?_⟩
    exact ros_of_seg (m := 64) (xs := L) H (List.mem_cons_of_mem _ (List.mem_cons_self ..)) (by rw [hpl]; exact hz) (by omega) (fun _ _ => rfl)
   ·rw [VsRel]; refine ⟨z, _, rfl, VRel.ros (frz_ok H).1 h2, ?_⟩
    rw [VsRel]
  ·rintro n ⟨b, hb⟩ ⟨b', hb'⟩
   simp only [List.mem_cons, List.mem_nil_iff, or_false, Prod.mk.injEq] at hb hb'
   rw [hb.1] at hb'
   rcases hb' with ⟨h, _⟩ | ⟨h, _⟩ <;> cases h
 have hS : T Tryz.prog 82 [.sl (.o 195) 1 0 0 0 2 none] [(.o 195, .rows 1 2 (apF L fun k => [rb (ls k)]) true)] (agD (shaV (L ++ ls 0))) [] := by
  refine T.frz (T_sr2 (fun i => if i = 0 then L else ls 0) (by simp only [if_true]; rw [if_neg (by decide)]; omega)) (hw_of rfl ?_) (by rintro n ⟨b, hb⟩; cases hb)
  and_intros
  all_goals first
   | exact True.intro
   | (intro k hk; rcases k with _ | _ | k <;> first | rfl | omega)
   | (with_reducible assumption)
   | (rw [decide_eq_true_eq]; omega)
   | (rw [decide_eq_false_iff_not]; omega)
   | with_reducible rfl
   | (intro _ _; exact True.intro)
   | (intro _ _; with_reducible rfl)
   | (intro _ _; rfl)
   | (simp only [IntKind.min, IntKind.max, IntKind.signed, IntKind.bits, if_true]; omega)
   | omega
   | (intro h; exact h)
   | (intro h; cases h; done)
   | exact .inl rfl
   | exact .inl True.intro
   | exact .inr rfl
   | (simp; done)
 generalize shaV (L ++ ls 0) = d at *
 refine T_al (bdMs_p x K ls L d) Tryz.func106 ?_
 simp only [All]; and_intros
 all_goals first
  | exact True.intro
  | exact hL
  | exact hT
  | exact hS
  | rfl
  | (with_reducible assumption)
  | (rw [decide_eq_true_eq]; omega)
  | (rw [decide_eq_false_iff_not]; omega)
  | with_reducible rfl
  | (intro _ _; exact True.intro)
  | (intro _ _; with_reducible rfl)
  | (intro _ _; rfl)
  | (simp only [IntKind.min, IntKind.max, IntKind.signed, IntKind.bits, if_true]; omega)
  | omega
  | (intro h; exact h)
  | (intro h; cases h; done)
  | exact .inl rfl
  | exact .inl True.intro
  | exact .inr rfl
  | (simp; done)
theorem T_msA {k : List Int} {x : Int} {ls : Nat → List Int} (hb : (ls 0).length ≤ 1000000000) (m : Nat) : T Tryz.prog 106 [.int .u8 x, rbs 1 ls, p0K m] [(.o m, .flat [.seg .u8 64 (k0 k)])] (agD (shaV (padK k x ++ ls 0))) [(.o m, .flat [.seg .u8 64 (k0 k)])] := by
 obtain ⟨σ, hσ, h3⟩ := T.at (T_msK (k := k) (x := x) hb) [.o 0] [.o m] (by decide) (by simp) rfl
 simp only [List.map_cons, List.map_nil, List.cons.injEq, and_true] at hσ
 simpa [V.rens, V.ren, Heap.ren, Sy.B.ren, agD, rbs, p0K, hσ] using h3
theorem k0_set {k : List Int} (hk : k.length ≤ 64) : segSet 64 (List.replicate 64 0) 0 (Nat.min k.length 64) (ib k) = k0 k := by
 unfold segSet k0
 apply List.map_congr_left
 intro q hq
 have hq := List.mem_range.1 hq
 have hm : Nat.min k.length 64 = k.length := Nat.min_eq_left hk
 rw [hm]
 have hb : q.blt (0 + k.length) = decide (q < k.length) := by rw [Bool.eq_iff_iff, Nat.blt_eq, decide_eq_true_eq]; omega
 have h0 : Nat.ble 0 q = true := by rw [Nat.ble_eq]; exact Nat.zero_le _
 rw [h0, hb]
 by_cases h : q < k.length
 ·rw [decide_eq_true h]; rfl
 ·rw [decide_eq_false h]
  show (List.replicate 64 (0 : Int)).getD q 0 = _
  rw [List.getD_eq_getElem?_getD, List.getD_eq_getElem?_getD, List.getElem?_eq_none (l := k) (by omega), List.getElem?_replicate, if_pos hq]; rfl
theorem T_ms2 {k d : List Int} {x : Int} (hd : d.length = 32) : T Tryz.prog 106 [.int .u8 x, .sl (.o 1088) 0 0 0 0 1 (some 1), p0K 256] [(.o 256, .flat [.seg .u8 64 (k0 k)]), (.o 1088, .flat [.sl (.o 832) 0 0 0 0 32 (some 32)]), (.o 832, .flat [.seg .u8 32 d])] (agD (shaV (padK k x ++ d))) [(.o 256, .flat [.seg .u8 64 (k0 k)])] := by
 refine T.frzH (pre1 := [(.o 1088, .flat [.sl (.o 832) 0 0 0 0 32 (some 32)]), (.o 832, .flat [.seg .u8 32 d])]) (T_msA (k := k) (x := x) (ls := fun _ => d) (by rw [hd]; decide) 256) ?_ ?_
 ·intro U ρ w xs H hv
  rw [VsRel] at hv
  obtain ⟨a, r, rfl, h0, hv⟩ := hv
  obtain ⟨y, z, rfl, h1, h2⟩ := T_two hv
  rw [VsRel]; refine ⟨a, _, rfl, VRel.mono (frz_ok H).1 (fun _ _ h => h) h0, ?_⟩
  rw [VsRel]; refine ⟨y, _, rfl, ?_, ?_⟩
  ·refine ros_of_flat (f := fun _ => rb d) H (List.mem_cons_self ..) h1 (fun h => by cases h) (by simp [V.cell]) fun i hi => ⟨rfl, .sl (.o 832) 0 0 0 0 32 (some 32), by obtain rfl : i = 0 := (by omega); rfl, fun z hz => ?_⟩
   exact ros_of_seg (m := 32) (xs := d) H (List.mem_cons_of_mem _ (List.mem_cons_self ..)) (by rw [hd]; exact hz) (by omega) (fun _ _ => rfl)
  ·rw [VsRel]; refine ⟨z, _, rfl, VRel.mono (frz_ok H).1 (fun _ _ h => h) h2, ?_⟩
   rw [VsRel]
 ·rintro n ⟨b, hb⟩ ⟨b', hb'⟩
  simp only [List.mem_cons, List.mem_nil_iff, or_false, Prod.mk.injEq] at hb hb'
  rw [hb.1] at hb'
  rcases hb' with ⟨h, _⟩ | ⟨h, _⟩ <;> cases h
theorem T_ma {k : List Int} (hk : k.length ≤ 64) {ls : Nat → List Int} (hb : (ls 0).length ≤ 1000000000) : T Tryz.prog 83 [rb k, rbs 1 ls] [] (agD (macV k (ls 0))) [] := by
 have hs := k0_set hk
 have h1 := T_msA (k := k) (x := 54) hb 256
 have hl := shaV_len (padK k 54 ++ ls 0)
 have h2 := T_ms2 (k := k) (x := 92) hl
 have e : macV k (ls 0) = shaV (padK k 92 ++ shaV (padK k 54 ++ ls 0)) := rfl
 rw [← e] at h2
 generalize macV k (ls 0) = d2 at *
 generalize shaV (padK k 54 ++ ls 0) = d1 at *
 rw [← hs] at h1 h2
 refine T_al (bdMa_p0 k ls d1 d2) Tryz.func83 ?_
 simp only [All]; and_intros
 all_goals first
  | exact True.intro
  | exact h1
  | exact h2
  | (with_reducible assumption)
  | (rw [decide_eq_true_eq]; omega)
  | (rw [decide_eq_false_iff_not]; omega)
  | with_reducible rfl
  | (intro _ _; exact True.intro)
  | (intro _ _; with_reducible rfl)
  | (intro _ _; rfl)
  | (simp only [IntKind.min, IntKind.max, IntKind.signed, IntKind.bits, if_true]; omega)
  | omega
  | (intro h; exact h)
  | (intro h; cases h; done)
  | exact .inl rfl
  | exact .inl True.intro
  | exact .inr rfl
  | (simp; done)
theorem T_le (s : ByteArray) (n : Int) : T Tryz.prog 40 [p0K 0] [(.o 0, kyB s n)] (.int .i64 n) [(.o 0, kyB s n)] := by
 refine T_al (bdLe_p0 s n) Tryz.func40 ?_
 simp only [All]; and_intros
 all_goals first
  | exact True.intro
  | (with_reducible assumption)
  | (rw [decide_eq_true_eq]; omega)
  | (rw [decide_eq_false_iff_not]; omega)
  | with_reducible rfl
  | (intro _ _; exact True.intro)
  | (intro _ _; with_reducible rfl)
  | (intro _ _; rfl)
  | (simp only [IntKind.min, IntKind.max, IntKind.signed, IntKind.bits, if_true]; omega)
  | omega
  | (intro h; exact h)
  | (intro h; cases h; done)
  | exact .inl rfl
  | exact .inl True.intro
  | exact .inr rfl
  | (simp; done)
theorem T_de {s : ByteArray} {n : Int} (hs : s.size ≤ 64) (hn : 1 ≤ n ∧ n ≤ 4096) (m : Nat) : T Tryz.prog 39 [.str s, .int .i64 n] [] (p0K m) [(.o m, kyB s n)] := by
 have h : T Tryz.prog 39 [.str s, .int .i64 n] [] (p0K 960) [(.o 960, kyB s n)] := by
  refine T_al (bdDe_p000 s n) Tryz.func39 ?_
  simp only [All]; and_intros
  all_goals first
   | exact True.intro
   | (with_reducible assumption)
   | (rw [decide_eq_true_eq]; omega)
   | (rw [decide_eq_false_iff_not]; omega)
   | with_reducible rfl
   | (intro _ _; exact True.intro)
   | (intro _ _; with_reducible rfl)
   | (intro _ _; rfl)
   | (simp only [IntKind.min, IntKind.max, IntKind.signed, IntKind.bits, if_true]; omega)
   | omega
   | (intro h; exact h)
   | (intro h; cases h; done)
   | exact .inl rfl
   | exact .inl True.intro
   | exact .inr rfl
   | (simp; done)
 obtain ⟨σ, hσ, h3⟩ := T.at h [.o 960] [.o m] (by decide) (by simp) rfl
 simp only [List.map_cons, List.map_nil, List.cons.injEq, and_true] at hσ
 simpa [V.rens, V.ren, Heap.ren, Sy.B.ren, kyB, p0K, hσ] using h3
theorem T_re {s : ByteArray} {n : Int} (hs : s.size ≤ 64) (hn : 1 ≤ n ∧ n ≤ 4096) : T Tryz.prog 38 [.str s, .int .i64 n] [] (.tup [kyV s n, .bool true]) [] := by
 refine T_al (bdRe_p000 s n) Tryz.func38 ?_
 simp only [All]; and_intros
 all_goals first
  | exact True.intro
  | (with_reducible assumption)
  | (rw [decide_eq_true_eq]; omega)
  | (rw [decide_eq_false_iff_not]; omega)
  | with_reducible rfl
  | (intro _ _; exact True.intro)
  | (intro _ _; with_reducible rfl)
  | (intro _ _; rfl)
  | (simp only [IntKind.min, IntKind.max, IntKind.signed, IntKind.bits, if_true]; omega)
  | omega
  | (intro h; exact h)
  | (intro h; cases h; done)
  | exact .inl rfl
  | exact .inl True.intro
  | exact .inr rfl
  | (simp; done)
theorem T_tz {s : ByteArray} (hs : s.size ≤ 1099511627776) (m : Nat) : T Tryz.prog 34 [.snil, .str s] [] (sb (.o m) (textB s)) [(.o m, bs (textB s))] := by
 have hz := num63_nat (n := s.size) (by omega)
 have e : textB s = putZ s.size ++ strB s := textB_eq s
 have h9 := putZ_len hz
 have hle : (putZ (s.size : Int)).length + s.size = (textB s).length := by rw [e, List.length_append (bs := strB s), strB_len]
 have h : T Tryz.prog 34 [.snil, .str s] [] (sb (.o 63) (textB s)) [(.o 63, bs (textB s))] := by
  refine T_al (bdTz_p s) Tryz.func34 ?_
  simp only [All]; and_intros
  all_goals first
   | exact T_putNil hz
   | exact hle
   | omega
   | (rw [e, bl_append (putZ (s.size : Int)) (strB s)]; intro k _; rfl)
   | simp
 obtain ⟨σ, hσ, h3⟩ := T.at h [.o 63] [.o m] (by decide) (by simp) rfl
 simp only [List.map_cons, List.map_nil, List.cons.injEq, and_true] at hσ
 simpa [V.rens, V.ren, Heap.ren, Sy.B.ren, sb, bs, hσ] using h3
theorem rb_bI (b : ByteArray) : V.ros 1 b.size (fun q => [V.int IntKind.u8 (byteAt b q)]) false = rb (bI b) := by
 rw [rb, bI_len]
 congr 1
 funext q
 show _ = [V.int .u8 ((bI b).getD q 0)]
 rw [bI_get]
theorem tag_set (m : List Int) : segSet 16 (List.replicate 16 0) 0 (Nat.min 32 16) (ib m) = tagL m := by
 unfold segSet tagL
 apply List.map_congr_left
 intro q hq
 have hq := List.mem_range.1 hq
 have hb : q.blt (0 + Nat.min 32 16) = true := by rw [Nat.blt_eq]; show q < 0 + 16; omega
 have h0 : Nat.ble 0 q = true := by rw [Nat.ble_eq]; exact Nat.zero_le _
 rw [h0, hb]; rfl
theorem T_sg {s : ByteArray} (hs : s.size ≤ 1000) {n id : Int} (hn : n ≠ 0) (hi : id < 9223372036854775808) {b : ByteArray} (hb : b.size ≤ 1000000000) : T Tryz.prog 41 [p0K 0, .int .i64 id, .str b] [(.o 0, kyB s n)] (.tup [.agg [.seg .u8 16 (sgnV s n id b)], .int .i64 (sgnE n id)]) [(.o 0, kyB s n)] := by
 have hle := T_le s n
 by_cases h0 : id < 0
 ·rw [sgnV, sgnE, if_neg (by omega), if_neg (by omega)]
  refine T_al (bdSg_p011 s n id b [] [] [] [] []) Tryz.func41 ?_
  simp only [All]; and_intros
  all_goals first
   | exact True.intro
   | exact hle
   | (with_reducible assumption)
   | (rw [decide_eq_true_eq]; omega)
   | (rw [decide_eq_false_iff_not]; omega)
   | with_reducible rfl
   | (intro _ _; exact True.intro)
   | (intro _ _; with_reducible rfl)
   | (intro _ _; rfl)
   | (simp only [IntKind.min, IntKind.max, IntKind.signed, IntKind.bits, if_true]; omega)
   | omega
   | (intro h; exact h)
   | (intro h; cases h; done)
   | exact .inl rfl
   | exact .inl True.intro
   | exact .inr rfl
   | (simp; done)
 ·by_cases h1 : n ≤ id
  ·rw [sgnV, sgnE, if_neg (by omega), if_neg (by omega)]
   refine T_al (bdSg_p001 s n id b [] [] [] [] []) Tryz.func41 ?_
   simp only [All]; and_intros
   all_goals first
    | exact True.intro
    | exact hle
    | (with_reducible assumption)
    | (rw [decide_eq_true_eq]; omega)
    | (rw [decide_eq_false_iff_not]; omega)
    | with_reducible rfl
    | (intro _ _; exact True.intro)
    | (intro _ _; with_reducible rfl)
    | (intro _ _; rfl)
    | (simp only [IntKind.min, IntKind.max, IntKind.signed, IntKind.bits, if_true]; omega)
    | omega
    | (intro h; exact h)
    | (intro h; cases h; done)
    | exact .inl rfl
    | exact .inl True.intro
    | exact .inr rfl
    | (simp; done)
  ·rw [sgnV, sgnE, if_pos (by omega), if_pos (by omega)]
   have hi2 : num63 id := ⟨by omega, by omega⟩
   have hta := T_tz (s := s) (by omega) 1217
   have htb := T_putNil hi2 (m := 1345)
   have hl1 := textB_len (s := s) (by omega)
   have hl2 := putZ_len hi2
   rw [tagV, uI_app]
   generalize textB s = l1 at *
   generalize putZ id = l2 at *
   have hsu : T Tryz.prog 82 [.sl (.o 1409) 0 0 0 0 2 (some 2)] [(.o 1409, .flat [.sl (.o 1217) 1 0 0 0 l1.length none, .sl (.o 1345) 1 0 0 0 l2.length none]), (.o 1217, bs l1), (.o 1345, bs l2)] (agD (shaV (uI l1 ++ uI l2))) [] := by
    refine T.frz (T_sr2 (fun i => if i = 0 then uI l1 else uI l2) (by simp only [if_true]; rw [if_neg (by decide), uI_len, uI_len]; omega)) ?_ (by rintro n ⟨b, hb⟩; cases hb)
    intro U ρ w xs H hv
    rw [VsRel] at hv
    obtain ⟨y, r, rfl, h1, h2⟩ := hv
    rw [VsRel]; refine ⟨y, _, rfl, ?_, by rw [VsRel] at h2 ⊢; exact h2⟩
    refine ros_of_flat H (List.mem_cons_self ..) h1 (fun h => by cases h) (by simp [V.cell]) fun i hi => ?_
    rcases i with _ | _ | i
    ·refine ⟨rfl, .sl (.o 1217) 1 0 0 0 l1.length none, rfl, fun z hz => VRel.ros (Imm.le_refl _) (leV_ok (frz_ok H).1 (frz_ok H).2.1 _ (rb (uI l1)) _ z rfl ?_ hz)⟩
     and_intros
     all_goals first
      | exact True.intro
      | exact (uI_len l1).symm
      | (intro k _; rw [Nat.zero_add]; exact ib_uI l1 k)
      | (with_reducible assumption)
      | (rw [decide_eq_true_eq]; omega)
      | (rw [decide_eq_false_iff_not]; omega)
      | with_reducible rfl
      | (intro _ _; exact True.intro)
      | (intro _ _; with_reducible rfl)
      | (intro _ _; rfl)
      | (simp only [IntKind.min, IntKind.max, IntKind.signed, IntKind.bits, if_true]; omega)
      | omega
      | (intro h; exact h)
      | (intro h; cases h; done)
      | exact .inl rfl
      | exact .inl True.intro
      | exact .inr rfl
      | (simp; done)
    ·refine ⟨rfl, .sl (.o 1345) 1 0 0 0 l2.length none, rfl, fun z hz => VRel.ros (Imm.le_refl _) (leV_ok (frz_ok H).1 (frz_ok H).2.1 _ (rb (uI l2)) _ z rfl ?_ hz)⟩
     and_intros
     all_goals first
      | exact True.intro
      | exact (uI_len l2).symm
      | (intro k _; rw [Nat.zero_add]; exact ib_uI l2 k)
      | (with_reducible assumption)
      | (rw [decide_eq_true_eq]; omega)
      | (rw [decide_eq_false_iff_not]; omega)
      | with_reducible rfl
      | (intro _ _; exact True.intro)
      | (intro _ _; with_reducible rfl)
      | (intro _ _; rfl)
      | (simp only [IntKind.min, IntKind.max, IntKind.signed, IntKind.bits, if_true]; omega)
      | omega
      | (intro h; exact h)
      | (intro h; cases h; done)
      | exact .inl rfl
      | exact .inl True.intro
      | exact .inr rfl
      | (simp; done)
    ·omega
   have hkl := shaV_len (uI l1 ++ uI l2)
   generalize shaV (uI l1 ++ uI l2) = kd at *
   have hma : T Tryz.prog 83 [.sl (.o 1537) 0 0 0 0 32 (some 32), .sl (.o 1857) 1 0 0 0 1 (some 1)] [(.o 1537, .flat [.seg .u8 32 kd]), (.o 1857, .rows 1 1 (getL [[.ros 1 b.size (fun q => [V.int IntKind.u8 (byteAt b q)]) false]]) false)] (agD (macV kd (bI b))) [] := by
    refine T.frz (T_ma (k := kd) (by omega) (ls := fun _ => bI b) (by rw [bI_len]; exact hb)) (hw_of rfl ?_) (by rintro n ⟨b, hb⟩; cases hb)
    and_intros
    all_goals first
     | exact True.intro
     | exact hkl.symm
     | (intro k hk; obtain rfl : k = 0 := (by omega); show [V.ros 1 b.size (fun q => [V.int IntKind.u8 (byteAt b q)]) false] = [rb (bI b)]; rw [rb_bI])
     | (intro k hk; rw [Nat.zero_add]; rfl)
     | (with_reducible assumption)
     | (rw [decide_eq_true_eq]; omega)
     | (rw [decide_eq_false_iff_not]; omega)
     | with_reducible rfl
     | (intro _ _; exact True.intro)
     | (intro _ _; with_reducible rfl)
     | (intro _ _; rfl)
     | (simp only [IntKind.min, IntKind.max, IntKind.signed, IntKind.bits, if_true]; omega)
     | omega
     | (intro h; exact h)
     | (intro h; cases h; done)
     | exact .inl rfl
     | exact .inl True.intro
     | exact .inr rfl
     | (simp; done)
   have hml := macV_len kd (bI b)
   generalize macV kd (bI b) = m at *
   have hcp : TO Tryz.prog (.copy 22 22) [.sl (.o 1) 0 0 0 0 16 (some 16), .sl (.o 1985) 0 0 0 0 32 (some 32)] [(.o 1, .flat [.seg .u8 16 (List.replicate 16 0)]), (.o 1985, .flat [.seg .u8 32 m])] (.int .i64 16) [(.o 1, .flat [.seg .u8 16 (tagL m)])] := by
    rw [← tag_set m]
    refine TO.frzH (pre0 := [(.o 1, .flat [.seg .u8 16 (List.replicate 16 0)])]) (pre1 := [(.o 1985, .flat [.seg .u8 32 m])]) (TO_cpy (d := .sl (.o 1) 0 0 0 0 16 (some 16)) (s := .ros 1 32 (ib m) false) (cs := [0 + 16 ≤ 16, ∀ q, q < 32 → isK .u8 (ib m q) = true]) (by kernel_rfl) ?_) (hw_of rfl ?_) ?_
    ·simp only [All]; and_intros
     all_goals first
      | exact True.intro
      | (intro q _; rfl)
      | (with_reducible assumption)
      | (rw [decide_eq_true_eq]; omega)
      | (rw [decide_eq_false_iff_not]; omega)
      | with_reducible rfl
      | (intro _ _; exact True.intro)
      | (intro _ _; with_reducible rfl)
      | (intro _ _; rfl)
      | (simp only [IntKind.min, IntKind.max, IntKind.signed, IntKind.bits, if_true]; omega)
      | omega
      | (intro h; exact h)
      | (intro h; cases h; done)
      | exact .inl rfl
      | exact .inl True.intro
      | exact .inr rfl
      | (simp; done)
    ·and_intros
     all_goals first
      | exact True.intro
      | exact .inr rfl
      | (intro k hk; rw [Nat.zero_add]; rfl)
      | (with_reducible assumption)
      | (rw [decide_eq_true_eq]; omega)
      | (rw [decide_eq_false_iff_not]; omega)
      | with_reducible rfl
      | (intro _ _; exact True.intro)
      | (intro _ _; with_reducible rfl)
      | (intro _ _; rfl)
      | (simp only [IntKind.min, IntKind.max, IntKind.signed, IntKind.bits, if_true]; omega)
      | omega
      | (intro h; exact h)
      | (intro h; cases h; done)
      | exact .inl rfl
      | exact .inl True.intro
      | exact .inr rfl
      | (simp; done)
    ·rintro n ⟨b, hb⟩ ⟨b', hb'⟩
     simp only [List.mem_cons, List.mem_nil_iff, or_false, Prod.mk.injEq] at hb hb'
     rw [hb.1] at hb'
     cases hb'.1
   generalize tagL m = tg at *
   refine T_al (bdSg_p000 s n id b l1 l2 kd m tg) Tryz.func41 ?_
   simp only [All]; and_intros
   all_goals first
    | exact True.intro
    | exact hle
    | exact hta
    | exact htb
    | exact hsu
    | exact hma
    | exact hcp
    | (with_reducible assumption)
    | (rw [decide_eq_true_eq]; omega)
    | (rw [decide_eq_false_iff_not]; omega)
    | with_reducible rfl
    | (intro _ _; exact True.intro)
    | (intro _ _; with_reducible rfl)
    | (intro _ _; rfl)
    | (simp only [IntKind.min, IntKind.max, IntKind.signed, IntKind.bits, if_true]; omega)
    | omega
    | (intro h; exact h)
    | (intro h; cases h; done)
    | exact .inl rfl
    | exact .inl True.intro
    | exact .inr rfl
    | (simp; done)
theorem T_ck {s : ByteArray} (hs : s.size ≤ 1000) {n id : Int} (hn : n ≠ 0) (hi : id < 9223372036854775808) {b : ByteArray} (hb : b.size ≤ 1000000000) (t : List Int) : T Tryz.prog 23 [p0K 0, .int .i64 id, .str b, .agg [.seg .u8 16 t]] [(.o 0, kyB s n)] (.bool (chkB s n id b t)) [(.o 0, kyB s n)] := by
 have h := T_sg hs (n := n) hn hi hb
 by_cases h0 : 0 ≤ id ∧ id < n
 ·have e : chkB s n id b t = decide (sgnV s n id b = t) := by rw [chkB, decide_eq_true h0, Bool.true_and, sgnV, if_pos h0]
  have e2 : sgnE n id = 0 := by rw [sgnE, if_pos h0]
  rw [e]
  generalize sgnV s n id b = u at *
  refine T_al (bdCk_p1 s n id b t u (sgnE n id)) Tryz.func23 ?_
  simp only [All]; and_intros
  all_goals first
   | exact True.intro
   | exact h
   | (with_reducible assumption)
   | (rw [decide_eq_true_eq]; omega)
   | (rw [decide_eq_false_iff_not]; omega)
   | with_reducible rfl
   | (intro _ _; exact True.intro)
   | (intro _ _; with_reducible rfl)
   | (intro _ _; rfl)
   | (simp only [IntKind.min, IntKind.max, IntKind.signed, IntKind.bits, if_true]; omega)
   | omega
   | (intro h; exact h)
   | (intro h; cases h; done)
   | exact .inl rfl
   | exact .inl True.intro
   | exact .inr rfl
   | (simp; done)
 ·have e : chkB s n id b t = false := by rw [chkB, decide_eq_false h0, Bool.false_and]
  have e2 : sgnE n id = 2 := by rw [sgnE, if_neg h0]
  rw [e]
  generalize sgnV s n id b = u at *
  refine T_al (bdCk_p0 s n id b t u (sgnE n id)) Tryz.func23 ?_
  simp only [All]; and_intros
  all_goals first
   | exact True.intro
   | exact h
   | (with_reducible assumption)
   | (rw [decide_eq_true_eq]; omega)
   | (rw [decide_eq_false_iff_not]; omega)
   | with_reducible rfl
   | (intro _ _; exact True.intro)
   | (intro _ _; with_reducible rfl)
   | (intro _ _; rfl)
   | (simp only [IntKind.min, IntKind.max, IntKind.signed, IntKind.bits, if_true]; omega)
   | omega
   | (intro h; exact h)
   | (intro h; cases h; done)
   | exact .inl rfl
   | exact .inl True.intro
   | exact .inr rfl
   | (simp; done)
end Go.Proofs.YtnmccoincblecaaGreat
namespace Go.Proofs.YtnmccoincblecaaGreat
open Go Sy Go.Proofs
def rS : ByteArray := ByteArray.mk (Array.mk [114])
def xB : ByteArray := ByteArray.mk (Array.mk [120])
def eB : ByteArray := ByteArray.mk (Array.mk [])
def rqP (t : List Int) : SReq := { client := 1, num := 1, data := xB, tag := t }
def bP : ByteArray := baL (bodyL (rqP []))
def msgP (r : SReq) : SMsg := { msg0 1 with epoch := 1, slot := 1, batch := { noop := false, n := 1, req := fun _ => r } }
def clP (t : List Int) : SEnv := { src := 5, body := bP, tag := t }
def clR (cs : List V) : B := .rows 18 1 (fun _ => cs) true
def clS (n : Nm) : V := .sl n 18 0 0 0 1 none
noncomputable def bdKs : Bd := { f := Tryz.f12, args := [], kb := { db := dbQ [(39, fun _ _ lo => [{ val := p0K lo, post := [(.o lo, kyB rS 72)] }]), (38, cVal (.tup [kyV rS 72, .bool true]))] }, names := fun t => match getV t.tmps 0 with | .ptr a _ _ _ _ => [a] | _ => [] }
noncomputable def bdMy (t : List Int) : Bd := { f := Tryz.f67, args := [.int .i64 8, .agg (rqP t).c], kb := kb0 }
noncomputable def bdMk (t : List Int) : Bd := { f := Tryz.f21, args := [p0K 0, .int .i64 4, .int .i64 1, .int .i64 1, .str xB], pre := [(.o 0, kyB rS 72)], base := 1, kb := { db := dbQ [(40, fun _ _ _ => [{ rd := [.o 0], val := .int .i64 72 }]), (67, cVal (.bool true)), (68, cVal (.str bP)), (41, fun _ _ _ => [{ rd := [.o 0], val := .tup [.agg [.seg .u8 16 t], .int .i64 0] }])] }, names := fun _ => [.o 0] }
noncomputable def bdBy0 (m : SMsg) (s : ByteArray) (e : Int) : Bd := { f := Tryz.f102, args := [.agg m.c], kb := { db := dbQ [(19, cVal (.tup [.str s, .int .i64 e]))] } }
noncomputable def bdVt0 (v : SVote) (s : ByteArray) : Bd := { f := Tryz.f72, args := [.agg v.c], kb := { db := dbQ [(102, cVal (.str s))] } }
def kC1 (cs : List V) : Exit → St → Option W := fun _ st => match pull (.o 0) st.heap with
 | some (.flat [.sl a _ _ _ _ _ _], _) => some ⟨[(.o 63, a)], [], [(.o 0, .set (.flat [clS (.o 63)])), (.o 63, .set (clR cs)), (.o 1, .keep)], none, st.next⟩
 | _ => none
noncomputable def bdC1 (t : List Int) : Bd := { f := Tryz.f69, args := [.agg [.bool false, rq 1 (fun _ => rqP t)], .ptr (.o 0) 0 0 0 0, .ptr (.o 1) 0 0 0 0], pre := [(.o 0, .flat [.snil]), (.o 1, .flat [.int .i64 4])], base := 2, kb := { db := dbQ [(68, cVal (.str bP))], lp := fun _ _ => [(True, .rounds 2)] }, names := fun _ => [.o 0, .o 63, .o 1], k := kC1 (clP t).c }
noncomputable def bdC2 (s : Nat → SSign) (b : ByteArray) : Bd := { f := Tryz.f70, args := [sg 0 s, .str b, .any], kb := { db := fun _ _ _ _ => [], lp := fun _ _ => [(True, .rounds 1)] } }
def fnB : B := .flat [.fn (.func 69) [] [.ptr (.o 2) 0 0 0 0, .ptr (.o 3) 0 0 0 0]]
def fnS : B := .flat [.fn (.func 70) [] [.ptr (.o 2) 0 0 0 0]]
def kC3 (cs : List V) : Exit → St → Option W := fun _ st => match pull (.o 2) st.heap with
 | some (.flat [.sl a _ _ _ _ _ _], _) => some ⟨[(.o 63, a)], [], [(.o 2, .set (.flat [clS (.o 63)])), (.o 63, .set (clR cs)), (.o 0, .set fnB), (.o 1, .set fnS), (.o 3, .keep)], none, st.next⟩
 | _ => none
def c1C (t : List Int) : List V → Heap → Nat → List Cl := fun _ _ lo => [{ pre := [.o 2], rd := [.o 3], val := .tup [], post := [(.o 2, .flat [clS (.o lo)]), (.o lo, clR (clP t).c)] }]
noncomputable def bdC3 (t : List Int) : Bd := { f := Tryz.f71, args := [.agg (msgP (rqP t)).c, .ptr (.o 0) 0 0 0 0, .ptr (.o 1) 0 0 0 0], pre := [(.o 2, .flat [.snil]), (.o 0, fnB), (.o 1, fnS), (.o 3, .flat [.int .i64 4])], base := 4, kb := { db := dbQ [(69, c1C t), (70, cVal (.tup [])), (72, cVal (.str eB))], lp := fun _ _ => [(True, .rounds 1)] }, names := fun _ => [.o 2, .o 63, .o 0, .o 1, .o 3], k := kC3 (clP t).c }
def c3C (t : List Int) : List V → Heap → Nat → List Cl := fun a h lo => match a with
 | [_, .ptr c7 _ _ _ _, .ptr c8 _ _ _ _] => match pull c7 h with
  | some (.flat [.fn _ _ [.ptr o _ _ _ _, .ptr n _ _ _ _]], _) => [{ pre := [o], rd := [c7, c8, n], val := .tup [], post := [(o, .flat [clS (.o lo)]), (.o lo, clR (clP t).c)] }]
  | _ => []
 | _ => []
def nmCl (st : St) : List Nm := match getV st.tmps 4 with
 | .ptr c _ _ _ _ => match pull c st.heap with
  | some (.flat [.sl a _ _ _ _ _ _], _) => [a]
  | _ => []
 | _ => []
noncomputable def bdCl (t : List Int) (s : ByteArray) : Bd := { f := Tryz.f22, args := [.int .i64 4, .str s], kb := { db := dbQ [(42, cVal (.tup [.agg (msgP (rqP t)).c, .int .i64 0])), (71, c3C t)], lp := fun _ _ => [(True, .rounds 1)] }, names := nmCl }
def rdK (v : V) : List V → Heap → Nat → List Cl := fun a _ _ => match a with
 | .ptr k _ _ _ _ :: _ => [{ rd := [k], val := v }]
 | _ => []
def enC (s : ByteArray) : List V → Heap → Nat → List Cl := fun a _ _ => match a with
 | [.agg (_ :: _ :: _ :: _ :: _ :: _ :: .sl n _ _ _ _ _ _ :: _)] => [{ pre := [n], val := .tup [.str s, .int .i64 0] }]
 | _ => []
def ksC : List V → Heap → Nat → List Cl := fun _ _ lo => [{ val := .tup [p0K lo, kyV rS 72], post := [(.o lo, kyB rS 72)] }]
def clC (t : List Int) : List V → Heap → Nat → List Cl := fun _ _ lo => [{ val := clS (.o lo), post := [(.o lo, clR (clP t).c)] }]
noncomputable def bdLv (t : List Int) (s : ByteArray) : Bd := { f := Tryz.f7, args := [], kb := { db := dbQ [(12, ksC), (21, rdK (.tup [.agg (rqP t).c, .int .i64 0])), (19, enC s), (22, clC t), (23, rdK (.bool true))] } }
end Go.Proofs.YtnmccoincblecaaGreat
namespace Go.Proofs.YtnmccoincblecaaGreat
open Go Sy Go.Proofs
theorem bdKs_p :
  along Tryz.prog (bdKs) [] = (some (.tup [.ptr (.o 576) 0 0 0 0, .agg [.str rS, .int .i64 72]], [(.o 576, .flat [.str rS, .int .i64 72])], [T Tryz.prog 38 [.str (ByteArray.mk (Array.mk [(114 : UInt8)])), .int .i64 72] [] (.tup [.agg [.str rS, .int .i64 72], .bool true]) [], T Tryz.prog 39 [.str (ByteArray.mk (Array.mk [(114 : UInt8)])), .int .i64 72] [] (.ptr (.o 576) 0 0 0 0) [(.o 576, .flat [.str rS, .int .i64 72])]]) : Option (V × Heap × List Prop)) := by kernel_rfl

theorem bdMy_p1111 (t : List Int) :
  along Tryz.prog (bdMy t) [true, true, true, true] = (some (.bool true, [], [q2, q2, q2, q2]) : Option (V × Heap × List Prop)) := by kernel_rfl

theorem bdMk_p00000 (t : List Int) :
  along Tryz.prog (bdMk t) [false, false, false, false, false] = (some (.tup [.agg [.int .i64 1, .int .i64 1, .str xB, .seg .u8 16 t], .int .i64 0], [(.o 0, .flat [.str rS, .int .i64 72])], [T Tryz.prog 40 [.ptr (.o 0) 0 0 0 0] [(.o 0, .flat [.str rS, .int .i64 72])] (.int .i64 72) [(.o 0, .flat [.str rS, .int .i64 72])], q false, T Tryz.prog 67 [.int .i64 8, .agg [.int .i64 1, .int .i64 1, .str xB, .seg .u8 16 z16]] [] (.bool true) [], q false, q false, q false, InR IntKind.i64 (5 : Int), T Tryz.prog 68 [.agg [.int .i64 1, .int .i64 1, .str xB, .seg .u8 16 z16]] [] (.str bP) [], T Tryz.prog 41 [.ptr (.o 0) 0 0 0 0, .int .i64 5, .str bP] [(.o 0, .flat [.str rS, .int .i64 72])] (.tup [.agg [.seg .u8 16 t], .int .i64 0]) [(.o 0, .flat [.str rS, .int .i64 72])], q false]) : Option (V × Heap × List Prop)) := by kernel_rfl

theorem bdBy0_p (m : SMsg) (s : ByteArray) (e : Int) :
  along Tryz.prog (bdBy0 m s e) [] = (some (.str s, [], [T Tryz.prog 19 [.agg (SMsg.c m)] [] (.tup [.str s, .int .i64 e]) []]) : Option (V × Heap × List Prop)) := by kernel_rfl

theorem bdVt0_p (v : SVote) (s : ByteArray) :
  along Tryz.prog (bdVt0 v s) [] = (some (.str s, [], [T Tryz.prog 102 [.agg [.int .i64 2, .int .i64 0, .int .i64 0, .int .i64 0, .int .i64 0, .bool false, .snil, .int .i64 (SVote.kind v), .int .i64 (SVote.epoch v), .int .i64 (SVote.view v), .int .i64 (SVote.slot v), .seg .u8 32 (SVote.digest v), .int .i64 0, .int .i64 0, .int .i64 0, .snil, .snil, .seg .u8 32 z32, .int .i64 0, .int .i64 0, .int .i64 0, .int .i64 0, .seg .u8 32 z32, .snil, .str ByteArray.empty, .snil]] [] (.str s) []]) : Option (V × Heap × List Prop)) := by kernel_rfl

theorem bdC1_p10 (t : List Int) :
  along Tryz.prog (bdC1 t) [true, false] = (some (.tup [], [(.o 0, .flat [.sl (.o 63) 18 0 0 0 1 none]), (.o 63, .rows 18 1 (fun x => SEnv.c (SEnv.mk (5 : Int) bP t)) true), (.o 1, .flat [.int .i64 4])], [q2, (0 : Int) ≤ (0 : Int) ∧ (0 : Int) < (1 : Int), InR IntKind.i64 (5 : Int), T Tryz.prog 68 [.agg [.int .i64 1, .int .i64 1, .str xB, .seg .u8 16 t]] [] (.str bP) [], nat_lit 1 ≤ (1 : Nat), ∀ (k : Nat), k < (1 : Nat) → solid (getL [[V.int IntKind.i64 (5 : Int), V.str bP, V.seg IntKind.u8 (16 : Nat) t]] ((0 : Nat) + k)) = true, nat_lit 40 ≤ (140737488355328 : Nat), InR IntKind.i64 (1 : Int), q false, q0, q0, q0, nat_lit 1 = (1 : Nat), (none : Option Nat) = none ∨ (none : Option Nat) = none, nat_lit 1 = (1 : Nat), ∀ (k : Nat), k < nat_lit 1 → catF (0 : Nat) (fun x => []) (fun k => getL [[V.int IntKind.i64 (5 : Int), V.str bP, V.seg IntKind.u8 (16 : Nat) t]] ((0 : Nat) + k)) k = SEnv.c (SEnv.mk (5 : Int) bP t), true = false → true = false, q2]) : Option (V × Heap × List Prop)) := by kernel_rfl

theorem bdC2_p0 (s : Nat → SSign) (b : ByteArray) :
  along Tryz.prog (bdC2 s b) [false] = (some (.tup [], [], [q false]) : Option (V × Heap × List Prop)) := by kernel_rfl

theorem bdC3_p0 (t : List Int) :
  along Tryz.prog (bdC3 t) [false] = (some (.tup [], [(.o 2, .flat [.sl (.o 63) 18 0 0 0 1 none]), (.o 63, .rows 18 1 (fun x => SEnv.c (SEnv.mk (5 : Int) bP t)) true), (.o 0, .flat [.fn (.func (69 : FuncId)) [] [.ptr (.o 2) 0 0 0 0, .ptr (.o 3) 0 0 0 0]]), (.o 1, .flat [.fn (.func (70 : FuncId)) [] [.ptr (.o 2) 0 0 0 0]]), (.o 3, .flat [.int .i64 4])], [T Tryz.prog (69 : FuncId) [.agg [.bool false, rq 1 fun x => SReq.mk (1 : Int) (1 : Int) xB t], .ptr (.o 2) 0 0 0 0, .ptr (.o 3) 0 0 0 0] [(.o 2, .flat [.snil]), (.o 3, .flat [.int .i64 4])] (.tup []) [(.o 2, .flat [.sl (.o 260) 18 0 0 0 1 none]), (.o 260, .rows 18 1 (fun x => SEnv.c (SEnv.mk (5 : Int) bP t)) true), (.o 3, .flat [.int .i64 4])], q false, T Tryz.prog 72 [.agg [.int .i64 0, .int .i64 0, .int .i64 0, .int .i64 0, .seg .u8 32 z32]] [] (.str eB) [], T Tryz.prog (70 : FuncId) [.ros 17 0 (fun i => SSign.c (SSign.mk (0 : Int) [])) false, .str eB, .ptr (.o 2) 0 0 0 0] [] (.tup []) [], T Tryz.prog (70 : FuncId) [.ros 17 0 (fun i => SSign.c (SSign.mk (0 : Int) [])) false, .str (ByteArray.mk (Array.mk [])), .ptr (.o 2) 0 0 0 0] [] (.tup []) [], q0, q0, q0, q (1 : Nat), (none : Option Nat) = none ∨ (none : Option Nat) = none, q (1 : Nat), ∀ (k : Nat), k < (1 : Nat) → SEnv.c (SEnv.mk (5 : Int) bP t) = SEnv.c (SEnv.mk (5 : Int) bP t), true = false → true = false, q0, q0, q0, q0, q0, q0, q0, q0, q0, q2]) : Option (V × Heap × List Prop)) := by kernel_rfl

theorem bdCl_p0000 (t : List Int) (s : ByteArray) :
  along Tryz.prog (bdCl t s) [false, false, false, false] = (some (.sl (.o 1920) 18 0 0 0 1 none, [(.o 1920, .rows 18 1 (fun x => SEnv.c (SEnv.mk (5 : Int) bP t)) true)], [T Tryz.prog 42 [.str s] [] (.tup [.agg (SMsg.c (SMsg.mk (1 : Int) (1 : Int) (0 : Int) (0 : Int) (1 : Int) (SBatch.mk false 1 fun x => SReq.mk (1 : Int) (1 : Int) xB t) vote0 (0 : Int) (0 : Int) (0 : Int) 0 (fun x => SHeld.mk (SBatch.mk false 0 fun x => SReq.mk (0 : Int) (0 : Int) ByteArray.empty []) (SCert.mk (SVote.mk (0 : Int) (0 : Int) (0 : Int) (0 : Int) []) 0 fun x => SSign.mk (0 : Int) [])) 0 (fun x => SEnv.mk (0 : Int) ByteArray.empty []) z32 (SCert.mk vote0 0 fun x => SSign.mk (0 : Int) []) ByteArray.empty 0 fun x => SSign.mk (0 : Int) [])), .int .i64 0]) [], q false, q false, q false, T Tryz.prog 71 [.agg [.int .i64 1, .int .i64 1, .int .i64 0, .int .i64 0, .int .i64 1, .bool false, rq 1 fun x => SReq.mk (1 : Int) (1 : Int) xB t, .int .i64 0, .int .i64 0, .int .i64 0, .int .i64 0, .seg .u8 32 z32, .int .i64 0, .int .i64 0, .int .i64 0, hl 0 fun x => SHeld.mk (SBatch.mk false 0 fun x => SReq.mk (0 : Int) (0 : Int) ByteArray.empty []) (SCert.mk (SVote.mk (0 : Int) (0 : Int) (0 : Int) (0 : Int) []) 0 fun x => SSign.mk (0 : Int) []), nw 0 fun x => SEnv.mk (0 : Int) ByteArray.empty [], .seg .u8 32 z32, .int .i64 0, .int .i64 0, .int .i64 0, .int .i64 0, .seg .u8 32 z32, sg 0 fun x => SSign.mk (0 : Int) [], .str ByteArray.empty, sg 0 fun x => SSign.mk (0 : Int) []], .ptr (.o 1344) 0 0 0 0, .ptr (.o 1536) 0 0 0 0] [(.o 64, .flat [.snil]), (.o 1344, .flat [.fn (.func 69) [] [.ptr (.o 64) 0 0 0 0, .ptr (.o 0) 0 0 0 0]]), (.o 1536, .flat [.fn (.func 70) [] [.ptr (.o 64) 0 0 0 0]]), (.o 0, .flat [.int .i64 4])] (.tup []) [(.o 64, .flat [.sl (.o 1920) 18 0 0 0 1 none]), (.o 1920, .rows 18 1 (fun x => SEnv.c (SEnv.mk (5 : Int) bP t)) true), (.o 1344, .flat [.fn (.func 69) [] [.ptr (.o 64) 0 0 0 0, .ptr (.o 0) 0 0 0 0]]), (.o 1536, .flat [.fn (.func 70) [] [.ptr (.o 64) 0 0 0 0]]), (.o 0, .flat [.int .i64 4])], q false]) : Option (V × Heap × List Prop)) := by kernel_rfl

theorem bdLv_p1111 (t : List Int) (s : ByteArray) :
  along Tryz.prog (bdLv t s) [true, true, true, true] = (some (.bool true, [], [T Tryz.prog 12 [] [] (.tup [.ptr (.o 64) 0 0 0 0, .agg [.str rS, .int .i64 72]]) [(.o 64, .flat [.str rS, .int .i64 72])], T Tryz.prog 21 [.ptr (.o 64) 0 0 0 0, .int .i64 4, .int .i64 1, .int .i64 1, .str (ByteArray.mk (Array.mk [(120 : UInt8)]))] [(.o 64, .flat [.str rS, .int .i64 72])] (.tup [.agg (SReq.c (SReq.mk (1 : Int) (1 : Int) xB t)), .int .i64 0]) [(.o 64, .flat [.str rS, .int .i64 72])], T Tryz.prog 19 [.agg [.int .i64 1, .int .i64 1, .int .i64 0, .int .i64 0, .int .i64 1, .bool false, .sl (.o 1088) 19 0 0 0 1 (some 1), .int .i64 0, .int .i64 0, .int .i64 0, .int .i64 0, .seg .u8 32 z32, .int .i64 0, .int .i64 0, .int .i64 0, .snil, .snil, .seg .u8 32 z32, .int .i64 0, .int .i64 0, .int .i64 0, .int .i64 0, .seg .u8 32 z32, .snil, .str ByteArray.empty, .snil]] [(.o 1088, .rows 19 1 (getL [[.int .i64 1, .int .i64 1, .str xB, .seg .u8 16 t]]) false)] (.tup [.str s, .int .i64 0]) [], T Tryz.prog 22 [.int .i64 4, .str s] [] (.sl (.o 1728) 18 0 0 0 1 none) [(.o 1728, .rows 18 1 (fun x => SEnv.c (SEnv.mk (5 : Int) bP t)) true)], q2, q2, q2, (0 : Int) ≤ (0 : Int) ∧ (0 : Int) < (1 : Int), nat_lit 0 < (1 : Nat), q2, (0 : Int) ≤ (0 : Int) ∧ (0 : Int) < (1 : Int), nat_lit 0 < (1 : Nat), (0 : Int) ≤ (0 : Int) ∧ (0 : Int) < (1 : Int), nat_lit 0 < (1 : Nat), T Tryz.prog 23 [.ptr (.o 64) 0 0 0 0, .int .i64 5, .str bP, .agg [.seg .u8 16 t]] [(.o 64, .flat [.str rS, .int .i64 72])] (.bool true) [(.o 64, .flat [.str rS, .int .i64 72])]]) : Option (V × Heap × List Prop)) := by kernel_rfl

theorem T.res {P : Program} {f : FuncId} {args : List V} {pre : Heap} {val val' : V} {post : Heap} {cs : List Prop} (h : T P f args pre val post) (hl : leV [] val val' = some cs) (hc : All cs) : T P f args pre val' post := by
 intro U ρ w xs hh ha hf
 refine Calls.mono (h U ρ w xs hh ha hf) ?_
 rintro e w' ⟨x, U', ρ', he, L⟩
 exact ⟨x, U', ρ', he, { L with val := leV_ok (Imm.le_refl U') (fun n b hb => absurd hb List.not_mem_nil) _ _ _ _ hl hc L.val }⟩
theorem w8_rng (x : Int) : 0 ≤ w8 x ∧ w8 x ≤ 255 := by
 simp only [w8, IntKind.wrap, IntKind.signed, IntKind.bits]
 simp
 omega
theorem dA_rng (H : List Int) : ∀ i, ∀ x ∈ dA H i, 0 ≤ x ∧ x ≤ 255
 | 0, x, h => by
  obtain ⟨_, rfl⟩ := List.mem_replicate.1 h
  decide
 | i + 1, x, h => by
  rcases List.mem_or_eq_of_mem_set h with h | rfl
  ·exact dA_rng H i x h
  ·exact w8_rng _
theorem tagL_rng {d : List Int} (h : ∀ x ∈ d, 0 ≤ x ∧ x ≤ 255) : SegOk 16 (tagL d) := by
 refine ⟨tagL_len d, fun x hx => ?_⟩
 obtain ⟨i, _, rfl⟩ := List.mem_map.1 hx
 rw [List.getD_eq_getElem?_getD]
 cases hq : d[i]? with
 | none => decide
 | some y => exact h y (List.mem_of_getElem? hq)
theorem tagV_ok (kb : List UInt8) (body : ByteArray) : SegOk 16 (tagV kb body) := tagL_rng (dA_rng _ _)
theorem z16_ok : SegOk 16 (List.replicate 16 0) := ⟨rfl, fun x h => by obtain ⟨_, rfl⟩ := List.mem_replicate.1 h; decide⟩
theorem sgnV_ok (s : ByteArray) (n id : Int) (b : ByteArray) : SegOk 16 (sgnV s n id b) := by
 unfold sgnV
 split
 ·exact tagV_ok _ _
 ·exact z16_ok
def tgP : List Int := sgnV rS 72 5 bP
theorem tgP_ok : SegOk 16 tgP := sgnV_ok _ _ _ _
theorem rS_size : rS.size = 1 := rfl
theorem bP_size : bP.size = 8 := by kernel_rfl
theorem T_ks (m : Nat) : T Tryz.prog 12 [] [] (.tup [p0K m, kyV rS 72]) [(.o m, kyB rS 72)] := by
 have h1 := fun m => T_de (s := rS) (n := 72) (by rw [rS_size]; decide) (by decide) m
 have h2 := T_re (s := rS) (n := 72) (by rw [rS_size]; decide) (by decide)
 have h : T Tryz.prog 12 [] [] (.tup [p0K 576, kyV rS 72]) [(.o 576, kyB rS 72)] := by
  refine T_al bdKs_p Tryz.func12 ?_
  simp only [All]; and_intros
  all_goals first
   | exact True.intro
   | exact h2
   | exact h1 _
   | (with_reducible assumption)
   | (rw [decide_eq_true_eq]; omega)
   | (rw [decide_eq_false_iff_not]; omega)
   | with_reducible rfl
   | (intro _ _; exact True.intro)
   | (intro _ _; with_reducible rfl)
   | (intro _ _; rfl)
   | (simp only [IntKind.min, IntKind.max, IntKind.signed, IntKind.bits, if_true]; omega)
   | omega
   | (intro h; exact h)
   | (intro h; cases h; done)
   | exact .inl rfl
   | exact .inl True.intro
   | exact .inr rfl
   | (simp; done)
 obtain ⟨σ, hσ, h3⟩ := T.at h [.o 576] [.o m] (by decide) (by simp) rfl
 simp only [List.map_cons, List.map_nil, List.cons.injEq, and_true] at hσ
 simpa [V.rens, V.ren, Heap.ren, Sy.B.ren, kyB, kyV, p0K, hσ] using h3
theorem T_my (t : List Int) : T Tryz.prog 67 [.int .i64 8, .agg (rqP t).c] [] (.bool true) [] := by
 refine T_al (bdMy_p1111 t) Tryz.func67 ?_
 simp only [All]; and_intros
 all_goals first
  | exact True.intro
  | (with_reducible assumption)
  | (rw [decide_eq_true_eq]; omega)
  | (rw [decide_eq_false_iff_not]; omega)
  | with_reducible rfl
  | (intro _ _; exact True.intro)
  | (intro _ _; with_reducible rfl)
  | (intro _ _; rfl)
  | (simp only [IntKind.min, IntKind.max, IntKind.signed, IntKind.bits, if_true]; omega)
  | omega
  | (intro h; exact h)
  | (intro h; cases h; done)
  | exact .inl rfl
  | exact .inl True.intro
  | exact .inr rfl
  | (simp; done)
theorem T_bP (t : List Int) : T Tryz.prog 68 [.agg (rqP t).c] [] (.str bP) [] :=
 T_rbd (r := rqP t) (by show num63 1; exact ⟨by decide, by decide⟩) (by show num63 1; exact ⟨by decide, by decide⟩) (by show 1 ≤ _; decide)
theorem T_mk (m : Nat) : T Tryz.prog 21 [p0K m, .int .i64 4, .int .i64 1, .int .i64 1, .str xB] [(.o m, kyB rS 72)] (.tup [.agg (rqP tgP).c, .int .i64 0]) [(.o m, kyB rS 72)] := by
 have h1 := T_le rS 72
 have h2 := T_my z16
 have h3 := T_bP z16
 have h4 := T_sg (s := rS) (by rw [rS_size]; decide) (n := 72) (id := 5) (by decide) (by decide) (b := bP) (by rw [bP_size]; decide)
 rw [show sgnE 72 5 = 0 from rfl] at h4
 have h : T Tryz.prog 21 [p0K 0, .int .i64 4, .int .i64 1, .int .i64 1, .str xB] [(.o 0, kyB rS 72)] (.tup [.agg (rqP tgP).c, .int .i64 0]) [(.o 0, kyB rS 72)] := by
  unfold tgP
  generalize sgnV rS 72 5 bP = t at *
  refine T_al (bdMk_p00000 t) Tryz.func21 ?_
  simp only [All]; and_intros
  all_goals first
   | exact True.intro
   | exact h1
   | exact h2
   | exact h3
   | exact h4
   | exact InR64.2 (by decide)
   | (with_reducible assumption)
   | (rw [decide_eq_true_eq]; omega)
   | (rw [decide_eq_false_iff_not]; omega)
   | with_reducible rfl
   | (intro _ _; exact True.intro)
   | (intro _ _; with_reducible rfl)
   | (intro _ _; rfl)
   | (simp only [IntKind.min, IntKind.max, IntKind.signed, IntKind.bits, if_true]; omega)
   | omega
   | (intro h; exact h)
   | (intro h; cases h; done)
   | exact .inl rfl
   | exact .inl True.intro
   | exact .inr rfl
   | (simp; done)
 obtain ⟨σ, hσ, h5⟩ := T.at h [.o 0] [.o m] (by decide) (by simp) rfl
 simp only [List.map_cons, List.map_nil, List.cons.injEq, and_true] at hσ
 simpa [V.rens, V.ren, Heap.ren, Sy.B.ren, kyB, p0K, SReq.c, hσ] using h5
theorem T_ckP (m : Nat) : T Tryz.prog 23 [p0K m, .int .i64 5, .str bP, .agg [.seg .u8 16 tgP]] [(.o m, kyB rS 72)] (.bool true) [(.o m, kyB rS 72)] := by
 have h := T_ck (s := rS) (by rw [rS_size]; decide) (n := 72) (id := 5) (by decide) (by decide) (b := bP) (by rw [bP_size]; decide) tgP
 have e : chkB rS 72 5 bP tgP = true := by
  rw [chkB, tgP, sgnV, if_pos (by decide), decide_eq_true (by decide : (0 : Int) ≤ 5 ∧ (5 : Int) < 72)]; simp
 rw [e] at h
 obtain ⟨σ, hσ, h5⟩ := T.at h [.o 0] [.o m] (by decide) (by simp) rfl
 simp only [List.map_cons, List.map_nil, List.cons.injEq, and_true] at hσ
 simpa [V.rens, V.ren, Heap.ren, Sy.B.ren, kyB, p0K, hσ] using h5
theorem T_vtE : T Tryz.prog 72 [.agg vote0.c] [] (.str eB) [] := by
 have hE := T_encG (m := msg0 2) ⟨by decide, by decide, fun k hk => absurd hk (Nat.not_lt_zero k), by decide, by decide, by decide⟩ ⟨fun i hi => absurd hi (Nat.not_lt_zero i), seg32, fun i hi => absurd hi (Nat.not_lt_zero i), fun i hi => absurd hi (Nat.not_lt_zero i), seg32, ⟨seg32, fun i hi => absurd hi (Nat.not_lt_zero i)⟩, fun i hi => absurd hi (Nat.not_lt_zero i)⟩
 have e1 : encE (msg0 2) = 130 := by kernel_rfl
 have e2 : encT (msg0 2) = eB := by rw [encT, if_neg (by rw [e1]; decide)]; rfl
 rw [e1, e2] at hE
 have hB : T Tryz.prog 102 [.agg (msg0 2).c] [] (.str eB) [] := by
  refine T_al (bdBy0_p (msg0 2) eB 130) Tryz.func102 ?_
  simp only [All]; and_intros
  all_goals first
   | exact True.intro
   | exact hE
   | (with_reducible assumption)
   | (rw [decide_eq_true_eq]; omega)
   | (rw [decide_eq_false_iff_not]; omega)
   | with_reducible rfl
   | (intro _ _; exact True.intro)
   | (intro _ _; with_reducible rfl)
   | (intro _ _; rfl)
   | (simp only [IntKind.min, IntKind.max, IntKind.signed, IntKind.bits, if_true]; omega)
   | omega
   | (intro h; exact h)
   | (intro h; cases h; done)
   | exact .inl rfl
   | exact .inl True.intro
   | exact .inr rfl
   | (simp; done)
 refine T_al (bdVt0_p vote0 eB) Tryz.func72 ?_
 refine ⟨T.args hB rfl ?_, trivial⟩
 simp [All, msg0, vote0]
theorem T_c1 (t : List Int) (o n m : Nat) (hn : [Nm.o o, Nm.o n, Nm.o m].Nodup) : T Tryz.prog 69 [.agg [.bool false, rq 1 (fun _ => rqP t)], .ptr (.o o) 0 0 0 0, .ptr (.o n) 0 0 0 0] [(.o o, .flat [.snil]), (.o n, .flat [.int .i64 4])] (.tup []) [(.o o, .flat [clS (.o m)]), (.o m, clR (clP t).c), (.o n, .flat [.int .i64 4])] := by
 have h3 := T_bP t
 have h : T Tryz.prog 69 [.agg [.bool false, rq 1 (fun _ => rqP t)], .ptr (.o 0) 0 0 0 0, .ptr (.o 1) 0 0 0 0] [(.o 0, .flat [.snil]), (.o 1, .flat [.int .i64 4])] (.tup []) [(.o 0, .flat [clS (.o 63)]), (.o 63, clR (clP t).c), (.o 1, .flat [.int .i64 4])] := by
  refine T_al (bdC1_p10 t) Tryz.func69 ?_
  simp only [All]; and_intros
  all_goals first
   | exact True.intro
   | exact h3
   | exact InR64.2 (by decide)
   | (intro k hk; obtain rfl : k = 0 := (by omega); rfl)
   | (with_reducible assumption)
   | (rw [decide_eq_true_eq]; omega)
   | (rw [decide_eq_false_iff_not]; omega)
   | with_reducible rfl
   | (intro _ _; exact True.intro)
   | (intro _ _; with_reducible rfl)
   | (intro _ _; rfl)
   | (simp only [IntKind.min, IntKind.max, IntKind.signed, IntKind.bits, if_true]; omega)
   | omega
   | (intro h; exact h)
   | (intro h; cases h; done)
   | exact .inl rfl
   | exact .inl True.intro
   | exact .inr rfl
   | (simp; done)
 obtain ⟨σ, hσ, h5⟩ := T.at h [.o 0, .o 1, .o 63] [.o o, .o n, .o m] (by decide) hn rfl
 simp only [List.map_cons, List.map_nil, List.cons.injEq, and_true] at hσ
 simpa [V.rens, V.ren, Heap.ren, Sy.B.ren, clS, clR, clP, SEnv.c, rq, hσ.1, hσ.2.1, hσ.2.2] using h5
theorem T_c2 (s : Nat → SSign) (b : ByteArray) : T Tryz.prog 70 [sg 0 s, .str b, .any] [] (.tup []) [] := by
 refine T_al (bdC2_p0 s b) Tryz.func70 ?_
 simp only [All]; and_intros
 all_goals first
  | exact True.intro
  | (with_reducible assumption)
  | (rw [decide_eq_true_eq]; omega)
  | (rw [decide_eq_false_iff_not]; omega)
  | with_reducible rfl
  | (intro _ _; exact True.intro)
  | (intro _ _; with_reducible rfl)
  | (intro _ _; rfl)
  | (simp only [IntKind.min, IntKind.max, IntKind.signed, IntKind.bits, if_true]; omega)
  | omega
  | (intro h; exact h)
  | (intro h; cases h; done)
  | exact .inl rfl
  | exact .inl True.intro
  | exact .inr rfl
  | (simp; done)
theorem T_c3 (t : List Int) (o n a b m : Nat) (hn : [Nm.o o, Nm.o n, Nm.o a, Nm.o b, Nm.o m].Nodup) : T Tryz.prog 71 [.agg (msgP (rqP t)).c, .ptr (.o a) 0 0 0 0, .ptr (.o b) 0 0 0 0] [(.o o, .flat [.snil]), (.o a, .flat [.fn (.func 69) [] [.ptr (.o o) 0 0 0 0, .ptr (.o n) 0 0 0 0]]), (.o b, .flat [.fn (.func 70) [] [.ptr (.o o) 0 0 0 0]]), (.o n, .flat [.int .i64 4])] (.tup [])
  [(.o o, .flat [clS (.o m)]), (.o m, clR (clP t).c), (.o a, .flat [.fn (.func 69) [] [.ptr (.o o) 0 0 0 0, .ptr (.o n) 0 0 0 0]]), (.o b, .flat [.fn (.func 70) [] [.ptr (.o o) 0 0 0 0]]), (.o n, .flat [.int .i64 4])] := by
 have h1 := T_c1 t 2 3 260 (by decide)
 have h2 : ∀ (s : Nat → SSign) (b : ByteArray), T Tryz.prog 70 [sg 0 s, .str b, .ptr (.o 2) 0 0 0 0] [] (.tup []) [] := fun s b => T.args (T_c2 s b) rfl (by simp [All])
 have h4 := T_vtE
 have h : T Tryz.prog 71 [.agg (msgP (rqP t)).c, .ptr (.o 0) 0 0 0 0, .ptr (.o 1) 0 0 0 0] [(.o 2, .flat [.snil]), (.o 0, fnB), (.o 1, fnS), (.o 3, .flat [.int .i64 4])] (.tup []) [(.o 2, .flat [clS (.o 63)]), (.o 63, clR (clP t).c), (.o 0, fnB), (.o 1, fnS), (.o 3, .flat [.int .i64 4])] := by
  refine T_al (bdC3_p0 t) Tryz.func71 ?_
  simp only [All]; and_intros
  all_goals first
   | exact True.intro
   | exact h1
   | exact h4
   | exact h2 _ _
   | (with_reducible assumption)
   | (rw [decide_eq_true_eq]; omega)
   | (rw [decide_eq_false_iff_not]; omega)
   | with_reducible rfl
   | (intro _ _; exact True.intro)
   | (intro _ _; with_reducible rfl)
   | (intro _ _; rfl)
   | (simp only [IntKind.min, IntKind.max, IntKind.signed, IntKind.bits, if_true]; omega)
   | omega
   | (intro h; exact h)
   | (intro h; cases h; done)
   | exact .inl rfl
   | exact .inl True.intro
   | exact .inr rfl
   | (simp; done)
 obtain ⟨σ, hσ, h5⟩ := T.at h [.o 2, .o 3, .o 0, .o 1, .o 63] [.o o, .o n, .o a, .o b, .o m] (by decide) hn rfl
 simp only [List.map_cons, List.map_nil, List.cons.injEq, and_true] at hσ
 simpa [V.rens, V.ren, Heap.ren, Sy.B.ren, fnB, fnS, clS, clR, clP, SEnv.c, SMsg.c, SBatch.c, SVote.c, SCert.c, rq, Sy.hl, nw, sg, hσ.1, hσ.2.1, hσ.2.2.1, hσ.2.2.2.1, hσ.2.2.2.2] using h5
theorem msgP_good (t : List Int) : goodS (msgP (rqP t)) = true := by
 have e : onlyS (msgP (rqP t)) = msgP (rqP t) := by kernel_rfl
 have hb : mayBatchS (msgP (rqP t)).batch = true := by kernel_rfl
 exact good_iff.2 ⟨by show (1 : Int) ≤ 1 ∧ (1 : Int) ≤ 8; decide, by rw [e]; exact sameM_refl _, fun h => absurd h (by show ¬ (1 : Int) = 2; decide), fun h => absurd h (by show ¬ (1 : Int) = 7; decide), by show (0 : Int) ≤ 1 ∧ (1 : Int) ≤ _; decide, by show (0 : Int) ≤ 1 ∧ (1 : Int) ≤ _; decide, by show (0 : Int) ≤ 0 ∧ (0 : Int) ≤ _; decide, by show (0 : Int) ≤ 0 ∧ (0 : Int) ≤ _; decide, hb, by show (0 : Int) ≤ 0 ∧ (0 : Int) ≤ _; decide, by show (0 : Int) ≤ 0 ∧ (0 : Int) ≤ _; decide, by show (0 : Int) ≤ 0 ∧ (0 : Int) ≤ _; decide,
  ⟨Nat.zero_le _, fun i hi => absurd hi (Nat.not_lt_zero i)⟩, ⟨Nat.zero_le _, fun i hi => absurd hi (Nat.not_lt_zero i)⟩, ⟨Nat.zero_le _, fun i hi => absurd hi (Nat.not_lt_zero i)⟩, by show (0 : Nat) ≤ _; decide⟩
theorem msgP_seg {t : List Int} (h : SegOk 16 t) : segMsg (msgP (rqP t)) := ⟨fun i hi => h, seg32, fun i hi => absurd hi (Nat.not_lt_zero i), fun i hi => absurd hi (Nat.not_lt_zero i), seg32, ⟨seg32, fun i hi => absurd hi (Nat.not_lt_zero i)⟩, fun i hi => absurd hi (Nat.not_lt_zero i)⟩
theorem msgP_len {t : List Int} (h : SegOk 16 t) : (encB (msgP (rqP t))).length ≤ 4194304 := by
 obtain ⟨a, b⟩ := h
 match t, a with
 | [a0, a1, a2, a3, a4, a5, a6, a7, a8, a9, b0, b1, b2, b3, b4, b5], _ =>
  rw [show (encB (msgP (rqP [a0, a1, a2, a3, a4, a5, a6, a7, a8, a9, b0, b1, b2, b3, b4, b5]))).length = 31 by kernel_rfl]; decide
theorem T_decP {t : List Int} (h : SegOk 16 t) : T Tryz.prog 42 [.str (baL (encB (msgP (rqP t))))] [] (.tup [.agg (msgP (rqP t)).c, .int .i64 0]) [] := by
 have hD := T_dec (baL (encB (msgP (rqP t))))
 rw [strB_baL] at hD
 obtain ⟨d1, d2⟩ := dec_enc (msgP_good t) (msgP_seg h) (msgP_len h)
 rw [d1] at hD
 generalize (decR (encB (msgP (rqP t)))).1 = x at *
 have g := sameMsg_iff.1 d2
 have gb := sameBatch_iff.1 g.batch
 have gc := sameCert_iff.1 g.cert
 have g1 : x.kind = 1 := g.kind
 have g2 : x.epoch = 1 := g.epoch
 have g3 : x.leader = 0 := g.leader
 have g4 : x.view = 0 := g.view
 have g5 : x.slot = 1 := g.slot
 have g6 : x.batch.noop = false := gb.1
 have g7 : x.batch.n = 1 := gb.2.1
 have g8 : x.vote = vote0 := g.vote
 have g9 : x.nheld = 0 := g.held.1
 have g10 : x.nnews = 0 := g.news.1
 have g11 : x.digest = z32 := g.digest
 have g12 : x.cert.vote = vote0 := gc.1
 have g13 : x.cert.n = 0 := gc.2.1
 have g14 : x.state = ByteArray.empty := g.state
 have g15 : x.n = 0 := g.sig.1
 have g16 : ∀ k, k < x.batch.n → (x.batch.req k).c = (rqP t).c := fun k hk => congrArg SReq.c (gb.2.2 k hk)
 refine T.res hD rfl ?_
 simp only [All]; and_intros
 all_goals first
  | exact True.intro
  | exact g.kind
  | exact g.epoch
  | exact g.leader
  | exact g.view
  | exact g.slot
  | exact gb.1
  | exact gb.2.1
  | exact g16
  | exact g.held.1
  | exact g.news.1
  | exact g.digest
  | exact gc.2.1
  | exact g.state
  | exact g.sig.1
  | exact g.cepoch
  | exact g.cleader
  | exact g.cview
  | (rw [g8]; rfl)
  | (rw [g12]; rfl)
  | (rw [g9]; intro k hk; exact absurd hk (Nat.not_lt_zero k))
  | (rw [g10]; intro k hk; exact absurd hk (Nat.not_lt_zero k))
  | (rw [g13]; intro k hk; exact absurd hk (Nat.not_lt_zero k))
  | (rw [g15]; intro k hk; exact absurd hk (Nat.not_lt_zero k))
  | (with_reducible assumption)
  | (rw [decide_eq_true_eq]; omega)
  | (rw [decide_eq_false_iff_not]; omega)
  | with_reducible rfl
  | (intro _ _; exact True.intro)
  | (intro _ _; with_reducible rfl)
  | (intro _ _; rfl)
  | (simp only [IntKind.min, IntKind.max, IntKind.signed, IntKind.bits, if_true]; omega)
  | omega
  | (intro h; exact h)
  | (intro h; cases h; done)
  | exact .inl rfl
  | exact .inl True.intro
  | exact .inr rfl
  | (simp; done)
theorem T_cl {t : List Int} (ht : SegOk 16 t) (m : Nat) : T Tryz.prog 22 [.int .i64 4, .str (baL (encB (msgP (rqP t))))] [] (clS (.o m)) [(.o m, clR (clP t).c)] := by
 have h1 := T_decP ht
 have h2 := T_c3 t 64 0 1344 1536 1920 (by decide)
 have h : T Tryz.prog 22 [.int .i64 4, .str (baL (encB (msgP (rqP t))))] [] (clS (.o 1920)) [(.o 1920, clR (clP t).c)] := by
  refine T_al (bdCl_p0000 t (baL (encB (msgP (rqP t))))) Tryz.func22 ?_
  simp only [All]; and_intros
  all_goals first
   | exact True.intro
   | exact h1
   | exact h2
   | (with_reducible assumption)
   | (rw [decide_eq_true_eq]; omega)
   | (rw [decide_eq_false_iff_not]; omega)
   | with_reducible rfl
   | (intro _ _; exact True.intro)
   | (intro _ _; with_reducible rfl)
   | (intro _ _; rfl)
   | (simp only [IntKind.min, IntKind.max, IntKind.signed, IntKind.bits, if_true]; omega)
   | omega
   | (intro h; exact h)
   | (intro h; cases h; done)
   | exact .inl rfl
   | exact .inl True.intro
   | exact .inr rfl
   | (simp; done)
 obtain ⟨σ, hσ, h5⟩ := T.at h [.o 1920] [.o m] (by decide) (by simp) rfl
 simp only [List.map_cons, List.map_nil, List.cons.injEq, and_true] at hσ
 simpa [V.rens, V.ren, Heap.ren, Sy.B.ren, clS, clR, clP, SEnv.c, hσ] using h5
theorem T_lv : T Tryz.prog 7 [] [] (.bool true) [] := by
 have ht := tgP_ok
 have h1 := T_ks
 have h2 := T_mk
 have h4 := T_cl ht
 have h5 := T_ckP
 have hE := T_encG (fitM_good (msgP_good tgP)) (msgP_seg ht)
 have e1 : encE (msgP (rqP tgP)) = 0 := by rw [encE, if_pos (msgP_good tgP), if_neg (by have := msgP_len ht; omega)]
 rw [e1, encT, if_pos e1] at hE
 have h3 : T Tryz.prog 19 [.agg [.int .i64 1, .int .i64 1, .int .i64 0, .int .i64 0, .int .i64 1, .bool false, .sl (.o 1088) 19 0 0 0 1 (some 1), .int .i64 0, .int .i64 0, .int .i64 0, .int .i64 0, .seg .u8 32 z32, .int .i64 0, .int .i64 0, .int .i64 0, .snil, .snil, .seg .u8 32 z32, .int .i64 0, .int .i64 0, .int .i64 0, .int .i64 0, .seg .u8 32 z32, .snil, .str ByteArray.empty, .snil]] [(.o 1088, .rows 19 1 (getL [(rqP tgP).c]) false)] (.tup [.str (baL (encB (msgP (rqP tgP)))), .int .i64 0]) [] := by
  refine T.frz hE (hw_of rfl ?_) (by rintro n ⟨b, hb⟩; cases hb)
  simp only [All]; and_intros
  all_goals first
   | exact True.intro
   | (intro k hk; obtain rfl : k = 0 := (by omega); rfl)
   | exact rfl
   | (intro k hk; exact absurd hk (Nat.not_lt_zero k))
   | (with_reducible assumption)
   | (rw [decide_eq_true_eq]; omega)
   | (rw [decide_eq_false_iff_not]; omega)
   | with_reducible rfl
   | (intro _ _; exact True.intro)
   | (intro _ _; with_reducible rfl)
   | (intro _ _; rfl)
   | (simp only [IntKind.min, IntKind.max, IntKind.signed, IntKind.bits, if_true]; omega)
   | omega
   | (intro h; exact h)
   | (intro h; cases h; done)
   | exact .inl rfl
   | exact .inl True.intro
   | exact .inr rfl
   | (simp; done)
 generalize baL (encB (msgP (rqP tgP))) = s at *
 generalize tgP = t at *
 refine T_al (bdLv_p1111 t s) Tryz.func7 ?_
 simp only [All]; and_intros
 all_goals first
  | exact True.intro
  | exact h1 _
  | exact h2 _
  | exact h3
  | exact h4 _
  | exact h5 _
  | (with_reducible assumption)
  | (rw [decide_eq_true_eq]; omega)
  | (rw [decide_eq_false_iff_not]; omega)
  | with_reducible rfl
  | (intro _ _; exact True.intro)
  | (intro _ _; with_reducible rfl)
  | (intro _ _; rfl)
  | (simp only [IntKind.min, IntKind.max, IntKind.signed, IntKind.bits, if_true]; omega)
  | omega
  | (intro h; exact h)
  | (intro h; cases h; done)
  | exact .inl rfl
  | exact .inl True.intro
  | exact .inr rfl
  | (simp; done)
end Go.Proofs.YtnmccoincblecaaGreat
namespace Go.Proofs.YtnmccoincblecaaGreat
open Go Sy Go.Proofs
noncomputable def bdEb (e : SEnv) (more : ByteArray) (l : List UInt8) (y : SEnv) (g : Int) : Bd := { f := Tryz.f4, args := [.agg e.c, .str more], kb := { db := fun k a h lo => match dbQ [(7, cVal (.bool true)), (10, fun _ _ lo => [{ val := sb (.o lo) l, post := [(.o lo, bs l)] }])] k a h lo with
 | [] => dbSeqF 0 [(8, 26, cVal (.tup [.agg e.c, .int .i64 0])), (8, 36, cVal (.tup [.agg y.c, .int .i64 g]))] k a h lo
 | r => r } }
end Go.Proofs.YtnmccoincblecaaGreat
namespace Go.Proofs.YtnmccoincblecaaGreat
open Go Sy Go.Proofs
theorem bdEb_p1111 (e : SEnv) (more : ByteArray) (l : List UInt8) (y : SEnv) (g : Int) :
  along Tryz.prog (bdEb e more l y g) [true, true, true, true] = (some (.bool true, [], [decide ((20000 : Int) < (↑(ByteArray.size (SEnv.body e)) : Int)) = true, q2, q2, q2, T Tryz.prog 7 [] [] (.bool true) []]) : Option (V × Heap × List Prop)) := by kernel_rfl

theorem bdEb_p0111 (e : SEnv) (more : ByteArray) (l : List UInt8) (y : SEnv) (g : Int) :
  along Tryz.prog (bdEb e more l y g) [false, true, true, true] = (some (.bool true, [], [decide ((20000 : Int) < (↑(ByteArray.size (SEnv.body e)) : Int)) = false, decide ((2000 : Int) < (↑(ByteArray.size more) : Int)) = true, q2, q2, T Tryz.prog 7 [] [] (.bool true) []]) : Option (V × Heap × List Prop)) := by kernel_rfl

theorem bdEb_p0011 (e : SEnv) (more : ByteArray) (l : List UInt8) (y : SEnv) (g : Int) :
  along Tryz.prog (bdEb e more l y g) [false, false, true, true] = (some (.bool true, [], [decide ((20000 : Int) < (↑(ByteArray.size (SEnv.body e)) : Int)) = false, decide ((2000 : Int) < (↑(ByteArray.size more) : Int)) = false, decide (SEnv.src e < (0 : Int)) = true, q2, T Tryz.prog 7 [] [] (.bool true) []]) : Option (V × Heap × List Prop)) := by kernel_rfl

theorem bdEb_p0001 (e : SEnv) (more : ByteArray) (l : List UInt8) (y : SEnv) (g : Int) :
  along Tryz.prog (bdEb e more l y g) [false, false, false, true] = (some (.bool true, [], [decide ((20000 : Int) < (↑(ByteArray.size (SEnv.body e)) : Int)) = false, decide ((2000 : Int) < (↑(ByteArray.size more) : Int)) = false, decide (SEnv.src e < (0 : Int)) = false, decide ((64 : Int) < SEnv.src e) = true, T Tryz.prog 7 [] [] (.bool true) []]) : Option (V × Heap × List Prop)) := by kernel_rfl

theorem bdEb_p0000111 (e : SEnv) (more : ByteArray) (l : List UInt8) (y : SEnv) (g : Int) :
  along Tryz.prog (bdEb e more l y g) [false, false, false, false, true, true, true] = (some (.bool true, [], [decide ((20000 : Int) < (↑(ByteArray.size (SEnv.body e)) : Int)) = false, decide ((2000 : Int) < (↑(ByteArray.size more) : Int)) = false, decide (SEnv.src e < (0 : Int)) = false, decide ((64 : Int) < SEnv.src e) = false, T Tryz.prog 10 [.snil, .agg [.int .i64 (SEnv.src e), .str (SEnv.body e), .seg .u8 16 (SEnv.tag e)]] [] (sb (.o 1408) l) [(.o 1408, bs l)], ∀ (k : Nat), k < List.length l → true = true, (0 : Nat) + List.length l ≤ List.length l, ∀ (k : Nat), k < List.length l → true = true, T Tryz.prog 8 [.str (bytesF (List.length l) fun k => bl l (0 + k))] [] (.tup [.agg (SEnv.c e), .int .i64 0]) [], ByteArray.size (bytesF (List.length l) fun k => bl l ((0 : Nat) + k)) + ByteArray.size more ≤ (9223372036854775807 : Nat), T Tryz.prog 8 [.str ((bytesF (List.length l) fun k => bl l (0 + k)) ++ more)] [] (.tup [.agg (SEnv.c y), .int .i64 g]) [], (decide (SEnv.src e = SEnv.src e) && (decide (SEnv.body e = SEnv.body e) && (decide (SEnv.tag e = SEnv.tag e) && true))) = true, q2, (decide (g = (0 : Int)) == decide (more = ByteArray.mk (Array.mk []))) = true, T Tryz.prog 7 [] [] (.bool true) []]) : Option (V × Heap × List Prop)) := by kernel_rfl

theorem strB_app (l : List UInt8) (s : ByteArray) : strB (baL l ++ s) = l ++ strB s := by
 unfold strB baL
 rw [ByteArray.data_append]
 simp
theorem strB_nil {s : ByteArray} : strB s = [] ↔ s = ByteArray.mk (Array.mk []) := by
 unfold strB
 constructor
 ·intro h
  cases s with
  | mk d => cases d with
   | mk l => have h : l = [] := h; rw [h]
 ·intro h; rw [h]
theorem T_eb {e : SEnv} {more : ByteArray} (ht : SegOk 16 e.tag) : T Tryz.prog 4 [.agg e.c, .str more] [] (.bool true) [] := by
 have hL := T_lv
 by_cases h1 : 20000 < e.body.size
 ·refine T_al (bdEb_p1111 e more [] e 0) Tryz.func4 ?_
  simp only [All]; and_intros
  all_goals first
   | exact True.intro
   | exact hL
   | (with_reducible assumption)
   | (rw [decide_eq_true_eq]; omega)
   | (rw [decide_eq_false_iff_not]; omega)
   | with_reducible rfl
   | (intro _ _; exact True.intro)
   | (intro _ _; with_reducible rfl)
   | (intro _ _; rfl)
   | (simp only [IntKind.min, IntKind.max, IntKind.signed, IntKind.bits, if_true]; omega)
   | omega
   | (intro h; exact h)
   | (intro h; cases h; done)
   | exact .inl rfl
   | exact .inl True.intro
   | exact .inr rfl
   | (simp; done)
 by_cases h2 : 2000 < more.size
 ·refine T_al (bdEb_p0111 e more [] e 0) Tryz.func4 ?_
  simp only [All]; and_intros
  all_goals first
   | exact True.intro
   | exact hL
   | (with_reducible assumption)
   | (rw [decide_eq_true_eq]; omega)
   | (rw [decide_eq_false_iff_not]; omega)
   | with_reducible rfl
   | (intro _ _; exact True.intro)
   | (intro _ _; with_reducible rfl)
   | (intro _ _; rfl)
   | (simp only [IntKind.min, IntKind.max, IntKind.signed, IntKind.bits, if_true]; omega)
   | omega
   | (intro h; exact h)
   | (intro h; cases h; done)
   | exact .inl rfl
   | exact .inl True.intro
   | exact .inr rfl
   | (simp; done)
 by_cases h3 : e.src < 0
 ·refine T_al (bdEb_p0011 e more [] e 0) Tryz.func4 ?_
  simp only [All]; and_intros
  all_goals first
   | exact True.intro
   | exact hL
   | (with_reducible assumption)
   | (rw [decide_eq_true_eq]; omega)
   | (rw [decide_eq_false_iff_not]; omega)
   | with_reducible rfl
   | (intro _ _; exact True.intro)
   | (intro _ _; with_reducible rfl)
   | (intro _ _; rfl)
   | (simp only [IntKind.min, IntKind.max, IntKind.signed, IntKind.bits, if_true]; omega)
   | omega
   | (intro h; exact h)
   | (intro h; cases h; done)
   | exact .inl rfl
   | exact .inl True.intro
   | exact .inr rfl
   | (simp; done)
 by_cases h4 : 64 < e.src
 ·refine T_al (bdEb_p0001 e more [] e 0) Tryz.func4 ?_
  simp only [All]; and_intros
  all_goals first
   | exact True.intro
   | exact hL
   | (with_reducible assumption)
   | (rw [decide_eq_true_eq]; omega)
   | (rw [decide_eq_false_iff_not]; omega)
   | with_reducible rfl
   | (intro _ _; exact True.intro)
   | (intro _ _; with_reducible rfl)
   | (intro _ _; rfl)
   | (simp only [IntKind.min, IntKind.max, IntKind.signed, IntKind.bits, if_true]; omega)
   | omega
   | (intro h; exact h)
   | (intro h; cases h; done)
   | exact .inl rfl
   | exact .inl True.intro
   | exact .inr rfl
   | (simp; done)
 have hm : mayEnvS e = true := by
  simp only [mayEnvS, Bool.and_eq_true, decide_eq_true_eq, upto_iff]
  omega
 have ho := envOk_of hm ht
 have hP := T_ep ho
 have hlen := envB_len ho
 have hG := T_get (baL (envB e)) (by rw [← strB_len, strB_baL]; omega)
 rw [strB_baL, get_put hm ht] at hG
 have hsz : (baL (envB e)).size = (envB e).length := by rw [← strB_len, strB_baL]
 have hsz2 : (baL (envB e) ++ more).size = (envB e).length + more.size := by rw [← strB_len, strB_app, List.length_append, strB_len]
 have hG2 := T_get (baL (envB e) ++ more) (by rw [hsz2]; omega)
 rw [strB_app] at hG2
 have hg : (decide ((getR (envB e ++ strB more)).2 = 0) == decide (more = ByteArray.mk (Array.mk []))) = true := by
  by_cases h : strB more = []
  ·rw [h, List.append_nil, get_put hm ht, decide_eq_true (strB_nil.1 h)]; rfl
  ·rw [get_more hm ht h, decide_eq_false (fun h' => h (strB_nil.2 h'))]; rfl
 have hb := bytesF_bl (envB e)
 rw [← hb] at hG hG2 hsz
 refine T_al (bdEb_p0000111 e more (envB e) (getR (envB e ++ strB more)).1 (getR (envB e ++ strB more)).2) Tryz.func4 ?_
 simp only [All]; and_intros
 all_goals first
  | exact True.intro
  | exact hL
  | exact hP _
  | exact hG
  | exact hG2
  | exact hg
  | (simp; done)
  | (rw [hsz]; omega)
  | (with_reducible assumption)
  | (rw [decide_eq_true_eq]; omega)
  | (rw [decide_eq_false_iff_not]; omega)
  | with_reducible rfl
  | (intro _ _; exact True.intro)
  | (intro _ _; with_reducible rfl)
  | (intro _ _; rfl)
  | (simp only [IntKind.min, IntKind.max, IntKind.signed, IntKind.bits, if_true]; omega)
  | omega
  | (intro h; exact h)
  | (intro h; cases h; done)
  | exact .inl rfl
  | exact .inl True.intro
  | exact .inr rfl
  | (simp; done)
end Go.Proofs.YtnmccoincblecaaGreat
namespace Go.Proofs.YtnmccoincblecaaGreat
open Go Sy Go.Proofs
theorem seg_of {n : Nat} {xs : List Int} (h : xs.length = n) (h2 : ∀ x ∈ xs, InR .u8 x) : SegOk n xs := ⟨h, fun x hx => InR8.1 (h2 x hx)⟩
theorem sg_env {d : Nat} {cs : List V} (h : ShC Tryz.prog d 26 cs) : ∃ s : SEnv, cs = s.c ∧ s.body.size ≤ 9223372036854775807 ∧ SegOk 16 s.tag := by
 obtain ⟨d, a, _, rfl, ha, c, _, rfl, hc, e, _, rfl, he, rfl⟩ := sh_struct h Tryz.underlying26
 obtain ⟨n, rfl, _⟩ := sh_int ha Tryz.underlying3
 obtain ⟨s, rfl, hs⟩ := sh_str hc Tryz.underlying9
 obtain ⟨xs, rfl, h1, h2⟩ := sh_arr he Tryz.underlying24 Tryz.underlying5
 exact ⟨⟨n, s, xs⟩, rfl, hs, seg_of h1 h2⟩
end Go.Proofs.YtnmccoincblecaaGreat
