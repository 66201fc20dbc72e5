/-
  Contracts and laws that the claim's theorem leans on, joined out of the texts Ka2 Ka3D Ka3 Ka4D Ka4 Ka5D Ka5 Ka6D (own work of this seat): Contract: one block of the digest; Contracts: a stream of the digest; Contracts: a stream of the digest; Contracts: the digest's end, and the digest of parts; Contracts: the digest's end, and the digest of parts; Contracts: the digest of one part, of two parts; Contracts: the digest of one part, of two parts; Contracts: the digest by the document: padding, one block.
-/
import Derived.Test.YtpallipnhmoipaaC05
set_option linter.unusedVariables false
set_option linter.unusedSimpArgs false
set_option maxHeartbeats 1000000
namespace Go.Proofs.Ytpallipnhmoipaa
open Go Sy Go.Proofs
theorem bdBk_p (H : List Int) (W : List Int) (n : Int) (w : List Int) (s : S8) (H2 : List Int) :
  along Try.prog (bdBk H W n w s H2) [] = (some (.tup [], [(.o 0, .flat [.seg .u32 8 H2, .seg .u8 64 W, .int .i64 n])], [T Try.prog 102 [.agg [.seg .u8 64 W]] [] (.agg [.seg .u32 64 w]) [], (0 : Int) ≤ (0 : Int) ∧ (0 : Int) < (8 : Int), nat_lit 0 < (8 : Nat), (0 : Int) ≤ (1 : Int) ∧ (1 : Int) < (8 : Int), nat_lit 1 < (8 : Nat), (0 : Int) ≤ (2 : Int) ∧ (2 : Int) < (8 : Int), nat_lit 2 < (8 : Nat), (0 : Int) ≤ (3 : Int) ∧ (3 : Int) < (8 : Int), nat_lit 3 < (8 : Nat), (0 : Int) ≤ (4 : Int) ∧ (4 : Int) < (8 : Int), nat_lit 4 < (8 : Nat), (0 : Int) ≤ (5 : Int) ∧ (5 : Int) < (8 : Int), nat_lit 5 < (8 : Nat), (0 : Int) ≤ (6 : Int) ∧ (6 : Int) < (8 : Int), nat_lit 6 < (8 : Nat), (0 : Int) ≤ (7 : Int) ∧ (7 : Int) < (8 : Int), nat_lit 7 < (8 : Nat), RLoop Try.prog none 1 (cB (cB (cR (cL (cR (cR (bodyOf (Bd.f (bdBk H W n w s H2))))))))) 65 (St.mk [.ptr (.o 0) 0 0 0 0, .any, .ptr (.o 1) 0 0 0 0, .int .u32 (List.getD H 0 (0 : Int)), .int .u32 (List.getD H 1 (0 : Int)), .int .u32 (List.getD H 2 (0 : Int)), .int .u32 (List.getD H 3 (0 : Int)), .int .u32 (List.getD H 4 (0 : Int)), .int .u32 (List.getD H 5 (0 : Int)), .int .u32 (List.getD H 6 (0 : Int)), .int .u32 (List.getD H 7 (0 : Int)), .any, .any, .any, .any, .any, .any, .any, .any, .any, .any, .any, .any, .any, .any, .any, .any, .any, .any, .any, .any, .any, .any, .any, .any, .any, .any, .any, .any, .any, .any, .any, .any, .any, .any, .any, .any, .any, .any, .any, .any, .any, .any, .any, .any, .any, .any, .any, .any, .any, .any, .int .i64 0, .any, .any, .any, .any, .any, .any, .any, .any, .any, .any, .any, .any, .any, .any, .any, .any, .any, .any, .any, .any, .any, .any, .any, .any, .any, .any, .any, .any, .any, .any, .any, .any, .any, .any, .any, .any, .any, .any, .any, .any, .any, .any, .any, .any, .any, .any, .any, .any, .any, .any, .any, .any, .any, .any, .any, .any, .any, .any, .any, .any, .any, .any, .any, .any, .any, .any, .any, .any, .any, .any, .any, .any, .any, .any] [(.o 0, .flat [.seg .u32 8 H, .seg .u8 64 W, .int .i64 n]), (.o 1, .flat [.seg .u32 64 w])] 2 []) (.exit 0) (St.mk [.ptr (.o 0) 0 0 0 0, .any, .ptr (.o 1) 0 0 0 0, .int .u32 (S8.a s), .int .u32 (S8.b s), .int .u32 (S8.c s), .int .u32 (S8.d s), .int .u32 (S8.e s), .int .u32 (S8.f s), .int .u32 (S8.g s), .int .u32 (S8.h s), .any, .any, .any, .any, .any, .any, .any, .any, .any, .any, .any, .any, .any, .any, .any, .any, .any, .any, .any, .any, .any, .any, .any, .any, .any, .any, .any, .any, .any, .any, .any, .any, .any, .any, .any, .any, .any, .any, .any, .any, .any, .any, .any, .any, .any, .any, .any, .any, .any, .any, .int .i64 64, .any, .any, .any, .any, .any, .any, .any, .any, .any, .any, .any, .any, .any, .any, .any, .any, .any, .any, .any, .any, .any, .any, .any, .any, .any, .any, .any, .any, .any, .any, .any, .any, .any, .any, .any, .any, .any, .any, .any, .any, .any, .any, .any, .any, .any, .any, .any, .any, .any, .any, .any, .any, .any, .any, .any, .any, .any, .any, .any, .any, .any, .any, .any, .any, .any, .any, .any, .any, .any, .any, .any, .any, .any, .any] [(.o 0, .flat [.seg .u32 8 H, .seg .u8 64 W, .int .i64 n]), (.o 1, .flat [.seg .u32 64 w])] 2 []), q (8 : Nat), q H, q (64 : Nat), q W, q n, q (64 : Nat), q w, q0, q0, q0, q0, q0, q0, List.getD H (nat_lit 0) (0 : Int) = List.getD H (0 : Nat) (0 : Int), List.getD H (nat_lit 1) (0 : Int) = List.getD H (1 : Nat) (0 : Int), List.getD H (nat_lit 2) (0 : Int) = List.getD H (2 : Nat) (0 : Int), List.getD H (nat_lit 3) (0 : Int) = List.getD H (3 : Nat) (0 : Int), List.getD H (nat_lit 4) (0 : Int) = List.getD H (4 : Nat) (0 : Int), List.getD H (nat_lit 5) (0 : Int) = List.getD H (5 : Nat) (0 : Int), List.getD H (nat_lit 6) (0 : Int) = List.getD H (6 : Nat) (0 : Int), List.getD H (nat_lit 7) (0 : Int) = List.getD H (7 : Nat) (0 : Int), q1, RLoop Try.prog none 1 (cB (cB (cR (cR (cR (cR (bodyOf (Bd.f (bdBk H W n w s H2))))))))) 9 (St.mk [.ptr (.o 0) 0 0 0 0, .any, .any, .any, .any, .any, .any, .any, .any, .any, .any, .any, .any, .any, .any, .any, .any, .any, .any, .any, .any, .any, .any, .any, .any, .any, .any, .any, .any, .any, .any, .any, .any, .any, .any, .any, .any, .any, .any, .any, .any, .any, .any, .any, .any, .any, .any, .any, .any, .any, .any, .any, .any, .any, .any, .any, .any, .any, .any, .any, .any, .any, .any, .any, .any, .any, .any, .any, .any, .any, .any, .any, .any, .any, .any, .any, .any, .any, .any, .any, .any, .any, .any, .any, .any, .any, .any, .any, .any, .any, .any, .any, .any, .any, .any, .any, .any, .any, .any, .any, .any, .any, .any, .any, .any, .any, .any, .any, .any, .any, .any, .any, .any, .any, .any, .any, .any, .any, .any, .agg [.seg .u32 8 [S8.a s, S8.b s, S8.c s, S8.d s, S8.e s, S8.f s, S8.g s, S8.h s]], .int .i64 0, .any, .any, .any, .any, .any, .any, .any, .any, .any, .any, .any, .any, .any, .any, .any] [(.o 0, .flat [.seg .u32 8 H, .seg .u8 64 W, .int .i64 n])] 2 []) (.exit 2) (St.mk [.ptr (.o 0) 0 0 0 0, .any, .any, .any, .any, .any, .any, .any, .any, .any, .any, .any, .any, .any, .any, .any, .any, .any, .any, .any, .any, .any, .any, .any, .any, .any, .any, .any, .any, .any, .any, .any, .any, .any, .any, .any, .any, .any, .any, .any, .any, .any, .any, .any, .any, .any, .any, .any, .any, .any, .any, .any, .any, .any, .any, .any, .any, .any, .any, .any, .any, .any, .any, .any, .any, .any, .any, .any, .any, .any, .any, .any, .any, .any, .any, .any, .any, .any, .any, .any, .any, .any, .any, .any, .any, .any, .any, .any, .any, .any, .any, .any, .any, .any, .any, .any, .any, .any, .any, .any, .any, .any, .any, .any, .any, .any, .any, .any, .any, .any, .any, .any, .any, .any, .any, .any, .any, .any, .any, .agg [.seg .u32 8 [S8.a s, S8.b s, S8.c s, S8.d s, S8.e s, S8.f s, S8.g s, S8.h s]], .int .i64 8, .any, .any, .any, .any, .any, .any, .any, .any, .any, .any, .any, .any, .any, .any, .any] [(.o 0, .flat [.seg .u32 8 H2, .seg .u8 64 W, .int .i64 n])] 2 []), q (8 : Nat), q H, q (64 : Nat), q W, q n, q0, q0, q0, q (8 : Nat), q ([S8.a s, S8.b s, S8.c s, S8.d s, S8.e s, S8.f s, S8.g s, S8.h s]), q1]) : Option (V × Heap × List Prop)) := by kernel_rfl

theorem pcBi_p1 (H : List Int) (W : List Int) (n : Int) (w : List Int) (s : S8) (t : Nat) (s2 : S8) :
  alongPc Try.prog (pcBi H W n w s t s2) [true] = (some (.normal, St.mk [.ptr (.o 0) 0 0 0 0, .any, .ptr (.o 1) 0 0 0 0, .int .u32 (S8.a s2), .int .u32 (S8.b s2), .int .u32 (S8.c s2), .int .u32 (S8.d s2), .int .u32 (S8.e s2), .int .u32 (S8.f s2), .int .u32 (S8.g s2), .int .u32 (S8.h s2), .any, .any, .any, .any, .any, .any, .any, .any, .any, .any, .any, .any, .any, .any, .any, .any, .any, .any, .any, .any, .any, .any, .any, .any, .any, .any, .any, .any, .any, .any, .any, .any, .any, .any, .any, .any, .any, .any, .any, .any, .any, .any, .any, .any, .any, .any, .any, .any, .any, .any, .int .i64 (↑(t + 1) : Int), .any, .any, .any, .any, .any, .any, .any, .any, .any, .any, .any, .any, .any, .any, .any, .any, .any, .any, .any, .any, .any, .any, .any, .any, .any, .any, .any, .any, .any, .any, .any, .any, .any, .any, .any, .any, .any, .any, .any, .any, .any, .any, .any, .any, .any, .any, .any, .any, .any, .any, .any, .any, .any, .any, .any, .any, .any, .any, .any, .any, .any, .any, .any, .any, .any, .any, .any, .any, .any, .any, .any, .any, .any, .any] [(.o 0, .flat [.seg .u32 8 H, .seg .u8 64 W, .int .i64 n]), (.o 1, .flat [.seg .u32 64 w])] 2 [], [decide ((↑t : Int) < (64 : Int)) = true, T Try.prog 103 [.int .u32 (S8.e s), .int .i64 6, .int .i64 11, .int .i64 25] [] (.int .u32 (s32 (S8.e s) (6 : Int) (11 : Int) (25 : Int))) [], T Try.prog 104 [.int .i64 ↑t] [] (.int .u32 (kN (Int.toNat (↑t : Int)))) [], (0 : Int) ≤ (↑t : Int) ∧ (↑t : Int) < (64 : Int), (0 : Nat) + Int.toNat (↑t : Int) < (64 : Nat), T Try.prog 103 [.int .u32 (S8.a s), .int .i64 2, .int .i64 13, .int .i64 22] [] (.int .u32 (s32 (S8.a s) (2 : Int) (13 : Int) (22 : Int))) [], InR IntKind.i64 ((↑t : Int) + (1 : Int)), q (8 : Nat), q H, q (64 : Nat), q W, q n, q (64 : Nat), q w, q0, q0, q0, q0, q0, q0, IntKind.wrap IntKind.u32 (IntKind.wrap IntKind.u32 (IntKind.wrap IntKind.u32 (IntKind.wrap IntKind.u32 (IntKind.wrap IntKind.u32 (S8.h s + s32 (S8.e s) (6 : Int) (11 : Int) (25 : Int)) + ibits (fun x x_1 y => x_1 ^^^ y) IntKind.u32 (ibits (fun x x_1 y => x_1 &&& y) IntKind.u32 (S8.e s) (S8.f s)) (ibits (fun x x_1 y => x_1 &&& y) IntKind.u32 (ibits (fun x x_1 y => x_1 ^^^ y) IntKind.u32 (4294967295 : Int) (S8.e s)) (S8.g s))) + kN (Int.toNat (↑t : Int))) + List.getD w ((0 : Nat) + Int.toNat (↑t : Int)) (0 : Int)) + IntKind.wrap IntKind.u32 (s32 (S8.a s) (2 : Int) (13 : Int) (22 : Int) + ibits (fun x x_1 y => x_1 ^^^ y) IntKind.u32 (ibits (fun x x_1 y => x_1 ^^^ y) IntKind.u32 (ibits (fun x x_1 y => x_1 &&& y) IntKind.u32 (S8.a s) (S8.b s)) (ibits (fun x x_1 y => x_1 &&& y) IntKind.u32 (S8.a s) (S8.c s))) (ibits (fun x x_1 y => x_1 &&& y) IntKind.u32 (S8.b s) (S8.c s)))) = S8.a s2, S8.a s = S8.b s2, S8.b s = S8.c s2, S8.c s = S8.d s2, IntKind.wrap IntKind.u32 (S8.d s + IntKind.wrap IntKind.u32 (IntKind.wrap IntKind.u32 (IntKind.wrap IntKind.u32 (IntKind.wrap IntKind.u32 (S8.h s + s32 (S8.e s) (6 : Int) (11 : Int) (25 : Int)) + ibits (fun x x_1 y => x_1 ^^^ y) IntKind.u32 (ibits (fun x x_1 y => x_1 &&& y) IntKind.u32 (S8.e s) (S8.f s)) (ibits (fun x x_1 y => x_1 &&& y) IntKind.u32 (ibits (fun x x_1 y => x_1 ^^^ y) IntKind.u32 (4294967295 : Int) (S8.e s)) (S8.g s))) + kN (Int.toNat (↑t : Int))) + List.getD w ((0 : Nat) + Int.toNat (↑t : Int)) (0 : Int))) = S8.e s2, S8.e s = S8.f s2, S8.f s = S8.g s2, S8.g s = S8.h s2, (↑t : Int) + (1 : Int) = (↑(t + (1 : Nat)) : Int)]) : Option (Exit × St × List Prop)) := by kernel_rfl
theorem pcBi_p0 (H : List Int) (W : List Int) (n : Int) (w : List Int) (s : S8) (t : Nat) (s2 : S8) :
  alongPc Try.prog (pcBi H W n w s t s2) [false] = (some (.exit 0, St.mk [.ptr (.o 0) 0 0 0 0, .any, .ptr (.o 1) 0 0 0 0, .int .u32 (S8.a s), .int .u32 (S8.b s), .int .u32 (S8.c s), .int .u32 (S8.d s), .int .u32 (S8.e s), .int .u32 (S8.f s), .int .u32 (S8.g s), .int .u32 (S8.h s), .any, .any, .any, .any, .any, .any, .any, .any, .any, .any, .any, .any, .any, .any, .any, .any, .any, .any, .any, .any, .any, .any, .any, .any, .any, .any, .any, .any, .any, .any, .any, .any, .any, .any, .any, .any, .any, .any, .any, .any, .any, .any, .any, .any, .any, .any, .any, .any, .any, .any, .int .i64 64, .any, .any, .any, .any, .any, .any, .any, .any, .any, .any, .any, .any, .any, .any, .any, .any, .any, .any, .any, .any, .any, .any, .any, .any, .any, .any, .any, .any, .any, .any, .any, .any, .any, .any, .any, .any, .any, .any, .any, .any, .any, .any, .any, .any, .any, .any, .any, .any, .any, .any, .any, .any, .any, .any, .any, .any, .any, .any, .any, .any, .any, .any, .any, .any, .any, .any, .any, .any, .any, .any, .any, .any, .any, .any] [(.o 0, .flat [.seg .u32 8 H, .seg .u8 64 W, .int .i64 n]), (.o 1, .flat [.seg .u32 64 w])] 2 [], [decide ((↑t : Int) < (64 : Int)) = false, q (8 : Nat), q H, q (64 : Nat), q W, q n, q (64 : Nat), q w, q0, q0, q0, q0, q0, q0, q (S8.a s), q (S8.b s), q (S8.c s), q (S8.d s), q (S8.e s), q (S8.f s), q (S8.g s), q (S8.h s), (↑t : Int) = (64 : Int)]) : Option (Exit × St × List Prop)) := by kernel_rfl

theorem pcBj_p1 (H : List Int) (W : List Int) (n : Int) (l : List Int) (i : Nat) (H2 : List Int) :
  alongPc Try.prog (pcBj H W n l i H2) [true] = (some (.normal, St.mk [.ptr (.o 0) 0 0 0 0, .any, .any, .any, .any, .any, .any, .any, .any, .any, .any, .any, .any, .any, .any, .any, .any, .any, .any, .any, .any, .any, .any, .any, .any, .any, .any, .any, .any, .any, .any, .any, .any, .any, .any, .any, .any, .any, .any, .any, .any, .any, .any, .any, .any, .any, .any, .any, .any, .any, .any, .any, .any, .any, .any, .any, .any, .any, .any, .any, .any, .any, .any, .any, .any, .any, .any, .any, .any, .any, .any, .any, .any, .any, .any, .any, .any, .any, .any, .any, .any, .any, .any, .any, .any, .any, .any, .any, .any, .any, .any, .any, .any, .any, .any, .any, .any, .any, .any, .any, .any, .any, .any, .any, .any, .any, .any, .any, .any, .any, .any, .any, .any, .any, .any, .any, .any, .any, .any, .agg [.seg .u32 8 l], .int .i64 (↑(i + 1) : Int), .any, .any, .any, .any, .any, .any, .any, .any, .any, .any, .any, .any, .any, .any, .any] [(.o 0, .flat [.seg .u32 8 H2, .seg .u8 64 W, .int .i64 n])] 2 [], [decide ((↑i : Int) < (8 : Int)) = true, (0 : Int) ≤ (↑i : Int) ∧ (↑i : Int) < (8 : Int) ∧ (↑i : Int) < (8 : Int), (0 : Int) ≤ (↑i : Int) ∧ (↑i : Int) < (8 : Int), (0 : Nat) + Int.toNat (↑i : Int) < (8 : Nat), (0 : Int) ≤ (↑i : Int) ∧ (↑i : Int) < (8 : Int), (0 : Nat) + Int.toNat (↑i : Int) < (8 : Nat), InR IntKind.i64 ((↑i : Int) + (1 : Int)), q (8 : Nat), List.set H ((0 : Nat) + Int.toNat (↑i : Int)) (IntKind.wrap IntKind.u32 (List.getD H ((0 : Nat) + Int.toNat (↑i : Int)) (0 : Int) + List.getD l (Int.toNat (↑i : Int)) (0 : Int))) = H2, q (64 : Nat), q W, q n, q0, q0, q0, q (8 : Nat), q l, (↑i : Int) + (1 : Int) = (↑(i + (1 : Nat)) : Int)]) : Option (Exit × St × List Prop)) := by kernel_rfl
theorem pcBj_p0 (H : List Int) (W : List Int) (n : Int) (l : List Int) (i : Nat) (H2 : List Int) :
  alongPc Try.prog (pcBj H W n l i H2) [false] = (some (.exit 2, St.mk [.ptr (.o 0) 0 0 0 0, .any, .any, .any, .any, .any, .any, .any, .any, .any, .any, .any, .any, .any, .any, .any, .any, .any, .any, .any, .any, .any, .any, .any, .any, .any, .any, .any, .any, .any, .any, .any, .any, .any, .any, .any, .any, .any, .any, .any, .any, .any, .any, .any, .any, .any, .any, .any, .any, .any, .any, .any, .any, .any, .any, .any, .any, .any, .any, .any, .any, .any, .any, .any, .any, .any, .any, .any, .any, .any, .any, .any, .any, .any, .any, .any, .any, .any, .any, .any, .any, .any, .any, .any, .any, .any, .any, .any, .any, .any, .any, .any, .any, .any, .any, .any, .any, .any, .any, .any, .any, .any, .any, .any, .any, .any, .any, .any, .any, .any, .any, .any, .any, .any, .any, .any, .any, .any, .any, .agg [.seg .u32 8 l], .int .i64 8, .any, .any, .any, .any, .any, .any, .any, .any, .any, .any, .any, .any, .any, .any, .any] [(.o 0, .flat [.seg .u32 8 H, .seg .u8 64 W, .int .i64 n])] 2 [], [decide ((↑i : Int) < (8 : Int)) = false, q (8 : Nat), q H, q (64 : Nat), q W, q n, q0, q0, q0, q (8 : Nat), q l, (↑i : Int) = (8 : Int)]) : Option (Exit × St × List Prop)) := by kernel_rfl

theorem T_bk (H W : List Int) (n : Int) : T Try.prog 91 [p0 0] [(.o 0, stB H W n)] (.tup []) [(.o 0, stB (blk H W) W n)] := by
 have hA : ∀ w, RLoop Try.prog none 1 (cB (cB (cR (cL (cR (cR (bodyOf Try.f91))))))) (64 + 1) (bkI H W n w (rnd w (S8.of H) 0) 0) (.exit 0) (bkI H W n w (rnd w (S8.of H) 64) 64) := by
  intro w
  have hstep : ∀ t, t < 64 → R Try.prog none 1 (cB (cB (cR (cL (cR (cR (bodyOf Try.f91))))))) (bkI H W n w (rnd w (S8.of H) t) t) .normal (bkI H W n w (rnd w (S8.of H) (t + 1)) (t + 1)) := by
   intro t ht
   have h1 := T_tu (rnd w (S8.of H) t).e (a := 6) (b := 11) (c := 25) (by decide) (by decide) (by decide)
   have h2 := T_tu (rnd w (S8.of H) t).a (a := 2) (b := 13) (c := 22) (by decide) (by decide) (by decide)
   have h3 := T_kr ht
   refine R_alongPc NG MO _ (pcBi_p1 H W n w (rnd w (S8.of H) t) t (rnd w (S8.of H) (t + 1))) ?_ (by show 1 ≤ 2; decide)
   simp only [All, Nat.zero_add, Int.toNat_natCast]; and_intros
   all_goals first
    | exact True.intro
    | exact h1
    | exact h2
    | exact h3
    | rfl
    | (with_reducible assumption)
    | (rw [decide_eq_true_eq]; omega)
    | (rw [decide_eq_false_iff_not]; omega)
    | with_reducible rfl
    | (intro _ _; exact True.intro)
    | (intro _ _; with_reducible rfl)
    | (intro _ _; rfl)
    | (simp only [IntKind.min, IntKind.max, IntKind.signed, IntKind.bits, if_true]; omega)
    | omega
    | (intro h; exact h)
    | (intro h; cases h; done)
    | exact .inl rfl
    | exact .inl True.intro
    | exact .inr rfl
    | (simp; done)
  have hend : R Try.prog none 1 (cB (cB (cR (cL (cR (cR (bodyOf Try.f91))))))) (bkI H W n w (rnd w (S8.of H) 64) 64) (.exit 0) (bkI H W n w (rnd w (S8.of H) 64) 64) := by
   refine R_alongPc NG MO _ (pcBi_p0 H W n w (rnd w (S8.of H) 64) 64 ⟨0, 0, 0, 0, 0, 0, 0, 0⟩) ?_ (by show 1 ≤ 2; decide)
   simp only [All]; and_intros
   all_goals first
    | exact True.intro
    | (with_reducible assumption)
    | (rw [decide_eq_true_eq]; omega)
    | (rw [decide_eq_false_iff_not]; omega)
    | with_reducible rfl
    | (intro _ _; exact True.intro)
    | (intro _ _; with_reducible rfl)
    | (intro _ _; rfl)
    | (simp only [IntKind.min, IntKind.max, IntKind.signed, IntKind.bits, if_true]; omega)
    | omega
    | (intro h; exact h)
    | (intro h; cases h; done)
    | exact .inl rfl
    | exact .inl True.intro
    | exact .inr rfl
    | (simp; done)
  exact RLoop.inv (fun t => bkI H W n w (rnd w (S8.of H) t) t) 64 hstep hend (by simp)
 have hB : ∀ l, RLoop Try.prog none 1 (cB (cB (cR (cR (cR (cR (bodyOf Try.f91))))))) (8 + 1) (bkJ (hF H l 0) W n l 0) (.exit 2) (bkJ (hF H l 8) W n l 8) := by
  intro l
  have hstep : ∀ i, i < 8 → R Try.prog none 1 (cB (cB (cR (cR (cR (cR (bodyOf Try.f91))))))) (bkJ (hF H l i) W n l i) .normal (bkJ (hF H l (i + 1)) W n l (i + 1)) := by
   intro i hi
   refine R_alongPc NG MO _ (pcBj_p1 (hF H l i) W n l i (hF H l (i + 1))) ?_ (by show 1 ≤ 2; decide)
   simp only [All, Nat.zero_add, Int.toNat_natCast]; and_intros
   all_goals first
    | exact True.intro
    | rfl
    | (with_reducible assumption)
    | (rw [decide_eq_true_eq]; omega)
    | (rw [decide_eq_false_iff_not]; omega)
    | with_reducible rfl
    | (intro _ _; exact True.intro)
    | (intro _ _; with_reducible rfl)
    | (intro _ _; rfl)
    | (simp only [IntKind.min, IntKind.max, IntKind.signed, IntKind.bits, if_true]; omega)
    | omega
    | (intro h; exact h)
    | (intro h; cases h; done)
    | exact .inl rfl
    | exact .inl True.intro
    | exact .inr rfl
    | (simp; done)
  have hend : R Try.prog none 1 (cB (cB (cR (cR (cR (cR (bodyOf Try.f91))))))) (bkJ (hF H l 8) W n l 8) (.exit 2) (bkJ (hF H l 8) W n l 8) := by
   refine R_alongPc NG MO _ (pcBj_p0 (hF H l 8) W n l 8 []) ?_ (by show 1 ≤ 2; decide)
   simp only [All]; and_intros
   all_goals first
    | exact True.intro
    | (with_reducible assumption)
    | (rw [decide_eq_true_eq]; omega)
    | (rw [decide_eq_false_iff_not]; omega)
    | with_reducible rfl
    | (intro _ _; exact True.intro)
    | (intro _ _; with_reducible rfl)
    | (intro _ _; rfl)
    | (simp only [IntKind.min, IntKind.max, IntKind.signed, IntKind.bits, if_true]; omega)
    | omega
    | (intro h; exact h)
    | (intro h; cases h; done)
    | exact .inl rfl
    | exact .inl True.intro
    | exact .inr rfl
    | (simp; done)
  exact RLoop.inv (fun i => bkJ (hF H l i) W n l i) 8 hstep hend (by simp)
 have h1 := T_wt W
 have hA1 := hA (wB W 48)
 have hB1 := hB (rnd (wB W 48) (S8.of H) 64).l
 generalize hw : wB W 48 = w at h1 hA1 hB1
 generalize hs : rnd w (S8.of H) 64 = s at hA1 hB1
 have hb : hF H s.l 8 = blk H W := by rw [blk, hw, hs]
 rw [hb] at hB1
 refine T_al (bdBk_p H W n w s (blk H W)) Try.func91 ?_
 simp only [All]; and_intros
 all_goals first
  | exact True.intro
  | exact h1
  | exact hA1
  | exact hB1
  | (with_reducible assumption)
  | (rw [decide_eq_true_eq]; omega)
  | (rw [decide_eq_false_iff_not]; omega)
  | with_reducible rfl
  | (intro _ _; exact True.intro)
  | (intro _ _; with_reducible rfl)
  | (intro _ _; rfl)
  | (simp only [IntKind.min, IntKind.max, IntKind.signed, IntKind.bits, if_true]; omega)
  | omega
  | (intro h; exact h)
  | (intro h; cases h; done)
  | exact .inl rfl
  | exact .inl True.intro
  | exact .inr rfl
  | (simp; done)
end Go.Proofs.Ytpallipnhmoipaa
namespace Go.Proofs.Ytpallipnhmoipaa
open Go Sy Go.Proofs
noncomputable def bdBe : Bd := { f := Try.f65, args := [], kb := kb0, names := fun t => [nmV (getV t.tmps 0)] }
def wrI (H W : List Int) (n : Nat) (l : List Int) : St := ⟨mkT 38 [(0, p0 0), (1, rb l)], [(.o 0, stB H W (n : Nat))], 1, []⟩
noncomputable def bdWr (H W : List Int) (n : Nat) (l H2 W2 : List Int) (n2 : Nat) : Bd := { f := Try.f66, args := [p0 0, rb l], pre := [(.o 0, stB H W (n : Nat))], base := 1, kb := { db := fun _ _ _ _ => [], lp := fun _ _ => [(True, .loop (l.length + 1) (wTo (wrI H W n l)) (.exit 0) (wrI H2 W2 n2 []))] }, names := fun _ => [.o 0] }
def bkDb (H2 : List Int) : List V → Heap → Nat → List Cl := fun _ h _ => match pull (.o 0) h with
 | some (.flat [_, .seg _ _ W, .int _ n], _) => [{ pre := [.o 0], val := .tup [], post := [(.o 0, .flat [.seg .u32 8 H2, .seg .u8 64 W, .int .i64 n])] }]
 | _ => []
noncomputable def pcWr (H W : List Int) (n : Nat) (l H2 W2 : List Int) (n2 : Nat) (l2 : List Int) : Pc := { c := cB (cB (bodyOf Try.f66)), st := wrI H W n l, p := 1, kb := { db := dbQ [(91, bkDb H2)] }, k := fun x_ _ => match x_ with
 | .normal => some (wTo (wrI H2 W2 n2 l2))
 | _ => some (wTo (wrI H W n [])) }
end Go.Proofs.Ytpallipnhmoipaa
namespace Go.Proofs.Ytpallipnhmoipaa
open Go Sy Go.Proofs
theorem bdBe_p :
  along Try.prog (bdBe) [] = (some (.ptr (.o 192) 0 0 0 0, [(.o 192, .flat [.seg .u32 8 [(1779033703 : Int), (3144134277 : Int), (1013904242 : Int), (2773480762 : Int), (1359893119 : Int), (2600822924 : Int), (528734635 : Int), (1541459225 : Int)], .seg .u8 64 [(0 : Int), (0 : Int), (0 : Int), (0 : Int), (0 : Int), (0 : Int), (0 : Int), (0 : Int), (0 : Int), (0 : Int), (0 : Int), (0 : Int), (0 : Int), (0 : Int), (0 : Int), (0 : Int), (0 : Int), (0 : Int), (0 : Int), (0 : Int), (0 : Int), (0 : Int), (0 : Int), (0 : Int), (0 : Int), (0 : Int), (0 : Int), (0 : Int), (0 : Int), (0 : Int), (0 : Int), (0 : Int), (0 : Int), (0 : Int), (0 : Int), (0 : Int), (0 : Int), (0 : Int), (0 : Int), (0 : Int), (0 : Int), (0 : Int), (0 : Int), (0 : Int), (0 : Int), (0 : Int), (0 : Int), (0 : Int), (0 : Int), (0 : Int), (0 : Int), (0 : Int), (0 : Int), (0 : Int), (0 : Int), (0 : Int), (0 : Int), (0 : Int), (0 : Int), (0 : Int), (0 : Int), (0 : Int), (0 : Int), (0 : Int)], .int .i64 0])], []) : Option (V × Heap × List Prop)) := by kernel_rfl

theorem bdWr_p (H : List Int) (W : List Int) (n : Nat) (l : List Int) (H2 : List Int) (W2 : List Int) (n2 : Nat) :
  along Try.prog (bdWr H W n l H2 W2 n2) [] = (some (.tup [], [(.o 0, .flat [.seg .u32 8 H2, .seg .u8 64 W2, .int .i64 ↑n2])], [RLoop Try.prog none 1 (cB (cB (bodyOf (Bd.f (bdWr H W n l H2 W2 n2))))) (List.length l + 1) (St.mk [.ptr (.o 0) 0 0 0 0, .ros 1 (List.length l) (ib l) false, .any, .any, .any, .any, .any, .any, .any, .any, .any, .any, .any, .any, .any, .any, .any, .any, .any, .any, .any, .any, .any, .any, .any, .any, .any, .any, .any, .any, .any, .any, .any, .any, .any, .any, .any, .any] [(.o 0, .flat [.seg .u32 8 H, .seg .u8 64 W, .int .i64 ↑n])] 1 []) (.exit 0) (St.mk [.ptr (.o 0) 0 0 0 0, .ros 1 0 (ib []) false, .any, .any, .any, .any, .any, .any, .any, .any, .any, .any, .any, .any, .any, .any, .any, .any, .any, .any, .any, .any, .any, .any, .any, .any, .any, .any, .any, .any, .any, .any, .any, .any, .any, .any, .any, .any] [(.o 0, .flat [.seg .u32 8 H2, .seg .u8 64 W2, .int .i64 ↑n2])] 1 []), q (8 : Nat), q H, q (64 : Nat), q W, q (↑n : Int), q0, q0, q0, q (List.length l), ∀ (k : Nat), k < List.length l → [V.int IntKind.u8 (List.getD l k (0 : Int))] = [V.int IntKind.u8 (List.getD l k (0 : Int))], false = true → false = true]) : Option (V × Heap × List Prop)) := by kernel_rfl

noncomputable def pcWr_c (H : List Int) (W : List Int) (n : Nat) (l : List Int) (H2 : List Int) (W2 : List Int) (n2 : Nat) (l2 : List Int) : Nat → List Prop
 | 0 => [decide ((0 : Int) < (↑(List.length l) : Int)) = true, (0 : Int) ≤ (↑n : Int) ∧ (0 : Int) < (64 : Int), (0 : Int) ≤ (↑n : Int) % (64 : Int) ∧ (↑n : Int) % (64 : Int) ≤ (64 : Int), Int.toNat ((↑n : Int) % (64 : Int)) = (0 : Nat) ∨ Int.toNat ((↑n : Int) % (64 : Int)) < nat_lit 64, addO (0 : Nat) (some ((↑n : Int) % (64 : Int))) + (nat_lit 64 - natO (some ((↑n : Int) % (64 : Int))) (0 : Nat)) ≤ (64 : Nat), ∀ (q : Nat), q < List.length l → true = true, InR IntKind.i64 ((↑n : Int) + (↑(Nat.min (List.length l) (nat_lit 64 - natO (some ((↑n : Int) % (64 : Int))) (0 : Nat))) : Int)), (0 : Int) ≤ (↑(Nat.min (List.length l) (nat_lit 64 - natO (some ((↑n : Int) % (64 : Int))) (0 : Nat))) : Int) ∧ (↑(Nat.min (List.length l) (nat_lit 64 - natO (some ((↑n : Int) % (64 : Int))) (0 : Nat))) : Int) ≤ (↑(natO none (List.length l)) : Int), (0 : Int) ≤ (↑n : Int) + (↑(Nat.min (List.length l) (nat_lit 64 - natO (some ((↑n : Int) % (64 : Int))) (0 : Nat))) : Int) ∧ (0 : Int) < (64 : Int)]
 | _ => []
theorem pcWr_p11 (H : List Int) (W : List Int) (n : Nat) (l : List Int) (H2 : List Int) (W2 : List Int) (n2 : Nat) (l2 : List Int) :
 alongPc Try.prog (pcWr H W n l H2 W2 n2 l2) [true, true] = (some (.normal, St.mk [.ptr (.o 0) 0 0 0 0, .ros 1 (List.length l2) (ib l2) false, .any, .any, .any, .any, .any, .any, .any, .any, .any, .any, .any, .any, .any, .any, .any, .any, .any, .any, .any, .any, .any, .any, .any, .any, .any, .any, .any, .any, .any, .any, .any, .any, .any, .any, .any, .any] [(.o 0, .flat [.seg .u32 8 H2, .seg .u8 64 W2, .int .i64 ↑n2])] 1 [], pcWr_c H W n l H2 W2 n2 l2 0 ++ [decide (((↑n : Int) + (↑(Nat.min (List.length l) (nat_lit 64 - natO (some ((↑n : Int) % (64 : Int))) (0 : Nat))) : Int)) % (64 : Int) = (0 : Int)) = true, T Try.prog 91 [.ptr (.o 0) 0 0 0 0] [(.o 0, .flat [.seg .u32 8 H, .seg .u8 64 (segSet 64 W (addO 0 (some ((↑n : Int) % (64 : Int)))) (Nat.min (List.length l) (nat_lit 64 - natO (some ((↑n : Int) % (64 : Int))) 0)) (ib l)), .int .i64 ((↑n : Int) + (↑(Nat.min (List.length l) (nat_lit 64 - natO (some ((↑n : Int) % (64 : Int))) 0)) : Int))])] (.tup []) [(.o 0, .flat [.seg .u32 8 H2, .seg .u8 64 (segSet 64 W (addO 0 (some ((↑n : Int) % (64 : Int)))) (Nat.min (List.length l) (nat_lit 64 - natO (some ((↑n : Int) % (64 : Int))) 0)) (ib l)), .int .i64 ((↑n : Int) + (↑(Nat.min (List.length l) (nat_lit 64 - natO (some ((↑n : Int) % (64 : Int))) 0)) : Int))])], q (8 : Nat), q H2, q (64 : Nat), segSet (64 : Nat) W (addO (0 : Nat) (some ((↑n : Int) % (64 : Int)))) (Nat.min (List.length l) (nat_lit 64 - natO (some ((↑n : Int) % (64 : Int))) (0 : Nat))) (ib l) = W2, (↑n : Int) + (↑(Nat.min (List.length l) (nat_lit 64 - natO (some ((↑n : Int) % (64 : Int))) (0 : Nat))) : Int) = (↑n2 : Int), q0, q0, q0, natO none (List.length l) - natO (some (↑(Nat.min (List.length l) (nat_lit 64 - natO (some ((↑n : Int) % (64 : Int))) (0 : Nat))) : Int)) (0 : Nat) = List.length l2, ∀ (k : Nat), k < natO none (List.length l) - natO (some (↑(Nat.min (List.length l) (nat_lit 64 - natO (some ((↑n : Int) % (64 : Int))) (0 : Nat))) : Int)) (0 : Nat) → [V.int IntKind.u8 (List.getD l (Int.toNat (↑(Nat.min (List.length l) (nat_lit 64 - natO (some ((↑n : Int) % (64 : Int))) (0 : Nat))) : Int) + k) (0 : Int))] = [V.int IntKind.u8 (List.getD l2 k (0 : Int))], false = true → false = true]) : Option (Exit × St × List Prop)) := by kernel_rfl
theorem pcWr_p10 (H : List Int) (W : List Int) (n : Nat) (l : List Int) (H2 : List Int) (W2 : List Int) (n2 : Nat) (l2 : List Int) :
 alongPc Try.prog (pcWr H W n l H2 W2 n2 l2) [true, false] = (some (.normal, St.mk [.ptr (.o 0) 0 0 0 0, .ros 1 (List.length l2) (ib l2) false, .any, .any, .any, .any, .any, .any, .any, .any, .any, .any, .any, .any, .any, .any, .any, .any, .any, .any, .any, .any, .any, .any, .any, .any, .any, .any, .any, .any, .any, .any, .any, .any, .any, .any, .any, .any] [(.o 0, .flat [.seg .u32 8 H2, .seg .u8 64 W2, .int .i64 ↑n2])] 1 [], pcWr_c H W n l H2 W2 n2 l2 0 ++ [decide (((↑n : Int) + (↑(Nat.min (List.length l) (nat_lit 64 - natO (some ((↑n : Int) % (64 : Int))) (0 : Nat))) : Int)) % (64 : Int) = (0 : Int)) = false, q (8 : Nat), H = H2, q (64 : Nat), segSet (64 : Nat) W (addO (0 : Nat) (some ((↑n : Int) % (64 : Int)))) (Nat.min (List.length l) (nat_lit 64 - natO (some ((↑n : Int) % (64 : Int))) (0 : Nat))) (ib l) = W2, (↑n : Int) + (↑(Nat.min (List.length l) (nat_lit 64 - natO (some ((↑n : Int) % (64 : Int))) (0 : Nat))) : Int) = (↑n2 : Int), q0, q0, q0, natO none (List.length l) - natO (some (↑(Nat.min (List.length l) (nat_lit 64 - natO (some ((↑n : Int) % (64 : Int))) (0 : Nat))) : Int)) (0 : Nat) = List.length l2, ∀ (k : Nat), k < natO none (List.length l) - natO (some (↑(Nat.min (List.length l) (nat_lit 64 - natO (some ((↑n : Int) % (64 : Int))) (0 : Nat))) : Int)) (0 : Nat) → [V.int IntKind.u8 (List.getD l (Int.toNat (↑(Nat.min (List.length l) (nat_lit 64 - natO (some ((↑n : Int) % (64 : Int))) (0 : Nat))) : Int) + k) (0 : Int))] = [V.int IntKind.u8 (List.getD l2 k (0 : Int))], false = true → false = true]) : Option (Exit × St × List Prop)) := by kernel_rfl
theorem pcWr_p0 (H : List Int) (W : List Int) (n : Nat) (l : List Int) (H2 : List Int) (W2 : List Int) (n2 : Nat) (l2 : List Int) :
 alongPc Try.prog (pcWr H W n l H2 W2 n2 l2) [false] = (some (.exit 0, St.mk [.ptr (.o 0) 0 0 0 0, .ros 1 0 (ib []) false, .any, .any, .any, .any, .any, .any, .any, .any, .any, .any, .any, .any, .any, .any, .any, .any, .any, .any, .any, .any, .any, .any, .any, .any, .any, .any, .any, .any, .any, .any, .any, .any, .any, .any, .any, .any] [(.o 0, .flat [.seg .u32 8 H, .seg .u8 64 W, .int .i64 ↑n])] 1 [], [decide ((0 : Int) < (↑(List.length l) : Int)) = false, q (8 : Nat), q H, q (64 : Nat), q W, q (↑n : Int), q0, q0, q0, List.length l = nat_lit 0, ∀ (k : Nat), k < List.length l → [V.int IntKind.u8 (List.getD l k (0 : Int))] = [V.int IntKind.u8 (0 : Int)], false = true → false = true]) : Option (Exit × St × List Prop)) := by kernel_rfl

def wrC (n : Nat) (l : List Int) : Nat := Nat.min l.length (64 - natO (some ((n : Int) % 64)) 0)
def wrW (W : List Int) (n : Nat) (l : List Int) : List Int := segSet 64 W (addO 0 (some ((n : Int) % 64))) (wrC n l) (ib l)
theorem wrC_eq (n : Nat) (l : List Int) : wrC n l = min l.length (64 - n % 64) := by
 have : natO (some ((n : Int) % 64)) 0 = n % 64 := by show ((n : Int) % 64).toNat = _; omega
 rw [wrC, this]
theorem wrW_eq (W : List Int) (n : Nat) (l : List Int) : wrW W n l = segSet 64 W (n % 64) (wrC n l) (ib l) := by
 have : addO 0 (some ((n : Int) % 64)) = n % 64 := by show 0 + ((n : Int) % 64).toNat = _; omega
 rw [wrW, this]
theorem wr_all : ∀ (N : Nat) (l : List Int), l.length ≤ N → ∀ B H W, Inv B H W → B.length + l.length ≤ 1000000000000 → ∃ H2 W2, Inv (B ++ l) H2 W2 ∧ ∀ m, l.length < m →
  RLoop Try.prog none 1 (cB (cB (bodyOf Try.f66))) m (wrI H W B.length l) (.exit 0) (wrI H2 W2 (B.length + l.length) []) := by
 intro N
 induction N with
 | zero =>
  intro l hl B H W hI hb
  obtain rfl : l = [] := List.eq_nil_of_length_eq_zero (by omega)
  refine ⟨H, W, by rw [List.append_nil]; exact hI, fun m hm => ?_⟩
  obtain ⟨m, rfl⟩ : ∃ k, m = k + 1 := ⟨m - 1, by simp at hm; omega⟩
  refine RLoop.out ?_ (by simp)
  refine R_alongPc NG MO _ (pcWr_p0 H W B.length [] [] [] 0 []) ?_ (by show 1 ≤ 1; decide)
  simp only [All, All_append, pcWr_c]; and_intros
  all_goals first
   | exact True.intro
   | (with_reducible assumption)
   | (rw [decide_eq_true_eq]; omega)
   | (rw [decide_eq_false_iff_not]; omega)
   | with_reducible rfl
   | (intro _ _; exact True.intro)
   | (intro _ _; with_reducible rfl)
   | (intro _ _; rfl)
   | (simp only [IntKind.min, IntKind.max, IntKind.signed, IntKind.bits, if_true]; omega)
   | omega
   | (intro h; exact h)
   | (intro h; cases h; done)
   | exact .inl rfl
   | exact .inl True.intro
   | exact .inr rfl
   | (simp; done)
 | succ N ih =>
  intro l hl B H W hI hb
  by_cases h0 : l.length = 0
  ·obtain rfl : l = [] := List.eq_nil_of_length_eq_zero h0
   refine ⟨H, W, by rw [List.append_nil]; exact hI, fun m hm => ?_⟩
   obtain ⟨m, rfl⟩ : ∃ k, m = k + 1 := ⟨m - 1, by simp at hm; omega⟩
   refine RLoop.out ?_ (by simp)
   refine R_alongPc NG MO _ (pcWr_p0 H W B.length [] [] [] 0 []) ?_ (by show 1 ≤ 1; decide)
   simp only [All, All_append, pcWr_c]; and_intros
   all_goals first
    | exact True.intro
    | (with_reducible assumption)
    | (rw [decide_eq_true_eq]; omega)
    | (rw [decide_eq_false_iff_not]; omega)
    | with_reducible rfl
    | (intro _ _; exact True.intro)
    | (intro _ _; with_reducible rfl)
    | (intro _ _; rfl)
    | (simp only [IntKind.min, IntKind.max, IntKind.signed, IntKind.bits, if_true]; omega)
    | omega
    | (intro h; exact h)
    | (intro h; cases h; done)
    | exact .inl rfl
    | exact .inl True.intro
    | exact .inr rfl
    | (simp; done)
  have hc := wrC_eq B.length l
  have hc1 : wrC B.length l ≤ l.length := by omega
  have hc2 : wrC B.length l ≤ 64 - B.length % 64 := by omega
  have hc3 : 0 < wrC B.length l := by omega
  have hS := inv_step hI hc1 hc2
  simp only [← wrW_eq] at hS
  have e1 : natO (none : Option Int) l.length = l.length := rfl
  have e2 : natO (some ((wrC B.length l : Nat) : Int)) 0 = wrC B.length l := Int.toNat_natCast _
  have e3 : natO (some ((B.length : Int) % 64)) 0 = B.length % 64 := by show ((B.length : Int) % 64).toNat = _; omega
  have e4 : addO 0 (some ((B.length : Int) % 64)) = B.length % 64 := by show 0 + ((B.length : Int) % 64).toNat = _; omega
  have e5 : Nat.min l.length (64 - natO (some ((B.length : Int) % 64)) 0) = wrC B.length l := rfl
  have hd : (l.drop (wrC B.length l)).length = l.length - wrC B.length l := List.length_drop
  have ht : (B ++ l.take (wrC B.length l)).length = B.length + wrC B.length l := by rw [List.length_append, List.length_take, Nat.min_eq_left hc1]
  have hdg : ∀ k, (l.drop (wrC B.length l)).getD k 0 = l.getD (wrC B.length l + k) 0 := fun k => by rw [List.getD_eq_getElem?_getD, List.getD_eq_getElem?_getD, List.getElem?_drop]
  have key : ∃ H1, Inv (B ++ l.take (wrC B.length l)) H1 (wrW W B.length l) ∧ R Try.prog none 1 (cB (cB (bodyOf Try.f66))) (wrI H W B.length l) .normal (wrI H1 (wrW W B.length l) (B.length + wrC B.length l) (l.drop (wrC B.length l))) := by
   by_cases hz : (B.length + wrC B.length l) % 64 = 0
   ·have hB := T_bk H (wrW W B.length l) ((B.length : Int) + (wrC B.length l : Nat))
    refine ⟨blk H (wrW W B.length l), hS.1 hz hc3, ?_⟩
    refine R_alongPc NG MO _ (pcWr_p11 H W B.length l (blk H (wrW W B.length l)) (wrW W B.length l) (B.length + wrC B.length l) (l.drop (wrC B.length l))) ?_ (by show 1 ≤ 1; decide)
    simp only [All, All_append, pcWr_c, e5, e1, e2, hd, hdg, Int.toNat_natCast]; and_intros
    all_goals first
     | exact True.intro
     | (rw [e3]; omega)
     | (rw [e3, e4]; omega)
     | (intro k _; rw [hdg])
     | (with_reducible assumption)
     | (rw [decide_eq_true_eq]; omega)
     | (rw [decide_eq_false_iff_not]; omega)
     | with_reducible rfl
     | (intro _ _; exact True.intro)
     | (intro _ _; with_reducible rfl)
     | (intro _ _; rfl)
     | (simp only [IntKind.min, IntKind.max, IntKind.signed, IntKind.bits, if_true]; omega)
     | omega
     | (intro h; exact h)
     | (intro h; cases h; done)
     | exact .inl rfl
     | exact .inl True.intro
     | exact .inr rfl
     | (simp; done)
     | kernel_rfl
     | (refine Eq.mp ?_ hB; kernel_rfl)
   ·refine ⟨H, hS.2 hz, ?_⟩
    refine R_alongPc NG MO _ (pcWr_p10 H W B.length l H (wrW W B.length l) (B.length + wrC B.length l) (l.drop (wrC B.length l))) ?_ (by show 1 ≤ 1; decide)
    simp only [All, All_append, pcWr_c, e5, e1, e2, hd, hdg, Int.toNat_natCast]; and_intros
    all_goals first
     | exact True.intro
     | (rw [e3]; omega)
     | (rw [e3, e4]; omega)
     | (intro k _; rw [hdg])
     | (with_reducible assumption)
     | (rw [decide_eq_true_eq]; omega)
     | (rw [decide_eq_false_iff_not]; omega)
     | with_reducible rfl
     | (intro _ _; exact True.intro)
     | (intro _ _; with_reducible rfl)
     | (intro _ _; rfl)
     | (simp only [IntKind.min, IntKind.max, IntKind.signed, IntKind.bits, if_true]; omega)
     | omega
     | (intro h; exact h)
     | (intro h; cases h; done)
     | exact .inl rfl
     | exact .inl True.intro
     | exact .inr rfl
     | (simp; done)
     | kernel_rfl
  obtain ⟨H1, hI1, hR⟩ := key
  obtain ⟨H2, W2, hI2, hL⟩ := ih (l.drop (wrC B.length l)) (by omega) _ _ _ hI1 (by omega)
  refine ⟨H2, W2, by rw [List.append_assoc, List.take_append_drop] at hI2; exact hI2, fun m hm => ?_⟩
  obtain ⟨m, rfl⟩ : ∃ k, m = k + 1 := ⟨m - 1, by omega⟩
  have := hL m (by omega)
  rw [ht, hd, show B.length + wrC B.length l + (l.length - wrC B.length l) = B.length + l.length by omega] at this
  exact RLoop.step hR this
theorem T_wr {B H W : List Int} (hI : Inv B H W) (l : List Int) (hb : B.length + l.length ≤ 1000000000000) : ∃ H2 W2, Inv (B ++ l) H2 W2 ∧ T Try.prog 66 [p0 0, rb l] [(.o 0, stB H W (B.length : Nat))] (.tup []) [(.o 0, stB H2 W2 ((B.length + l.length : Nat) : Int))] := by
 obtain ⟨H2, W2, h1, h2⟩ := wr_all l.length l (Nat.le_refl _) B H W hI hb
 have hL := h2 (l.length + 1) (Nat.lt_succ_self _)
 refine ⟨H2, W2, h1, ?_⟩
 refine T_al (bdWr_p H W B.length l H2 W2 (B.length + l.length)) Try.func66 ?_
 simp only [All, All_append, pcWr_c]; and_intros
 all_goals first
  | exact True.intro
  | exact hL
  | (with_reducible assumption)
  | (rw [decide_eq_true_eq]; omega)
  | (rw [decide_eq_false_iff_not]; omega)
  | with_reducible rfl
  | (intro _ _; exact True.intro)
  | (intro _ _; with_reducible rfl)
  | (intro _ _; rfl)
  | (simp only [IntKind.min, IntKind.max, IntKind.signed, IntKind.bits, if_true]; omega)
  | omega
  | (intro h; exact h)
  | (intro h; cases h; done)
  | exact .inl rfl
  | exact .inl True.intro
  | exact .inr rfl
  | (simp; done)
end Go.Proofs.Ytpallipnhmoipaa
namespace Go.Proofs.Ytpallipnhmoipaa
open Go Sy Go.Proofs
def wrCl (H W : List Int) (n : Nat) : List V → List Cl
 | [_, .sl x _ _ _ _ _ _] => [{ pre := [.o 0], rd := [x], val := .tup [], post := [(.o 0, stB H W (n : Nat))] }]
 | _ => []
def enI (H W : List Int) (n N : Nat) : St := ⟨mkT 63 [(0, p0 0), (2, p0 1), (3, .int .i64 (8 * (N : Int)))], [(.o 0, stB H W (n : Nat)), (.o 1, .flat [.seg .u8 32 z32L])], 2, []⟩
def enJ (H W : List Int) (n : Nat) (d : List Int) (k : Nat) : St := ⟨mkT 63 [(0, p0 0), (2, p0 1), (43, .int .i64 (k : Nat))], [(.o 0, stB H W (n : Nat)), (.o 1, .flat [.seg .u8 32 d])], 2, []⟩
def enR (N j : Nat) : Nat → List V := fun q => [.int .u8 (if q < j then lenE (8 * (N : Int)) q else 0)]
def enL (H W : List Int) (n N j : Nat) : St := ⟨mkT 63 [(0, p0 0), (2, p0 1), (3, .int .i64 (8 * (N : Int))), (4, .sl (.o 2) 1 0 0 0 8 none), (26, .int .i64 8), (27, .int .i64 (j : Nat))], [(.o 0, stB H W (n : Nat)), (.o 1, .flat [.seg .u8 32 z32L]), (.o 2, .rows 1 8 (enR N j) false)], 3, []⟩
def enDb (H1 W1 H3 W3 : List Int) (N z : Nat) (a : List V) : List Cl := match a with
 | [_, .sl _ _ _ _ _ 1 _] => wrCl H1 W1 (N + 1) a
 | _ => wrCl H3 W3 (N + 1 + z + 8) a
noncomputable def bdEn (H W : List Int) (N : Nat) (H1 W1 : List Int) (z : Nat) (H2 W2 H3 W3 d : List Int) : Bd := { f := Try.f67, args := [p0 0], pre := [(.o 0, stB H W (N : Nat))], base := 1, kb := { db := dbQ [(66, fun a _ _ => enDb H1 W1 H3 W3 N z a)], lp := fun id t => bif Nat.beq id 0 then [(True, .loop (z + 1) (wToS [(.o 1, nmV (getV t.tmps 2))] (enI H1 W1 (N + 1) N)) (.exit 0) (enI H2 W2 (N + 1 + z) N))] else bif Nat.beq id 2 then [(True, .loop (8 + 1) (wToS [(.o 2, nmV (getV t.tmps 4))] (enL H2 W2 (N + 1 + z) N 0)) (.exit 2) (enL H2 W2 (N + 1 + z) N 8))] else [(True, .loop (32 + 1) (wTo (enJ H3 W3 (N + 1 + z + 8) z32L 0)) (.exit 4) (enJ H3 W3 (N + 1 + z + 8) d 32))] }, names := fun _ => [.o 0] }
noncomputable def pcEn (H W : List Int) (n N : Nat) (H2 W2 : List Int) : Pc := { c := cB (cB (cL (cR (cR (cR (bodyOf Try.f67)))))), st := enI H W n N, p := 1, kb := { db := dbQ [(66, fun a _ _ => wrCl H2 W2 (n + 1) a)] }, k := fun x_ _ => match x_ with
 | .normal => some (wTo (enI H2 W2 (n + 1) N))
 | _ => some (wTo (enI H W n N)) }
noncomputable def pcEl (H W : List Int) (n N j : Nat) : Pc := { c := cB (cB (cR (cL (cR (cR (cR (cR (cR (bodyOf Try.f67))))))))), st := enL H W n N j, p := 1, kb := kb0, k := fun x_ _ => match x_ with
 | .normal => some (wTo (enL H W n N (j + 1)))
 | _ => some (wTo (enL H W n N 8)) }
noncomputable def pcEj (H W : List Int) (n : Nat) (d : List Int) (k : Nat) (d2 : List Int) : Pc := { c := cB (cB (cR (cL (cR (cR (cR (cR (cR (cR (cR (bodyOf Try.f67))))))))))), st := enJ H W n d k, p := 1, kb := kb0, k := fun x_ _ => match x_ with
 | .normal => some (wTo (enJ H W n d2 (k + 1)))
 | _ => some (wTo (enJ H W n d 32)) }
end Go.Proofs.Ytpallipnhmoipaa
namespace Go.Proofs.Ytpallipnhmoipaa
open Go Sy Go.Proofs
theorem bdEn_p (H : List Int) (W : List Int) (N : Nat) (H1 : List Int) (W1 : List Int) (z : Nat) (H2 : List Int) (W2 : List Int) (H3 : List Int) (W3 : List Int) (d : List Int) :
  along Try.prog (bdEn H W N H1 W1 z H2 W2 H3 W3 d) [] = some (V.agg [V.seg IntKind.u8 (32 : Nat) d], [(Nm.o (0 : Nat), B.flat [V.seg IntKind.u32 (8 : Nat) H3, V.seg IntKind.u8 (64 : Nat) W3, V.int IntKind.i64 (↑(N + (1 : Nat) + z + (8 : Nat)) : Int)])], [InR IntKind.i64 ((8 : Int) * (↑N : Int)), T Try.prog (66 : Nat) [V.ptr (Nm.o (0 : Nat)) (0 : Nat) (0 : Nat) (0 : Nat) (0 : Nat), V.sl (Nm.o (nat_lit 513)) (1 : Nat) (0 : Nat) (0 : Nat) (0 : Nat) (1 : Nat) (some (1 : Nat))] [(Nm.o (0 : Nat), B.flat [V.seg IntKind.u32 (8 : Nat) H, V.seg IntKind.u8 (64 : Nat) W, V.int IntKind.i64 (↑N : Int)]), (Nm.o (nat_lit 513), B.rows (1 : Nat) (1 : Nat) (getL [[V.int IntKind.u8 (128 : Int)]]) false)] (V.tup []) [(Nm.o (0 : Nat), B.flat [V.seg IntKind.u32 (8 : Nat) H1, V.seg IntKind.u8 (64 : Nat) W1, V.int IntKind.i64 (↑(N + (1 : Nat)) : Int)]), (Nm.o (nat_lit 513), B.rows (1 : Nat) (1 : Nat) (getL [[V.int IntKind.u8 (128 : Int)]]) false)], RLoop Try.prog none (1 : Nat) (cB (cB (cL (cR (cR (cR (bodyOf (Bd.f (bdEn H W N H1 W1 z H2 W2 H3 W3 d))))))))) (z + (1 : Nat)) (St.mk [V.ptr (Nm.o (0 : Nat)) (0 : Nat) (0 : Nat) (0 : Nat) (0 : Nat), V.any, V.ptr (Nm.o (1 : Nat)) (0 : Nat) (0 : Nat) (0 : Nat) (0 : Nat), V.int IntKind.i64 ((8 : Int) * (↑N : Int)), V.any, V.any, V.any, V.any, V.any, V.any, V.any, V.any, V.any, V.any, V.any, V.any, V.any, V.any, V.any, V.any, V.any, V.any, V.any, V.any, V.any, V.any, V.any, V.any, V.any, V.any, V.any, V.any, V.any, V.any, V.any, V.any, V.any, V.any, V.any, V.any, V.any, V.any, V.any, V.any, V.any, V.any, V.any, V.any, V.any, V.any, V.any, V.any, V.any, V.any, V.any, V.any, V.any, V.any, V.any, V.any, V.any, V.any, V.any] [(Nm.o (0 : Nat), B.flat [V.seg IntKind.u32 (8 : Nat) H1, V.seg IntKind.u8 (64 : Nat) W1, V.int IntKind.i64 (↑(N + (1 : Nat)) : Int)]), (Nm.o (1 : Nat), B.flat [V.seg IntKind.u8 (32 : Nat) z32L])] (2 : Nat) []) (Exit.exit (0 : Nat)) (St.mk [V.ptr (Nm.o (0 : Nat)) (0 : Nat) (0 : Nat) (0 : Nat) (0 : Nat), V.any, V.ptr (Nm.o (1 : Nat)) (0 : Nat) (0 : Nat) (0 : Nat) (0 : Nat), V.int IntKind.i64 ((8 : Int) * (↑N : Int)), V.any, V.any, V.any, V.any, V.any, V.any, V.any, V.any, V.any, V.any, V.any, V.any, V.any, V.any, V.any, V.any, V.any, V.any, V.any, V.any, V.any, V.any, V.any, V.any, V.any, V.any, V.any, V.any, V.any, V.any, V.any, V.any, V.any, V.any, V.any, V.any, V.any, V.any, V.any, V.any, V.any, V.any, V.any, V.any, V.any, V.any, V.any, V.any, V.any, V.any, V.any, V.any, V.any, V.any, V.any, V.any, V.any, V.any, V.any] [(Nm.o (0 : Nat), B.flat [V.seg IntKind.u32 (8 : Nat) H2, V.seg IntKind.u8 (64 : Nat) W2, V.int IntKind.i64 (↑(N + (1 : Nat) + z) : Int)]), (Nm.o (1 : Nat), B.flat [V.seg IntKind.u8 (32 : Nat) z32L])] (2 : Nat) []), (8 : Nat) = (8 : Nat), H1 = H1, (64 : Nat) = (64 : Nat), W1 = W1, (↑(N + (1 : Nat)) : Int) = (↑(N + (1 : Nat)) : Int), (32 : Nat) = (32 : Nat), [(0 : Int), (0 : Int), (0 : Int), (0 : Int), (0 : Int), (0 : Int), (0 : Int), (0 : Int), (0 : Int), (0 : Int), (0 : Int), (0 : Int), (0 : Int), (0 : Int), (0 : Int), (0 : Int), (0 : Int), (0 : Int), (0 : Int), (0 : Int), (0 : Int), (0 : Int), (0 : Int), (0 : Int), (0 : Int), (0 : Int), (0 : Int), (0 : Int), (0 : Int), (0 : Int), (0 : Int), (0 : Int)] = z32L, (0 : Nat) = (0 : Nat), (0 : Nat) = (0 : Nat), (0 : Nat) = (0 : Nat), (0 : Nat) = (0 : Nat), (0 : Nat) = (0 : Nat), (0 : Nat) = (0 : Nat), (8 : Int) * (↑N : Int) = (8 : Int) * (↑N : Int), (0 : Int) ≤ (8 : Int) ∧ (8 : Int) ≤ (8 : Int), (8 : Int) ≤ (281474976710656 : Int), (8 : Int) ≤ (281474976710656 : Int), RLoop Try.prog none (1 : Nat) (cB (cB (cR (cL (cR (cR (cR (cR (cR (bodyOf (Bd.f (bdEn H W N H1 W1 z H2 W2 H3 W3 d)))))))))))) (nat_lit 9) (St.mk [V.ptr (Nm.o (0 : Nat)) (0 : Nat) (0 : Nat) (0 : Nat) (0 : Nat), V.any, V.ptr (Nm.o (1 : Nat)) (0 : Nat) (0 : Nat) (0 : Nat) (0 : Nat), V.int IntKind.i64 ((8 : Int) * (↑N : Int)), V.sl (Nm.o (2 : Nat)) (1 : Nat) (0 : Nat) (0 : Nat) (0 : Nat) (8 : Nat) none, V.any, V.any, V.any, V.any, V.any, V.any, V.any, V.any, V.any, V.any, V.any, V.any, V.any, V.any, V.any, V.any, V.any, V.any, V.any, V.any, V.any, V.int IntKind.i64 (8 : Int), V.int IntKind.i64 (0 : Int), V.any, V.any, V.any, V.any, V.any, V.any, V.any, V.any, V.any, V.any, V.any, V.any, V.any, V.any, V.any, V.any, V.any, V.any, V.any, V.any, V.any, V.any, V.any, V.any, V.any, V.any, V.any, V.any, V.any, V.any, V.any, V.any, V.any, V.any, V.any] [(Nm.o (0 : Nat), B.flat [V.seg IntKind.u32 (8 : Nat) H2, V.seg IntKind.u8 (64 : Nat) W2, V.int IntKind.i64 (↑(N + (1 : Nat) + z) : Int)]), (Nm.o (1 : Nat), B.flat [V.seg IntKind.u8 (32 : Nat) z32L]), (Nm.o (2 : Nat), B.rows (1 : Nat) (8 : Nat) (enR N (0 : Nat)) false)] (3 : Nat) []) (Exit.exit (2 : Nat)) (St.mk [V.ptr (Nm.o (0 : Nat)) (0 : Nat) (0 : Nat) (0 : Nat) (0 : Nat), V.any, V.ptr (Nm.o (1 : Nat)) (0 : Nat) (0 : Nat) (0 : Nat) (0 : Nat), V.int IntKind.i64 ((8 : Int) * (↑N : Int)), V.sl (Nm.o (2 : Nat)) (1 : Nat) (0 : Nat) (0 : Nat) (0 : Nat) (8 : Nat) none, V.any, V.any, V.any, V.any, V.any, V.any, V.any, V.any, V.any, V.any, V.any, V.any, V.any, V.any, V.any, V.any, V.any, V.any, V.any, V.any, V.any, V.int IntKind.i64 (8 : Int), V.int IntKind.i64 (8 : Int), V.any, V.any, V.any, V.any, V.any, V.any, V.any, V.any, V.any, V.any, V.any, V.any, V.any, V.any, V.any, V.any, V.any, V.any, V.any, V.any, V.any, V.any, V.any, V.any, V.any, V.any, V.any, V.any, V.any, V.any, V.any, V.any, V.any, V.any, V.any] [(Nm.o (0 : Nat), B.flat [V.seg IntKind.u32 (8 : Nat) H2, V.seg IntKind.u8 (64 : Nat) W2, V.int IntKind.i64 (↑(N + (1 : Nat) + z) : Int)]), (Nm.o (1 : Nat), B.flat [V.seg IntKind.u8 (32 : Nat) z32L]), (Nm.o (2 : Nat), B.rows (1 : Nat) (8 : Nat) (enR N (8 : Nat)) false)] (3 : Nat) []), (8 : Nat) = (8 : Nat), H2 = H2, (64 : Nat) = (64 : Nat), W2 = W2, (↑(N + (1 : Nat) + z) : Int) = (↑(N + (1 : Nat) + z) : Int), (32 : Nat) = (32 : Nat), z32L = z32L, nat_lit 8 = (8 : Nat), ∀ (k : Nat), k < nat_lit 8 → [V.int IntKind.u8 (0 : Int)] = [V.int IntKind.u8 (0 : Int)], false = false → false = false, (0 : Nat) = (0 : Nat), (0 : Nat) = (0 : Nat), (0 : Nat) = (0 : Nat), (0 : Nat) = (0 : Nat), (0 : Nat) = (0 : Nat), (0 : Nat) = (0 : Nat), (8 : Int) * (↑N : Int) = (8 : Int) * (↑N : Int), (0 : Nat) = (0 : Nat), (0 : Nat) = (0 : Nat), (0 : Nat) = (0 : Nat), nat_lit 8 = (8 : Nat), (none : Option Nat) = none ∨ none = some (nat_lit 8), (8 : Int) = (8 : Int), (0 : Int) = (0 : Int), T Try.prog (66 : Nat) [V.ptr (Nm.o (0 : Nat)) (0 : Nat) (0 : Nat) (0 : Nat) (0 : Nat), V.sl (Nm.o (2 : Nat)) (1 : Nat) (0 : Nat) (0 : Nat) (0 : Nat) (8 : Nat) none] [(Nm.o (0 : Nat), B.flat [V.seg IntKind.u32 (8 : Nat) H2, V.seg IntKind.u8 (64 : Nat) W2, V.int IntKind.i64 (↑(N + (1 : Nat) + z) : Int)]), (Nm.o (2 : Nat), B.rows (1 : Nat) (8 : Nat) (enR N (8 : Nat)) false)] (V.tup []) [(Nm.o (0 : Nat), B.flat [V.seg IntKind.u32 (8 : Nat) H3, V.seg IntKind.u8 (64 : Nat) W3, V.int IntKind.i64 (↑(N + (1 : Nat) + z + (8 : Nat)) : Int)]), (Nm.o (2 : Nat), B.rows (1 : Nat) (8 : Nat) (enR N (8 : Nat)) false)], RLoop Try.prog none (1 : Nat) (cB (cB (cR (cL (cR (cR (cR (cR (cR (cR (cR (bodyOf (Bd.f (bdEn H W N H1 W1 z H2 W2 H3 W3 d)))))))))))))) (nat_lit 33) (St.mk [V.ptr (Nm.o (0 : Nat)) (0 : Nat) (0 : Nat) (0 : Nat) (0 : Nat), V.any, V.ptr (Nm.o (1 : Nat)) (0 : Nat) (0 : Nat) (0 : Nat) (0 : Nat), V.any, V.any, V.any, V.any, V.any, V.any, V.any, V.any, V.any, V.any, V.any, V.any, V.any, V.any, V.any, V.any, V.any, V.any, V.any, V.any, V.any, V.any, V.any, V.any, V.any, V.any, V.any, V.any, V.any, V.any, V.any, V.any, V.any, V.any, V.any, V.any, V.any, V.any, V.any, V.any, V.int IntKind.i64 (0 : Int), V.any, V.any, V.any, V.any, V.any, V.any, V.any, V.any, V.any, V.any, V.any, V.any, V.any, V.any, V.any, V.any, V.any, V.any, V.any] [(Nm.o (0 : Nat), B.flat [V.seg IntKind.u32 (8 : Nat) H3, V.seg IntKind.u8 (64 : Nat) W3, V.int IntKind.i64 (↑(N + (1 : Nat) + z + (8 : Nat)) : Int)]), (Nm.o (1 : Nat), B.flat [V.seg IntKind.u8 (32 : Nat) z32L])] (2 : Nat) []) (Exit.exit (4 : Nat)) (St.mk [V.ptr (Nm.o (0 : Nat)) (0 : Nat) (0 : Nat) (0 : Nat) (0 : Nat), V.any, V.ptr (Nm.o (1 : Nat)) (0 : Nat) (0 : Nat) (0 : Nat) (0 : Nat), V.any, V.any, V.any, V.any, V.any, V.any, V.any, V.any, V.any, V.any, V.any, V.any, V.any, V.any, V.any, V.any, V.any, V.any, V.any, V.any, V.any, V.any, V.any, V.any, V.any, V.any, V.any, V.any, V.any, V.any, V.any, V.any, V.any, V.any, V.any, V.any, V.any, V.any, V.any, V.any, V.int IntKind.i64 (32 : Int), V.any, V.any, V.any, V.any, V.any, V.any, V.any, V.any, V.any, V.any, V.any, V.any, V.any, V.any, V.any, V.any, V.any, V.any, V.any] [(Nm.o (0 : Nat), B.flat [V.seg IntKind.u32 (8 : Nat) H3, V.seg IntKind.u8 (64 : Nat) W3, V.int IntKind.i64 (↑(N + (1 : Nat) + z + (8 : Nat)) : Int)]), (Nm.o (1 : Nat), B.flat [V.seg IntKind.u8 (32 : Nat) d])] (2 : Nat) []), (8 : Nat) = (8 : Nat), H3 = H3, (64 : Nat) = (64 : Nat), W3 = W3, (↑(N + (1 : Nat) + z + (8 : Nat)) : Int) = (↑(N + (1 : Nat) + z + (8 : Nat)) : Int), (32 : Nat) = (32 : Nat), z32L = z32L, (0 : Nat) = (0 : Nat), (0 : Nat) = (0 : Nat), (0 : Nat) = (0 : Nat), (0 : Nat) = (0 : Nat), (0 : Nat) = (0 : Nat), (0 : Nat) = (0 : Nat), (0 : Int) = (0 : Int)]) := by kernel_rfl

theorem pcEn_p1 (H : List Int) (W : List Int) (n : Nat) (N : Nat) (H2 : List Int) (W2 : List Int) :
  alongPc Try.prog (pcEn H W n N H2 W2) [true] = (some (.normal, St.mk [.ptr (.o 0) 0 0 0 0, .any, .ptr (.o 1) 0 0 0 0, .int .i64 ((8 : Int) * (↑N : Int)), .any, .any, .any, .any, .any, .any, .any, .any, .any, .any, .any, .any, .any, .any, .any, .any, .any, .any, .any, .any, .any, .any, .any, .any, .any, .any, .any, .any, .any, .any, .any, .any, .any, .any, .any, .any, .any, .any, .any, .any, .any, .any, .any, .any, .any, .any, .any, .any, .any, .any, .any, .any, .any, .any, .any, .any, .any, .any, .any] [(.o 0, .flat [.seg .u32 8 H2, .seg .u8 64 W2, .int .i64 (↑(n + 1) : Int)]), (.o 1, .flat [.seg .u8 32 z32L])] 2 [], [(0 : Int) ≤ (↑n : Int) ∧ (0 : Int) < (64 : Int), (!decide ((↑n : Int) % (64 : Int) = (56 : Int))) = true, T Try.prog 66 [.ptr (.o 0) 0 0 0 0, .sl (.o 450) 1 0 0 0 1 (some 1)] [(.o 0, .flat [.seg .u32 8 H, .seg .u8 64 W, .int .i64 ↑n]), (.o 450, .rows 1 1 (getL [[.int .u8 0]]) false)] (.tup []) [(.o 0, .flat [.seg .u32 8 H2, .seg .u8 64 W2, .int .i64 (↑(n + 1) : Int)]), (.o 450, .rows 1 1 (getL [[.int .u8 0]]) false)], q (8 : Nat), q H2, q (64 : Nat), q W2, q (↑(n + (1 : Nat)) : Int), q (32 : Nat), q z32L, q0, q0, q0, q0, q0, q0, q ((8 : Int) * (↑N : Int))]) : Option (Exit × St × List Prop)) := by kernel_rfl
theorem pcEn_p0 (H : List Int) (W : List Int) (n : Nat) (N : Nat) (H2 : List Int) (W2 : List Int) :
  alongPc Try.prog (pcEn H W n N H2 W2) [false] = (some (.exit 0, St.mk [.ptr (.o 0) 0 0 0 0, .any, .ptr (.o 1) 0 0 0 0, .int .i64 ((8 : Int) * (↑N : Int)), .any, .any, .any, .any, .any, .any, .any, .any, .any, .any, .any, .any, .any, .any, .any, .any, .any, .any, .any, .any, .any, .any, .any, .any, .any, .any, .any, .any, .any, .any, .any, .any, .any, .any, .any, .any, .any, .any, .any, .any, .any, .any, .any, .any, .any, .any, .any, .any, .any, .any, .any, .any, .any, .any, .any, .any, .any, .any, .any] [(.o 0, .flat [.seg .u32 8 H, .seg .u8 64 W, .int .i64 ↑n]), (.o 1, .flat [.seg .u8 32 z32L])] 2 [], [(0 : Int) ≤ (↑n : Int) ∧ (0 : Int) < (64 : Int), (!decide ((↑n : Int) % (64 : Int) = (56 : Int))) = false, q (8 : Nat), q H, q (64 : Nat), q W, q (↑n : Int), q (32 : Nat), q z32L, q0, q0, q0, q0, q0, q0, q ((8 : Int) * (↑N : Int))]) : Option (Exit × St × List Prop)) := by kernel_rfl

theorem pcEl_p1 (H : List Int) (W : List Int) (n : Nat) (N : Nat) (j : Nat) :
  alongPc Try.prog (pcEl H W n N j) [true] = (some (.normal, St.mk [.ptr (.o 0) 0 0 0 0, .any, .ptr (.o 1) 0 0 0 0, .int .i64 ((8 : Int) * (↑N : Int)), .sl (.o 2) 1 0 0 0 8 none, .any, .any, .any, .any, .any, .any, .any, .any, .any, .any, .any, .any, .any, .any, .any, .any, .any, .any, .any, .any, .any, .int .i64 8, .int .i64 (↑(j + 1) : Int), .any, .any, .any, .any, .any, .any, .any, .any, .any, .any, .any, .any, .any, .any, .any, .any, .any, .any, .any, .any, .any, .any, .any, .any, .any, .any, .any, .any, .any, .any, .any, .any, .any, .any, .any] [(.o 0, .flat [.seg .u32 8 H, .seg .u8 64 W, .int .i64 ↑n]), (.o 1, .flat [.seg .u8 32 z32L]), (.o 2, .rows 1 8 (enR N (j + 1)) false)] 3 [], [decide ((↑j : Int) < (8 : Int)) = true, InR IntKind.i64 ((8 : Int) * (↑j : Int)), InR IntKind.i64 ((56 : Int) - (8 : Int) * (↑j : Int)), (0 : Int) ≤ (56 : Int) - (8 : Int) * (↑j : Int) ∧ (56 : Int) - (8 : Int) * (↑j : Int) ≤ (64 : Int), (0 : Int) ≤ (↑j : Int) ∧ (↑j : Int) < (8 : Int), (0 : Nat) + Int.toNat (↑j : Int) < (8 : Nat), InR IntKind.i64 ((↑j : Int) + (1 : Int)), q (8 : Nat), q H, q (64 : Nat), q W, q (↑n : Int), q (32 : Nat), q z32L, q (8 : Nat), ∀ (k : Nat), k < (8 : Nat) → Bool.rec [V.int IntKind.u8 (if k < j then lenE ((8 : Int) * (↑N : Int)) k else (0 : Int))] [V.int IntKind.u8 (IntKind.wrap IntKind.u8 ((8 : Int) * (↑N : Int) / (2 : Int) ^ Int.toNat ((56 : Int) - (8 : Int) * (↑j : Int))))] (Nat.beq k ((0 : Nat) + Int.toNat (↑j : Int))) = [V.int IntKind.u8 (if k < j + (1 : Nat) then lenE ((8 : Int) * (↑N : Int)) k else (0 : Int))], false = false → false = false, q0, q0, q0, q0, q0, q0, q ((8 : Int) * (↑N : Int)), q0, q0, q0, q (8 : Nat), (none : Option Nat) = none ∨ (none : Option Nat) = none, q (8 : Int), (↑j : Int) + (1 : Int) = (↑(j + (1 : Nat)) : Int)]) : Option (Exit × St × List Prop)) := by kernel_rfl
theorem pcEl_p0 (H : List Int) (W : List Int) (n : Nat) (N : Nat) (j : Nat) :
  alongPc Try.prog (pcEl H W n N j) [false] = (some (.exit 2, St.mk [.ptr (.o 0) 0 0 0 0, .any, .ptr (.o 1) 0 0 0 0, .int .i64 ((8 : Int) * (↑N : Int)), .sl (.o 2) 1 0 0 0 8 none, .any, .any, .any, .any, .any, .any, .any, .any, .any, .any, .any, .any, .any, .any, .any, .any, .any, .any, .any, .any, .any, .int .i64 8, .int .i64 8, .any, .any, .any, .any, .any, .any, .any, .any, .any, .any, .any, .any, .any, .any, .any, .any, .any, .any, .any, .any, .any, .any, .any, .any, .any, .any, .any, .any, .any, .any, .any, .any, .any, .any, .any] [(.o 0, .flat [.seg .u32 8 H, .seg .u8 64 W, .int .i64 ↑n]), (.o 1, .flat [.seg .u8 32 z32L]), (.o 2, .rows 1 8 (enR N 8) false)] 3 [], [decide ((↑j : Int) < (8 : Int)) = false, q (8 : Nat), q H, q (64 : Nat), q W, q (↑n : Int), q (32 : Nat), q z32L, q (8 : Nat), ∀ (k : Nat), k < (8 : Nat) → [V.int IntKind.u8 (if k < j then lenE ((8 : Int) * (↑N : Int)) k else (0 : Int))] = [V.int IntKind.u8 (if k < (8 : Nat) then lenE ((8 : Int) * (↑N : Int)) k else (0 : Int))], false = false → false = false, q0, q0, q0, q0, q0, q0, q ((8 : Int) * (↑N : Int)), q0, q0, q0, q (8 : Nat), (none : Option Nat) = none ∨ (none : Option Nat) = none, q (8 : Int), (↑j : Int) = (8 : Int)]) : Option (Exit × St × List Prop)) := by kernel_rfl

theorem pcEj_p1 (H : List Int) (W : List Int) (n : Nat) (d : List Int) (k : Nat) (d2 : List Int) :
  alongPc Try.prog (pcEj H W n d k d2) [true] = (some (.normal, St.mk [.ptr (.o 0) 0 0 0 0, .any, .ptr (.o 1) 0 0 0 0, .any, .any, .any, .any, .any, .any, .any, .any, .any, .any, .any, .any, .any, .any, .any, .any, .any, .any, .any, .any, .any, .any, .any, .any, .any, .any, .any, .any, .any, .any, .any, .any, .any, .any, .any, .any, .any, .any, .any, .any, .int .i64 (↑(k + 1) : Int), .any, .any, .any, .any, .any, .any, .any, .any, .any, .any, .any, .any, .any, .any, .any, .any, .any, .any, .any] [(.o 0, .flat [.seg .u32 8 H, .seg .u8 64 W, .int .i64 ↑n]), (.o 1, .flat [.seg .u8 32 d2])] 2 [], [decide ((↑k : Int) < (32 : Int)) = true, (0 : Int) ≤ (↑k : Int) ∧ (0 : Int) < (4 : Int) ∧ InR IntKind.i64 ((↑k : Int) / (4 : Int)), (0 : Int) ≤ (↑k : Int) / (4 : Int) ∧ (↑k : Int) / (4 : Int) < (8 : Int), (0 : Nat) + Int.toNat ((↑k : Int) / (4 : Int)) < (8 : Nat), (0 : Int) ≤ (↑k : Int) ∧ (0 : Int) < (4 : Int), InR IntKind.i64 ((8 : Int) * ((↑k : Int) % (4 : Int))), InR IntKind.i64 ((24 : Int) - (8 : Int) * ((↑k : Int) % (4 : Int))), (0 : Int) ≤ (24 : Int) - (8 : Int) * ((↑k : Int) % (4 : Int)) ∧ (24 : Int) - (8 : Int) * ((↑k : Int) % (4 : Int)) ≤ (32 : Int), (0 : Int) ≤ (↑k : Int) ∧ (↑k : Int) < (32 : Int), (0 : Nat) + Int.toNat (↑k : Int) < (32 : Nat), InR IntKind.i64 ((↑k : Int) + (1 : Int)), q (8 : Nat), q H, q (64 : Nat), q W, q (↑n : Int), q (32 : Nat), List.set d ((0 : Nat) + Int.toNat (↑k : Int)) (IntKind.wrap IntKind.u8 (List.getD H ((0 : Nat) + Int.toNat ((↑k : Int) / (4 : Int))) (0 : Int) / (2 : Int) ^ Int.toNat ((24 : Int) - (8 : Int) * ((↑k : Int) % (4 : Int))))) = d2, q0, q0, q0, q0, q0, q0, (↑k : Int) + (1 : Int) = (↑(k + (1 : Nat)) : Int)]) : Option (Exit × St × List Prop)) := by kernel_rfl
theorem pcEj_p0 (H : List Int) (W : List Int) (n : Nat) (d : List Int) (k : Nat) (d2 : List Int) :
  alongPc Try.prog (pcEj H W n d k d2) [false] = (some (.exit 4, St.mk [.ptr (.o 0) 0 0 0 0, .any, .ptr (.o 1) 0 0 0 0, .any, .any, .any, .any, .any, .any, .any, .any, .any, .any, .any, .any, .any, .any, .any, .any, .any, .any, .any, .any, .any, .any, .any, .any, .any, .any, .any, .any, .any, .any, .any, .any, .any, .any, .any, .any, .any, .any, .any, .any, .int .i64 32, .any, .any, .any, .any, .any, .any, .any, .any, .any, .any, .any, .any, .any, .any, .any, .any, .any, .any, .any] [(.o 0, .flat [.seg .u32 8 H, .seg .u8 64 W, .int .i64 ↑n]), (.o 1, .flat [.seg .u8 32 d])] 2 [], [decide ((↑k : Int) < (32 : Int)) = false, q (8 : Nat), q H, q (64 : Nat), q W, q (↑n : Int), q (32 : Nat), q d, q0, q0, q0, q0, q0, q0, (↑k : Int) = (32 : Int)]) : Option (Exit × St × List Prop)) := by kernel_rfl

theorem g1 (v : Int) : ∀ k, k < [v].length → getL [[V.int .u8 v]] k = [.int .u8 ([v].getD k 0)] := by
 intro k hk
 have : k = 0 := by simp at hk; omega
 subst this
 rfl
theorem freeSt (H W : List Int) (n : Int) : FreeB (stB H W n) := FreeB.flat rfl
theorem T_wr5 {B H W : List Int} (hI : Inv B H W) (l : List Int) (hb : B.length + l.length ≤ 1000000000000) (f : Nat → List V) (hf : ∀ k, k < l.length → f k = [.int .u8 (l.getD k 0)]) (cap : Option Nat) (g : Bool) :
  ∃ H2 W2, Inv (B ++ l) H2 W2 ∧ T Try.prog 66 [p0 0, .sl (.o 5) 1 0 0 0 l.length cap] [(.o 0, stB H W (B.length : Nat)), (.o 5, .rows 1 l.length f g)] (.tup []) [(.o 0, stB H2 W2 ((B.length + l.length : Nat) : Int)), (.o 5, .rows 1 l.length f g)] := by
 obtain ⟨H2, W2, h1, h2⟩ := T_wr hI l hb
 refine ⟨H2, W2, h1, ?_⟩
 refine T.lendH (pre0' := [(.o 0, stB H W (B.length : Nat))]) (pre1 := [(.o 5, .rows 1 l.length f g)]) h2 rfl ?_ rfl ?_ FreeV.tup0 ?_ ?_
 ·simp only [All]; and_intros
  all_goals first
   | exact True.intro
   | (intro k hk; rw [Nat.zero_add]; exact hf k hk)
   | (with_reducible assumption)
   | (rw [decide_eq_true_eq]; omega)
   | (rw [decide_eq_false_iff_not]; omega)
   | with_reducible rfl
   | (intro _ _; exact True.intro)
   | (intro _ _; with_reducible rfl)
   | (intro _ _; rfl)
   | (simp only [IntKind.min, IntKind.max, IntKind.signed, IntKind.bits, if_true]; omega)
   | omega
   | (intro h; exact h)
   | (intro h; cases h; done)
   | exact .inl rfl
   | exact .inl True.intro
   | exact .inr rfl
   | (simp; done)
 ·simp only [All]; and_intros
  all_goals first
   | exact True.intro
   | (with_reducible assumption)
   | (rw [decide_eq_true_eq]; omega)
   | (rw [decide_eq_false_iff_not]; omega)
   | with_reducible rfl
   | (intro _ _; exact True.intro)
   | (intro _ _; with_reducible rfl)
   | (intro _ _; rfl)
   | (simp only [IntKind.min, IntKind.max, IntKind.signed, IntKind.bits, if_true]; omega)
   | omega
   | (intro h; exact h)
   | (intro h; cases h; done)
   | exact .inl rfl
   | exact .inl True.intro
   | exact .inr rfl
   | (simp; done)
 ·intro q hq
  obtain rfl := List.mem_singleton.1 hq
  exact freeSt _ _ _
 ·rintro n ⟨b, hb1⟩ ⟨b', hb2⟩
  cases List.mem_singleton.1 hb1
  cases List.mem_singleton.1 hb2
theorem T_wrS {B H W : List Int} (hI : Inv B H W) (l : List Int) (hb : B.length + l.length ≤ 1000000000000) (f : Nat → List V) (hf : ∀ k, k < l.length → f k = [.int .u8 (l.getD k 0)]) (cap : Option Nat) (g : Bool) {x : Nat} (hx : [Nm.o 0, Nm.o x].Nodup) :
  ∃ H2 W2, Inv (B ++ l) H2 W2 ∧ T Try.prog 66 [p0 0, .sl (.o x) 1 0 0 0 l.length cap] [(.o 0, stB H W (B.length : Nat)), (.o x, .rows 1 l.length f g)] (.tup []) [(.o 0, stB H2 W2 ((B.length + l.length : Nat) : Int)), (.o x, .rows 1 l.length f g)] := by
 obtain ⟨H2, W2, h1, h2⟩ := T_wr5 hI l hb f hf cap g
 obtain ⟨σ, hσ, h3⟩ := T.at h2 [.o 0, .o 5] [.o 0, .o x] (by decide) hx rfl
 simp only [List.map_cons, List.map_nil, List.cons.injEq, and_true] at hσ
 exact ⟨H2, W2, h1, by simpa [V.rens, V.ren, Heap.ren, Sy.B.ren, p0, stB, hσ.1, hσ.2] using h3⟩
theorem en0 (N : Nat) : ∀ (r : Nat) (B H W : List Int), Inv B H W → (B.length + r) % 64 = 56 → (∀ i, i < r → (B.length + i) % 64 ≠ 56) → B.length + r ≤ 100000000000 → ∃ H2 W2, Inv (B ++ List.replicate r 0) H2 W2 ∧
  RLoop Try.prog none 1 (cB (cB (cL (cR (cR (cR (bodyOf Try.f67))))))) (r + 1) (enI H W B.length N) (.exit 0) (enI H2 W2 (B.length + r) N) := by
 intro r
 induction r with
 | zero =>
  intro B H W hI h1 h2 h3
  refine ⟨H, W, by rw [List.replicate_zero, List.append_nil]; exact hI, ?_⟩
  refine RLoop.out ?_ (by simp)
  refine R_alongPc NG MO _ (pcEn_p0 H W B.length N [] []) ?_ (by show 1 ≤ 2; decide)
  have e : (!decide ((B.length : Int) % 64 = 56)) = false := by rw [decide_eq_true (by omega)]; rfl
  simp only [All]; and_intros
  all_goals first
   | exact True.intro
   | exact e
   | (with_reducible assumption)
   | (rw [decide_eq_true_eq]; omega)
   | (rw [decide_eq_false_iff_not]; omega)
   | with_reducible rfl
   | (intro _ _; exact True.intro)
   | (intro _ _; with_reducible rfl)
   | (intro _ _; rfl)
   | (simp only [IntKind.min, IntKind.max, IntKind.signed, IntKind.bits, if_true]; omega)
   | omega
   | (intro h; exact h)
   | (intro h; cases h; done)
   | exact .inl rfl
   | exact .inl True.intro
   | exact .inr rfl
   | (simp; done)
 | succ r ih =>
  intro B H W hI h1 h2 h3
  have h0 := h2 0 (Nat.succ_pos _)
  have e : (!decide ((B.length : Int) % 64 = 56)) = true := by rw [decide_eq_false (by omega)]; rfl
  obtain ⟨H1, W1, hI1, hT⟩ := T_wrS hI [0] (by simp; omega) (getL [[V.int IntKind.u8 0]]) (g1 _) (some 1) false (x := 450) (by decide)
  have hl : (B ++ [0]).length = B.length + 1 := by simp
  obtain ⟨H2, W2, hI2, hL⟩ := ih (B ++ [0]) H1 W1 hI1 (by rw [hl]; omega) (fun i hi => by rw [hl]; have := h2 (i + 1) (by omega); rwa [show B.length + 1 + i = B.length + (i + 1) by omega]) (by rw [hl]; omega)
  rw [hl] at hL
  rw [List.append_assoc, show [0] ++ List.replicate r 0 = List.replicate (r + 1) (0 : Int) from rfl] at hI2
  rw [show B.length + 1 + r = B.length + (r + 1) by omega] at hL
  refine ⟨H2, W2, hI2, RLoop.step ?_ hL⟩
  refine R_alongPc NG MO _ (pcEn_p1 H W B.length N H1 W1) ?_ (by show 1 ≤ 2; decide)
  simp only [All]; and_intros
  all_goals first
   | exact True.intro
   | exact e
   | exact hT
   | (with_reducible assumption)
   | (rw [decide_eq_true_eq]; omega)
   | (rw [decide_eq_false_iff_not]; omega)
   | with_reducible rfl
   | (intro _ _; exact True.intro)
   | (intro _ _; with_reducible rfl)
   | (intro _ _; rfl)
   | (simp only [IntKind.min, IntKind.max, IntKind.signed, IntKind.bits, if_true]; omega)
   | omega
   | (intro h; exact h)
   | (intro h; cases h; done)
   | exact .inl rfl
   | exact .inl True.intro
   | exact .inr rfl
   | (simp; done)
theorem enLL (H W : List Int) (n N : Nat) (hN : N ≤ 100000000000) : RLoop Try.prog none 1 (cB (cB (cR (cL (cR (cR (cR (cR (cR (bodyOf Try.f67)))))))))) (8 + 1) (enL H W n N 0) (.exit 2) (enL H W n N 8) := by
 have hstep : ∀ j, j < 8 → R Try.prog none 1 (cB (cB (cR (cL (cR (cR (cR (cR (cR (bodyOf Try.f67)))))))))) (enL H W n N j) .normal (enL H W n N (j + 1)) := by
  intro j hj
  have e1 : Int.toNat (56 - 8 * (j : Int)) = 56 - 8 * j := by omega
  have key : ∀ k, k < 8 → (Bool.rec [V.int IntKind.u8 (if k < j then lenE (8 * (N : Int)) k else 0)] [V.int IntKind.u8 (IntKind.wrap IntKind.u8 (8 * (N : Int) / 2 ^ (56 - 8 * j)))] (Nat.beq k j) : List V) = [V.int IntKind.u8 (if k < j + 1 then lenE (8 * (N : Int)) k else 0)] := by
   intro k hk
   cases hb : Nat.beq k j with
   | true =>
    have := Nat.eq_of_beq_eq_true hb; subst this
    rw [show (if k < k + 1 then lenE (8 * (N : Int)) k else 0) = lenE (8 * (N : Int)) k from if_pos (Nat.lt_succ_self k)]; rfl
   | false =>
    have hne : k ≠ j := fun e => by rw [e, Nat.beq_refl] at hb; cases hb
    by_cases h : k < j
    ·rw [if_pos h, if_pos (by omega)]
    ·rw [if_neg h, if_neg (by omega)]
  refine R_alongPc NG MO _ (pcEl_p1 H W n N j) ?_ (by show 1 ≤ 3; decide)
  simp only [All, e1, Int.toNat_natCast, Nat.zero_add]; and_intros
  all_goals first
   | exact True.intro
   | exact key
   | (with_reducible assumption)
   | (rw [decide_eq_true_eq]; omega)
   | (rw [decide_eq_false_iff_not]; omega)
   | with_reducible rfl
   | (intro _ _; exact True.intro)
   | (intro _ _; with_reducible rfl)
   | (intro _ _; rfl)
   | (simp only [IntKind.min, IntKind.max, IntKind.signed, IntKind.bits, if_true]; omega)
   | omega
   | (intro h; exact h)
   | (intro h; cases h; done)
   | exact .inl rfl
   | exact .inl True.intro
   | exact .inr rfl
   | (simp; done)
 have hend : R Try.prog none 1 (cB (cB (cR (cL (cR (cR (cR (cR (cR (bodyOf Try.f67)))))))))) (enL H W n N 8) (.exit 2) (enL H W n N 8) := by
  refine R_alongPc NG MO _ (pcEl_p0 H W n N 8) ?_ (by show 1 ≤ 3; decide)
  simp only [All]; and_intros
  all_goals first
   | exact True.intro
   | (with_reducible assumption)
   | (rw [decide_eq_true_eq]; omega)
   | (rw [decide_eq_false_iff_not]; omega)
   | with_reducible rfl
   | (intro _ _; exact True.intro)
   | (intro _ _; with_reducible rfl)
   | (intro _ _; rfl)
   | (simp only [IntKind.min, IntKind.max, IntKind.signed, IntKind.bits, if_true]; omega)
   | omega
   | (intro h; exact h)
   | (intro h; cases h; done)
   | exact .inl rfl
   | exact .inl True.intro
   | exact .inr rfl
   | (simp; done)
 exact RLoop.inv (fun j => enL H W n N j) 8 hstep hend (by simp)
theorem enJL (H W : List Int) (n : Nat) : RLoop Try.prog none 1 (cB (cB (cR (cL (cR (cR (cR (cR (cR (cR (cR (bodyOf Try.f67)))))))))))) (32 + 1) (enJ H W n (dA H 0) 0) (.exit 4) (enJ H W n (dA H 32) 32) := by
 have hstep : ∀ k, k < 32 → R Try.prog none 1 (cB (cB (cR (cL (cR (cR (cR (cR (cR (cR (cR (bodyOf Try.f67)))))))))))) (enJ H W n (dA H k) k) .normal (enJ H W n (dA H (k + 1)) (k + 1)) := by
  intro k hk
  have e1 : Int.toNat (24 - 8 * ((k : Int) % 4)) = 24 - 8 * (k % 4) := by omega
  have e2 : Int.toNat ((k : Int) / 4) = k / 4 := by omega
  refine R_alongPc NG MO _ (pcEj_p1 H W n (dA H k) k (dA H (k + 1))) ?_ (by show 1 ≤ 2; decide)
  simp only [All, e1, e2, Int.toNat_natCast, Nat.zero_add]; and_intros
  all_goals first
   | exact True.intro
   | rfl
   | (with_reducible assumption)
   | (rw [decide_eq_true_eq]; omega)
   | (rw [decide_eq_false_iff_not]; omega)
   | with_reducible rfl
   | (intro _ _; exact True.intro)
   | (intro _ _; with_reducible rfl)
   | (intro _ _; rfl)
   | (simp only [IntKind.min, IntKind.max, IntKind.signed, IntKind.bits, if_true]; omega)
   | omega
   | (intro h; exact h)
   | (intro h; cases h; done)
   | exact .inl rfl
   | exact .inl True.intro
   | exact .inr rfl
   | (simp; done)
 have hend : R Try.prog none 1 (cB (cB (cR (cL (cR (cR (cR (cR (cR (cR (cR (bodyOf Try.f67)))))))))))) (enJ H W n (dA H 32) 32) (.exit 4) (enJ H W n (dA H 32) 32) := by
  refine R_alongPc NG MO _ (pcEj_p0 H W n (dA H 32) 32 []) ?_ (by show 1 ≤ 2; decide)
  simp only [All]; and_intros
  all_goals first
   | exact True.intro
   | (with_reducible assumption)
   | (rw [decide_eq_true_eq]; omega)
   | (rw [decide_eq_false_iff_not]; omega)
   | with_reducible rfl
   | (intro _ _; exact True.intro)
   | (intro _ _; with_reducible rfl)
   | (intro _ _; rfl)
   | (simp only [IntKind.min, IntKind.max, IntKind.signed, IntKind.bits, if_true]; omega)
   | omega
   | (intro h; exact h)
   | (intro h; cases h; done)
   | exact .inl rfl
   | exact .inl True.intro
   | exact .inr rfl
   | (simp; done)
 exact RLoop.inv (fun k => enJ H W n (dA H k) k) 32 hstep hend (by simp)
theorem T_en {B H W : List Int} (hI : Inv B H W) (hb : B.length ≤ 10000000000) : ∃ H3 W3 n3, T Try.prog 67 [p0 0] [(.o 0, stB H W (B.length : Nat))] (.agg [.seg .u8 32 (shaV B)]) [(.o 0, stB H3 W3 n3)] := by
 obtain ⟨H1, W1, hI1, hT1⟩ := T_wrS hI [128] (by simp; omega) (getL [[V.int IntKind.u8 128]]) (g1 _) (some 1) false (x := 513) (by decide)
 have hl1 : (B ++ [128]).length = B.length + 1 := by simp
 have hz : padZ (B.length + 1) < 64 := by unfold padZ; omega
 obtain ⟨H2, W2, hI2, hL2⟩ := en0 B.length (padZ (B.length + 1)) (B ++ [128]) H1 W1 hI1 (by rw [hl1]; exact padZ_at _) (fun i hi => by rw [hl1]; exact padZ_lt hi) (by rw [hl1]; omega)
 have hl2 : (B ++ [128] ++ List.replicate (padZ (B.length + 1)) 0).length = B.length + 1 + padZ (B.length + 1) := by rw [List.length_append, hl1, List.length_replicate]
 rw [hl1] at hL2
 have h8 := lenB_len (8 * (B.length : Int))
 obtain ⟨H3, W3, hI3, hT3⟩ := T_wrS hI2 (lenB (8 * (B.length : Int))) (by rw [hl2, h8]; omega) (enR B.length 8) (fun k hk => by rw [h8] at hk; rw [lenB_get hk, enR, if_pos hk]) none false (x := 2) (by decide)
 rw [hl2, h8] at hT3
 have hLL := enLL H2 W2 (B.length + 1 + padZ (B.length + 1)) B.length (by omega)
 have hJ := enJL H3 W3 (B.length + 1 + padZ (B.length + 1) + 8)
 have hH3 : dA H3 32 = shaV B := by rw [shaV, padL, ← hI3.h]
 rw [hH3] at hJ
 refine ⟨H3, W3, ((B.length + 1 + padZ (B.length + 1) + 8 : Nat) : Int), ?_⟩
 refine T_al (bdEn_p H W B.length H1 W1 (padZ (B.length + 1)) H2 W2 H3 W3 (shaV B)) Try.func67 ?_
 simp only [All]; and_intros
 all_goals first
  | exact True.intro
  | exact hT1
  | exact hL2
  | exact hLL
  | exact hT3
  | exact hJ
  | rfl
  | (with_reducible assumption)
  | (rw [decide_eq_true_eq]; omega)
  | (rw [decide_eq_false_iff_not]; omega)
  | with_reducible rfl
  | (intro _ _; exact True.intro)
  | (intro _ _; with_reducible rfl)
  | (intro _ _; rfl)
  | (simp only [IntKind.min, IntKind.max, IntKind.signed, IntKind.bits, if_true]; omega)
  | omega
  | (intro h; exact h)
  | (intro h; cases h; done)
  | exact .inl rfl
  | exact .inl True.intro
  | exact .inr rfl
  | (simp; done)
end Go.Proofs.Ytpallipnhmoipaa
namespace Go.Proofs.Ytpallipnhmoipaa
open Go Sy Go.Proofs
def z64L : List Int := List.replicate 64 0
def suW (H W : List Int) (n : Int) : List V → List Cl
 | .ptr s _ _ _ _ :: _ => [{ pre := [s], val := .tup [], post := [(s, stB H W n)] }]
 | _ => []
def suE (d H W : List Int) (n : Int) : List V → List Cl
 | .ptr s _ _ _ _ :: _ => [{ pre := [s], val := .agg [.seg .u8 32 d], post := [(s, stB H W n)] }]
 | _ => []
noncomputable def suDb (H1 W1 : List Int) (n1 : Int) (H2 W2 : List Int) (n2 : Int) (d H3 W3 : List Int) (n3 : Int) : Nat → List V → Heap → Nat → List Cl := dbQ [
 (65, fun _ _ lo => [{ val := .ptr (.o lo) 0 0 0 0, post := [(.o lo, stB iv z64L 0)] }]),
 (66, fun a _ lo => bif Nat.ble lo 1000 then suW H1 W1 n1 a else suW H2 W2 n2 a),
 (67, fun a _ _ => suE d H3 W3 n3 a)]
noncomputable def bdS1 (c : Option Nat) (l1 H1 W1 : List Int) (n1 : Int) (d H3 W3 : List Int) (n3 : Int) : Bd := { f := Try.f54, args := [.sl (.o 0) 0 0 0 0 1 c], pre := [(.o 0, .flat [rb l1])], base := 1, kb := { db := suDb H1 W1 n1 H1 W1 n1 d H3 W3 n3, lp := fun _ _ => [(True, .rounds 2)], lit := true } }
noncomputable def bdS2 (c : Option Nat) (l1 l2 H1 W1 : List Int) (n1 : Int) (H2 W2 : List Int) (n2 : Int) (d H3 W3 : List Int) (n3 : Int) : Bd := { f := Try.f54, args := [.sl (.o 0) 0 0 0 0 2 c], pre := [(.o 0, .flat [rb l1, rb l2])], base := 1, kb := { db := suDb H1 W1 n1 H2 W2 n2 d H3 W3 n3, lp := fun _ _ => [(True, .rounds 3)], lit := true } }
end Go.Proofs.Ytpallipnhmoipaa
namespace Go.Proofs.Ytpallipnhmoipaa
open Go Sy Go.Proofs
theorem bdS1_p (c : Option Nat) (l1 : List Int) (H1 : List Int) (W1 : List Int) (n1 : Int) (d : List Int) (H3 : List Int) (W3 : List Int) (n3 : Int) :
  along Try.prog (bdS1 c l1 H1 W1 n1 d H3 W3 n3) [] = (some (.agg [.seg .u8 32 d], [], [T Try.prog 65 [] [] (.ptr (.o 65) 0 0 0 0) [(.o 65, .flat [.seg .u32 8 [(1779033703 : Int), (3144134277 : Int), (1013904242 : Int), (2773480762 : Int), (1359893119 : Int), (2600822924 : Int), (528734635 : Int), (1541459225 : Int)], .seg .u8 64 z64L, .int .i64 0])], q2, (0 : Int) ≤ (0 : Int) ∧ (0 : Int) < (1 : Int), T Try.prog 66 [.ptr (.o 65) 0 0 0 0, .ros 1 (List.length l1) (ib l1) false] [(.o 65, .flat [.seg .u32 8 [(1779033703 : Int), (3144134277 : Int), (1013904242 : Int), (2773480762 : Int), (1359893119 : Int), (2600822924 : Int), (528734635 : Int), (1541459225 : Int)], .seg .u8 64 z64L, .int .i64 0])] (.tup []) [(.o 65, .flat [.seg .u32 8 H1, .seg .u8 64 W1, .int .i64 n1])], InR IntKind.i64 (1 : Int), q false, T Try.prog 67 [.ptr (.o 65) 0 0 0 0] [(.o 65, .flat [.seg .u32 8 H1, .seg .u8 64 W1, .int .i64 n1])] (.agg [.seg .u8 32 d]) [(.o 65, .flat [.seg .u32 8 H3, .seg .u8 64 W3, .int .i64 n3])]]) : Option (V × Heap × List Prop)) := by kernel_rfl

theorem bdS2_p (c : Option Nat) (l1 : List Int) (l2 : List Int) (H1 : List Int) (W1 : List Int) (n1 : Int) (H2 : List Int) (W2 : List Int) (n2 : Int) (d : List Int) (H3 : List Int) (W3 : List Int) (n3 : Int) :
  along Try.prog (bdS2 c l1 l2 H1 W1 n1 H2 W2 n2 d H3 W3 n3) [] = (some (.agg [.seg .u8 32 d], [], [T Try.prog 65 [] [] (.ptr (.o 65) 0 0 0 0) [(.o 65, .flat [.seg .u32 8 [(1779033703 : Int), (3144134277 : Int), (1013904242 : Int), (2773480762 : Int), (1359893119 : Int), (2600822924 : Int), (528734635 : Int), (1541459225 : Int)], .seg .u8 64 z64L, .int .i64 0])], q2, (0 : Int) ≤ (0 : Int) ∧ (0 : Int) < (2 : Int), T Try.prog 66 [.ptr (.o 65) 0 0 0 0, .ros 1 (List.length l1) (ib l1) false] [(.o 65, .flat [.seg .u32 8 [(1779033703 : Int), (3144134277 : Int), (1013904242 : Int), (2773480762 : Int), (1359893119 : Int), (2600822924 : Int), (528734635 : Int), (1541459225 : Int)], .seg .u8 64 z64L, .int .i64 0])] (.tup []) [(.o 65, .flat [.seg .u32 8 H1, .seg .u8 64 W1, .int .i64 n1])], InR IntKind.i64 (1 : Int), q2, (0 : Int) ≤ (1 : Int) ∧ (1 : Int) < (2 : Int), T Try.prog 66 [.ptr (.o 65) 0 0 0 0, .ros 1 (List.length l2) (ib l2) false] [(.o 65, .flat [.seg .u32 8 H1, .seg .u8 64 W1, .int .i64 n1])] (.tup []) [(.o 65, .flat [.seg .u32 8 H2, .seg .u8 64 W2, .int .i64 n2])], InR IntKind.i64 (2 : Int), q false, T Try.prog 67 [.ptr (.o 65) 0 0 0 0] [(.o 65, .flat [.seg .u32 8 H2, .seg .u8 64 W2, .int .i64 n2])] (.agg [.seg .u8 32 d]) [(.o 65, .flat [.seg .u32 8 H3, .seg .u8 64 W3, .int .i64 n3])]]) : Option (V × Heap × List Prop)) := by kernel_rfl

theorem T_be : T Try.prog 65 [] [] (p0 65) [(.o 65, stB iv z64L 0)] := by
 have h : T Try.prog 65 [] [] (p0 192) [(.o 192, stB iv z64L 0)] := T_along NG MO _ bdBe_p Try.func65 (by kernel_rfl) True.intro (pinH_ok (by kernel_rfl)) (by kernel_rfl)
 obtain ⟨σ, hσ, h3⟩ := T.at h [.o 192] [.o 65] (by decide) (by decide) rfl
 simp only [List.map_cons, List.map_nil, List.cons.injEq, and_true] at hσ
 simpa [V.rens, V.ren, Heap.ren, Sy.B.ren, p0, stB, hσ] using h3
theorem T_wrA {B H W : List Int} (hI : Inv B H W) (l : List Int) (hb : B.length + l.length ≤ 1000000000000) (s : Nat) : ∃ H2 W2, Inv (B ++ l) H2 W2 ∧ T Try.prog 66 [p0 s, rb l] [(.o s, stB H W (B.length : Nat))] (.tup []) [(.o s, stB H2 W2 ((B.length + l.length : Nat) : Int))] := by
 obtain ⟨H2, W2, h1, h2⟩ := T_wr hI l hb
 obtain ⟨σ, hσ, h3⟩ := T.at h2 [.o 0] [.o s] (by decide) (by simp) rfl
 simp only [List.map_cons, List.map_nil, List.cons.injEq, and_true] at hσ
 exact ⟨H2, W2, h1, by simpa [V.rens, V.ren, Heap.ren, Sy.B.ren, p0, stB, rb, hσ] using h3⟩
theorem T_enA {B H W : List Int} (hI : Inv B H W) (hb : B.length ≤ 10000000000) (s : Nat) : ∃ H3 W3 n3, T Try.prog 67 [p0 s] [(.o s, stB H W (B.length : Nat))] (.agg [.seg .u8 32 (shaV B)]) [(.o s, stB H3 W3 n3)] := by
 obtain ⟨H3, W3, n3, h2⟩ := T_en hI hb
 obtain ⟨σ, hσ, h3⟩ := T.at h2 [.o 0] [.o s] (by decide) (by simp) rfl
 simp only [List.map_cons, List.map_nil, List.cons.injEq, and_true] at hσ
 exact ⟨H3, W3, n3, by simpa [V.rens, V.ren, Heap.ren, Sy.B.ren, p0, stB, hσ] using h3⟩
theorem T_su1 (l1 : List Int) (hb : l1.length ≤ 10000000000) (c : Option Nat) : T Try.prog 54 [.sl (.o 0) 0 0 0 0 1 c] [(.o 0, .flat [rb l1])] (.agg [.seg .u8 32 (shaV l1)]) [] := by
 have hB := T_be
 obtain ⟨H1, W1, hI1, hT1⟩ := T_wrA (inv_nil (W := z64L) (by simp [z64L])) l1 (by simp; omega) 65
 rw [List.nil_append] at hI1
 rw [List.length_nil, Nat.zero_add] at hT1
 obtain ⟨H3, W3, n3, hT3⟩ := T_enA hI1 hb 65
 refine T_al (bdS1_p c l1 H1 W1 (l1.length : Nat) (shaV l1) H3 W3 n3) Try.func54 ?_
 simp only [All]; and_intros
 all_goals first
  | exact True.intro
  | exact hB
  | exact hT1
  | exact hT3
  | (with_reducible assumption)
  | (rw [decide_eq_true_eq]; omega)
  | (rw [decide_eq_false_iff_not]; omega)
  | with_reducible rfl
  | (intro _ _; exact True.intro)
  | (intro _ _; with_reducible rfl)
  | (intro _ _; rfl)
  | (simp only [IntKind.min, IntKind.max, IntKind.signed, IntKind.bits, if_true]; omega)
  | omega
  | (intro h; exact h)
  | (intro h; cases h; done)
  | exact .inl rfl
  | exact .inl True.intro
  | exact .inr rfl
  | (simp; done)
theorem T_su2 (l1 l2 : List Int) (hb : l1.length + l2.length ≤ 10000000000) (c : Option Nat) : T Try.prog 54 [.sl (.o 0) 0 0 0 0 2 c] [(.o 0, .flat [rb l1, rb l2])] (.agg [.seg .u8 32 (shaV (l1 ++ l2))]) [] := by
 have hB := T_be
 obtain ⟨H1, W1, hI1, hT1⟩ := T_wrA (inv_nil (W := z64L) (by simp [z64L])) l1 (by simp; omega) 65
 rw [List.nil_append] at hI1
 rw [List.length_nil, Nat.zero_add] at hT1
 obtain ⟨H2, W2, hI2, hT2⟩ := T_wrA hI1 l2 (by omega) 65
 obtain ⟨H3, W3, n3, hT3⟩ := T_enA hI2 (by rw [List.length_append]; omega) 65
 rw [List.length_append] at hT3
 refine T_al (bdS2_p c l1 l2 H1 W1 (l1.length : Nat) H2 W2 ((l1.length + l2.length : Nat) : Int) (shaV (l1 ++ l2)) H3 W3 n3) Try.func54 ?_
 simp only [All]; and_intros
 all_goals first
  | exact True.intro
  | exact hB
  | exact hT1
  | exact hT2
  | exact hT3
  | (with_reducible assumption)
  | (rw [decide_eq_true_eq]; omega)
  | (rw [decide_eq_false_iff_not]; omega)
  | with_reducible rfl
  | (intro _ _; exact True.intro)
  | (intro _ _; with_reducible rfl)
  | (intro _ _; rfl)
  | (simp only [IntKind.min, IntKind.max, IntKind.signed, IntKind.bits, if_true]; omega)
  | omega
  | (intro h; exact h)
  | (intro h; cases h; done)
  | exact .inl rfl
  | exact .inl True.intro
  | exact .inr rfl
  | (simp; done)
end Go.Proofs.Ytpallipnhmoipaa
namespace Go.Proofs.Ytpallipnhmoipaa
open Go Sy Go.Proofs
def obS (a : Nat) (l : List Int) : V := .sl (.o a) 1 0 0 0 l.length none
def obB (l : List Int) : B := .rows 1 l.length (ib l) true
def paI (l L : List Int) : St := ⟨mkT 34 [(0, rb l), (3, obS 0 L)], [(.o 0, obB L)], 1, []⟩
def paJ (l L : List Int) (j : Nat) : St := ⟨mkT 34 [(0, rb l), (3, obS 0 L), (4, .int .i64 (8 * (l.length : Int))), (5, .int .i64 (7 - (j : Nat)))], [(.o 0, obB L)], 1, []⟩
noncomputable def bdPa (l L0 : List Int) (z : Nat) (L1 L2 : List Int) : Bd := { f := Try.f106, args := [rb l], kb := { db := fun _ _ _ _ => [], lp := fun id t => bif Nat.beq id 0 then [(True, .loop (z + 1) (wToS [(.o 0, nmV (getV t.tmps 3))] (paI l L0)) (.exit 0) (paI l L1))] else [(True, .loop (8 + 1) (wTo (paJ l L1 0)) (.exit 2) (paJ l L2 8))] }, names := fun _ => [.o 0] }
noncomputable def pcPi (l L L2 : List Int) : Pc := { c := cB (cB (cL (cR (cR (bodyOf Try.f106))))), st := paI l L, kb := kb0, k := fun x_ t => match x_ with
 | .normal => some (wToS [(.o 0, nmV (getV t.tmps 3))] (paI l L2))
 | _ => some (wTo (paI l L)) }
noncomputable def pcPj (l L : List Int) (j : Nat) (L2 : List Int) : Pc := { c := cB (cB (cR (cL (cR (cR (cR (cR (bodyOf Try.f106)))))))), st := paJ l L j, kb := kb0, k := fun x_ t => match x_ with
 | .normal => some (wToS [(.o 0, nmV (getV t.tmps 3))] (paJ l L2 (j + 1)))
 | _ => some (wTo (paJ l L 8)) }
def z8L : List Int := List.replicate 8 0
def btI (h b w : List Int) (i : Nat) : St := ⟨mkT 191 [(1, rb b), (2, p0 0), (4, p0 2), (5, p0 1), (6, .int .i64 (i : Nat))], [(.o 0, .flat [.seg .u32 8 h]), (.o 1, .flat [.seg .u32 64 w]), (.o 2, .flat [.seg .u32 8 z8L])], 3, []⟩
def btJ (h w : List Int) (k : Nat) : St := ⟨mkT 191 [(2, p0 0), (4, p0 2), (5, p0 1), (7, .int .i64 ((16 + k : Nat) : Int))], [(.o 0, .flat [.seg .u32 8 h]), (.o 1, .flat [.seg .u32 64 w]), (.o 2, .flat [.seg .u32 8 z8L])], 3, []⟩
def btK (h w : List Int) (s : S8) (t : Nat) : St := ⟨mkT 191 [(2, p0 0), (4, p0 2), (5, p0 1), (10, p0 3), (11, .int .i64 (t : Nat))], [(.o 0, .flat [.seg .u32 8 h]), (.o 1, .flat [.seg .u32 64 w]), (.o 2, .flat [.seg .u32 8 z8L]), (.o 3, .flat [.seg .u32 8 [s.a, s.b, s.c, s.d, s.e, s.f, s.g, s.h]])], 4, []⟩
def btL (h l : List Int) (i : Nat) : St := ⟨mkT 191 [(2, p0 0), (4, p0 2), (10, p0 3), (16, .int .i64 (i : Nat))], [(.o 0, .flat [.seg .u32 8 h]), (.o 2, .flat [.seg .u32 8 z8L]), (.o 3, .flat [.seg .u32 8 l])], 4, []⟩
def bt0 (H : List Int) : List Int := [H.getD 0 0, H.getD 1 0, H.getD 2 0, H.getD 3 0, H.getD 4 0, H.getD 5 0, H.getD 6 0, H.getD 7 0]
noncomputable def bdBt (h b w w2 : List Int) (s0 s : S8) (h2 : List Int) : Bd := { f := Try.f107, args := [.agg [.seg .u32 8 h], rb b], kb := { db := fun _ _ _ _ => [], lp := fun id t => bif Nat.beq id 0 then [(True, .loop (16 + 1) (wToS [(.o 0, nmV (getV t.tmps 2)), (.o 1, nmV (getV t.tmps 5)), (.o 2, nmV (getV t.tmps 4))] (btI h b (List.replicate 64 0) 0)) (.exit 0) (btI h b w 16))] else bif Nat.beq id 2 then [(True, .loop (48 + 1) (wTo (btJ h w 0)) (.exit 2) (btJ h w2 48))] else bif Nat.beq id 4 then [(True, .loop (64 + 1) (wToS [(.o 3, nmV (getV t.tmps 10))] (btK h w2 s0 0)) (.exit 4) (btK h w2 s 64))] else [(True, .loop (8 + 1) (wTo (btL h s.l 0)) (.exit 6) (btL h2 s.l 8))] } }
def rqDb : List V → Heap → Nat → List Cl := fun l _ _ => match l with
 | [.int _ x, .int _ n] => [{ val := .int .u32 (rr32 x n) }]
 | _ => []
noncomputable def pcTi (h b w : List Int) (i : Nat) (w2 : List Int) : Pc := { c := cB (cB (cR (cL (cR (cR (bodyOf Try.f107)))))), st := btI h b w i, kb := kb0, k := fun x_ _ => match x_ with
 | .normal => some (wTo (btI h b w2 (i + 1)))
 | _ => some (wTo (btI h b w 16)) }
noncomputable def pcTj (h w : List Int) (k : Nat) (w2 : List Int) : Pc := { c := cB (cB (cR (cL (cR (cR (cR (bodyOf Try.f107))))))), st := btJ h w k, kb := { db := dbQ [(111, rqDb)] }, k := fun x_ _ => match x_ with
 | .normal => some (wTo (btJ h w2 (k + 1)))
 | _ => some (wTo (btJ h w 48)) }
noncomputable def pcTk (h w : List Int) (s : S8) (t : Nat) (s2 : S8) : Pc := { c := cB (cB (cR (cL (cR (cR (cR (cR (cR (bodyOf Try.f107))))))))), st := btK h w s t, kb := { db := dbQ [(111, rqDb), (112, krDb)] }, k := fun x_ _ => match x_ with
 | .normal => some (wTo (btK h w s2 (t + 1)))
 | _ => some (wTo (btK h w s 64)) }
noncomputable def pcTl (h l : List Int) (i : Nat) (h2 : List Int) : Pc := { c := cB (cB (cR (cL (cR (cR (cR (cR (cR (cR (bodyOf Try.f107)))))))))), st := btL h l i, kb := kb0, k := fun x_ _ => match x_ with
 | .normal => some (wTo (btL h2 l (i + 1)))
 | _ => some (wTo (btL h l 8)) }
end Go.Proofs.Ytpallipnhmoipaa
