/-
  Contracts and laws that the claim's theorem leans on, joined out of the texts Mb0 Mb1D Mb1 Na1D Na1 Na2D Na2 Na3D (own work of this seat): Contracts: one more signer, by the program; Contracts: one more signer, by the document; signs that are alike; Contracts: one more signer, by the document; signs that are alike; Contracts: the signs of nodes' marks; Contracts: the signs of nodes' marks; Contracts: the last epoch that so many nodes marked: a range over a map; Contracts: the last epoch that so many nodes marked: a range over a map; Contracts: that the law of marks lives; marks that no call made.
-/
import Derived.Test.YtpallipnhmoipaaC05
set_option linter.unusedVariables false
set_option linter.unusedSimpArgs false
set_option maxHeartbeats 1000000
namespace Go.Proofs.Ytpallipnhmoipaa
open Go Sy Go.Proofs
theorem bdAd_p1 (n : Nat) (s : Nat → SSign) (x : SSign) (m : Nat) (a : Nat) :
  along Try.prog (bdAd n s x m a) [true] = some (V.sl (Nm.o (1 : Nat)) (17 : Nat) (0 : Nat) (0 : Nat) (0 : Nat) (n + (1 : Nat)) none, [(Nm.o (1 : Nat), B.rows (17 : Nat) (n + (1 : Nat)) (gn (insS s a x)) true)], [RLoop Try.prog none (0 : Nat) (cB (cB (cR (cL (cB (cR (bodyOf (Bd.f (bdAd n s x m a))))))))) (n + (1 : Nat)) (St.mk [V.ros (17 : Nat) n (fun i => SSign.c (s i)) false, V.any, V.any, V.ptr (Nm.o (0 : Nat)) (0 : Nat) (0 : Nat) (0 : Nat) (0 : Nat), V.any, V.any, V.any, V.any, V.any, V.any, V.any, V.ros (17 : Nat) n (fun i => SSign.c (s i)) false, V.int IntKind.i64 (↑n : Int), V.int IntKind.i64 (0 : Int), V.any, V.any, V.any, V.any, V.any, V.any, V.any, V.any, V.any, V.any, V.any, V.any, V.any, V.any, V.any, V.any, V.any, V.any, V.any, V.any, V.any, V.any, V.any, V.any, V.any, V.any, V.any, V.any, V.any, V.any, V.any, V.any, V.any, V.any, V.any, V.any, V.any, V.any, V.any, V.any, V.any, V.any, V.any, V.any, V.any, V.any, V.any, V.any, V.any, V.any, V.any, V.any, V.any, V.any, V.any] [(Nm.o (0 : Nat), B.flat (SSign.c x))] (1 : Nat) []) (Exit.exit (0 : Nat)) (St.mk [V.ros (17 : Nat) n (fun i => SSign.c (s i)) false, V.any, V.any, V.ptr (Nm.o (0 : Nat)) (0 : Nat) (0 : Nat) (0 : Nat) (0 : Nat), V.any, V.any, V.any, V.any, V.any, V.any, V.any, V.ros (17 : Nat) n (fun i => SSign.c (s i)) false, V.int IntKind.i64 (↑n : Int), V.int IntKind.i64 (↑n : Int), V.any, V.any, V.any, V.any, V.any, V.any, V.any, V.any, V.any, V.any, V.any, V.any, V.any, V.any, V.any, V.any, V.any, V.any, V.any, V.any, V.any, V.any, V.any, V.any, V.any, V.any, V.any, V.any, V.any, V.any, V.any, V.any, V.any, V.any, V.any, V.any, V.any, V.any, V.any, V.any, V.any, V.any, V.any, V.any, V.any, V.any, V.any, V.any, V.any, V.any, V.any, V.any, V.any, V.any, V.any] [(Nm.o (0 : Nat), B.flat (SSign.c x))] (1 : Nat) []), SSign.node x = SSign.node x, (16 : Nat) = (16 : Nat), SSign.tag x = SSign.tag x, n = n, ∀ (k : Nat), k < n → SSign.c (s k) = SSign.c (s k), false = true → false = true, (0 : Nat) = (0 : Nat), (0 : Nat) = (0 : Nat), (0 : Nat) = (0 : Nat), n = n, ∀ (k : Nat), k < n → SSign.c (s k) = SSign.c (s k), false = true → false = true, (↑n : Int) = (↑n : Int), (0 : Int) = (0 : Int), RLoop Try.prog none (0 : Nat) (cB (cB (cR (cL (cR (cR (cR (cB (cR (bodyOf (Bd.f (bdAd n s x m a)))))))))))) (m + (1 : Nat)) (St.mk [V.ros (17 : Nat) n (fun i => SSign.c (s i)) false, V.any, V.any, V.ptr (Nm.o (0 : Nat)) (0 : Nat) (0 : Nat) (0 : Nat) (0 : Nat), V.any, V.any, V.any, V.int IntKind.i64 (↑n : Int), V.any, V.any, V.any, V.any, V.any, V.any, V.any, V.any, V.any, V.any, V.any, V.any, V.any, V.any, V.any, V.any, V.any, V.any, V.any, V.any, V.any, V.any, V.any, V.any, V.any, V.ros (17 : Nat) n (fun i => SSign.c (s i)) false, V.int IntKind.i64 (↑n : Int), V.int IntKind.i64 (0 : Int), V.any, V.any, V.any, V.any, V.any, V.any, V.any, V.any, V.any, V.any, V.any, V.any, V.any, V.any, V.any, V.any, V.any, V.any, V.any, V.any, V.any, V.any, V.any, V.any, V.any, V.any, V.any, V.any, V.any, V.any, V.any, V.any, V.any] [(Nm.o (0 : Nat), B.flat (SSign.c x))] (1 : Nat) []) (Exit.exit (2 : Nat)) (St.mk [V.ros (17 : Nat) n (fun i => SSign.c (s i)) false, V.any, V.any, V.ptr (Nm.o (0 : Nat)) (0 : Nat) (0 : Nat) (0 : Nat) (0 : Nat), V.any, V.any, V.any, V.int IntKind.i64 (↑a : Int), V.any, V.any, V.any, V.any, V.any, V.any, V.any, V.any, V.any, V.any, V.any, V.any, V.any, V.any, V.any, V.any, V.any, V.any, V.any, V.any, V.any, V.any, V.any, V.any, V.any, V.any, V.any, V.any, V.any, V.any, V.any, V.any, V.any, V.any, V.any, V.any, V.any, V.any, V.any, V.any, V.any, V.any, V.any, V.any, V.any, V.any, V.any, V.any, V.any, V.any, V.any, V.any, V.any, V.any, V.any, V.any, V.any, V.any, V.any, V.any, V.any] [(Nm.o (0 : Nat), B.flat (SSign.c x))] (1 : Nat) []), SSign.node x = SSign.node x, (16 : Nat) = (16 : Nat), SSign.tag x = SSign.tag x, n = n, ∀ (k : Nat), k < n → SSign.c (s k) = SSign.c (s k), false = true → false = true, (0 : Nat) = (0 : Nat), (0 : Nat) = (0 : Nat), (0 : Nat) = (0 : Nat), (↑n : Int) = (↑n : Int), n = n, ∀ (k : Nat), k < n → SSign.c (s k) = SSign.c (s k), false = true → false = true, (↑n : Int) = (↑n : Int), (0 : Int) = (0 : Int), InR IntKind.i64 ((↑n : Int) + (1 : Int)), (0 : Int) ≤ (↑n : Int) + (1 : Int) ∧ (↑n : Int) + (1 : Int) ≤ (↑n : Int) + (1 : Int), (24 : Int) * ((↑n : Int) + (1 : Int)) ≤ (281474976710656 : Int), (↑n : Int) + (1 : Int) ≤ (281474976710656 : Int), (0 : Int) ≤ (↑a : Int) ∧ (↑a : Int) ≤ (↑(natO none n) : Int), TO Try.prog (Prim.copy (33 : Nat) (33 : Nat)) [V.sl (Nm.o (nat_lit 193)) (17 : Nat) (0 : Nat) (0 : Nat) (0 : Nat) (Int.toNat ((↑n : Int) + (1 : Int))) (some (Int.toNat ((↑n : Int) + (1 : Int)))), V.ros (17 : Nat) (natO (some (↑a : Int)) n - nat_lit 0) (shiftF (fun i => SSign.c (s i)) none) false] [(Nm.o (nat_lit 193), B.rows (17 : Nat) (Int.toNat ((↑n : Int) + (1 : Int))) (fun x => [V.int IntKind.i64 (0 : Int), V.seg IntKind.u8 (16 : Nat) [(0 : Int), (0 : Int), (0 : Int), (0 : Int), (0 : Int), (0 : Int), (0 : Int), (0 : Int), (0 : Int), (0 : Int), (0 : Int), (0 : Int), (0 : Int), (0 : Int), (0 : Int), (0 : Int)]]) false)] (V.int IntKind.i64 (↑(Nat.min (natO (some (↑a : Int)) n - nat_lit 0) (Int.toNat ((↑n : Int) + (1 : Int)))) : Int)) [(Nm.o (nat_lit 193), B.rows (17 : Nat) (Int.toNat ((↑n : Int) + (1 : Int))) (setF (fun x => [V.int IntKind.i64 (0 : Int), V.seg IntKind.u8 (16 : Nat) [(0 : Int), (0 : Int), (0 : Int), (0 : Int), (0 : Int), (0 : Int), (0 : Int), (0 : Int), (0 : Int), (0 : Int), (0 : Int), (0 : Int), (0 : Int), (0 : Int), (0 : Int), (0 : Int)]]) (0 : Nat) (Nat.min (natO (some (↑a : Int)) n - nat_lit 0) (Int.toNat ((↑n : Int) + (1 : Int)))) (shiftF (fun i => SSign.c (s i)) none)) false)], SSign.node x = SSign.node x, (16 : Nat) = (16 : Nat), SSign.tag x = SSign.tag x, Int.toNat ((↑n : Int) + (1 : Int)) = n + (1 : Nat), ∀ (k : Nat), k < Int.toNat ((↑n : Int) + (1 : Int)) → setF (fun x => [V.int IntKind.i64 (0 : Int), V.seg IntKind.u8 (16 : Nat) [(0 : Int), (0 : Int), (0 : Int), (0 : Int), (0 : Int), (0 : Int), (0 : Int), (0 : Int), (0 : Int), (0 : Int), (0 : Int), (0 : Int), (0 : Int), (0 : Int), (0 : Int), (0 : Int)]]) (0 : Nat) (Nat.min (natO (some (↑a : Int)) n - nat_lit 0) (Int.toNat ((↑n : Int) + (1 : Int)))) (shiftF (fun i => SSign.c (s i)) none) k = [V.int IntKind.i64 (SSign.node (cutS s a k)), V.seg IntKind.u8 (16 : Nat) (SSign.tag (cutS s a k))], true = false → false = false, n = n, ∀ (k : Nat), k < n → SSign.c (s k) = SSign.c (s k), false = true → false = true, (0 : Nat) = (0 : Nat), (0 : Nat) = (0 : Nat), (0 : Nat) = (0 : Nat), (↑a : Int) = (↑a : Int), (0 : Nat) = (0 : Nat), (0 : Nat) = (0 : Nat), (0 : Nat) = (0 : Nat), Int.toNat ((↑n : Int) + (1 : Int)) = n + (1 : Nat), some (n + (1 : Nat)) = none ∨ some (n + (1 : Nat)) = some (Int.toNat ((↑n : Int) + (1 : Int))), (0 : Int) ≤ (↑a : Int) ∧ (↑a : Int) < (↑(n + (1 : Nat)) : Int), (0 : Nat) + Int.toNat (↑a : Int) < n + (1 : Nat), InR IntKind.i64 ((↑a : Int) + (1 : Int)), TO Try.prog (Prim.sliceFrom (33 : Nat)) [V.sl (Nm.o (1 : Nat)) (17 : Nat) (0 : Nat) (0 : Nat) (0 : Nat) (n + (1 : Nat)) (some (n + (1 : Nat))), V.int IntKind.i64 ((↑a : Int) + (1 : Int))] [] (V.sl (Nm.o (1 : Nat)) (17 : Nat) (Bool.rec (a + (1 : Nat)) (0 : Nat) (Nat.beq (a + (1 : Nat)) (n + (1 : Nat)))) (0 : Nat) (0 : Nat) (n + (1 : Nat) - (a + (1 : Nat))) (some (n + (1 : Nat) - (a + (1 : Nat))))) [], (0 : Int) ≤ (↑a : Int) ∧ (↑a : Int) ≤ (↑(natO none n) : Int), TO Try.prog (Prim.copy (33 : Nat) (33 : Nat)) [V.sl (Nm.o (1 : Nat)) (17 : Nat) (Bool.rec (a + (1 : Nat)) (0 : Nat) (Nat.beq (a + (1 : Nat)) (n + (1 : Nat)))) (0 : Nat) (0 : Nat) (n + (1 : Nat) - (a + (1 : Nat))) (some (n + (1 : Nat) - (a + (1 : Nat)))), V.ros (17 : Nat) (natO none n - natO (some (↑a : Int)) (0 : Nat)) (shiftF (fun i => SSign.c (s i)) (some (↑a : Int))) false] [(Nm.o (1 : Nat), B.rows (17 : Nat) (n + (1 : Nat)) (fun k => Bool.rec [V.int IntKind.i64 (SSign.node (cutS s a k)), V.seg IntKind.u8 (16 : Nat) (SSign.tag (cutS s a k))] [V.int IntKind.i64 (SSign.node x), V.seg IntKind.u8 (16 : Nat) (SSign.tag x)] (Nat.beq k ((0 : Nat) + Int.toNat (↑a : Int)))) true)] (V.int IntKind.i64 (↑(Nat.min (natO none n - natO (some (↑a : Int)) (0 : Nat)) (n + (1 : Nat) - (a + (1 : Nat)))) : Int)) [(Nm.o (1 : Nat), B.rows (17 : Nat) (n + (1 : Nat)) (setF (fun k => Bool.rec [V.int IntKind.i64 (SSign.node (cutS s a k)), V.seg IntKind.u8 (16 : Nat) (SSign.tag (cutS s a k))] [V.int IntKind.i64 (SSign.node x), V.seg IntKind.u8 (16 : Nat) (SSign.tag x)] (Nat.beq k ((0 : Nat) + Int.toNat (↑a : Int)))) (Bool.rec (a + (1 : Nat)) (0 : Nat) (Nat.beq (a + (1 : Nat)) (n + (1 : Nat)))) (Nat.min (natO none n - natO (some (↑a : Int)) (0 : Nat)) (n + (1 : Nat) - (a + (1 : Nat)))) (shiftF (fun i => SSign.c (s i)) (some (↑a : Int)))) true)], n + (1 : Nat) = n + (1 : Nat), ∀ (k : Nat), k < n + (1 : Nat) → setF (fun k => Bool.rec [V.int IntKind.i64 (SSign.node (cutS s a k)), V.seg IntKind.u8 (16 : Nat) (SSign.tag (cutS s a k))] [V.int IntKind.i64 (SSign.node x), V.seg IntKind.u8 (16 : Nat) (SSign.tag x)] (Nat.beq k ((0 : Nat) + Int.toNat (↑a : Int)))) (Bool.rec (a + (1 : Nat)) (0 : Nat) (Nat.beq (a + (1 : Nat)) (n + (1 : Nat)))) (Nat.min (natO none n - natO (some (↑a : Int)) (0 : Nat)) (n + (1 : Nat) - (a + (1 : Nat)))) (shiftF (fun i => SSign.c (s i)) (some (↑a : Int))) k = [V.int IntKind.i64 (SSign.node (insS s a x k)), V.seg IntKind.u8 (16 : Nat) (SSign.tag (insS s a x k))], true = false → true = false, (0 : Nat) = (0 : Nat), (0 : Nat) = (0 : Nat), (0 : Nat) = (0 : Nat), n + (1 : Nat) = n + (1 : Nat), (none : Option Nat) = none ∨ none = some (n + (1 : Nat))]) := by kernel_rfl
theorem bdAd_p0 (n : Nat) (s : Nat → SSign) (x : SSign) (m : Nat) (a : Nat) :
  along Try.prog (bdAd n s x m a) [false] = (some (.sl (.o 1) 17 0 0 0 n none, [(.o 1, .rows 17 n (gn s) true)], [RLoop Try.prog none 0 (cB (cB (cR (cL (cB (cR (bodyOf (Bd.f (bdAd n s x m a))))))))) (m + 1) (St.mk [.ros 17 n (fun i => SSign.c (s i)) false, .any, .any, .ptr (.o 0) 0 0 0 0, .any, .any, .any, .any, .any, .any, .any, .ros 17 n (fun i => SSign.c (s i)) false, .int .i64 ↑n, .int .i64 0, .any, .any, .any, .any, .any, .any, .any, .any, .any, .any, .any, .any, .any, .any, .any, .any, .any, .any, .any, .any, .any, .any, .any, .any, .any, .any, .any, .any, .any, .any, .any, .any, .any, .any, .any, .any, .any, .any, .any, .any, .any, .any, .any, .any, .any, .any, .any, .any, .any, .any, .any, .any, .any, .any, .any] [(.o 0, .flat (SSign.c x))] 1 []) .ret (St.mk [.any, .any, .any, .any, .sl (.o 1) 17 0 0 0 n none, .any, .any, .any, .any, .any, .any, .any, .any, .any, .any, .any, .any, .any, .any, .any, .any, .any, .any, .any, .any, .any, .any, .any, .any, .any, .any, .any, .any, .any, .any, .any, .any, .any, .any, .any, .any, .any, .any, .any, .any, .any, .any, .any, .any, .any, .any, .any, .any, .any, .any, .any, .any, .any, .any, .any, .any, .any, .any, .any, .any, .any, .any, .any, .any] [(.o 1, .rows 17 n (gn s) true)] 2 []), q (SSign.node x), q (16 : Nat), q (SSign.tag x), q n, ∀ (k : Nat), k < n → SSign.c (s k) = SSign.c (s k), false = true → false = true, q0, q0, q0, q n, ∀ (k : Nat), k < n → SSign.c (s k) = SSign.c (s k), false = true → false = true, q (↑n : Int), q1]) : Option (V × Heap × List Prop)) := by kernel_rfl

theorem pcAi_p111 (n : Nat) (s : Nat → SSign) (x : SSign) (k : Nat) :
  alongPc Try.prog (pcAi n s x k) [true, true, true] = (some (.ret, St.mk [.any, .any, .any, .any, .sl (.o 1) 17 0 0 0 n none, .any, .any, .any, .any, .any, .any, .any, .any, .any, .any, .any, .any, .any, .any, .any, .any, .any, .any, .any, .any, .any, .any, .any, .any, .any, .any, .any, .any, .any, .any, .any, .any, .any, .any, .any, .any, .any, .any, .any, .any, .any, .any, .any, .any, .any, .any, .any, .any, .any, .any, .any, .any, .any, .any, .any, .any, .any, .any, .any, .any, .any, .any, .any, .any] [(.o 1, .rows 17 n (gn s) true)] 2 [], [decide ((↑k : Int) < (↑n : Int)) = true, (0 : Int) ≤ (↑k : Int) ∧ (↑k : Int) < (↑n : Int), (decide (SSign.node (s (Int.toNat (↑k : Int))) = SSign.node x) && (decide (SSign.tag (s (Int.toNat (↑k : Int))) = SSign.tag x) && true)) = true, q2, q0, ∀ (k : Nat), k < n → true = true, ((0 : Nat) + n) * (24 : Nat) ≤ (140737488355328 : Nat), (0 : Nat) + n = n, ∀ (k : Nat), k < (0 : Nat) + n → [V.int IntKind.i64 (SSign.node (s (k - (0 : Nat)))), V.seg IntKind.u8 (16 : Nat) (SSign.tag (s (k - (0 : Nat))))] = [V.int IntKind.i64 (SSign.node (s k)), V.seg IntKind.u8 (16 : Nat) (SSign.tag (s k))], true = false → true = false, q0, q0, q0, (0 : Nat) + n = n, (none : Option Nat) = none ∨ (none : Option Nat) = none]) : Option (Exit × St × List Prop)) := by kernel_rfl
theorem pcAi_p101 (n : Nat) (s : Nat → SSign) (x : SSign) (k : Nat) :
  alongPc Try.prog (pcAi n s x k) [true, false, true] = (some (.ret, St.mk [.any, .any, .any, .any, .sl (.o 1) 17 0 0 0 n none, .any, .any, .any, .any, .any, .any, .any, .any, .any, .any, .any, .any, .any, .any, .any, .any, .any, .any, .any, .any, .any, .any, .any, .any, .any, .any, .any, .any, .any, .any, .any, .any, .any, .any, .any, .any, .any, .any, .any, .any, .any, .any, .any, .any, .any, .any, .any, .any, .any, .any, .any, .any, .any, .any, .any, .any, .any, .any, .any, .any, .any, .any, .any, .any] [(.o 1, .rows 17 n (gn s) true)] 2 [], [decide ((↑k : Int) < (↑n : Int)) = true, (0 : Int) ≤ (↑k : Int) ∧ (↑k : Int) < (↑n : Int), (decide (SSign.node (s (Int.toNat (↑k : Int))) = SSign.node x) && (decide (SSign.tag (s (Int.toNat (↑k : Int))) = SSign.tag x) && true)) = false, decide (SSign.node (s (Int.toNat (↑k : Int))) = SSign.node x) = true, q0, ∀ (k : Nat), k < n → true = true, ((0 : Nat) + n) * (24 : Nat) ≤ (140737488355328 : Nat), (0 : Nat) + n = n, ∀ (k : Nat), k < (0 : Nat) + n → [V.int IntKind.i64 (SSign.node (s (k - (0 : Nat)))), V.seg IntKind.u8 (16 : Nat) (SSign.tag (s (k - (0 : Nat))))] = [V.int IntKind.i64 (SSign.node (s k)), V.seg IntKind.u8 (16 : Nat) (SSign.tag (s k))], true = false → true = false, q0, q0, q0, (0 : Nat) + n = n, (none : Option Nat) = none ∨ (none : Option Nat) = none]) : Option (Exit × St × List Prop)) := by kernel_rfl
theorem pcAi_p100 (n : Nat) (s : Nat → SSign) (x : SSign) (k : Nat) :
  alongPc Try.prog (pcAi n s x k) [true, false, false] = (some (.normal, St.mk [.ros 17 n (fun i => SSign.c (s i)) false, .any, .any, .ptr (.o 0) 0 0 0 0, .any, .any, .any, .any, .any, .any, .any, .ros 17 n (fun i => SSign.c (s i)) false, .int .i64 ↑n, .int .i64 (↑(k + 1) : Int), .any, .any, .any, .any, .any, .any, .any, .any, .any, .any, .any, .any, .any, .any, .any, .any, .any, .any, .any, .any, .any, .any, .any, .any, .any, .any, .any, .any, .any, .any, .any, .any, .any, .any, .any, .any, .any, .any, .any, .any, .any, .any, .any, .any, .any, .any, .any, .any, .any, .any, .any, .any, .any, .any, .any] [(.o 0, .flat (SSign.c x))] 1 [], [decide ((↑k : Int) < (↑n : Int)) = true, (0 : Int) ≤ (↑k : Int) ∧ (↑k : Int) < (↑n : Int), (decide (SSign.node (s (Int.toNat (↑k : Int))) = SSign.node x) && (decide (SSign.tag (s (Int.toNat (↑k : Int))) = SSign.tag x) && true)) = false, decide (SSign.node (s (Int.toNat (↑k : Int))) = SSign.node x) = false, InR IntKind.i64 ((↑k : Int) + (1 : Int)), q (SSign.node x), q (16 : Nat), q (SSign.tag x), q n, ∀ (k : Nat), k < n → SSign.c (s k) = SSign.c (s k), false = true → false = true, q0, q0, q0, q n, ∀ (k : Nat), k < n → SSign.c (s k) = SSign.c (s k), false = true → false = true, q (↑n : Int), (↑k : Int) + (1 : Int) = (↑(k + (1 : Nat)) : Int)]) : Option (Exit × St × List Prop)) := by kernel_rfl
theorem pcAi_p0 (n : Nat) (s : Nat → SSign) (x : SSign) (k : Nat) :
  alongPc Try.prog (pcAi n s x k) [false] = (some (.exit 0, St.mk [.ros 17 n (fun i => SSign.c (s i)) false, .any, .any, .ptr (.o 0) 0 0 0 0, .any, .any, .any, .any, .any, .any, .any, .ros 17 n (fun i => SSign.c (s i)) false, .int .i64 ↑n, .int .i64 ↑n, .any, .any, .any, .any, .any, .any, .any, .any, .any, .any, .any, .any, .any, .any, .any, .any, .any, .any, .any, .any, .any, .any, .any, .any, .any, .any, .any, .any, .any, .any, .any, .any, .any, .any, .any, .any, .any, .any, .any, .any, .any, .any, .any, .any, .any, .any, .any, .any, .any, .any, .any, .any, .any, .any, .any] [(.o 0, .flat (SSign.c x))] 1 [], [decide ((↑k : Int) < (↑n : Int)) = false, q (SSign.node x), q (16 : Nat), q (SSign.tag x), q n, ∀ (k : Nat), k < n → SSign.c (s k) = SSign.c (s k), false = true → false = true, q0, q0, q0, q n, ∀ (k : Nat), k < n → SSign.c (s k) = SSign.c (s k), false = true → false = true, q (↑n : Int), (↑k : Int) = (↑n : Int)]) : Option (Exit × St × List Prop)) := by kernel_rfl

theorem pcAj_p11 (n : Nat) (s : Nat → SSign) (x : SSign) (k : Nat) (a : Nat) :
  alongPc Try.prog (pcAj n s x k a) [true, true] = (some (.exit 2, St.mk [.ros 17 n (fun i => SSign.c (s i)) false, .any, .any, .ptr (.o 0) 0 0 0 0, .any, .any, .any, .int .i64 ↑a, .any, .any, .any, .any, .any, .any, .any, .any, .any, .any, .any, .any, .any, .any, .any, .any, .any, .any, .any, .any, .any, .any, .any, .any, .any, .any, .any, .any, .any, .any, .any, .any, .any, .any, .any, .any, .any, .any, .any, .any, .any, .any, .any, .any, .any, .any, .any, .any, .any, .any, .any, .any, .any, .any, .any, .any, .any, .any, .any, .any, .any] [(.o 0, .flat (SSign.c x))] 1 [], [decide ((↑k : Int) < (↑n : Int)) = true, (0 : Int) ≤ (↑k : Int) ∧ (↑k : Int) < (↑n : Int), decide (SSign.node x < SSign.node (s (Int.toNat (↑k : Int)))) = true, q (SSign.node x), q (16 : Nat), q (SSign.tag x), q n, ∀ (k : Nat), k < n → SSign.c (s k) = SSign.c (s k), false = true → false = true, q0, q0, q0, (↑k : Int) = (↑a : Int)]) : Option (Exit × St × List Prop)) := by kernel_rfl
theorem pcAj_p10 (n : Nat) (s : Nat → SSign) (x : SSign) (k : Nat) (a : Nat) :
  alongPc Try.prog (pcAj n s x k a) [true, false] = (some (.normal, St.mk [.ros 17 n (fun i => SSign.c (s i)) false, .any, .any, .ptr (.o 0) 0 0 0 0, .any, .any, .any, .int .i64 ↑n, .any, .any, .any, .any, .any, .any, .any, .any, .any, .any, .any, .any, .any, .any, .any, .any, .any, .any, .any, .any, .any, .any, .any, .any, .any, .ros 17 n (fun i => SSign.c (s i)) false, .int .i64 ↑n, .int .i64 (↑(k + 1) : Int), .any, .any, .any, .any, .any, .any, .any, .any, .any, .any, .any, .any, .any, .any, .any, .any, .any, .any, .any, .any, .any, .any, .any, .any, .any, .any, .any, .any, .any, .any, .any, .any, .any] [(.o 0, .flat (SSign.c x))] 1 [], [decide ((↑k : Int) < (↑n : Int)) = true, (0 : Int) ≤ (↑k : Int) ∧ (↑k : Int) < (↑n : Int), decide (SSign.node x < SSign.node (s (Int.toNat (↑k : Int)))) = false, InR IntKind.i64 ((↑k : Int) + (1 : Int)), q (SSign.node x), q (16 : Nat), q (SSign.tag x), q n, ∀ (k : Nat), k < n → SSign.c (s k) = SSign.c (s k), false = true → false = true, q0, q0, q0, q (↑n : Int), q n, ∀ (k : Nat), k < n → SSign.c (s k) = SSign.c (s k), false = true → false = true, q (↑n : Int), (↑k : Int) + (1 : Int) = (↑(k + (1 : Nat)) : Int)]) : Option (Exit × St × List Prop)) := by kernel_rfl
theorem pcAj_p0 (n : Nat) (s : Nat → SSign) (x : SSign) (k : Nat) (a : Nat) :
  alongPc Try.prog (pcAj n s x k a) [false] = (some (.exit 2, St.mk [.ros 17 n (fun i => SSign.c (s i)) false, .any, .any, .ptr (.o 0) 0 0 0 0, .any, .any, .any, .int .i64 ↑a, .any, .any, .any, .any, .any, .any, .any, .any, .any, .any, .any, .any, .any, .any, .any, .any, .any, .any, .any, .any, .any, .any, .any, .any, .any, .any, .any, .any, .any, .any, .any, .any, .any, .any, .any, .any, .any, .any, .any, .any, .any, .any, .any, .any, .any, .any, .any, .any, .any, .any, .any, .any, .any, .any, .any, .any, .any, .any, .any, .any, .any] [(.o 0, .flat (SSign.c x))] 1 [], [decide ((↑k : Int) < (↑n : Int)) = false, q (SSign.node x), q (16 : Nat), q (SSign.tag x), q n, ∀ (k : Nat), k < n → SSign.c (s k) = SSign.c (s k), false = true → false = true, q0, q0, q0, (↑n : Int) = (↑a : Int)]) : Option (Exit × St × List Prop)) := by kernel_rfl

theorem atS_le (s : Nat → SSign) (v : Int) (n : Nat) : atS s v n ≤ n := by
 induction n with
 | zero => exact Nat.le_refl _
 | succ n ih => rw [atS]; split <;> (try split) <;> omega
theorem atS_lt {s : Nat → SSign} {v : Int} {n k : Nat} (h : k < atS s v n) : ¬ v < (s k).node := by
 induction n with
 | zero => rw [atS] at h; omega
 | succ n ih =>
  rw [atS] at h
  have := atS_le s v n
  split at h
  ·exact ih h
  ·split at h
   ·exact ih (by omega)
   ·rcases Nat.lt_or_ge k (atS s v n) with h1 | h1
    ·exact ih h1
    ·obtain rfl : k = n := by omega
     assumption
theorem atS_gt {s : Nat → SSign} {v : Int} {n : Nat} (h : atS s v n < n) : v < (s (atS s v n)).node := by
 induction n with
 | zero => omega
 | succ n ih =>
  rw [atS] at h ⊢
  have := atS_le s v n
  split
  ·exact ih (by assumption)
  ·split
   ·assumption
   ·rename_i h1 h2
    rw [if_neg h1, if_neg h2] at h
    omega
theorem atS_eq {s : Nat → SSign} {v : Int} {n m : Nat} (h1 : m ≤ n) (h2 : ∀ k, k < m → ¬ v < (s k).node) (h3 : m < n → v < (s m).node) : atS s v n = m := by
 have h4 := atS_le s v n
 rcases Nat.lt_trichotomy (atS s v n) m with h | h | h
 ·exact (h2 _ h (atS_gt (by omega))).elim
 ·exact h
 ·exact (atS_lt h (h3 (by omega))).elim
def hasN (s : Nat → SSign) (n : Nat) (v : Int) : Bool := (List.range n).any fun i => decide ((s i).node = v)
theorem hasN_true {s : Nat → SSign} {n : Nat} {v : Int} (k : Nat) (h : k < n) (e : (s k).node = v) : hasN s n v = true :=
 List.any_eq_true.2 ⟨k, List.mem_range.2 h, decide_eq_true e⟩
theorem hasN_false {s : Nat → SSign} {n : Nat} {v : Int} (h : ∀ k, k < n → ¬ (s k).node = v) : hasN s n v = false := by
 rw [hasN, List.any_eq_false]
 intro k hk
 rw [decide_eq_true_eq]; exact h k (List.mem_range.1 hk)
def addN (s : Nat → SSign) (n : Nat) (x : SSign) : Nat := if hasN s n x.node = true then n else n + 1
def addS (s : Nat → SSign) (n : Nat) (x : SSign) : Nat → SSign := if hasN s n x.node = true then s else insS s (atS s x.node n) x
theorem sliceSg : ∃ ie, Try.prog.underlying 33 = some (.slice 37) ∧ Try.prog.info? 37 = some ie ∧ ie.size = 17 := ⟨(Try.prog.info? 37).get (by kernel_rfl), Try.underlying33, by kernel_rfl, by kernel_rfl⟩
theorem rowsAdd {s : Nat → SSign} {x : SSign} {n a : Nat} (ha : a ≤ n) (k : Nat) (hk : k < n + 1) :
  setF (fun k => Bool.rec [V.int .i64 (cutS s a k).node, V.seg .u8 16 (cutS s a k).tag] [V.int .i64 x.node, V.seg .u8 16 x.tag] (Nat.beq k a)) (bif Nat.beq (a + 1) (n + 1) then 0 else a + 1) (Nat.min (n - a) (n + 1 - (a + 1))) (fun k => (s (a + k)).c) k = [V.int .i64 (insS s a x k).node, V.seg .u8 16 (insS s a x k).tag] := by
 have hm : Nat.min (n - a) (n + 1 - (a + 1)) = n - a := by
  have : n + 1 - (a + 1) = n - a := by omega
  rw [this]; exact Nat.min_self _
 rw [hm]
 rcases Nat.lt_trichotomy k a with h | h | h
 ·have hb : Nat.beq k a = false := by
   cases hh : Nat.beq k a with
   | true => have := Nat.eq_of_beq_eq_true hh; omega
   | false => rfl
  rw [setF_out, hb, insS, if_pos h, cutS, if_pos h]
  cases hq : Nat.beq (a + 1) (n + 1) with
  | true => have := Nat.eq_of_beq_eq_true hq; simp only [cond_true]; omega
  | false => simp only [cond_false]; omega
 ·subst h
  rw [setF_out, Nat.beq_refl, insS, if_neg (by omega), if_pos rfl]
  cases hq : Nat.beq (k + 1) (n + 1) with
  | true => have := Nat.eq_of_beq_eq_true hq; simp only [cond_true]; omega
  | false => simp only [cond_false]; omega
 ·have hq : Nat.beq (a + 1) (n + 1) = false := by
   cases hh : Nat.beq (a + 1) (n + 1) with
   | true => have := Nat.eq_of_beq_eq_true hh; omega
   | false => rfl
  rw [hq, cond_false, setF_in (by omega) (by omega), insS, if_neg (by omega), if_neg (by omega), show a + (k - (a + 1)) = k - 1 by omega]
  rfl
theorem rowsCut {s : Nat → SSign} {n a : Nat} (ha : a ≤ n) (k : Nat) (hk : k < n + 1) :
  setF (fun _ => [V.int .i64 0, V.seg .u8 16 [0, 0, 0, 0, 0, 0, 0, 0, 0, 0, 0, 0, 0, 0, 0, 0]]) 0 (Nat.min a (n + 1)) (fun i => (s i).c) k = [V.int .i64 (cutS s a k).node, V.seg .u8 16 (cutS s a k).tag] := by
 have hm : Nat.min a (n + 1) = a := Nat.min_eq_left (by omega)
 rw [hm]
 by_cases h : k < a
 ·rw [setF_in (Nat.zero_le _) (by omega), Nat.sub_zero, cutS, if_pos h]; rfl
 ·rw [setF_out (by omega), cutS, if_neg h]; rfl
theorem T_ad {n : Nat} (s : Nat → SSign) (x : SSign) (hn : n ≤ 1000000) : T Try.prog 25 [sg n s, .agg x.c] [] (sgs 1 (addN s n x)) [(.o 1, sgB (addN s n x) (addS s n x))] := by
 rcases loop_all (P := Try.prog) (ro := none) (p := 0) (c := cB (cB (cR (cL (cB (cR (bodyOf Try.f25))))))) (I := adI n s x) (F := fun _ => adR n s) (e := fun _ => .ret) (q := fun k => ¬ (s k).node = x.node) (n := n)
   (fun k hk hq => by
    refine R_alongPc NG MO _ (pcAi_p100 n s x k) ?_ (Nat.zero_le _)
    have e1 : (decide ((s k).node = x.node) && (decide ((s k).tag = x.tag) && true)) = false := by rw [decide_eq_false hq]; rfl
    simp only [All, Int.toNat_natCast]; and_intros
    all_goals first
     | exact e1
     | exact decide_eq_true hq
     | exact decide_eq_false hq
     | exact True.intro
     | (with_reducible assumption)
     | (rw [decide_eq_true_eq]; omega)
     | (rw [decide_eq_false_iff_not]; omega)
     | with_reducible rfl
     | (intro _ _; with_reducible rfl)
     | (intro _ _; trivial)
     | (intro _ _; rfl)
     | (simp only [IntKind.min, IntKind.max, IntKind.signed, IntKind.bits, if_true]; omega)
     | omega
     | (intro h; exact h)
     | (intro h; cases h; done)
     | exact .inl rfl
     | exact .inl trivial
     | exact .inr True.intro
     | trivial)
   (fun k hk hq => by
    have hq := Classical.not_not.1 hq
    by_cases ht : (s k).tag = x.tag
    ·refine R_alongPc NG MO _ (pcAi_p111 n s x k) ?_ (Nat.zero_le _)
     have e1 : (decide ((s k).node = x.node) && (decide ((s k).tag = x.tag) && true)) = true := by rw [decide_eq_true hq, decide_eq_true ht]; rfl
     simp only [All, Int.toNat_natCast, Nat.zero_add]; and_intros
     all_goals first
      | exact e1
      | exact decide_eq_true hq
      | exact True.intro
      | (with_reducible assumption)
      | (rw [decide_eq_true_eq]; omega)
      | (rw [decide_eq_false_iff_not]; omega)
      | with_reducible rfl
      | (intro _ _; with_reducible rfl)
      | (intro _ _; trivial)
      | (intro _ _; rfl)
      | (simp only [IntKind.min, IntKind.max, IntKind.signed, IntKind.bits, if_true]; omega)
      | omega
      | (intro h; exact h)
      | (intro h; cases h; done)
      | exact .inl rfl
      | exact .inl trivial
      | exact .inr True.intro
      | trivial
    ·refine R_alongPc NG MO _ (pcAi_p101 n s x k) ?_ (Nat.zero_le _)
     have e1 : (decide ((s k).node = x.node) && (decide ((s k).tag = x.tag) && true)) = false := by rw [decide_eq_false ht, Bool.false_and, Bool.and_false]
     simp only [All, Int.toNat_natCast, Nat.zero_add]; and_intros
     all_goals first
      | exact e1
      | exact decide_eq_true hq
      | exact True.intro
      | (with_reducible assumption)
      | (rw [decide_eq_true_eq]; omega)
      | (rw [decide_eq_false_iff_not]; omega)
      | with_reducible rfl
      | (intro _ _; with_reducible rfl)
      | (intro _ _; trivial)
      | (intro _ _; rfl)
      | (simp only [IntKind.min, IntKind.max, IntKind.signed, IntKind.bits, if_true]; omega)
      | omega
      | (intro h; exact h)
      | (intro h; cases h; done)
      | exact .inl rfl
      | exact .inl trivial
      | exact .inr True.intro
      | trivial)
   (by simp) (R_alongPc NG MO _ (pcAi_p0 n s x n) (by
    simp only [All, Int.toNat_natCast]; and_intros
    all_goals first
     | exact True.intro
     | (with_reducible assumption)
     | (rw [decide_eq_true_eq]; omega)
     | (rw [decide_eq_false_iff_not]; omega)
     | with_reducible rfl
     | (intro _ _; with_reducible rfl)
     | (intro _ _; trivial)
     | (intro _ _; rfl)
     | (simp only [IntKind.min, IntKind.max, IntKind.signed, IntKind.bits, if_true]; omega)
     | omega
     | (intro h; exact h)
     | (intro h; cases h; done)
     | exact .inl rfl
     | exact .inl trivial
     | exact .inr True.intro
     | trivial) (Nat.zero_le _)) (by simp) with ⟨h, hL⟩ | ⟨m, hm, _, hq, hL⟩
 ·have hf : hasN s n x.node = false := hasN_false h
  obtain ⟨m2, hL2⟩ : ∃ m2, RLoop Try.prog none 0 (cB (cB (cR (cL (cR (cR (cR (cB (cR (bodyOf Try.f25)))))))))) (m2 + 1) (adJ n s x 0) (.exit 2) (adK n s x (atS s x.node n)) := by
   rcases loop_all (P := Try.prog) (ro := none) (p := 0) (c := cB (cB (cR (cL (cR (cR (cR (cB (cR (bodyOf Try.f25)))))))))) (I := adJ n s x) (F := fun m => adK n s x m) (e := fun _ => .exit 2) (q := fun k => ¬ x.node < (s k).node) (n := n)
     (fun k hk hq => by
      refine R_alongPc NG MO _ (pcAj_p10 n s x k 0) ?_ (Nat.zero_le _)
      simp only [All, Int.toNat_natCast]; and_intros
      all_goals first
       | exact True.intro
       | (with_reducible assumption)
       | (rw [decide_eq_true_eq]; omega)
       | (rw [decide_eq_false_iff_not]; omega)
       | with_reducible rfl
       | (intro _ _; with_reducible rfl)
       | (intro _ _; trivial)
       | (intro _ _; rfl)
       | (simp only [IntKind.min, IntKind.max, IntKind.signed, IntKind.bits, if_true]; omega)
       | omega
       | (intro h; exact h)
       | (intro h; cases h; done)
       | exact .inl rfl
       | exact .inl trivial
       | exact .inr True.intro
       | trivial)
     (fun k hk hq => by
      have hq := Classical.not_not.1 hq
      refine R_alongPc NG MO _ (pcAj_p11 n s x k k) ?_ (Nat.zero_le _)
      simp only [All, Int.toNat_natCast]; and_intros
      all_goals first
       | exact True.intro
       | (with_reducible assumption)
       | (rw [decide_eq_true_eq]; omega)
       | (rw [decide_eq_false_iff_not]; omega)
       | with_reducible rfl
       | (intro _ _; with_reducible rfl)
       | (intro _ _; trivial)
       | (intro _ _; rfl)
       | (simp only [IntKind.min, IntKind.max, IntKind.signed, IntKind.bits, if_true]; omega)
       | omega
       | (intro h; exact h)
       | (intro h; cases h; done)
       | exact .inl rfl
       | exact .inl trivial
       | exact .inr True.intro
       | trivial)
     (by simp) (R_alongPc NG MO _ (pcAj_p0 n s x n n) (by
      simp only [All, Int.toNat_natCast]; and_intros
      all_goals first
       | exact True.intro
       | (with_reducible assumption)
       | (rw [decide_eq_true_eq]; omega)
       | (rw [decide_eq_false_iff_not]; omega)
       | with_reducible rfl
       | (intro _ _; with_reducible rfl)
       | (intro _ _; trivial)
       | (intro _ _; rfl)
       | (simp only [IntKind.min, IntKind.max, IntKind.signed, IntKind.bits, if_true]; omega)
       | omega
       | (intro h; exact h)
       | (intro h; cases h; done)
       | exact .inl rfl
       | exact .inl trivial
       | exact .inr True.intro
       | trivial) (Nat.zero_le _)) (by simp) with ⟨g, hL2⟩ | ⟨m, hm, g1, g2, hL2⟩
   ·exact ⟨n, by rw [atS_eq (Nat.le_refl n) g (fun h => by omega)]; exact hL2⟩
   ·exact ⟨m, by rw [atS_eq (Nat.le_of_lt hm) g1 (fun _ => Classical.not_not.1 g2)]; exact hL2⟩
  have ha := atS_le s x.node n
  obtain ⟨ie, i1, i2, i3⟩ := sliceSg
  rw [addN, addS, if_neg (by rw [hf]; simp), if_neg (by rw [hf]; simp)]
  generalize atS s x.node n = a at hL2 ha
  have en : Int.toNat ((n : Int) + 1) = n + 1 := by omega
  have ea : Int.toNat ((a : Int) + 1) = a + 1 := by omega
  have hF : TO Try.prog (.sliceFrom 33) [.sl (.o 1) 17 0 0 0 (n + 1) (some (n + 1)), .int .i64 ((a : Int) + 1)] [] (.sl (.o 1) 17 (bif Nat.beq (a + 1) (n + 1) then 0 else a + 1) 0 0 (n + 1 - (a + 1)) (some (n + 1 - (a + 1)))) [] := by
   have h0 := TO_from (P := Try.prog) (a := .o 1) (i := 0) (len := n + 1) (c := n + 1) (l := a + 1) i1 i2 i3 (by omega)
   rw [Nat.zero_add] at h0
   exact h0
  have hC : TO Try.prog (.copy 33 33) [.sl (.o 1) 17 (bif Nat.beq (a + 1) (n + 1) then 0 else a + 1) 0 0 (n + 1 - (a + 1)) (some (n + 1 - (a + 1))), .ros 17 (n - a) (fun k => (s (a + k)).c) false]
    [(.o 1, .rows 17 (n + 1) (fun k => Bool.rec [V.int .i64 (cutS s a k).node, V.seg .u8 16 (cutS s a k).tag] [V.int .i64 x.node, V.seg .u8 16 x.tag] (Nat.beq k a)) true)] (.int .i64 (Nat.min (n - a) (n + 1 - (a + 1)) : Nat))
    [(.o 1, .rows 17 (n + 1) (setF (fun k => Bool.rec [V.int .i64 (cutS s a k).node, V.seg .u8 16 (cutS s a k).tag] [V.int .i64 x.node, V.seg .u8 16 x.tag] (Nat.beq k a)) (bif Nat.beq (a + 1) (n + 1) then 0 else a + 1) (Nat.min (n - a) (n + 1 - (a + 1))) (fun k => (s (a + k)).c)) true)] := by
   refine TO_copy i1 i2 i3 ?_ (fun k hk => by rfl) (by omega)
   have h1 := Nat.min_le_left (n - a) (n + 1 - (a + 1))
   change Nat.min (n - a) (n + 1 - (a + 1)) ≤ n - a at h1
   cases hq : Nat.beq (a + 1) (n + 1) with
   | true => have := Nat.eq_of_beq_eq_true hq; simp only [cond_true]; omega
   | false => simp only [cond_false]; omega
  have e0 : (Bool.rec (a + 1) 0 (Nat.beq (a + 1) (n + 1)) : Nat) = (bif Nat.beq (a + 1) (n + 1) then 0 else a + 1) := by cases Nat.beq (a + 1) (n + 1) <;> rfl
  refine T_al (bdAd_p1 n s x m2 a) Try.func25 ?_
  refine ⟨hL, ?_⟩
  simp only [All, Int.toNat_natCast, Nat.zero_add, en, ea, natO, shiftF, addO, Nat.sub_zero, e0]; and_intros
  all_goals first
   | exact hL2
   | (intro k hk; exact rowsCut ha k hk)
   | (intro k hk; exact rowsAdd ha k hk)
   | exact TO_copy i1 i2 i3 (by simp only [Nat.zero_add]; exact Nat.min_le_right _ _) (fun k hk => by rfl) (by omega)
   | exact hF
   | exact hC
   | exact True.intro
   | (with_reducible assumption)
   | (rw [decide_eq_true_eq]; omega)
   | (rw [decide_eq_false_iff_not]; omega)
   | with_reducible rfl
   | (intro _ _; with_reducible rfl)
   | (intro _ _; trivial)
   | (intro _ _; rfl)
   | (simp only [IntKind.min, IntKind.max, IntKind.signed, IntKind.bits, if_true]; omega)
   | omega
   | (intro h; exact h)
   | (intro h; cases h; done)
   | exact .inl rfl
   | exact .inl trivial
   | exact .inr True.intro
   | trivial
 ·have hq := Classical.not_not.1 hq
  have hf : hasN s n x.node = true := hasN_true m hm hq
  rw [addN, addS, if_pos hf, if_pos hf]
  refine T_al (bdAd_p0 n s x m 0) Try.func25 ?_
  refine ⟨hL, ?_⟩
  simp only [All, Int.toNat_natCast, Nat.zero_add]; and_intros
  all_goals first
   | exact True.intro
   | (with_reducible assumption)
   | (rw [decide_eq_true_eq]; omega)
   | (rw [decide_eq_false_iff_not]; omega)
   | with_reducible rfl
   | (intro _ _; with_reducible rfl)
   | (intro _ _; trivial)
   | (intro _ _; rfl)
   | (simp only [IntKind.min, IntKind.max, IntKind.signed, IntKind.bits, if_true]; omega)
   | omega
   | (intro h; exact h)
   | (intro h; cases h; done)
   | exact .inl rfl
   | exact .inl trivial
   | exact .inr True.intro
   | trivial
end Go.Proofs.Ytpallipnhmoipaa
namespace Go.Proofs.Ytpallipnhmoipaa
open Go Sy Go.Proofs
def raI (n : Nat) (s : Nat → SSign) (x : SSign) (k : Nat) : St := ⟨mkT 62 [(0, sg n s), (3, .ptr (.o 0) 0 0 0 0), (5, .snil), (6, .int .i64 k)], hpA x, 1, []⟩
def raR (n : Nat) (s : Nat → SSign) : St := ⟨mkT 62 [(4, sgs 1 n)], [(.o 1, sgB n s)], 2, []⟩
def raJ (n : Nat) (s : Nat → SSign) (x : SSign) (m : Nat) (o : Nat → SSign) (d : Bool) (k : Nat) : St := ⟨mkT 62 [(0, sg n s), (3, .ptr (.o 0) 0 0 0 0), (5, sgs 1 m), (7, .bool d), (8, .int .i64 k)], hpA x ++ [(.o 1, sgB m o)], 2, []⟩
def raF (n : Nat) (s : Nat → SSign) : St := ⟨mkT 62 [(5, sgs 1 n)], [(.o 1, sgB n s)], 2, []⟩
noncomputable def bdRa (n : Nat) (s : Nat → SSign) (x : SSign) (m m1 : Nat) (o1 : Nat → SSign) (d1 : Bool) (m2 : Nat) (o2 : Nat → SSign) : Bd := { f := Try.f27, args := [sg n s, .agg x.c], kb := { db := fun _ _ _ _ => [], lp := fun id t => bif Nat.beq id 0 then [(True, .loop (n + 1) (wToS [(.o 0, nmV (getV t.tmps 3))] (raI n s x 0)) (.exit 0) (raI n s x n)), (True, .loop (m + 1) (wToS [(.o 0, nmV (getV t.tmps 3))] (raI n s x 0)) .ret (raR n s))] else [(True, .loop (n + 1) (wToS [(.o 0, nmV (getV t.tmps 3)), (.o 1, nmV (getV t.tmps 5))] (raJ n s x 0 s false 0)) (.exit 2) (raJ n s x m1 o1 d1 n))], fx := fun id t => bif Nat.beq id 7 then [.virt 5 17] else bif Nat.beq id 17 then [.wk (wToS [(.o 1, nmV (getV t.tmps 5))] (raF m2 o2))] else [] }, names := fun _ => [.o 1] }
noncomputable def pcRi (n : Nat) (s : Nat → SSign) (x : SSign) (k : Nat) : Pc := { c := cB (cB (cR (cL (cR (cR (bodyOf Try.f27)))))), st := raI n s x k, kb := kb0, k := fun e_ t => match e_ with
 | .normal => some (wTo (raI n s x (k + 1)))
 | .ret => some (wToS [(.o 1, nmV (getV t.tmps 4))] (raR n s))
 | _ => some (wTo (raI n s x n)) }
noncomputable def pcRo (n : Nat) (s : Nat → SSign) (x : SSign) (m : Nat) (o : Nat → SSign) (d : Bool) (k : Nat) (m2 : Nat) (o2 : Nat → SSign) (d2 : Bool) : Pc := { c := cB (cB (cR (cL (cR (cR (cR (cR (bodyOf Try.f27)))))))), st := raJ n s x m o d k, kb := kb0, k := fun e_ t => match e_ with
 | .normal => some (wToS [(.o 1, nmV (getV t.tmps 5))] (raJ n s x m2 o2 d2 (k + 1)))
 | _ => some (wTo (raJ n s x m o d n)) }
def saI (n : Nat) (s : Nat → SSign) (m : Nat) (u : Nat → SSign) (k : Nat) : St := ⟨mkT 26 [(0, sg n s), (1, sg m u), (5, .int .i64 k)], [], 0, []⟩
def saF : St := ⟨mkT 26 [(4, .bool false)], [], 0, []⟩
noncomputable def bdSa (n : Nat) (s : Nat → SSign) (m : Nat) (u : Nat → SSign) (j : Nat) : Bd := { f := Try.f26, args := [sg n s, sg m u], kb := { db := fun _ _ _ _ => [], lp := fun _ _ => [(True, .loop (n + 1) (wTo (saI n s m u 0)) (.exit 0) (saI n s m u n)), (True, .loop (j + 1) (wTo (saI n s m u 0)) .ret saF)] } }
noncomputable def pcSa (n : Nat) (s : Nat → SSign) (m : Nat) (u : Nat → SSign) (k : Nat) : Pc := { c := cB (cB (cR (cL (cR (cR (bodyOf Try.f26)))))), st := saI n s m u k, kb := kb0, k := fun e_ _ => match e_ with
 | .normal => some (wTo (saI n s m u (k + 1)))
 | .ret => some (wTo saF)
 | _ => some (wTo (saI n s m u n)) }
end Go.Proofs.Ytpallipnhmoipaa
namespace Go.Proofs.Ytpallipnhmoipaa
open Go Sy Go.Proofs
noncomputable def bdRa_c (n : Nat) (s : Nat → SSign) (x : SSign) (m : Nat) (m1 : Nat) (o1 : Nat → SSign) (d1 : Bool) (m2 : Nat) (o2 : Nat → SSign) : Nat → List Prop
 | 0 => [RLoop Try.prog none 0 (cB (cB (cR (cL (cR (cR (bodyOf (Bd.f (bdRa n s x m m1 o1 d1 m2 o2))))))))) (n + 1) (St.mk [.ros 17 n (fun i => SSign.c (s i)) false, .any, .any, .ptr (.o 0) 0 0 0 0, .any, .snil, .int .i64 0, .any, .any, .any, .any, .any, .any, .any, .any, .any, .any, .any, .any, .any, .any, .any, .any, .any, .any, .any, .any, .any, .any, .any, .any, .any, .any, .any, .any, .any, .any, .any, .any, .any, .any, .any, .any, .any, .any, .any, .any, .any, .any, .any, .any, .any, .any, .any, .any, .any, .any, .any, .any, .any, .any, .any] [(.o 0, .flat (SSign.c x))] 1 []) (.exit 0) (St.mk [.ros 17 n (fun i => SSign.c (s i)) false, .any, .any, .ptr (.o 0) 0 0 0 0, .any, .snil, .int .i64 ↑n, .any, .any, .any, .any, .any, .any, .any, .any, .any, .any, .any, .any, .any, .any, .any, .any, .any, .any, .any, .any, .any, .any, .any, .any, .any, .any, .any, .any, .any, .any, .any, .any, .any, .any, .any, .any, .any, .any, .any, .any, .any, .any, .any, .any, .any, .any, .any, .any, .any, .any, .any, .any, .any, .any, .any] [(.o 0, .flat (SSign.c x))] 1 []), q (SSign.node x), q (16 : Nat), q (SSign.tag x), q n, ∀ (k : Nat), k < n → SSign.c (s k) = SSign.c (s k), false = true → false = true, q0, q0, q0, q1, RLoop Try.prog none 0 (cB (cB (cR (cL (cR (cR (cR (cR (bodyOf (Bd.f (bdRa n s x m m1 o1 d1 m2 o2))))))))))) (n + 1) (St.mk [.ros 17 n (fun i => SSign.c (s i)) false, .any, .any, .ptr (.o 0) 0 0 0 0, .any, .sl (.o 1) 17 0 0 0 0 none, .any, .bool false, .int .i64 0, .any, .any, .any, .any, .any, .any, .any, .any, .any, .any, .any, .any, .any, .any, .any, .any, .any, .any, .any, .any, .any, .any, .any, .any, .any, .any, .any, .any, .any, .any, .any, .any, .any, .any, .any, .any, .any, .any, .any, .any, .any, .any, .any, .any, .any, .any, .any, .any, .any, .any, .any, .any, .any] [(.o 0, .flat (SSign.c x)), (.o 1, .rows 17 0 (gn s) true)] 2 []) (.exit 2) (St.mk [.ros 17 n (fun i => SSign.c (s i)) false, .any, .any, .ptr (.o 0) 0 0 0 0, .any, .sl (.o 1) 17 0 0 0 m1 none, .any, .bool d1, .int .i64 ↑n, .any, .any, .any, .any, .any, .any, .any, .any, .any, .any, .any, .any, .any, .any, .any, .any, .any, .any, .any, .any, .any, .any, .any, .any, .any, .any, .any, .any, .any, .any, .any, .any, .any, .any, .any, .any, .any, .any, .any, .any, .any, .any, .any, .any, .any, .any, .any, .any, .any, .any, .any, .any, .any] [(.o 0, .flat (SSign.c x)), (.o 1, .rows 17 m1 (gn o1) true)] 2 []), q (SSign.node x), q (16 : Nat), q (SSign.tag x), q0, ∀ (k : Nat), k < (0 : Nat) → [] = [V.int IntKind.i64 (SSign.node (s k)), V.seg IntKind.u8 (16 : Nat) (SSign.tag (s k))], true = false → true = false, q n, ∀ (k : Nat), k < n → SSign.c (s k) = SSign.c (s k), false = true → false = true, q0, q0, q0, q0, q0, q0, q0, (none : Option Nat) = none ∨ (none : Option Nat) = none, q false, q1]
 | _ => []
theorem bdRa_p11 (n : Nat) (s : Nat → SSign) (x : SSign) (m : Nat) (m1 : Nat) (o1 : Nat → SSign) (d1 : Bool) (m2 : Nat) (o2 : Nat → SSign) :
 along Try.prog (bdRa n s x m m1 o1 d1 m2 o2) [true, true] = (some (.sl (.o 1) 17 0 0 0 m2 none, [(.o 1, .rows 17 m2 (gn o2) true)], bdRa_c n s x m m1 o1 d1 m2 o2 0 ++ [(!d1) = true, q m1, nat_lit 1 ≤ (1 : Nat), ∀ (k : Nat), k < (1 : Nat) → solid (getL [[V.int IntKind.i64 (SSign.node x), V.seg IntKind.u8 (16 : Nat) (SSign.tag x)]] ((0 : Nat) + k)) = true, (m1 + (1 : Nat)) * (24 : Nat) ≤ (140737488355328 : Nat), m1 + (1 : Nat) = m2, ∀ (k : Nat), k < m1 + (1 : Nat) → catF m1 (gn o1) (fun k => getL [[V.int IntKind.i64 (SSign.node x), V.seg IntKind.u8 (16 : Nat) (SSign.tag x)]] ((0 : Nat) + k)) k = [V.int IntKind.i64 (SSign.node (o2 k)), V.seg IntKind.u8 (16 : Nat) (SSign.tag (o2 k))], true = false → true = false, q0, q0, q0, m1 + (1 : Nat) = m2, (none : Option Nat) = none ∨ (none : Option Nat) = none]) : Option (V × Heap × List Prop)) := by kernel_rfl
theorem bdRa_p10 (n : Nat) (s : Nat → SSign) (x : SSign) (m : Nat) (m1 : Nat) (o1 : Nat → SSign) (d1 : Bool) (m2 : Nat) (o2 : Nat → SSign) :
 along Try.prog (bdRa n s x m m1 o1 d1 m2 o2) [true, false] = (some (.sl (.o 1) 17 0 0 0 m2 none, [(.o 1, .rows 17 m2 (gn o2) true)], bdRa_c n s x m m1 o1 d1 m2 o2 0 ++ [(!d1) = false, m1 = m2, ∀ (k : Nat), k < m1 → [V.int IntKind.i64 (SSign.node (o1 k)), V.seg IntKind.u8 (16 : Nat) (SSign.tag (o1 k))] = [V.int IntKind.i64 (SSign.node (o2 k)), V.seg IntKind.u8 (16 : Nat) (SSign.tag (o2 k))], true = false → true = false, q0, q0, q0, m1 = m2, (none : Option Nat) = none ∨ (none : Option Nat) = none]) : Option (V × Heap × List Prop)) := by kernel_rfl
theorem bdRa_p0 (n : Nat) (s : Nat → SSign) (x : SSign) (m : Nat) (m1 : Nat) (o1 : Nat → SSign) (d1 : Bool) (m2 : Nat) (o2 : Nat → SSign) :
 along Try.prog (bdRa n s x m m1 o1 d1 m2 o2) [false] = (some (.sl (.o 1) 17 0 0 0 n none, [(.o 1, .rows 17 n (gn s) true)], [RLoop Try.prog none 0 (cB (cB (cR (cL (cR (cR (bodyOf (Bd.f (bdRa n s x m m1 o1 d1 m2 o2))))))))) (m + 1) (St.mk [.ros 17 n (fun i => SSign.c (s i)) false, .any, .any, .ptr (.o 0) 0 0 0 0, .any, .snil, .int .i64 0, .any, .any, .any, .any, .any, .any, .any, .any, .any, .any, .any, .any, .any, .any, .any, .any, .any, .any, .any, .any, .any, .any, .any, .any, .any, .any, .any, .any, .any, .any, .any, .any, .any, .any, .any, .any, .any, .any, .any, .any, .any, .any, .any, .any, .any, .any, .any, .any, .any, .any, .any, .any, .any, .any, .any] [(.o 0, .flat (SSign.c x))] 1 []) .ret (St.mk [.any, .any, .any, .any, .sl (.o 1) 17 0 0 0 n none, .any, .any, .any, .any, .any, .any, .any, .any, .any, .any, .any, .any, .any, .any, .any, .any, .any, .any, .any, .any, .any, .any, .any, .any, .any, .any, .any, .any, .any, .any, .any, .any, .any, .any, .any, .any, .any, .any, .any, .any, .any, .any, .any, .any, .any, .any, .any, .any, .any, .any, .any, .any, .any, .any, .any, .any, .any] [(.o 1, .rows 17 n (gn s) true)] 2 []), q (SSign.node x), q (16 : Nat), q (SSign.tag x), q n, ∀ (k : Nat), k < n → SSign.c (s k) = SSign.c (s k), false = true → false = true, q0, q0, q0, q1]) : Option (V × Heap × List Prop)) := by kernel_rfl

theorem pcRi_p11 (n : Nat) (s : Nat → SSign) (x : SSign) (k : Nat) :
  alongPc Try.prog (pcRi n s x k) [true, true] = (some (.ret, St.mk [.any, .any, .any, .any, .sl (.o 1) 17 0 0 0 n none, .any, .any, .any, .any, .any, .any, .any, .any, .any, .any, .any, .any, .any, .any, .any, .any, .any, .any, .any, .any, .any, .any, .any, .any, .any, .any, .any, .any, .any, .any, .any, .any, .any, .any, .any, .any, .any, .any, .any, .any, .any, .any, .any, .any, .any, .any, .any, .any, .any, .any, .any, .any, .any, .any, .any, .any, .any] [(.o 1, .rows 17 n (gn s) true)] 2 [], [decide ((↑k : Int) < (↑n : Int)) = true, (0 : Int) ≤ (↑k : Int) ∧ (↑k : Int) < (↑n : Int), decide (SSign.node (s (Int.toNat (↑k : Int))) = SSign.node x) = true, q0, ∀ (k : Nat), k < n → true = true, ((0 : Nat) + n) * (24 : Nat) ≤ (140737488355328 : Nat), (0 : Nat) + n = n, ∀ (k : Nat), k < (0 : Nat) + n → [V.int IntKind.i64 (SSign.node (s (k - (0 : Nat)))), V.seg IntKind.u8 (16 : Nat) (SSign.tag (s (k - (0 : Nat))))] = [V.int IntKind.i64 (SSign.node (s k)), V.seg IntKind.u8 (16 : Nat) (SSign.tag (s k))], true = false → true = false, q0, q0, q0, (0 : Nat) + n = n, (none : Option Nat) = none ∨ (none : Option Nat) = none]) : Option (Exit × St × List Prop)) := by kernel_rfl
theorem pcRi_p10 (n : Nat) (s : Nat → SSign) (x : SSign) (k : Nat) :
  alongPc Try.prog (pcRi n s x k) [true, false] = (some (.normal, St.mk [.ros 17 n (fun i => SSign.c (s i)) false, .any, .any, .ptr (.o 0) 0 0 0 0, .any, .snil, .int .i64 (↑(k + 1) : Int), .any, .any, .any, .any, .any, .any, .any, .any, .any, .any, .any, .any, .any, .any, .any, .any, .any, .any, .any, .any, .any, .any, .any, .any, .any, .any, .any, .any, .any, .any, .any, .any, .any, .any, .any, .any, .any, .any, .any, .any, .any, .any, .any, .any, .any, .any, .any, .any, .any, .any, .any, .any, .any, .any, .any] [(.o 0, .flat (SSign.c x))] 1 [], [decide ((↑k : Int) < (↑n : Int)) = true, (0 : Int) ≤ (↑k : Int) ∧ (↑k : Int) < (↑n : Int), decide (SSign.node (s (Int.toNat (↑k : Int))) = SSign.node x) = false, InR IntKind.i64 ((↑k : Int) + (1 : Int)), q (SSign.node x), q (16 : Nat), q (SSign.tag x), q n, ∀ (k : Nat), k < n → SSign.c (s k) = SSign.c (s k), false = true → false = true, q0, q0, q0, (↑k : Int) + (1 : Int) = (↑(k + (1 : Nat)) : Int)]) : Option (Exit × St × List Prop)) := by kernel_rfl
theorem pcRi_p0 (n : Nat) (s : Nat → SSign) (x : SSign) (k : Nat) :
  alongPc Try.prog (pcRi n s x k) [false] = (some (.exit 0, St.mk [.ros 17 n (fun i => SSign.c (s i)) false, .any, .any, .ptr (.o 0) 0 0 0 0, .any, .snil, .int .i64 ↑n, .any, .any, .any, .any, .any, .any, .any, .any, .any, .any, .any, .any, .any, .any, .any, .any, .any, .any, .any, .any, .any, .any, .any, .any, .any, .any, .any, .any, .any, .any, .any, .any, .any, .any, .any, .any, .any, .any, .any, .any, .any, .any, .any, .any, .any, .any, .any, .any, .any, .any, .any, .any, .any, .any, .any] [(.o 0, .flat (SSign.c x))] 1 [], [decide ((↑k : Int) < (↑n : Int)) = false, q (SSign.node x), q (16 : Nat), q (SSign.tag x), q n, ∀ (k : Nat), k < n → SSign.c (s k) = SSign.c (s k), false = true → false = true, q0, q0, q0, (↑k : Int) = (↑n : Int)]) : Option (Exit × St × List Prop)) := by kernel_rfl

theorem pcRo_p111 (n : Nat) (s : Nat → SSign) (x : SSign) (m : Nat) (o : Nat → SSign) (d : Bool) (k : Nat) (m2 : Nat) (o2 : Nat → SSign) (d2 : Bool) :
  alongPc Try.prog (pcRo n s x m o d k m2 o2 d2) [true, true, true] = (some (.normal, St.mk [.ros 17 n (fun i => SSign.c (s i)) false, .any, .any, .ptr (.o 0) 0 0 0 0, .any, .sl (.o 1) 17 0 0 0 m2 none, .any, .bool d2, .int .i64 (↑(k + 1) : Int), .any, .any, .any, .any, .any, .any, .any, .any, .any, .any, .any, .any, .any, .any, .any, .any, .any, .any, .any, .any, .any, .any, .any, .any, .any, .any, .any, .any, .any, .any, .any, .any, .any, .any, .any, .any, .any, .any, .any, .any, .any, .any, .any, .any, .any, .any, .any, .any, .any, .any, .any, .any, .any] [(.o 0, .flat (SSign.c x)), (.o 1, .rows 17 m2 (gn o2) true)] 2 [], [decide ((↑k : Int) < (↑n : Int)) = true, (!d) = true, (0 : Int) ≤ (↑k : Int) ∧ (↑k : Int) < (↑n : Int), decide (SSign.node x < SSign.node (s (Int.toNat (↑k : Int)))) = true, q m, nat_lit 1 ≤ (1 : Nat), ∀ (k : Nat), k < (1 : Nat) → solid (getL [[V.int IntKind.i64 (SSign.node x), V.seg IntKind.u8 (16 : Nat) (SSign.tag x)]] ((0 : Nat) + k)) = true, (m + (1 : Nat)) * (24 : Nat) ≤ (140737488355328 : Nat), (0 : Int) ≤ (↑k : Int) ∧ (↑k : Int) < (↑n : Int), q (m + (1 : Nat)), nat_lit 1 ≤ (1 : Nat), ∀ (k_1 : Nat), k_1 < (1 : Nat) → solid (getL [[V.int IntKind.i64 (SSign.node (s (Int.toNat (↑k : Int)))), V.seg IntKind.u8 (16 : Nat) (SSign.tag (s (Int.toNat (↑k : Int))))]] ((0 : Nat) + k_1)) = true, (m + (1 : Nat) + (1 : Nat)) * (24 : Nat) ≤ (140737488355328 : Nat), InR IntKind.i64 ((↑k : Int) + (1 : Int)), q (SSign.node x), q (16 : Nat), q (SSign.tag x), m + (1 : Nat) + (1 : Nat) = m2, ∀ (k_1 : Nat), k_1 < m + (1 : Nat) + (1 : Nat) → catF (m + (1 : Nat)) (catF m (gn o) fun k => getL [[V.int IntKind.i64 (SSign.node x), V.seg IntKind.u8 (16 : Nat) (SSign.tag x)]] ((0 : Nat) + k)) (fun k_2 => getL [[V.int IntKind.i64 (SSign.node (s (Int.toNat (↑k : Int)))), V.seg IntKind.u8 (16 : Nat) (SSign.tag (s (Int.toNat (↑k : Int))))]] ((0 : Nat) + k_2)) k_1 = [V.int IntKind.i64 (SSign.node (o2 k_1)), V.seg IntKind.u8 (16 : Nat) (SSign.tag (o2 k_1))], true = false → true = false, q n, ∀ (k : Nat), k < n → SSign.c (s k) = SSign.c (s k), false = true → false = true, q0, q0, q0, q0, q0, q0, m + (1 : Nat) + (1 : Nat) = m2, (none : Option Nat) = none ∨ (none : Option Nat) = none, true = d2, (↑k : Int) + (1 : Int) = (↑(k + (1 : Nat)) : Int)]) : Option (Exit × St × List Prop)) := by kernel_rfl
theorem pcRo_p110 (n : Nat) (s : Nat → SSign) (x : SSign) (m : Nat) (o : Nat → SSign) (d : Bool) (k : Nat) (m2 : Nat) (o2 : Nat → SSign) (d2 : Bool) :
  alongPc Try.prog (pcRo n s x m o d k m2 o2 d2) [true, true, false] = (some (.normal, St.mk [.ros 17 n (fun i => SSign.c (s i)) false, .any, .any, .ptr (.o 0) 0 0 0 0, .any, .sl (.o 1) 17 0 0 0 m2 none, .any, .bool d2, .int .i64 (↑(k + 1) : Int), .any, .any, .any, .any, .any, .any, .any, .any, .any, .any, .any, .any, .any, .any, .any, .any, .any, .any, .any, .any, .any, .any, .any, .any, .any, .any, .any, .any, .any, .any, .any, .any, .any, .any, .any, .any, .any, .any, .any, .any, .any, .any, .any, .any, .any, .any, .any, .any, .any, .any, .any, .any, .any] [(.o 0, .flat (SSign.c x)), (.o 1, .rows 17 m2 (gn o2) true)] 2 [], [decide ((↑k : Int) < (↑n : Int)) = true, (!d) = true, (0 : Int) ≤ (↑k : Int) ∧ (↑k : Int) < (↑n : Int), decide (SSign.node x < SSign.node (s (Int.toNat (↑k : Int)))) = false, (0 : Int) ≤ (↑k : Int) ∧ (↑k : Int) < (↑n : Int), q m, nat_lit 1 ≤ (1 : Nat), ∀ (k_1 : Nat), k_1 < (1 : Nat) → solid (getL [[V.int IntKind.i64 (SSign.node (s (Int.toNat (↑k : Int)))), V.seg IntKind.u8 (16 : Nat) (SSign.tag (s (Int.toNat (↑k : Int))))]] ((0 : Nat) + k_1)) = true, (m + (1 : Nat)) * (24 : Nat) ≤ (140737488355328 : Nat), InR IntKind.i64 ((↑k : Int) + (1 : Int)), q (SSign.node x), q (16 : Nat), q (SSign.tag x), m + (1 : Nat) = m2, ∀ (k_1 : Nat), k_1 < m + (1 : Nat) → catF m (gn o) (fun k_2 => getL [[V.int IntKind.i64 (SSign.node (s (Int.toNat (↑k : Int)))), V.seg IntKind.u8 (16 : Nat) (SSign.tag (s (Int.toNat (↑k : Int))))]] ((0 : Nat) + k_2)) k_1 = [V.int IntKind.i64 (SSign.node (o2 k_1)), V.seg IntKind.u8 (16 : Nat) (SSign.tag (o2 k_1))], true = false → true = false, q n, ∀ (k : Nat), k < n → SSign.c (s k) = SSign.c (s k), false = true → false = true, q0, q0, q0, q0, q0, q0, m + (1 : Nat) = m2, (none : Option Nat) = none ∨ (none : Option Nat) = none, d = d2, (↑k : Int) + (1 : Int) = (↑(k + (1 : Nat)) : Int)]) : Option (Exit × St × List Prop)) := by kernel_rfl
theorem pcRo_p100 (n : Nat) (s : Nat → SSign) (x : SSign) (m : Nat) (o : Nat → SSign) (d : Bool) (k : Nat) (m2 : Nat) (o2 : Nat → SSign) (d2 : Bool) :
  alongPc Try.prog (pcRo n s x m o d k m2 o2 d2) [true, false, false] = (some (.normal, St.mk [.ros 17 n (fun i => SSign.c (s i)) false, .any, .any, .ptr (.o 0) 0 0 0 0, .any, .sl (.o 1) 17 0 0 0 m2 none, .any, .bool d2, .int .i64 (↑(k + 1) : Int), .any, .any, .any, .any, .any, .any, .any, .any, .any, .any, .any, .any, .any, .any, .any, .any, .any, .any, .any, .any, .any, .any, .any, .any, .any, .any, .any, .any, .any, .any, .any, .any, .any, .any, .any, .any, .any, .any, .any, .any, .any, .any, .any, .any, .any, .any, .any, .any, .any, .any, .any, .any, .any] [(.o 0, .flat (SSign.c x)), (.o 1, .rows 17 m2 (gn o2) true)] 2 [], [decide ((↑k : Int) < (↑n : Int)) = true, (!d) = false, q false, (0 : Int) ≤ (↑k : Int) ∧ (↑k : Int) < (↑n : Int), q m, nat_lit 1 ≤ (1 : Nat), ∀ (k_1 : Nat), k_1 < (1 : Nat) → solid (getL [[V.int IntKind.i64 (SSign.node (s (Int.toNat (↑k : Int)))), V.seg IntKind.u8 (16 : Nat) (SSign.tag (s (Int.toNat (↑k : Int))))]] ((0 : Nat) + k_1)) = true, (m + (1 : Nat)) * (24 : Nat) ≤ (140737488355328 : Nat), InR IntKind.i64 ((↑k : Int) + (1 : Int)), q (SSign.node x), q (16 : Nat), q (SSign.tag x), m + (1 : Nat) = m2, ∀ (k_1 : Nat), k_1 < m + (1 : Nat) → catF m (gn o) (fun k_2 => getL [[V.int IntKind.i64 (SSign.node (s (Int.toNat (↑k : Int)))), V.seg IntKind.u8 (16 : Nat) (SSign.tag (s (Int.toNat (↑k : Int))))]] ((0 : Nat) + k_2)) k_1 = [V.int IntKind.i64 (SSign.node (o2 k_1)), V.seg IntKind.u8 (16 : Nat) (SSign.tag (o2 k_1))], true = false → true = false, q n, ∀ (k : Nat), k < n → SSign.c (s k) = SSign.c (s k), false = true → false = true, q0, q0, q0, q0, q0, q0, m + (1 : Nat) = m2, (none : Option Nat) = none ∨ (none : Option Nat) = none, d = d2, (↑k : Int) + (1 : Int) = (↑(k + (1 : Nat)) : Int)]) : Option (Exit × St × List Prop)) := by kernel_rfl
theorem pcRo_p0 (n : Nat) (s : Nat → SSign) (x : SSign) (m : Nat) (o : Nat → SSign) (d : Bool) (k : Nat) (m2 : Nat) (o2 : Nat → SSign) (d2 : Bool) :
  alongPc Try.prog (pcRo n s x m o d k m2 o2 d2) [false] = (some (.exit 2, St.mk [.ros 17 n (fun i => SSign.c (s i)) false, .any, .any, .ptr (.o 0) 0 0 0 0, .any, .sl (.o 1) 17 0 0 0 m none, .any, .bool d, .int .i64 ↑n, .any, .any, .any, .any, .any, .any, .any, .any, .any, .any, .any, .any, .any, .any, .any, .any, .any, .any, .any, .any, .any, .any, .any, .any, .any, .any, .any, .any, .any, .any, .any, .any, .any, .any, .any, .any, .any, .any, .any, .any, .any, .any, .any, .any, .any, .any, .any, .any, .any, .any, .any, .any, .any] [(.o 0, .flat (SSign.c x)), (.o 1, .rows 17 m (gn o) true)] 2 [], [decide ((↑k : Int) < (↑n : Int)) = false, q (SSign.node x), q (16 : Nat), q (SSign.tag x), q m, ∀ (k : Nat), k < m → [V.int IntKind.i64 (SSign.node (o k)), V.seg IntKind.u8 (16 : Nat) (SSign.tag (o k))] = [V.int IntKind.i64 (SSign.node (o k)), V.seg IntKind.u8 (16 : Nat) (SSign.tag (o k))], true = false → true = false, q n, ∀ (k : Nat), k < n → SSign.c (s k) = SSign.c (s k), false = true → false = true, q0, q0, q0, q0, q0, q0, q m, (none : Option Nat) = none ∨ (none : Option Nat) = none, q d, (↑k : Int) = (↑n : Int)]) : Option (Exit × St × List Prop)) := by kernel_rfl

theorem bdSa_p1 (n : Nat) (s : Nat → SSign) (m : Nat) (u : Nat → SSign) (j : Nat) :
  along Try.prog (bdSa n s m u j) [true] = (some (.bool false, [], [(!decide ((↑n : Int) = (↑m : Int))) = true]) : Option (V × Heap × List Prop)) := by kernel_rfl
theorem bdSa_p01 (n : Nat) (s : Nat → SSign) (m : Nat) (u : Nat → SSign) (j : Nat) :
  along Try.prog (bdSa n s m u j) [false, true] = (some (.bool true, [], [(!decide ((↑n : Int) = (↑m : Int))) = false, RLoop Try.prog none 0 (cB (cB (cR (cL (cR (cR (bodyOf (Bd.f (bdSa n s m u j))))))))) (n + 1) (St.mk [.ros 17 n (fun i => SSign.c (s i)) false, .ros 17 m (fun i => SSign.c (u i)) false, .any, .any, .any, .int .i64 0, .any, .any, .any, .any, .any, .any, .any, .any, .any, .any, .any, .any, .any, .any, .any, .any, .any, .any, .any, .any] [] 0 []) (.exit 0) (St.mk [.ros 17 n (fun i => SSign.c (s i)) false, .ros 17 m (fun i => SSign.c (u i)) false, .any, .any, .any, .int .i64 ↑n, .any, .any, .any, .any, .any, .any, .any, .any, .any, .any, .any, .any, .any, .any, .any, .any, .any, .any, .any, .any] [] 0 []), q n, ∀ (k : Nat), k < n → SSign.c (s k) = SSign.c (s k), false = true → false = true, q m, ∀ (k : Nat), k < m → SSign.c (u k) = SSign.c (u k), false = true → false = true, q1]) : Option (V × Heap × List Prop)) := by kernel_rfl
theorem bdSa_p00 (n : Nat) (s : Nat → SSign) (m : Nat) (u : Nat → SSign) (j : Nat) :
  along Try.prog (bdSa n s m u j) [false, false] = (some (.bool false, [], [(!decide ((↑n : Int) = (↑m : Int))) = false, RLoop Try.prog none 0 (cB (cB (cR (cL (cR (cR (bodyOf (Bd.f (bdSa n s m u j))))))))) (j + 1) (St.mk [.ros 17 n (fun i => SSign.c (s i)) false, .ros 17 m (fun i => SSign.c (u i)) false, .any, .any, .any, .int .i64 0, .any, .any, .any, .any, .any, .any, .any, .any, .any, .any, .any, .any, .any, .any, .any, .any, .any, .any, .any, .any] [] 0 []) .ret (St.mk [.any, .any, .any, .any, .bool false, .any, .any, .any, .any, .any, .any, .any, .any, .any, .any, .any, .any, .any, .any, .any, .any, .any, .any, .any, .any, .any] [] 0 []), q n, ∀ (k : Nat), k < n → SSign.c (s k) = SSign.c (s k), false = true → false = true, q m, ∀ (k : Nat), k < m → SSign.c (u k) = SSign.c (u k), false = true → false = true, q1]) : Option (V × Heap × List Prop)) := by kernel_rfl

theorem pcSa_p11 (n : Nat) (s : Nat → SSign) (m : Nat) (u : Nat → SSign) (k : Nat) :
  alongPc Try.prog (pcSa n s m u k) [true, true] = (some (.ret, St.mk [.any, .any, .any, .any, .bool false, .any, .any, .any, .any, .any, .any, .any, .any, .any, .any, .any, .any, .any, .any, .any, .any, .any, .any, .any, .any, .any] [] 0 [], [decide ((↑k : Int) < (↑n : Int)) = true, (0 : Int) ≤ (↑k : Int) ∧ (↑k : Int) < (↑n : Int), (0 : Int) ≤ (↑k : Int) ∧ (↑k : Int) < (↑m : Int), (!(decide (SSign.node (s (Int.toNat (↑k : Int))) = SSign.node (u (Int.toNat (↑k : Int)))) && (decide (SSign.tag (s (Int.toNat (↑k : Int))) = SSign.tag (u (Int.toNat (↑k : Int)))) && true))) = true, q false]) : Option (Exit × St × List Prop)) := by kernel_rfl
theorem pcSa_p10 (n : Nat) (s : Nat → SSign) (m : Nat) (u : Nat → SSign) (k : Nat) :
  alongPc Try.prog (pcSa n s m u k) [true, false] = (some (.normal, St.mk [.ros 17 n (fun i => SSign.c (s i)) false, .ros 17 m (fun i => SSign.c (u i)) false, .any, .any, .any, .int .i64 (↑(k + 1) : Int), .any, .any, .any, .any, .any, .any, .any, .any, .any, .any, .any, .any, .any, .any, .any, .any, .any, .any, .any, .any] [] 0 [], [decide ((↑k : Int) < (↑n : Int)) = true, (0 : Int) ≤ (↑k : Int) ∧ (↑k : Int) < (↑n : Int), (0 : Int) ≤ (↑k : Int) ∧ (↑k : Int) < (↑m : Int), (!(decide (SSign.node (s (Int.toNat (↑k : Int))) = SSign.node (u (Int.toNat (↑k : Int)))) && (decide (SSign.tag (s (Int.toNat (↑k : Int))) = SSign.tag (u (Int.toNat (↑k : Int)))) && true))) = false, InR IntKind.i64 ((↑k : Int) + (1 : Int)), q n, ∀ (k : Nat), k < n → SSign.c (s k) = SSign.c (s k), false = true → false = true, q m, ∀ (k : Nat), k < m → SSign.c (u k) = SSign.c (u k), false = true → false = true, (↑k : Int) + (1 : Int) = (↑(k + (1 : Nat)) : Int)]) : Option (Exit × St × List Prop)) := by kernel_rfl
theorem pcSa_p0 (n : Nat) (s : Nat → SSign) (m : Nat) (u : Nat → SSign) (k : Nat) :
  alongPc Try.prog (pcSa n s m u k) [false] = (some (.exit 0, St.mk [.ros 17 n (fun i => SSign.c (s i)) false, .ros 17 m (fun i => SSign.c (u i)) false, .any, .any, .any, .int .i64 ↑n, .any, .any, .any, .any, .any, .any, .any, .any, .any, .any, .any, .any, .any, .any, .any, .any, .any, .any, .any, .any] [] 0 [], [decide ((↑k : Int) < (↑n : Int)) = false, q n, ∀ (k : Nat), k < n → SSign.c (s k) = SSign.c (s k), false = true → false = true, q m, ∀ (k : Nat), k < m → SSign.c (u k) = SSign.c (u k), false = true → false = true, (↑k : Int) = (↑n : Int)]) : Option (Exit × St × List Prop)) := by kernel_rfl

theorem catg {m : Nat} {o o2 : Nat → SSign} {y : SSign} (h1 : ∀ q, q < m → o q = o2 q) (h2 : y = o2 m) (q : Nat) (hq : q < m + 1) :
  catF m (gn o) (fun k => getL [[V.int .i64 y.node, V.seg .u8 16 y.tag]] (0 + k)) q = [V.int .i64 (o2 q).node, V.seg .u8 16 (o2 q).tag] := by
 rw [catF]
 cases hb : Nat.blt q m with
 | true => rw [Nat.blt_eq] at hb; rw [cond_true, gn, h1 q hb]; rfl
 | false =>
  have : ¬ q < m := by rw [← Nat.blt_eq, hb]; simp
  obtain rfl : q = m := by omega
  rw [cond_false, Nat.sub_self, h2]; rfl
theorem catg2 {m : Nat} {o o2 : Nat → SSign} {y z : SSign} (h1 : ∀ q, q < m → o q = o2 q) (h2 : y = o2 m) (h3 : z = o2 (m + 1)) (q : Nat) (hq : q < m + 1 + 1) :
  catF (m + 1) (catF m (gn o) (fun k => getL [[V.int .i64 y.node, V.seg .u8 16 y.tag]] (0 + k))) (fun k => getL [[V.int .i64 z.node, V.seg .u8 16 z.tag]] (0 + k)) q = [V.int .i64 (o2 q).node, V.seg .u8 16 (o2 q).tag] := by
 rw [catF]
 cases hb : Nat.blt q (m + 1) with
 | true => rw [Nat.blt_eq] at hb; rw [cond_true]; exact catg h1 h2 q hb
 | false =>
  have : ¬ q < m + 1 := by rw [← Nat.blt_eq, hb]; simp
  obtain rfl : q = m + 1 := by omega
  rw [cond_false, Nat.sub_self, h3]; rfl
theorem sol1 (y : SSign) (k : Nat) (hk : k < 1) : solid (getL [[V.int .i64 y.node, V.seg .u8 16 y.tag]] (0 + k)) = true := by
 obtain rfl : k = 0 := by omega
 rfl
theorem ins_lt {s : Nat → SSign} {a q : Nat} {x : SSign} (h : q < a) : insS s a x q = s q := if_pos h
theorem ins_at {s : Nat → SSign} {a : Nat} {x : SSign} : insS s a x a = x := by rw [insS, if_neg (Nat.lt_irrefl a), if_pos rfl]
theorem ins_gt {s : Nat → SSign} {a q : Nat} {x : SSign} (h : a ≤ q) : insS s a x (q + 1) = s q := by rw [insS, if_neg (by omega), if_neg (by omega)]; rfl
def roM (a k : Nat) : Nat := if a < k then k + 1 else k
def roO (s : Nat → SSign) (x : SSign) (a k : Nat) : Nat → SSign := if a < k then insS s a x else s
theorem roL {n : Nat} (s : Nat → SSign) (x : SSign) (hn : n ≤ 1000000) :
  RLoop Try.prog none 0 (cB (cB (cR (cL (cR (cR (cR (cR (bodyOf Try.f27))))))))) (n + 1) (raJ n s x 0 s false 0) (.exit 2) (raJ n s x (roM (atS s x.node n) n) (roO s x (atS s x.node n) n) (decide (atS s x.node n < n)) n) := by
 have ha := atS_le s x.node n
 have hlt : ∀ k, k < atS s x.node n → ¬ x.node < (s k).node := fun k h => atS_lt h
 have hgt : atS s x.node n < n → x.node < (s (atS s x.node n)).node := fun h => atS_gt h
 generalize atS s x.node n = a at ha hlt hgt
 have hstep : ∀ k, k < n → R Try.prog none 0 (cB (cB (cR (cL (cR (cR (cR (cR (bodyOf Try.f27))))))))) (raJ n s x (roM a k) (roO s x a k) (decide (a < k)) k) .normal (raJ n s x (roM a (k + 1)) (roO s x a (k + 1)) (decide (a < k + 1)) (k + 1)) := by
  intro k hk
  rcases Nat.lt_trichotomy k a with h | h | h
  ·have hn1 := hlt k h
   rw [roM, roO, roM, roO, if_neg (by omega), if_neg (by omega), if_neg (by omega), if_neg (by omega), decide_eq_false (by omega), decide_eq_false (by omega)]
   refine R_alongPc NG MO _ (pcRo_p110 n s x k s false k (k + 1) s false) ?_ (Nat.zero_le _)
   simp only [All, All_append, bdRa_c, Int.toNat_natCast]; and_intros
   all_goals first
    | (intro k hk; exact sol1 _ k hk)
    | (intro q hq; exact catg (fun _ _ => rfl) rfl q hq)
    | exact True.intro
    | (with_reducible assumption)
    | (rw [decide_eq_true_eq]; omega)
    | (rw [decide_eq_false_iff_not]; omega)
    | with_reducible rfl
    | (intro _ _; exact True.intro)
    | (intro _ _; with_reducible rfl)
    | (intro _ _; rfl)
    | (simp only [IntKind.min, IntKind.max, IntKind.signed, IntKind.bits, if_true]; omega)
    | omega
    | (intro h; exact h)
    | (intro h; cases h; done)
    | exact .inl rfl
    | exact .inl True.intro
    | (simp; done)
  ·subst h
   have hg1 := hgt hk
   rw [roM, roO, roM, roO, if_neg (by omega), if_neg (by omega), if_pos (by omega), if_pos (by omega), decide_eq_false (by omega), decide_eq_true (by omega)]
   refine R_alongPc NG MO _ (pcRo_p111 n s x k s false k (k + 1 + 1) (insS s k x) true) ?_ (Nat.zero_le _)
   simp only [All, All_append, bdRa_c, Int.toNat_natCast]; and_intros
   all_goals first
    | (intro k hk; exact sol1 _ k hk)
    | (intro q hq; exact catg2 (fun q hq => (ins_lt hq).symm) ins_at.symm (ins_gt (Nat.le_refl _)).symm q hq)
    | exact True.intro
    | (with_reducible assumption)
    | (rw [decide_eq_true_eq]; omega)
    | (rw [decide_eq_false_iff_not]; omega)
    | with_reducible rfl
    | (intro _ _; exact True.intro)
    | (intro _ _; with_reducible rfl)
    | (intro _ _; rfl)
    | (simp only [IntKind.min, IntKind.max, IntKind.signed, IntKind.bits, if_true]; omega)
    | omega
    | (intro h; exact h)
    | (intro h; cases h; done)
    | exact .inl rfl
    | exact .inl True.intro
    | (simp; done)
  ·rw [roM, roO, roM, roO, if_pos (by omega), if_pos (by omega), if_pos (by omega), if_pos (by omega), decide_eq_true (by omega), decide_eq_true (by omega)]
   refine R_alongPc NG MO _ (pcRo_p100 n s x (k + 1) (insS s a x) true k (k + 1 + 1) (insS s a x) true) ?_ (Nat.zero_le _)
   simp only [All, All_append, bdRa_c, Int.toNat_natCast]; and_intros
   all_goals first
    | (intro k hk; exact sol1 _ k hk)
    | (intro q hq; exact catg (fun _ _ => rfl) (ins_gt (Nat.le_of_lt h)).symm q hq)
    | exact True.intro
    | (with_reducible assumption)
    | (rw [decide_eq_true_eq]; omega)
    | (rw [decide_eq_false_iff_not]; omega)
    | with_reducible rfl
    | (intro _ _; exact True.intro)
    | (intro _ _; with_reducible rfl)
    | (intro _ _; rfl)
    | (simp only [IntKind.min, IntKind.max, IntKind.signed, IntKind.bits, if_true]; omega)
    | omega
    | (intro h; exact h)
    | (intro h; cases h; done)
    | exact .inl rfl
    | exact .inl True.intro
    | (simp; done)
 have hend : R Try.prog none 0 (cB (cB (cR (cL (cR (cR (cR (cR (bodyOf Try.f27))))))))) (raJ n s x (roM a n) (roO s x a n) (decide (a < n)) n) (.exit 2) (raJ n s x (roM a n) (roO s x a n) (decide (a < n)) n) := by
  refine R_alongPc NG MO _ (pcRo_p0 n s x (roM a n) (roO s x a n) (decide (a < n)) n 0 s false) ?_ (Nat.zero_le _)
  simp only [All, All_append, bdRa_c, Int.toNat_natCast]; and_intros
  all_goals first
   | exact True.intro
   | (with_reducible assumption)
   | (rw [decide_eq_true_eq]; omega)
   | (rw [decide_eq_false_iff_not]; omega)
   | with_reducible rfl
   | (intro _ _; exact True.intro)
   | (intro _ _; with_reducible rfl)
   | (intro _ _; rfl)
   | (simp only [IntKind.min, IntKind.max, IntKind.signed, IntKind.bits, if_true]; omega)
   | omega
   | (intro h; exact h)
   | (intro h; cases h; done)
   | exact .inl rfl
   | exact .inl True.intro
   | (simp; done)
 have := RLoop.inv (fun k => raJ n s x (roM a k) (roO s x a k) (decide (a < k)) k) n hstep hend (by simp)
 simpa [roM, roO] using this
theorem T_ra {n : Nat} (s : Nat → SSign) (x : SSign) (hn : n ≤ 1000000) : T Try.prog 27 [sg n s, .agg x.c] [] (sgs 1 (addN s n x)) [(.o 1, sgB (addN s n x) (addS s n x))] := by
 rcases loop_all (P := Try.prog) (ro := none) (p := 0) (c := cB (cB (cR (cL (cR (cR (bodyOf Try.f27))))))) (I := raI n s x) (F := fun _ => raR n s) (e := fun _ => .ret) (q := fun k => ¬ (s k).node = x.node) (n := n)
   (fun k hk hq => by
    refine R_alongPc NG MO _ (pcRi_p10 n s x k) ?_ (Nat.zero_le _)
    simp only [All, All_append, bdRa_c, Int.toNat_natCast]; and_intros
    all_goals first
     | exact decide_eq_false hq
     | exact True.intro
     | (with_reducible assumption)
     | (rw [decide_eq_true_eq]; omega)
     | (rw [decide_eq_false_iff_not]; omega)
     | with_reducible rfl
     | (intro _ _; exact True.intro)
     | (intro _ _; with_reducible rfl)
     | (intro _ _; rfl)
     | (simp only [IntKind.min, IntKind.max, IntKind.signed, IntKind.bits, if_true]; omega)
     | omega
     | (intro h; exact h)
     | (intro h; cases h; done)
     | exact .inl rfl
     | exact .inl True.intro)
   (fun k hk hq => by
    have hq := Classical.not_not.1 hq
    refine R_alongPc NG MO _ (pcRi_p11 n s x k) ?_ (Nat.zero_le _)
    simp only [All, All_append, bdRa_c, Int.toNat_natCast, Nat.zero_add]; and_intros
    all_goals first
     | exact decide_eq_true hq
     | exact True.intro
     | (with_reducible assumption)
     | (rw [decide_eq_true_eq]; omega)
     | (rw [decide_eq_false_iff_not]; omega)
     | with_reducible rfl
     | (intro _ _; exact True.intro)
     | (intro _ _; with_reducible rfl)
     | (intro _ _; rfl)
     | (simp only [IntKind.min, IntKind.max, IntKind.signed, IntKind.bits, if_true]; omega)
     | omega
     | (intro h; exact h)
     | (intro h; cases h; done)
     | exact .inl rfl
     | exact .inl True.intro)
   (by simp) (R_alongPc NG MO _ (pcRi_p0 n s x n) (by
    simp only [All, All_append, bdRa_c, Int.toNat_natCast]; and_intros
    all_goals first
     | exact True.intro
     | (with_reducible assumption)
     | (rw [decide_eq_true_eq]; omega)
     | (rw [decide_eq_false_iff_not]; omega)
     | with_reducible rfl
     | (intro _ _; exact True.intro)
     | (intro _ _; with_reducible rfl)
     | (intro _ _; rfl)
     | (simp only [IntKind.min, IntKind.max, IntKind.signed, IntKind.bits, if_true]; omega)
     | omega
     | (intro h; exact h)
     | (intro h; cases h; done)
     | exact .inl rfl
     | exact .inl True.intro) (Nat.zero_le _)) (by simp) with ⟨h, hL⟩ | ⟨m, hm, _, hq, hL⟩
 ·have hf : hasN s n x.node = false := hasN_false h
  have hL2 := roL s x hn
  have ha := atS_le s x.node n
  rw [addN, addS, if_neg (by rw [hf]; simp), if_neg (by rw [hf]; simp)]
  generalize atS s x.node n = a at hL2 ha
  by_cases han : a < n
  ·rw [roM, roO, if_pos han, if_pos han, decide_eq_true han] at hL2
   refine T_al (bdRa_p10 n s x 0 (n + 1) (insS s a x) true (n + 1) (insS s a x)) Try.func27 ?_
   refine ⟨hL, ?_⟩
   simp only [All, All_append, bdRa_c, Int.toNat_natCast]; and_intros
   all_goals first
    | exact hL2
    | exact True.intro
    | (with_reducible assumption)
    | (rw [decide_eq_true_eq]; omega)
    | (rw [decide_eq_false_iff_not]; omega)
    | with_reducible rfl
    | (intro _ _; exact True.intro)
    | (intro _ _; with_reducible rfl)
    | (intro _ _; rfl)
    | (simp only [IntKind.min, IntKind.max, IntKind.signed, IntKind.bits, if_true]; omega)
    | omega
    | (intro h; exact h)
    | (intro h; cases h; done)
    | exact .inl rfl
    | exact .inl True.intro
    | (simp; done)
  ·obtain rfl : a = n := by omega
   rw [roM, roO, if_neg han, if_neg han, decide_eq_false han] at hL2
   refine T_al (bdRa_p11 a s x 0 a s false (a + 1) (insS s a x)) Try.func27 ?_
   refine ⟨hL, ?_⟩
   simp only [All, All_append, bdRa_c, Int.toNat_natCast]; and_intros
   all_goals first
    | exact hL2
    | (intro k hk; exact sol1 _ k hk)
    | (intro q hq; exact catg (fun q hq => (ins_lt hq).symm) ins_at.symm q hq)
    | exact True.intro
    | (with_reducible assumption)
    | (rw [decide_eq_true_eq]; omega)
    | (rw [decide_eq_false_iff_not]; omega)
    | with_reducible rfl
    | (intro _ _; exact True.intro)
    | (intro _ _; with_reducible rfl)
    | (intro _ _; rfl)
    | (simp only [IntKind.min, IntKind.max, IntKind.signed, IntKind.bits, if_true]; omega)
    | omega
    | (intro h; exact h)
    | (intro h; cases h; done)
    | exact .inl rfl
    | exact .inl True.intro
    | (simp; done)
 ·have hq := Classical.not_not.1 hq
  have hf : hasN s n x.node = true := hasN_true m hm hq
  rw [addN, addS, if_pos hf, if_pos hf]
  refine T_al (bdRa_p0 n s x m 0 s false 0 s) Try.func27 ?_
  refine ⟨hL, ?_⟩
  simp only [All, All_append, bdRa_c, Int.toNat_natCast]; and_intros
  all_goals first
   | exact True.intro
   | (with_reducible assumption)
   | (rw [decide_eq_true_eq]; omega)
   | (rw [decide_eq_false_iff_not]; omega)
   | with_reducible rfl
   | (intro _ _; exact True.intro)
   | (intro _ _; with_reducible rfl)
   | (intro _ _; rfl)
   | (simp only [IntKind.min, IntKind.max, IntKind.signed, IntKind.bits, if_true]; omega)
   | omega
   | (intro h; exact h)
   | (intro h; cases h; done)
   | exact .inl rfl
   | exact .inl True.intro
   | (simp; done)
/-- Signs that are the same. -/
theorem T_sa {n : Nat} (s : Nat → SSign) (hn : n ≤ 1000000) : T Try.prog 26 [sg n s, sg n s] [] (.bool true) [] := by
 have hstep : ∀ k, k < n → R Try.prog none 0 (cB (cB (cR (cL (cR (cR (bodyOf Try.f26))))))) (saI n s n s k) .normal (saI n s n s (k + 1)) := by
  intro k hk
  have e1 : (!(decide ((s k).node = (s k).node) && (decide ((s k).tag = (s k).tag) && true))) = false := by rw [decide_eq_true rfl, decide_eq_true rfl]; rfl
  refine R_alongPc NG MO _ (pcSa_p10 n s n s k) ?_ (Nat.zero_le _)
  simp only [All, All_append, bdRa_c, Int.toNat_natCast]; and_intros
  all_goals first
   | exact e1
   | exact True.intro
   | (with_reducible assumption)
   | (rw [decide_eq_true_eq]; omega)
   | (rw [decide_eq_false_iff_not]; omega)
   | with_reducible rfl
   | (intro _ _; exact True.intro)
   | (intro _ _; with_reducible rfl)
   | (intro _ _; rfl)
   | (simp only [IntKind.min, IntKind.max, IntKind.signed, IntKind.bits, if_true]; omega)
   | omega
   | (intro h; exact h)
   | (intro h; cases h; done)
   | exact .inl rfl
   | exact .inl True.intro
   | (simp; done)
 have hend : R Try.prog none 0 (cB (cB (cR (cL (cR (cR (bodyOf Try.f26))))))) (saI n s n s n) (.exit 0) (saI n s n s n) := by
  refine R_alongPc NG MO _ (pcSa_p0 n s n s n) ?_ (Nat.zero_le _)
  simp only [All, All_append, bdRa_c, Int.toNat_natCast]; and_intros
  all_goals first
   | exact True.intro
   | (with_reducible assumption)
   | (rw [decide_eq_true_eq]; omega)
   | (rw [decide_eq_false_iff_not]; omega)
   | with_reducible rfl
   | (intro _ _; exact True.intro)
   | (intro _ _; with_reducible rfl)
   | (intro _ _; rfl)
   | (simp only [IntKind.min, IntKind.max, IntKind.signed, IntKind.bits, if_true]; omega)
   | omega
   | (intro h; exact h)
   | (intro h; cases h; done)
   | exact .inl rfl
   | exact .inl True.intro
   | (simp; done)
 have hL := RLoop.inv (saI n s n s) n hstep hend (by simp)
 refine T_al (bdSa_p01 n s n s 0) Try.func26 ?_
 refine ⟨by simp, hL, ?_⟩
 simp only [All, All_append, bdRa_c, Int.toNat_natCast]; and_intros
 all_goals first
  | exact True.intro
  | (with_reducible assumption)
  | (rw [decide_eq_true_eq]; omega)
  | (rw [decide_eq_false_iff_not]; omega)
  | with_reducible rfl
  | (intro _ _; exact True.intro)
  | (intro _ _; with_reducible rfl)
  | (intro _ _; rfl)
  | (simp only [IntKind.min, IntKind.max, IntKind.signed, IntKind.bits, if_true]; omega)
  | omega
  | (intro h; exact h)
  | (intro h; cases h; done)
  | exact .inl rfl
  | exact .inl True.intro
  | (simp; done)
end Go.Proofs.Ytpallipnhmoipaa
namespace Go.Proofs.Ytpallipnhmoipaa
open Go Sy Go.Proofs
def siF (L : List SSign) : Nat → SSign := fun i => L.getD i {}
def sgL (a : Nat) (L : List SSign) : V := sgs a L.length
def sbL (L : List SSign) : B := sgB L.length (siF L)
def isW (l : List (Int × MK)) (e : Int) (d : List Int) (k : Int) : Bool := decide ((ofM l k).1 = e) && (decide ((ofM l k).2.1 = d) && true)
/-- The signs of the first nodes of whose marks it holds. -/
def selS (l : List (Int × MK)) (e : Int) (d : List Int) (need : Int) : Nat → List SSign
 | 0 => []
 | k + 1 => if ((getM (k : Nat) l).isSome = true ∧ ((selS l e d need k).length : Int) < need) ∧ isW l e d (k : Nat) = true then selS l e d need k ++ [⟨(k : Nat), (ofM l (k : Nat)).2.2⟩] else selS l e d need k
def wFV : V := .fn (.func 50) [] [.ptr (.o 2) 0 0 0 0, .ptr (.o 3) 0 0 0 0]
def hpW (e : Int) (d : List Int) : Heap := [(.o 2, .flat [.int .i64 e]), (.o 3, .flat [.seg .u8 32 d])]
noncomputable def bdS1 (x e : Int) (y d : List Int) : Bd := { f := Try.f50, args := [.agg [.int .i64 x, .seg .u8 32 y], .ptr (.o 2) 0 0 0 0, .ptr (.o 3) 0 0 0 0], pre := hpW e d, base := 4, kb := kb0, names := fun _ => [.o 2, .o 3] }
def soI (n : Nat) (l : List (Int × MK)) (e : Int) (d : List Int) (need : Int) (L : List SSign) (k : Nat) : St := ⟨mkT 48 [(0, mP 0), (1, .int .i64 need), (2, wFV), (6, sgL 4 L), (13, .int .i64 n), (14, .int .i64 k)], mH 0 1 n l ++ (hpW e d ++ [(.o 4, sbL L)]), 5, []⟩
noncomputable def bdSo (n : Nat) (l : List (Int × MK)) (e : Int) (d : List Int) (need : Int) (L : List SSign) : Bd := { f := Try.f49, args := [mP 0, .int .i64 need, wFV], pre := mH 0 1 n l ++ hpW e d, base := 4, kb := { db := fun _ _ _ _ => [], fx := fun id _ => bif Nat.beq id 1 then [.virt 6 17] else [], lp := fun _ t => [(True, .loop (n + 1) (wToS [(.o 4, nmV (getV t.tmps 6))] (soI n l e d need [] 0)) (.exit 0) (soI n l e d need L n))] }, names := fun _ => [.o 0, .o 1, .o 2, .o 3, .o 4] }
noncomputable def pcSo (n : Nat) (l : List (Int × MK)) (e : Int) (d : List Int) (need : Int) (L : List SSign) (k : Nat) (b : Bool) (L2 : List SSign) : Pc := { c := cB (cB (cR (cL (cR (bodyOf Try.f49))))), st := soI n l e d need L k, p := 4, kb := { db := dbQ [(50, fun _ _ _ => [{ pre := [.o 2, .o 3], val := .bool b, post := hpW e d }])], pr := mkPr l }, k := fun x_ t => match x_ with
 | .normal => some (wToS [(.o 4, nmV (getV t.tmps 6))] (soI n l e d need L2 (k + 1)))
 | _ => some (wTo (soI n l e d need L n)) }
noncomputable def sgDb (n : Int) (l : List (Int × MK)) (e : Int) (d : List Int) (L : List SSign) : Nat → List V → Heap → Nat → List Cl := dbQ [(48, fun a _ _ => match a with | [.ptr m _ _ _ _] => [{ rd := [m], val := .bool false }] | _ => []), (49, fun a _ lo => match a with | [.ptr m _ _ _ _, _, .fn _ _ [.ptr a _ _ _ _, .ptr b _ _ _ _]] => [{ pre := [m, .o 1, a, b], val := sgL lo L, post := [(m, .flat [.int .i64 n, .mp (.o 1)]), (.o 1, mB l), (a, .flat [.int .i64 e]), (b, .flat [.seg .u8 32 d]), (.o lo, sbL L)] }] | _ => [])]
noncomputable def bdSg (n : Int) (l : List (Int × MK)) (e : Int) (d : List Int) (need : Int) (L : List SSign) : Bd := { f := Try.f32, args := [mP 0, .int .i64 e, dgV d, .int .i64 need], pre := mH 0 1 n l, base := 2, kb := { db := sgDb n l e d L }, names := fun t => match getV t.tmps 8 with | .sl a _ _ _ _ _ _ => [.o 0, .o 1, a] | _ => [.o 0, .o 1] }
noncomputable def bdG0 (e : Int) (d : List Int) (need : Int) : Bd := { f := Try.f32, args := [.pnil, .int .i64 e, dgV d, .int .i64 need], kb := { db := noDb true } }
noncomputable def bdG1 (n e : Int) (d : List Int) (need : Int) : Bd := { f := Try.f32, args := [mP 0, .int .i64 e, dgV d, .int .i64 need], pre := [(.o 0, .flat [.int .i64 n, .mpnil])], base := 1, kb := { db := noDb true }, names := fun _ => [.o 0] }
end Go.Proofs.Ytpallipnhmoipaa
namespace Go.Proofs.Ytpallipnhmoipaa
open Go Sy Go.Proofs
theorem bdS1_p (x : Int) (e : Int) (y : List Int) (d : List Int) :
  along Try.prog (bdS1 x e y d) [] = (some (.bool (decide (x = e) && (decide (y = d) && true)), [(.o 2, .flat [.int .i64 e]), (.o 3, .flat [.seg .u8 32 d])], []) : Option (V × Heap × List Prop)) := by kernel_rfl

theorem bdSo_p (n : Nat) (l : List (Int × MK)) (e : Int) (d : List Int) (need : Int) (L : List SSign) :
  along Try.prog (bdSo n l e d need L) [] = (some (.sl (.o 4) 17 0 0 0 (List.length L) none, [(.o 0, .flat [.int .i64 ↑n, .mp (.o 1)]), (.o 1, .map (entsF 0 (mkL l)) (List.length (mkL l))), (.o 2, .flat [.int .i64 e]), (.o 3, .flat [.seg .u8 32 d]), (.o 4, .rows 17 (List.length L) (gn (siF L)) true)], [RLoop Try.prog none 4 (cB (cB (cR (cL (cR (bodyOf (Bd.f (bdSo n l e d need L)))))))) (n + 1) (St.mk [.ptr (.o 0) 0 0 0 0, .int .i64 need, .fn (.func (50 : FuncId)) [] [.ptr (.o 2) 0 0 0 0, .ptr (.o 3) 0 0 0 0], .any, .any, .any, .sl (.o 4) 17 0 0 0 0 none, .any, .any, .any, .any, .any, .any, .int .i64 ↑n, .int .i64 0, .any, .any, .any, .any, .any, .any, .any, .any, .any, .any, .any, .any, .any, .any, .any, .any, .any, .any, .any, .any, .any, .any, .any, .any, .any, .any, .any, .any, .any, .any, .any, .any, .any] [(.o 0, .flat [.int .i64 ↑n, .mp (.o 1)]), (.o 1, .map (entsF 0 (mkL l)) (List.length (mkL l))), (.o 2, .flat [.int .i64 e]), (.o 3, .flat [.seg .u8 32 d]), (.o 4, .rows 17 0 (gn (siF [])) true)] 5 []) (.exit 0) (St.mk [.ptr (.o 0) 0 0 0 0, .int .i64 need, .fn (.func (50 : FuncId)) [] [.ptr (.o 2) 0 0 0 0, .ptr (.o 3) 0 0 0 0], .any, .any, .any, .sl (.o 4) 17 0 0 0 (List.length L) none, .any, .any, .any, .any, .any, .any, .int .i64 ↑n, .int .i64 ↑n, .any, .any, .any, .any, .any, .any, .any, .any, .any, .any, .any, .any, .any, .any, .any, .any, .any, .any, .any, .any, .any, .any, .any, .any, .any, .any, .any, .any, .any, .any, .any, .any, .any] [(.o 0, .flat [.int .i64 ↑n, .mp (.o 1)]), (.o 1, .map (entsF 0 (mkL l)) (List.length (mkL l))), (.o 2, .flat [.int .i64 e]), (.o 3, .flat [.seg .u8 32 d]), (.o 4, .rows 17 (List.length L) (gn (siF L)) true)] 5 []), q (↑n : Int), q (entsF (0 : Nat) (mkL l)), q (List.length (mkL l)), q e, q (32 : Nat), q d, (0 : Nat) = nat_lit 0, ∀ (k : Nat), k < (0 : Nat) → [] = [V.int IntKind.i64 (0 : Int), V.seg IntKind.u8 (16 : Nat) []], true = false → true = false, q0, q0, q0, q need, q0, q0, q0, q0, q0, q0, q0, q0, q0, (0 : Nat) = nat_lit 0, (none : Option Nat) = none ∨ (none : Option Nat) = none, q (↑n : Int), q1]) : Option (V × Heap × List Prop)) := by kernel_rfl

noncomputable def pcSo_c (n : Nat) (l : List (Int × MK)) (e : Int) (d : List Int) (need : Int) (L : List SSign) (k : Nat) (b : Bool) (L2 : List SSign) : Nat → List Prop
 | 0 => [decide ((↑k : Int) < (↑n : Int)) = true, TO Try.prog (Prim.lookup (62 : Nat) true) [V.mp (Nm.o (1 : Nat)), V.int IntKind.i64 (↑k : Int)] [(Nm.o (1 : Nat), B.map (entsF (0 : Nat) (mkL l)) (List.length (mkL l)))] (V.tup [V.agg [V.int IntKind.i64 (ofM l (↑k : Int)).1, V.seg IntKind.u8 (32 : Nat) (Prod.snd (ofM l (↑k : Int))).1, V.seg IntKind.u8 (16 : Nat) (Prod.snd (ofM l (↑k : Int))).2], V.bool (Option.isSome (getM (↑k : Int) l))]) [(Nm.o (1 : Nat), B.map (entsF (0 : Nat) (mkL l)) (List.length (mkL l)))]]
 | 1 => [decide ((↑(List.length L) : Int) < need) = true, T Try.prog (50 : FuncId) [.agg [.int .i64 (ofM l (↑k : Int)).1, .seg .u8 32 (Prod.snd (ofM l (↑k : Int))).1], .ptr (.o 2) 0 0 0 0, .ptr (.o 3) 0 0 0 0] [(.o 2, .flat [.int .i64 e]), (.o 3, .flat [.seg .u8 32 d])] (.bool b) [(.o 2, .flat [.int .i64 e]), (.o 3, .flat [.seg .u8 32 d])]]
 | _ => []
theorem pcSo_p1111 (n : Nat) (l : List (Int × MK)) (e : Int) (d : List Int) (need : Int) (L : List SSign) (k : Nat) (b : Bool) (L2 : List SSign) :
 alongPc Try.prog (pcSo n l e d need L k b L2) [true, true, true, true] = (some (.normal, St.mk [.ptr (.o 0) 0 0 0 0, .int .i64 need, .fn (.func (50 : FuncId)) [] [.ptr (.o 2) 0 0 0 0, .ptr (.o 3) 0 0 0 0], .any, .any, .any, .sl (.o 4) 17 0 0 0 (List.length L2) none, .any, .any, .any, .any, .any, .any, .int .i64 ↑n, .int .i64 (↑(k + 1) : Int), .any, .any, .any, .any, .any, .any, .any, .any, .any, .any, .any, .any, .any, .any, .any, .any, .any, .any, .any, .any, .any, .any, .any, .any, .any, .any, .any, .any, .any, .any, .any, .any, .any] [(.o 0, .flat [.int .i64 ↑n, .mp (.o 1)]), (.o 1, .map (entsF 0 (mkL l)) (List.length (mkL l))), (.o 2, .flat [.int .i64 e]), (.o 3, .flat [.seg .u8 32 d]), (.o 4, .rows 17 (List.length L2) (gn (siF L2)) true)] 5 [], pcSo_c n l e d need L k b L2 0 ++ ([Option.isSome (getM (↑k : Int) l) = true] ++ (pcSo_c n l e d need L k b L2 1 ++ [b = true, q (List.length L), nat_lit 1 ≤ (1 : Nat), ∀ (k_1 : Nat), k_1 < (1 : Nat) → solid (getL [[V.int IntKind.i64 (↑k : Int), V.seg IntKind.u8 (16 : Nat) (Prod.snd (ofM l (↑k : Int))).2]] ((0 : Nat) + k_1)) = true, (List.length L + (1 : Nat)) * (24 : Nat) ≤ (140737488355328 : Nat), InR IntKind.i64 ((↑k : Int) + (1 : Int)), q (↑n : Int), q (entsF (0 : Nat) (mkL l)), q (List.length (mkL l)), q e, q (32 : Nat), q d, List.length L + (1 : Nat) = List.length L2, ∀ (k_1 : Nat), k_1 < List.length L + (1 : Nat) → catF (List.length L) (gn (siF L)) (fun k_2 => getL [[V.int IntKind.i64 (↑k : Int), V.seg IntKind.u8 (16 : Nat) (Prod.snd (ofM l (↑k : Int))).2]] ((0 : Nat) + k_2)) k_1 = [V.int IntKind.i64 (SSign.node (siF L2 k_1)), V.seg IntKind.u8 (16 : Nat) (SSign.tag (siF L2 k_1))], true = false → true = false, q0, q0, q0, q need, q0, q0, q0, q0, q0, q0, q0, q0, q0, List.length L + (1 : Nat) = List.length L2, (none : Option Nat) = none ∨ (none : Option Nat) = none, q (↑n : Int), (↑k : Int) + (1 : Int) = (↑(k + (1 : Nat)) : Int)]))) : Option (Exit × St × List Prop)) := by kernel_rfl
theorem pcSo_p1110 (n : Nat) (l : List (Int × MK)) (e : Int) (d : List Int) (need : Int) (L : List SSign) (k : Nat) (b : Bool) (L2 : List SSign) :
 alongPc Try.prog (pcSo n l e d need L k b L2) [true, true, true, false] = (some (.normal, St.mk [.ptr (.o 0) 0 0 0 0, .int .i64 need, .fn (.func (50 : FuncId)) [] [.ptr (.o 2) 0 0 0 0, .ptr (.o 3) 0 0 0 0], .any, .any, .any, .sl (.o 4) 17 0 0 0 (List.length L2) none, .any, .any, .any, .any, .any, .any, .int .i64 ↑n, .int .i64 (↑(k + 1) : Int), .any, .any, .any, .any, .any, .any, .any, .any, .any, .any, .any, .any, .any, .any, .any, .any, .any, .any, .any, .any, .any, .any, .any, .any, .any, .any, .any, .any, .any, .any, .any, .any, .any] [(.o 0, .flat [.int .i64 ↑n, .mp (.o 1)]), (.o 1, .map (entsF 0 (mkL l)) (List.length (mkL l))), (.o 2, .flat [.int .i64 e]), (.o 3, .flat [.seg .u8 32 d]), (.o 4, .rows 17 (List.length L2) (gn (siF L2)) true)] 5 [], pcSo_c n l e d need L k b L2 0 ++ ([Option.isSome (getM (↑k : Int) l) = true] ++ (pcSo_c n l e d need L k b L2 1 ++ [b = false, InR IntKind.i64 ((↑k : Int) + (1 : Int)), q (↑n : Int), q (entsF (0 : Nat) (mkL l)), q (List.length (mkL l)), q e, q (32 : Nat), q d, List.length L = List.length L2, ∀ (k : Nat), k < List.length L → [V.int IntKind.i64 (SSign.node (siF L k)), V.seg IntKind.u8 (16 : Nat) (SSign.tag (siF L k))] = [V.int IntKind.i64 (SSign.node (siF L2 k)), V.seg IntKind.u8 (16 : Nat) (SSign.tag (siF L2 k))], true = false → true = false, q0, q0, q0, q need, q0, q0, q0, q0, q0, q0, q0, q0, q0, List.length L = List.length L2, (none : Option Nat) = none ∨ (none : Option Nat) = none, q (↑n : Int), (↑k : Int) + (1 : Int) = (↑(k + (1 : Nat)) : Int)]))) : Option (Exit × St × List Prop)) := by kernel_rfl
theorem pcSo_p1100 (n : Nat) (l : List (Int × MK)) (e : Int) (d : List Int) (need : Int) (L : List SSign) (k : Nat) (b : Bool) (L2 : List SSign) :
 alongPc Try.prog (pcSo n l e d need L k b L2) [true, true, false, false] = (some (.normal, St.mk [.ptr (.o 0) 0 0 0 0, .int .i64 need, .fn (.func (50 : FuncId)) [] [.ptr (.o 2) 0 0 0 0, .ptr (.o 3) 0 0 0 0], .any, .any, .any, .sl (.o 4) 17 0 0 0 (List.length L2) none, .any, .any, .any, .any, .any, .any, .int .i64 ↑n, .int .i64 (↑(k + 1) : Int), .any, .any, .any, .any, .any, .any, .any, .any, .any, .any, .any, .any, .any, .any, .any, .any, .any, .any, .any, .any, .any, .any, .any, .any, .any, .any, .any, .any, .any, .any, .any, .any, .any] [(.o 0, .flat [.int .i64 ↑n, .mp (.o 1)]), (.o 1, .map (entsF 0 (mkL l)) (List.length (mkL l))), (.o 2, .flat [.int .i64 e]), (.o 3, .flat [.seg .u8 32 d]), (.o 4, .rows 17 (List.length L2) (gn (siF L2)) true)] 5 [], pcSo_c n l e d need L k b L2 0 ++ [Option.isSome (getM (↑k : Int) l) = true, decide ((↑(List.length L) : Int) < need) = false, q false, InR IntKind.i64 ((↑k : Int) + (1 : Int)), q (↑n : Int), q (entsF (0 : Nat) (mkL l)), q (List.length (mkL l)), q e, q (32 : Nat), q d, List.length L = List.length L2, ∀ (k : Nat), k < List.length L → [V.int IntKind.i64 (SSign.node (siF L k)), V.seg IntKind.u8 (16 : Nat) (SSign.tag (siF L k))] = [V.int IntKind.i64 (SSign.node (siF L2 k)), V.seg IntKind.u8 (16 : Nat) (SSign.tag (siF L2 k))], true = false → true = false, q0, q0, q0, q need, q0, q0, q0, q0, q0, q0, q0, q0, q0, List.length L = List.length L2, (none : Option Nat) = none ∨ (none : Option Nat) = none, q (↑n : Int), (↑k : Int) + (1 : Int) = (↑(k + (1 : Nat)) : Int)]) : Option (Exit × St × List Prop)) := by kernel_rfl
theorem pcSo_p1000 (n : Nat) (l : List (Int × MK)) (e : Int) (d : List Int) (need : Int) (L : List SSign) (k : Nat) (b : Bool) (L2 : List SSign) :
 alongPc Try.prog (pcSo n l e d need L k b L2) [true, false, false, false] = (some (.normal, St.mk [.ptr (.o 0) 0 0 0 0, .int .i64 need, .fn (.func (50 : FuncId)) [] [.ptr (.o 2) 0 0 0 0, .ptr (.o 3) 0 0 0 0], .any, .any, .any, .sl (.o 4) 17 0 0 0 (List.length L2) none, .any, .any, .any, .any, .any, .any, .int .i64 ↑n, .int .i64 (↑(k + 1) : Int), .any, .any, .any, .any, .any, .any, .any, .any, .any, .any, .any, .any, .any, .any, .any, .any, .any, .any, .any, .any, .any, .any, .any, .any, .any, .any, .any, .any, .any, .any, .any, .any, .any] [(.o 0, .flat [.int .i64 ↑n, .mp (.o 1)]), (.o 1, .map (entsF 0 (mkL l)) (List.length (mkL l))), (.o 2, .flat [.int .i64 e]), (.o 3, .flat [.seg .u8 32 d]), (.o 4, .rows 17 (List.length L2) (gn (siF L2)) true)] 5 [], pcSo_c n l e d need L k b L2 0 ++ [Option.isSome (getM (↑k : Int) l) = false, q false, q false, InR IntKind.i64 ((↑k : Int) + (1 : Int)), q (↑n : Int), q (entsF (0 : Nat) (mkL l)), q (List.length (mkL l)), q e, q (32 : Nat), q d, List.length L = List.length L2, ∀ (k : Nat), k < List.length L → [V.int IntKind.i64 (SSign.node (siF L k)), V.seg IntKind.u8 (16 : Nat) (SSign.tag (siF L k))] = [V.int IntKind.i64 (SSign.node (siF L2 k)), V.seg IntKind.u8 (16 : Nat) (SSign.tag (siF L2 k))], true = false → true = false, q0, q0, q0, q need, q0, q0, q0, q0, q0, q0, q0, q0, q0, List.length L = List.length L2, (none : Option Nat) = none ∨ (none : Option Nat) = none, q (↑n : Int), (↑k : Int) + (1 : Int) = (↑(k + (1 : Nat)) : Int)]) : Option (Exit × St × List Prop)) := by kernel_rfl
theorem pcSo_p0 (n : Nat) (l : List (Int × MK)) (e : Int) (d : List Int) (need : Int) (L : List SSign) (k : Nat) (b : Bool) (L2 : List SSign) :
 alongPc Try.prog (pcSo n l e d need L k b L2) [false] = (some (.exit 0, St.mk [.ptr (.o 0) 0 0 0 0, .int .i64 need, .fn (.func (50 : FuncId)) [] [.ptr (.o 2) 0 0 0 0, .ptr (.o 3) 0 0 0 0], .any, .any, .any, .sl (.o 4) 17 0 0 0 (List.length L) none, .any, .any, .any, .any, .any, .any, .int .i64 ↑n, .int .i64 ↑n, .any, .any, .any, .any, .any, .any, .any, .any, .any, .any, .any, .any, .any, .any, .any, .any, .any, .any, .any, .any, .any, .any, .any, .any, .any, .any, .any, .any, .any, .any, .any, .any, .any] [(.o 0, .flat [.int .i64 ↑n, .mp (.o 1)]), (.o 1, .map (entsF 0 (mkL l)) (List.length (mkL l))), (.o 2, .flat [.int .i64 e]), (.o 3, .flat [.seg .u8 32 d]), (.o 4, .rows 17 (List.length L) (gn (siF L)) true)] 5 [], [decide ((↑k : Int) < (↑n : Int)) = false, q (↑n : Int), q (entsF (0 : Nat) (mkL l)), q (List.length (mkL l)), q e, q (32 : Nat), q d, q (List.length L), ∀ (k : Nat), k < List.length L → [V.int IntKind.i64 (SSign.node (siF L k)), V.seg IntKind.u8 (16 : Nat) (SSign.tag (siF L k))] = [V.int IntKind.i64 (SSign.node (siF L k)), V.seg IntKind.u8 (16 : Nat) (SSign.tag (siF L k))], true = false → true = false, q0, q0, q0, q need, q0, q0, q0, q0, q0, q0, q0, q0, q0, q (List.length L), (none : Option Nat) = none ∨ (none : Option Nat) = none, q (↑n : Int), (↑k : Int) = (↑n : Int)]) : Option (Exit × St × List Prop)) := by kernel_rfl

noncomputable def bdSg_c (n : Int) (l : List (Int × MK)) (e : Int) (d : List Int) (need : Int) (L : List SSign) : Nat → List Prop
 | 0 => [T Try.prog 48 [.ptr (.o 0) 0 0 0 0] [(.o 0, .flat [.int .i64 n, .mp (.o 1)])] (.bool false) [(.o 0, .flat [.int .i64 n, .mp (.o 1)])], q false]
 | 1 => [decide (need < (1 : Int)) = false, T Try.prog 49 [.ptr (.o 0) 0 0 0 0, .int .i64 need, .fn (.func 50) [] [.ptr (.o 2) 0 0 0 0, .ptr (.o 66) 0 0 0 0]] [(.o 0, .flat [.int .i64 n, .mp (.o 1)]), (.o 1, .map (entsF 0 (mkL l)) (List.length (mkL l))), (.o 2, .flat [.int .i64 e]), (.o 66, .flat [.seg .u8 32 d])] (.sl (.o 770) 17 0 0 0 (List.length L) none) [(.o 0, .flat [.int .i64 n, .mp (.o 1)]), (.o 1, .map (entsF 0 (mkL l)) (List.length (mkL l))), (.o 2, .flat [.int .i64 e]), (.o 66, .flat [.seg .u8 32 d]), (.o 770, .rows 17 (List.length L) (gn (siF L)) true)]]
 | _ => []
theorem bdSg_p01 (n : Int) (l : List (Int × MK)) (e : Int) (d : List Int) (need : Int) (L : List SSign) :
 along Try.prog (bdSg n l e d need L) [false, true] = (some (.snil, [(.o 0, .flat [.int .i64 n, .mp (.o 1)]), (.o 1, .map (entsF 0 (mkL l)) (List.length (mkL l)))], bdSg_c n l e d need L 0 ++ [decide (need < (1 : Int)) = true]) : Option (V × Heap × List Prop)) := by kernel_rfl
theorem bdSg_p001 (n : Int) (l : List (Int × MK)) (e : Int) (d : List Int) (need : Int) (L : List SSign) :
 along Try.prog (bdSg n l e d need L) [false, false, true] = (some (.snil, [(.o 0, .flat [.int .i64 n, .mp (.o 1)]), (.o 1, .map (entsF 0 (mkL l)) (List.length (mkL l)))], bdSg_c n l e d need L 0 ++ (bdSg_c n l e d need L 1 ++ [decide ((↑(List.length L) : Int) < need) = true])) : Option (V × Heap × List Prop)) := by kernel_rfl
theorem bdSg_p000 (n : Int) (l : List (Int × MK)) (e : Int) (d : List Int) (need : Int) (L : List SSign) :
 along Try.prog (bdSg n l e d need L) [false, false, false] = (some (.sl (.o 770) 17 0 0 0 (List.length L) none, [(.o 0, .flat [.int .i64 n, .mp (.o 1)]), (.o 1, .map (entsF 0 (mkL l)) (List.length (mkL l))), (.o 770, .rows 17 (List.length L) (gn (siF L)) true)], bdSg_c n l e d need L 0 ++ (bdSg_c n l e d need L 1 ++ [decide ((↑(List.length L) : Int) < need) = false])) : Option (V × Heap × List Prop)) := by kernel_rfl

theorem bdG0_p11 (e : Int) (d : List Int) (need : Int) :
  along Try.prog (bdG0 e d need) [true, true] = (some (.snil, [], [T Try.prog 48 [.pnil] [] (.bool true) [], q2, q2]) : Option (V × Heap × List Prop)) := by kernel_rfl

theorem bdG1_p11 (n : Int) (e : Int) (d : List Int) (need : Int) :
  along Try.prog (bdG1 n e d need) [true, true] = (some (.snil, [(.o 0, .flat [.int .i64 n, V.mpnil])], [T Try.prog 48 [.ptr (.o 0) 0 0 0 0] [(.o 0, .flat [.int .i64 n, V.mpnil])] (.bool true) [(.o 0, .flat [.int .i64 n, V.mpnil])], q2, q2]) : Option (V × Heap × List Prop)) := by kernel_rfl

theorem T_s1w (x e : Int) (y d : List Int) : T Try.prog 50 [.agg [.int .i64 x, .seg .u8 32 y], .ptr (.o 2) 0 0 0 0, .ptr (.o 3) 0 0 0 0] (hpW e d) (.bool (decide (x = e) && (decide (y = d) && true))) (hpW e d) :=
 T_along NG MO _ (bdS1_p x e y d) Try.func50 (by kernel_rfl) trivial (pinH_ok (by kernel_rfl)) (by kernel_rfl)
theorem siF_lt {L : List SSign} {y : SSign} {q : Nat} (h : q < L.length) : siF L q = siF (L ++ [y]) q := by
 rw [siF, siF, List.getD_eq_getElem?_getD, List.getD_eq_getElem?_getD, List.getElem?_append_left h]
theorem siF_at {L : List SSign} {y : SSign} : y = siF (L ++ [y]) L.length := by
 rw [siF, List.getD_eq_getElem?_getD, List.getElem?_append_right (Nat.le_refl _), Nat.sub_self]; rfl
theorem selS_len (l : List (Int × MK)) (e : Int) (d : List Int) (need : Int) (k : Nat) : (selS l e d need k).length ≤ k := by
 induction k with
 | zero => exact Nat.le_refl _
 | succ k ih =>
  rw [selS]
  split
  ·simp; exact ih
  ·omega
theorem T_so0 {n : Nat} (hn : n ≤ 64) (l : List (Int × MK)) (e : Int) (d : List Int) (need : Int) : T Try.prog 49 [mP 0, .int .i64 need, wFV] (mH 0 1 n l ++ hpW e d) (sgL 4 (selS l e d need n)) (mH 0 1 n l ++ (hpW e d ++ [(.o 4, sbL (selS l e d need n))])) := by
 have hstep : ∀ k, k < n → R Try.prog none 4 (cB (cB (cR (cL (cR (bodyOf Try.f49)))))) (soI n l e d need (selS l e d need k) k) .normal (soI n l e d need (selS l e d need (k + 1)) (k + 1)) := by
  intro k hk
  have hL := TO_lk2 l (k : Nat) 1
  have hW := T_s1w (ofM l (k : Nat)).1 e (ofM l (k : Nat)).2.1 d
  have hlen := selS_len l e d need k
  rw [selS]
  cases h1 : (getM (k : Nat) l).isSome with
  | false =>
   rw [h1] at hL
   rw [if_neg (by simp)]
   refine R_alongPc NG MO _ (pcSo_p1000 n l e d need (selS l e d need k) k false (selS l e d need k)) ?_ (by show 4 ≤ 5; decide)
   simp only [All, All_append, pcSo_c, bdSg_c, h1]; and_intros
   all_goals first
    | exact True.intro
    | exact hL
    | (with_reducible assumption)
    | (rw [decide_eq_true_eq]; omega)
    | (rw [decide_eq_false_iff_not]; omega)
    | with_reducible rfl
    | (intro _ _; exact True.intro)
    | (intro _ _; with_reducible rfl)
    | (intro _ _; rfl)
    | (simp only [IntKind.min, IntKind.max, IntKind.signed, IntKind.bits, if_true]; omega)
    | omega
    | (intro h; exact h)
    | exact .inl rfl
    | exact .inl True.intro
    | (simp; done)
  | true =>
   rw [h1] at hL
   by_cases h2 : ((selS l e d need k).length : Int) < need
   ·cases h3 : isW l e d (k : Nat) with
    | true =>
     rw [if_pos (by simp [h2])]
     rw [isW] at h3
     rw [h3] at hW
     refine R_alongPc NG MO _ (pcSo_p1111 n l e d need (selS l e d need k) k true (selS l e d need k ++ [⟨(k : Nat), (ofM l (k : Nat)).2.2⟩])) ?_ (by show 4 ≤ 5; decide)
     have hl2 : (selS l e d need k ++ [(⟨(k : Nat), (ofM l (k : Nat)).2.2⟩ : SSign)]).length = (selS l e d need k).length + 1 := by simp
     simp only [All, All_append, pcSo_c, bdSg_c, h1, hl2]; and_intros
     all_goals first
      | exact True.intro
      | exact hL
      | exact hW
      | (intro j hj; exact sol1 ⟨(k : Nat), (ofM l (k : Nat)).2.2⟩ j hj)
      | (intro q hq; exact catg (y := ⟨(k : Nat), (ofM l (k : Nat)).2.2⟩) (fun q hq => siF_lt hq) siF_at q hq)
      | (with_reducible assumption)
      | (rw [decide_eq_true_eq]; omega)
      | (rw [decide_eq_false_iff_not]; omega)
      | with_reducible rfl
      | (intro _ _; exact True.intro)
      | (intro _ _; with_reducible rfl)
      | (intro _ _; rfl)
      | (simp only [IntKind.min, IntKind.max, IntKind.signed, IntKind.bits, if_true]; omega)
      | omega
      | (intro h; exact h)
      | exact .inl rfl
      | exact .inl True.intro
      | (simp; done)
    | false =>
     rw [if_neg (by simp)]
     rw [isW] at h3
     rw [h3] at hW
     refine R_alongPc NG MO _ (pcSo_p1110 n l e d need (selS l e d need k) k false (selS l e d need k)) ?_ (by show 4 ≤ 5; decide)
     simp only [All, All_append, pcSo_c, bdSg_c, h1]; and_intros
     all_goals first
      | exact True.intro
      | exact hL
      | exact hW
      | (with_reducible assumption)
      | (rw [decide_eq_true_eq]; omega)
      | (rw [decide_eq_false_iff_not]; omega)
      | with_reducible rfl
      | (intro _ _; exact True.intro)
      | (intro _ _; with_reducible rfl)
      | (intro _ _; rfl)
      | (simp only [IntKind.min, IntKind.max, IntKind.signed, IntKind.bits, if_true]; omega)
      | omega
      | (intro h; exact h)
      | exact .inl rfl
      | exact .inl True.intro
      | (simp; done)
   ·rw [if_neg (by simp [h2])]
    refine R_alongPc NG MO _ (pcSo_p1100 n l e d need (selS l e d need k) k false (selS l e d need k)) ?_ (by show 4 ≤ 5; decide)
    simp only [All, All_append, pcSo_c, bdSg_c, h1]; and_intros
    all_goals first
     | exact True.intro
     | exact hL
     | (with_reducible assumption)
     | (rw [decide_eq_true_eq]; omega)
     | (rw [decide_eq_false_iff_not]; omega)
     | with_reducible rfl
     | (intro _ _; exact True.intro)
     | (intro _ _; with_reducible rfl)
     | (intro _ _; rfl)
     | (simp only [IntKind.min, IntKind.max, IntKind.signed, IntKind.bits, if_true]; omega)
     | omega
     | (intro h; exact h)
     | exact .inl rfl
     | exact .inl True.intro
     | (simp; done)
 have hend : R Try.prog none 4 (cB (cB (cR (cL (cR (bodyOf Try.f49)))))) (soI n l e d need (selS l e d need n) n) (.exit 0) (soI n l e d need (selS l e d need n) n) := by
  refine R_alongPc NG MO _ (pcSo_p0 n l e d need (selS l e d need n) n false []) ?_ (by show 4 ≤ 5; decide)
  simp only [All, All_append, pcSo_c, bdSg_c]; and_intros
  all_goals first
   | exact True.intro
   | (with_reducible assumption)
   | (rw [decide_eq_true_eq]; omega)
   | (rw [decide_eq_false_iff_not]; omega)
   | with_reducible rfl
   | (intro _ _; exact True.intro)
   | (intro _ _; with_reducible rfl)
   | (intro _ _; rfl)
   | (simp only [IntKind.min, IntKind.max, IntKind.signed, IntKind.bits, if_true]; omega)
   | omega
   | (intro h; exact h)
   | exact .inl rfl
   | exact .inl True.intro
   | (simp; done)
 have hL := RLoop.inv (fun k => soI n l e d need (selS l e d need k) k) n hstep hend (by simp)
 refine T_al (bdSo_p n l e d need (selS l e d need n)) Try.func49 ?_
 simp only [All, All_append, pcSo_c, bdSg_c]; and_intros
 all_goals first
  | exact True.intro
  | exact hL
  | (with_reducible assumption)
  | (rw [decide_eq_true_eq]; omega)
  | (rw [decide_eq_false_iff_not]; omega)
  | with_reducible rfl
  | (intro _ _; exact True.intro)
  | (intro _ _; with_reducible rfl)
  | (intro _ _; rfl)
  | (simp only [IntKind.min, IntKind.max, IntKind.signed, IntKind.bits, if_true]; omega)
  | omega
  | (intro h; exact h)
  | exact .inl rfl
  | exact .inl True.intro
  | (simp; done)
theorem T_so {n : Nat} (hn : n ≤ 64) (l : List (Int × MK)) (e : Int) (d : List Int) (need : Int) : T Try.prog 49 [mP 0, .int .i64 need, .fn (.func 50) [] [.ptr (.o 2) 0 0 0 0, .ptr (.o 66) 0 0 0 0]] [(.o 0, .flat [.int .i64 n, .mp (.o 1)]), (.o 1, mB l), (.o 2, .flat [.int .i64 e]), (.o 66, .flat [.seg .u8 32 d])] (sgL 770 (selS l e d need n))
  [(.o 0, .flat [.int .i64 n, .mp (.o 1)]), (.o 1, mB l), (.o 2, .flat [.int .i64 e]), (.o 66, .flat [.seg .u8 32 d]), (.o 770, sbL (selS l e d need n))] := by
 obtain ⟨σ, hσ, h1⟩ := T.at (T_so0 hn l e d need) [.o 0, .o 1, .o 2, .o 3, .o 4] [.o 0, .o 1, .o 2, .o 66, .o 770] (by decide) (by decide) rfl
 simp only [List.map_cons, List.map_nil, List.cons.injEq, and_true] at hσ
 obtain ⟨s0, s1, s2, s3, s4⟩ := hσ
 simpa [V.rens, V.ren, Heap.ren, B.ren, mP, wFV, mH, mB, mpB, hpW, sgL, sgs, sbL, sgB, s0, s1, s2, s3, s4] using h1
/-- What Signs tells: nothing, or the signs. -/
def sgsM (n : Nat) (l : List (Int × MK)) (e : Int) (d : List Int) (need : Int) : Bool := decide (1 ≤ need) && decide (need ≤ ((selS l e d need n).length : Int))
theorem T_sgN {n : Nat} (hn : n ≤ 64) {l : List (Int × MK)} {e : Int} {d : List Int} {need : Int} (h : sgsM n l e d need = false) : T Try.prog 32 [mP 0, .int .i64 e, dgV d, .int .i64 need] (mH 0 1 n l) .snil (mH 0 1 n l) := by
 have hN := T_nn n
 have hS := T_so hn l e d need
 by_cases h1 : need < 1
 ·skip
  refine T_al (bdSg_p01 n l e d need []) Try.func32 ?_
  simp only [All, All_append, pcSo_c, bdSg_c]; and_intros
  all_goals first
   | exact True.intro
   | exact hN
   | (with_reducible assumption)
   | (rw [decide_eq_true_eq]; omega)
   | (rw [decide_eq_false_iff_not]; omega)
   | with_reducible rfl
   | (intro _ _; exact True.intro)
   | (intro _ _; with_reducible rfl)
   | (intro _ _; rfl)
   | (simp only [IntKind.min, IntKind.max, IntKind.signed, IntKind.bits, if_true]; omega)
   | omega
   | (intro h; exact h)
   | exact .inl rfl
   | exact .inl True.intro
   | (simp; done)
 ·have h2 : ((selS l e d need n).length : Int) < need := by
   rw [sgsM, decide_eq_true (by omega), Bool.true_and, decide_eq_false_iff_not] at h
   omega
  refine T_al (bdSg_p001 n l e d need (selS l e d need n)) Try.func32 ?_
  simp only [All, All_append, pcSo_c, bdSg_c]; and_intros
  all_goals first
   | exact True.intro
   | exact hN
   | exact hS
   | (with_reducible assumption)
   | (rw [decide_eq_true_eq]; omega)
   | (rw [decide_eq_false_iff_not]; omega)
   | with_reducible rfl
   | (intro _ _; exact True.intro)
   | (intro _ _; with_reducible rfl)
   | (intro _ _; rfl)
   | (simp only [IntKind.min, IntKind.max, IntKind.signed, IntKind.bits, if_true]; omega)
   | omega
   | (intro h; exact h)
   | exact .inl rfl
   | exact .inl True.intro
   | (simp; done)
theorem T_sgY {n : Nat} (hn : n ≤ 64) {l : List (Int × MK)} {e : Int} {d : List Int} {need : Int} (h : sgsM n l e d need = true) : T Try.prog 32 [mP 0, .int .i64 e, dgV d, .int .i64 need] (mH 0 1 n l) (sgL 770 (selS l e d need n)) (mH 0 1 n l ++ [(.o 770, sbL (selS l e d need n))]) := by
 have hN := T_nn n
 have hS := T_so hn l e d need
 rw [sgsM, Bool.and_eq_true, decide_eq_true_eq, decide_eq_true_eq] at h
 refine T_al (bdSg_p000 n l e d need (selS l e d need n)) Try.func32 ?_
 simp only [All, All_append, pcSo_c, bdSg_c]; and_intros
 all_goals first
  | exact True.intro
  | exact hN
  | exact hS
  | (with_reducible assumption)
  | (rw [decide_eq_true_eq]; omega)
  | (rw [decide_eq_false_iff_not]; omega)
  | with_reducible rfl
  | (intro _ _; exact True.intro)
  | (intro _ _; with_reducible rfl)
  | (intro _ _; rfl)
  | (simp only [IntKind.min, IntKind.max, IntKind.signed, IntKind.bits, if_true]; omega)
  | omega
  | (intro h; exact h)
  | exact .inl rfl
  | exact .inl True.intro
  | (simp; done)
theorem T_sg0 (e : Int) (d : List Int) (need : Int) : T Try.prog 32 [.pnil, .int .i64 e, dgV d, .int .i64 need] [] .snil [] := by
 have hN := T_nn0
 refine T_al (bdG0_p11 e d need) Try.func32 ?_
 simp only [All, All_append, pcSo_c, bdSg_c]; and_intros
 all_goals first
  | exact True.intro
  | exact hN
  | (with_reducible assumption)
  | (rw [decide_eq_true_eq]; omega)
  | (rw [decide_eq_false_iff_not]; omega)
  | with_reducible rfl
  | (intro _ _; exact True.intro)
  | (intro _ _; with_reducible rfl)
  | (intro _ _; rfl)
  | (simp only [IntKind.min, IntKind.max, IntKind.signed, IntKind.bits, if_true]; omega)
  | omega
  | (intro h; exact h)
  | exact .inl rfl
  | exact .inl True.intro
  | (simp; done)
theorem T_sg1 (n e : Int) (d : List Int) (need : Int) : T Try.prog 32 [mP 0, .int .i64 e, dgV d, .int .i64 need] [(.o 0, .flat [.int .i64 n, .mpnil])] .snil [(.o 0, .flat [.int .i64 n, .mpnil])] := by
 have hN := T_nn1 n
 refine T_al (bdG1_p11 n e d need) Try.func32 ?_
 simp only [All, All_append, pcSo_c, bdSg_c]; and_intros
 all_goals first
  | exact True.intro
  | exact hN
  | (with_reducible assumption)
  | (rw [decide_eq_true_eq]; omega)
  | (rw [decide_eq_false_iff_not]; omega)
  | with_reducible rfl
  | (intro _ _; exact True.intro)
  | (intro _ _; with_reducible rfl)
  | (intro _ _; rfl)
  | (simp only [IntKind.min, IntKind.max, IntKind.signed, IntKind.bits, if_true]; omega)
  | omega
  | (intro h; exact h)
  | exact .inl rfl
  | exact .inl True.intro
  | (simp; done)
end Go.Proofs.Ytpallipnhmoipaa
namespace Go.Proofs.Ytpallipnhmoipaa
open Go Sy Go.Proofs
def eL (N : Nat) (E : List Int) : B := .rows 1 N (li E) true
def laI (N : Nat) (need : Int) (l : List (Int × MK)) (E : List Int) (s : List Nat) : St := ⟨mkT 34 [(1, .int .i64 need), (5, .sl (.o 2) 1 0 0 0 N none), (19, .ptr (.o 3) 0 0 0 0)], [(.o 3, .iter (.o 1) (mkL l).length s (mkL l).length), (.o 1, mB l), (.o 0, .flat [.int .i64 N, .mp (.o 1)]), (.o 2, eL N E)], 4, []⟩
def laF (N : Nat) (need : Int) (l : List (Int × MK)) (E : List Int) : St := ⟨mkT 34 [(1, .int .i64 need), (5, .sl (.o 2) 1 0 0 0 N none)], [(.o 1, mB l), (.o 0, .flat [.int .i64 N, .mp (.o 1)]), (.o 2, eL N E)], 4, []⟩
def laPr (l : List (Int × MK)) (k : Int) (v : MK) : Prim → List V → Heap → Nat → List Cl := fun pr vs _ lo => match pr with
 | .range _ => match vs with
  | [.mp q] => [{ rd := [q], val := .ptr (.o lo) 0 0 0 0, post := [(.o lo, .iter q (mkL l).length [] (mkL l).length)] }]
  | _ => []
 | .entry => [{ rd := [.o 3, .o 1], val := .tup [.int .i64 k, .agg v.c] }]
 | _ => []
noncomputable def laDb (v : Int) : Nat → List V → Heap → Nat → List Cl := dbQ [(48, fun a _ _ => match a with | [.ptr m _ _ _ _] => [{ rd := [m], val := .bool false }] | _ => []), (21, ntDb v)]
noncomputable def bdLa (N : Nat) (l : List (Int × MK)) (need : Int) (E : List Int) (v : Int) : Bd := { f := Try.f35, args := [mP 0, .int .i64 need], pre := mH 0 1 N l, base := 2, kb := { db := laDb v, pr := laPr l 0 zM, lp := fun _ t => [(True, .loop ((mkL l).length + 1) (wToS [(.o 2, nmV (getV t.tmps 5)), (.o 3, nmV (getV t.tmps 19))] (laI N need l (List.replicate N 0) [])) (.exit 0) (laF N need l E))] }, names := fun _ => [.o 0, .o 1] }
noncomputable def bdL0 (need : Int) : Bd := { f := Try.f35, args := [.pnil, .int .i64 need], kb := { db := noDb true } }
noncomputable def bdL1 (n need : Int) : Bd := { f := Try.f35, args := [mP 0, .int .i64 need], pre := [(.o 0, .flat [.int .i64 n, .mpnil])], base := 1, kb := { db := noDb true }, names := fun _ => [.o 0] }
noncomputable def laC : Code := cB (cB (cR (cL (cR (cR (cR (bodyOf Try.f35)))))))
noncomputable def laO (i : Nat) : Oper := match laC with
 | .seq (.region _ ops _) _ => ops.getD i default
 | _ => default
noncomputable def laN (N : Nat) (need : Int) (l : List (Int × MK)) (E : List Int) (s : List Nat) (b : Nat) (k : Int) (v : MK) : St := ⟨setV (setV (laI N need l E s).tmps 20 (.tup [.bool true, .int .i64 k, .agg v.c])) 21 (.bool true), [(.o 3, .iter (.o 1) (mkL l).length (s ++ [b]) (mkL l).length), (.o 1, mB l), (.o 0, .flat [.int .i64 N, .mp (.o 1)]), (.o 2, eL N E)], 4, []⟩
noncomputable def laZ (N : Nat) (need : Int) (l : List (Int × MK)) (E : List Int) (s : List Nat) : St := ⟨setV (setV (laI N need l E s).tmps 20 (.tup [.bool false])) 21 (.bool false), [(.o 3, .iter (.o 1) (mkL l).length s (mkL l).length), (.o 1, mB l), (.o 0, .flat [.int .i64 N, .mp (.o 1)]), (.o 2, eL N E)], 4, []⟩
noncomputable def pcLa (N : Nat) (need : Int) (l : List (Int × MK)) (E : List Int) (s : List Nat) (b : Nat) (k : Int) (v : MK) (E2 : List Int) : Pc := { c := cR (cB (cB (cR (cL (cR (cR (cR (bodyOf Try.f35)))))))), st := laN N need l E s b k v, p := 2, kb := { db := fun _ _ _ _ => [], pr := laPr l k v }, k := fun _ _ => some (wTo (laI N need l E2 (s ++ [b]))) }
noncomputable def pcLz (N : Nat) (need : Int) (l : List (Int × MK)) (E : List Int) (s : List Nat) (E2 : List Int) : Pc := { c := cR (cB (cB (cR (cL (cR (cR (cR (bodyOf Try.f35)))))))), st := laZ N need l E s, p := 2, kb := kb0, k := fun _ _ => some (wTo (laF N need l E2)) }
end Go.Proofs.Ytpallipnhmoipaa
namespace Go.Proofs.Ytpallipnhmoipaa
open Go Sy Go.Proofs
theorem bdLa_p0 (N : Nat) (l : List (Int × MK)) (need : Int) (E : List Int) (v : Int) :
  along Try.prog (bdLa N l need E v) [false] = some (V.int IntKind.i64 v, [(Nm.o (0 : Nat), B.flat [V.int IntKind.i64 (↑N : Int), V.mp (Nm.o (1 : Nat))]), (Nm.o (1 : Nat), B.map (entsF (0 : Nat) (mkL l)) (List.length (mkL l)))], [T Try.prog (48 : Nat) [V.ptr (Nm.o (0 : Nat)) (0 : Nat) (0 : Nat) (0 : Nat) (0 : Nat)] [(Nm.o (0 : Nat), B.flat [V.int IntKind.i64 (↑N : Int), V.mp (Nm.o (1 : Nat))])] (V.bool false) [(Nm.o (0 : Nat), B.flat [V.int IntKind.i64 (↑N : Int), V.mp (Nm.o (1 : Nat))])], false = false, (0 : Int) ≤ (↑N : Int) ∧ (↑N : Int) ≤ (↑N : Int), (8 : Int) * (↑N : Int) ≤ (281474976710656 : Int), (↑N : Int) ≤ (281474976710656 : Int), TO Try.prog (Prim.range (62 : Nat)) [V.mp (Nm.o (1 : Nat))] [(Nm.o (1 : Nat), B.map (entsF (0 : Nat) (mkL l)) (List.length (mkL l)))] (V.ptr (Nm.o (nat_lit 834)) (0 : Nat) (0 : Nat) (0 : Nat) (0 : Nat)) [(Nm.o (nat_lit 834), B.iter (Nm.o (1 : Nat)) (List.length (mkL l)) [] (List.length (mkL l))), (Nm.o (1 : Nat), B.map (entsF (0 : Nat) (mkL l)) (List.length (mkL l)))], RLoop Try.prog none (2 : Nat) (cB (cB (cR (cL (cR (cR (cR (bodyOf (Bd.f (bdLa N l need E v)))))))))) (List.length (mkL l) + (1 : Nat)) (St.mk [V.any, V.int IntKind.i64 need, V.any, V.any, V.any, V.sl (Nm.o (2 : Nat)) (1 : Nat) (0 : Nat) (0 : Nat) (0 : Nat) N none, V.any, V.any, V.any, V.any, V.any, V.any, V.any, V.any, V.any, V.any, V.any, V.any, V.any, V.ptr (Nm.o (3 : Nat)) (0 : Nat) (0 : Nat) (0 : Nat) (0 : Nat), V.any, V.any, V.any, V.any, V.any, V.any, V.any, V.any, V.any, V.any, V.any, V.any, V.any, V.any] [(Nm.o (3 : Nat), B.iter (Nm.o (1 : Nat)) (List.length (mkL l)) [] (List.length (mkL l))), (Nm.o (1 : Nat), B.map (entsF (0 : Nat) (mkL l)) (List.length (mkL l))), (Nm.o (0 : Nat), B.flat [V.int IntKind.i64 (↑N : Int), V.mp (Nm.o (1 : Nat))]), (Nm.o (2 : Nat), B.rows (1 : Nat) N (li (List.replicate N (0 : Int))) true)] (4 : Nat) []) (Exit.exit (0 : Nat)) (St.mk [V.any, V.int IntKind.i64 need, V.any, V.any, V.any, V.sl (Nm.o (2 : Nat)) (1 : Nat) (0 : Nat) (0 : Nat) (0 : Nat) N none, V.any, V.any, V.any, V.any, V.any, V.any, V.any, V.any, V.any, V.any, V.any, V.any, V.any, V.any, V.any, V.any, V.any, V.any, V.any, V.any, V.any, V.any, V.any, V.any, V.any, V.any, V.any, V.any] [(Nm.o (1 : Nat), B.map (entsF (0 : Nat) (mkL l)) (List.length (mkL l))), (Nm.o (0 : Nat), B.flat [V.int IntKind.i64 (↑N : Int), V.mp (Nm.o (1 : Nat))]), (Nm.o (2 : Nat), B.rows (1 : Nat) N (li E) true)] (4 : Nat) []), List.length (mkL l) = List.length (mkL l), ([] : List Nat) = [], List.length (mkL l) = List.length (mkL l), entsF (0 : Nat) (mkL l) = entsF (0 : Nat) (mkL l), List.length (mkL l) = List.length (mkL l), (↑N : Int) = (↑N : Int), Int.toNat (↑N : Int) = N, ∀ (k : Nat), k < Int.toNat (↑N : Int) → [V.int IntKind.i64 (0 : Int)] = [V.int IntKind.i64 (List.getD (List.replicate N (0 : Int)) k (0 : Int))], true = false → false = false, need = need, (0 : Nat) = (0 : Nat), (0 : Nat) = (0 : Nat), (0 : Nat) = (0 : Nat), Int.toNat (↑N : Int) = N, (none : Option Nat) = none ∨ none = some (Int.toNat (↑N : Int)), (0 : Nat) = (0 : Nat), (0 : Nat) = (0 : Nat), (0 : Nat) = (0 : Nat), T Try.prog (21 : Nat) [V.sl (Nm.o (2 : Nat)) (1 : Nat) (0 : Nat) (0 : Nat) (0 : Nat) N none, V.int IntKind.i64 need] [(Nm.o (2 : Nat), B.rows (1 : Nat) N (li E) true)] (V.int IntKind.i64 v) [(Nm.o (2 : Nat), B.rows (1 : Nat) N (li E) true)]]) := by kernel_rfl

theorem bdL0_p1 (need : Int) :
  along Try.prog (bdL0 need) [true] = (some (.int .i64 0, [], [T Try.prog 48 [.pnil] [] (.bool true) [], q2]) : Option (V × Heap × List Prop)) := by kernel_rfl

theorem bdL1_p1 (n : Int) (need : Int) :
  along Try.prog (bdL1 n need) [true] = (some (.int .i64 0, [(.o 0, .flat [.int .i64 n, V.mpnil])], [T Try.prog 48 [.ptr (.o 0) 0 0 0 0] [(.o 0, .flat [.int .i64 n, V.mpnil])] (.bool true) [(.o 0, .flat [.int .i64 n, V.mpnil])], q2]) : Option (V × Heap × List Prop)) := by kernel_rfl

theorem pcLa_p1 (N : Nat) (need : Int) (l : List (Int × MK)) (E : List Int) (s : List Nat) (b : Nat) (k : Int) (v : MK) (E2 : List Int) :
  alongPc Try.prog (pcLa N need l E s b k v E2) [true] = (some (.normal, St.mk [.any, .int .i64 need, .any, .any, .any, .sl (.o 2) 1 0 0 0 N none, .any, .any, .any, .any, .any, .any, .any, .any, .any, .any, .any, .any, .any, .ptr (.o 3) 0 0 0 0, .any, .any, .any, .any, .any, .any, .any, .any, .any, .any, .any, .any, .any, .any] [(.o 3, B.iter (.o 1) (List.length (mkL l)) (s ++ [b]) (List.length (mkL l))), (.o 1, .map (entsF 0 (mkL l)) (List.length (mkL l))), (.o 0, .flat [.int .i64 ↑N, .mp (.o 1)]), (.o 2, .rows 1 N (li E2) true)] 4 [], [q2, TO Try.prog Prim.entry [V.ptr (Nm.o (3 : Nat)) (0 : Nat) (0 : Nat) (0 : Nat) (0 : Nat)] [(Nm.o (3 : Nat), B.iter (Nm.o (1 : Nat)) (List.length (mkL l)) (s ++ [b]) (List.length (mkL l))), (Nm.o (1 : Nat), B.map (entsF (0 : Nat) (mkL l)) (List.length (mkL l)))] (V.tup [V.int IntKind.i64 k, V.agg [V.int IntKind.i64 v.1, V.seg IntKind.u8 (32 : Nat) (Prod.snd v).1, V.seg IntKind.u8 (16 : Nat) (Prod.snd v).2]]) [(Nm.o (3 : Nat), B.iter (Nm.o (1 : Nat)) (List.length (mkL l)) (s ++ [b]) (List.length (mkL l))), (Nm.o (1 : Nat), B.map (entsF (0 : Nat) (mkL l)) (List.length (mkL l)))], (0 : Int) ≤ k ∧ k < (↑N : Int), (0 : Nat) + Int.toNat k < N, q (List.length (mkL l)), q (s ++ [b]), q (List.length (mkL l)), q (entsF (0 : Nat) (mkL l)), q (List.length (mkL l)), q (↑N : Int), q N, ∀ (k_1 : Nat), k_1 < N → Bool.rec [V.int IntKind.i64 (List.getD E k_1 (0 : Int))] [V.int IntKind.i64 v.1] (Nat.beq k_1 ((0 : Nat) + Int.toNat k)) = [V.int IntKind.i64 (List.getD E2 k_1 (0 : Int))], true = false → true = false, q need, q0, q0, q0, q N, (none : Option Nat) = none ∨ (none : Option Nat) = none, q0, q0, q0]) : Option (Exit × St × List Prop)) := by kernel_rfl

theorem pcLz_p0 (N : Nat) (need : Int) (l : List (Int × MK)) (E : List Int) (s : List Nat) (E2 : List Int) :
  alongPc Try.prog (pcLz N need l E s E2) [false] = (some (.exit 0, St.mk [.any, .int .i64 need, .any, .any, .any, .sl (.o 2) 1 0 0 0 N none, .any, .any, .any, .any, .any, .any, .any, .any, .any, .any, .any, .any, .any, .any, .any, .any, .any, .any, .any, .any, .any, .any, .any, .any, .any, .any, .any, .any] [(.o 1, .map (entsF 0 (mkL l)) (List.length (mkL l))), (.o 0, .flat [.int .i64 ↑N, .mp (.o 1)]), (.o 2, .rows 1 N (li E2) true)] 4 [], [q false, q (entsF (0 : Nat) (mkL l)), q (List.length (mkL l)), q (↑N : Int), q N, ∀ (k : Nat), k < N → [V.int IntKind.i64 (List.getD E k (0 : Int))] = [V.int IntKind.i64 (List.getD E2 k (0 : Int))], true = false → true = false, q need, q0, q0, q0, q N, (none : Option Nat) = none ∨ (none : Option Nat) = none]) : Option (Exit × St × List Prop)) := by kernel_rfl

/-- The marks' nodes are unlike, and below N. -/
def okM (N : Nat) (l : List (Int × MK)) : Prop := (l.map (·.1)).Nodup ∧ ∀ p ∈ l, 0 ≤ p.1 ∧ p.1 < (N : Int)
theorem getM_mem {k : Int} {v : MK} : ∀ {l : List (Int × MK)}, (l.map (·.1)).Nodup → (k, v) ∈ l → getM k l = some v
 | [], _, h => absurd h List.not_mem_nil
 | p :: l, hn, h => by
  rw [List.map_cons, List.nodup_cons] at hn
  rw [getM]
  rcases List.mem_cons.1 h with rfl | h
  ·rw [if_pos rfl]
  ·rw [if_neg fun e => hn.1 (by rw [← e]; exact List.mem_map.2 ⟨_, h, rfl⟩)]
   exact getM_mem hn.2 h
theorem getM_none {k : Int} : ∀ {l : List (Int × MK)}, (∀ p ∈ l, p.1 ≠ k) → getM k l = none
 | [], _ => rfl
 | p :: l, h => by
  rw [getM, if_neg fun e => h p (List.mem_cons_self ..) e.symm]
  exact getM_none fun q hq => h q (List.mem_cons_of_mem _ hq)
def seenM (l : List (Int × MK)) (s : List Nat) (i : Int) : Bool := s.any fun b => (l[b]?).any fun p => decide (p.1 = i)
def eF (N : Nat) (l : List (Int × MK)) (s : List Nat) : List Int := (List.range N).map fun i => if seenM l s (i : Nat) = true then (ofM l (i : Nat)).1 else 0
def epM (N : Nat) (l : List (Int × MK)) : List Int := (List.range N).map fun i => (ofM l (i : Nat)).1
theorem epM_len (N : Nat) (l : List (Int × MK)) : (epM N l).length = N := by simp [epM]
theorem eF_get {N : Nat} {l : List (Int × MK)} {s : List Nat} {i : Nat} (h : i < N) : (eF N l s).getD i 0 = if seenM l s (i : Nat) = true then (ofM l (i : Nat)).1 else 0 := by
 rw [eF, List.getD_eq_getElem?_getD, List.getElem?_map, List.getElem?_range h]; rfl
theorem epM_get {N : Nat} {l : List (Int × MK)} {i : Nat} (h : i < N) : (epM N l).getD i 0 = (ofM l (i : Nat)).1 := by
 rw [epM, List.getD_eq_getElem?_getD, List.getElem?_map, List.getElem?_range h]; rfl
theorem rep_get (N i : Nat) : (List.replicate N (0 : Int)).getD i 0 = 0 := by
 rw [List.getD_eq_getElem?_getD, List.getElem?_replicate]; split <;> rfl
theorem seen_add {l : List (Int × MK)} {s : List Nat} {b : Nat} {k : Int} {v : MK} (hl : l[b]? = some (k, v)) (i : Int) : seenM l (s ++ [b]) i = (seenM l s i || decide (k = i)) := by
 simp [seenM, hl]
theorem eF_step {N : Nat} {l : List (Int × MK)} (ho : okM N l) {s : List Nat} {b : Nat} {k : Int} {v : MK} (hl : l[b]? = some (k, v)) (i : Nat) (hi : i < N) :
  (Bool.rec [V.int .i64 ((eF N l s).getD i 0)] [V.int .i64 v.1] (Nat.beq i (0 + Int.toNat k)) : List V) = [V.int .i64 ((eF N l (s ++ [b])).getD i 0)] := by
 have hm : (k, v) ∈ l := List.mem_of_getElem? hl
 obtain ⟨h0, h1⟩ := ho.2 _ hm
 have hg := getM_mem ho.1 hm
 rw [eF_get hi, eF_get hi, seen_add hl, Nat.zero_add]
 cases hb : Nat.beq i k.toNat with
 | true =>
  have := Nat.eq_of_beq_eq_true hb
  have hk : k = (i : Nat) := by simp only at h0 h1; omega
  simp only [decide_eq_true hk, Bool.or_true, if_true]
  rw [← hk, ofM, hg]; rfl
 | false =>
  have hk : ¬ k = (i : Nat) := fun e => by
   have : i = k.toNat := by omega
   rw [this, Nat.beq_refl] at hb; cases hb
  rw [decide_eq_false hk, Bool.or_false]
theorem eF_all {N : Nat} {l : List (Int × MK)} {s : List Nat} (h : ∀ b, b < l.length → b ∈ s) (i : Nat) (hi : i < N) : (eF N l s).getD i 0 = (epM N l).getD i 0 := by
 rw [eF_get hi, epM_get hi]
 by_cases hp : ∃ p ∈ l, p.1 = (i : Int)
 ·obtain ⟨p, h1, h2⟩ := hp
  obtain ⟨b, hb, e⟩ := List.getElem_of_mem h1
  rw [if_pos]
  rw [seenM, List.any_eq_true]
  exact ⟨b, h b hb, by rw [List.getElem?_eq_getElem hb, e]; simp [h2]⟩
 ·have hg : getM (i : Nat) l = none := getM_none fun p hp1 e => hp ⟨p, hp1, e⟩
  rw [ofM, hg]
  split <;> rfl
theorem laC_eq : laC = .seq (.region 5 #[(laO 0), (laO 1)] false) (cR laC) := by kernel_rfl
theorem T_la {N : Nat} (hN : N ≤ 64) {l : List (Int × MK)} (ho : okM N l) (need : Int) : T Try.prog 35 [mP 0, .int .i64 need] (mH 0 1 N l) (.int .i64 (nthV (epM N l) need)) (mH 0 1 N l) := by
 have hn := T_nn N
 have hlen : (mkL l).length = l.length := by simp [mkL]
 have hL : RLoop Try.prog none 2 laC ((mkL l).length + 1) (laI N need l (eF N l []) []) (.exit 0) (laF N need l (epM N l)) := by
  rw [laC_eq]
  refine RLoop_map (P := Try.prog) (p := 2) (it := .o 3) (m := .o 1) (l := mkL l) (t := 19) (d0 := 20) (d1 := 21) (fun s => laI N need l (eF N l s) s) (fun s => [(.o 0, .flat [.int .i64 N, .mp (.o 1)]), (.o 2, eL N (eF N l s))])
   rfl rfl rfl rfl rfl rfl (fun s => by rfl) (fun s => by show 20 < 34; decide) (fun s => by rfl) (fun s => by show 2 ≤ 4; decide) (fun s b q hb hs hq => ?_) (fun s hall hs => ?_) (by simp)
  ·obtain ⟨p, hp, hq2⟩ : ∃ p, l[b]? = some p ∧ q = (p.1, MK.c p.2) := by
    rw [mkL, List.getElem?_map] at hq
    cases hp : l[b]? with
    | none => rw [hp] at hq; cases hq
    | some p => rw [hp] at hq; exact ⟨p, rfl, by simpa using hq.symm⟩
   obtain ⟨k, v⟩ := p
   subst hq2
   have hE := TO_entry (P := Try.prog) (it := .o 3) (m := .o 1) (l := mkL l) (seen := s) hq
   obtain ⟨h0, h1⟩ := ho.2 _ (List.mem_of_getElem? hp)
   simp only at h0 h1
   refine R_alongPc NG MO _ (pcLa_p1 N need l (eF N l s) s b k v (eF N l (s ++ [b]))) ?_ (by show 2 ≤ 4; decide)
   simp only [All]; and_intros
   all_goals first
    | exact True.intro
    | exact hE
    | exact ⟨h0, h1⟩
    | (intro i hi; exact eF_step ho hp i hi)
    | (with_reducible assumption)
    | (rw [decide_eq_true_eq]; omega)
    | (rw [decide_eq_false_iff_not]; omega)
    | with_reducible rfl
    | (intro _ _; exact True.intro)
    | (intro _ _; with_reducible rfl)
    | (intro _ _; rfl)
    | (simp only [IntKind.min, IntKind.max, IntKind.signed, IntKind.bits, if_true]; omega)
    | omega
    | (intro h; exact h)
    | (intro h; cases h; done)
    | exact .inl rfl
    | exact .inl True.intro
    | (simp; done)
  ·refine R_alongPc NG MO _ (pcLz_p0 N need l (eF N l s) s (epM N l)) ?_ (by show 2 ≤ 4; decide)
   simp only [All]; and_intros
   all_goals first
    | exact True.intro
    | (intro k hk; rw [eF_all (fun b hb => hall b (by rw [hlen]; exact hb)) k hk])
    | (with_reducible assumption)
    | (rw [decide_eq_true_eq]; omega)
    | (rw [decide_eq_false_iff_not]; omega)
    | with_reducible rfl
    | (intro _ _; exact True.intro)
    | (intro _ _; with_reducible rfl)
    | (intro _ _; rfl)
    | (simp only [IntKind.min, IntKind.max, IntKind.signed, IntKind.bits, if_true]; omega)
    | omega
    | (intro h; exact h)
    | (intro h; cases h; done)
    | exact .inl rfl
    | exact .inl True.intro
    | (simp; done)
 have hNt := T_nt (l := epM N l) (by rw [epM_len]; omega) need
 have hE0 : ∀ k, k < N → [V.int .i64 (0 : Int)] = [V.int .i64 ((eF N l []).getD k 0)] := fun k hk => by rw [eF_get hk]; rfl
 have e0 : ∀ k, k < N → (List.replicate N (0 : Int)).getD k 0 = (eF N l []).getD k 0 := fun k hk => by rw [rep_get, eF_get hk]; rfl
 have hpre : RLoop Try.prog none 2 laC ((mkL l).length + 1) (laI N need l (List.replicate N 0) []) (.exit 0) (laF N need l (epM N l)) := by
  have : li (List.replicate N 0) = li (List.replicate N 0) := rfl
  have e : eF N l [] = List.replicate N 0 := by
   apply List.ext_getElem?
   intro k
   by_cases hk : k < N
   ·have := e0 k hk
    have h1 : k < (eF N l []).length := by simp [eF]; exact hk
    have h2 : k < (List.replicate N (0 : Int)).length := by simp; exact hk
    rw [List.getD_eq_getElem?_getD, List.getD_eq_getElem?_getD, List.getElem?_eq_getElem h1, List.getElem?_eq_getElem h2] at this
    rw [List.getElem?_eq_getElem h1, List.getElem?_eq_getElem h2]
    simp only [Option.getD_some] at this
    rw [this]
   ·rw [List.getElem?_eq_none (by simp [eF]; omega), List.getElem?_eq_none (by simp; omega)]
  rw [← e]; exact hL
 have hN2 : T Try.prog 21 [.sl (.o 2) 1 0 0 0 N none, .int .i64 need] [(.o 2, .rows 1 N (li (epM N l)) true)] (.int .i64 (nthV (epM N l) need)) [(.o 2, .rows 1 N (li (epM N l)) true)] := by
  have hel := epM_len N l
  refine T.lendG hNt rfl ?_ (FreeV.int _ _) (by simp) (by rintro n ⟨b, hb⟩; cases hb)
  simp only [All, hel]; and_intros
  all_goals first
   | exact True.intro
   | (intro k hk; rw [Nat.zero_add])
   | (with_reducible assumption)
   | (rw [decide_eq_true_eq]; omega)
   | (rw [decide_eq_false_iff_not]; omega)
   | with_reducible rfl
   | (intro _ _; exact True.intro)
   | (intro _ _; with_reducible rfl)
   | (intro _ _; rfl)
   | (simp only [IntKind.min, IntKind.max, IntKind.signed, IntKind.bits, if_true]; omega)
   | omega
   | (intro h; exact h)
   | (intro h; cases h; done)
   | exact .inl rfl
   | exact .inl True.intro
   | (simp; done)
 refine T_al (bdLa_p0 N l need (epM N l) (nthV (epM N l) need)) Try.func35 ?_
 simp only [All, Int.toNat_natCast]; and_intros
 all_goals first
  | exact True.intro
  | exact hn
  | exact hpre
  | exact hN2
  | exact TO_range mapT (.o 1) (mkL l) 834 (by decide)
  | (intro k _; rw [rep_get])
  | (with_reducible assumption)
  | (rw [decide_eq_true_eq]; omega)
  | (rw [decide_eq_false_iff_not]; omega)
  | with_reducible rfl
  | (intro _ _; exact True.intro)
  | (intro _ _; with_reducible rfl)
  | (intro _ _; rfl)
  | (simp only [IntKind.min, IntKind.max, IntKind.signed, IntKind.bits, if_true]; omega)
  | omega
  | (intro h; exact h)
  | (intro h; cases h; done)
  | exact .inl rfl
  | exact .inl True.intro
  | (simp; done)
theorem T_la0 (need : Int) : T Try.prog 35 [.pnil, .int .i64 need] [] (.int .i64 0) [] := by
 have hN := T_nn0
 refine T_al (bdL0_p1 need) Try.func35 ?_
 simp only [All]; and_intros
 all_goals first
  | exact True.intro
  | exact hN
  | (with_reducible assumption)
  | (rw [decide_eq_true_eq]; omega)
  | (rw [decide_eq_false_iff_not]; omega)
  | with_reducible rfl
  | (intro _ _; exact True.intro)
  | (intro _ _; with_reducible rfl)
  | (intro _ _; rfl)
  | (simp only [IntKind.min, IntKind.max, IntKind.signed, IntKind.bits, if_true]; omega)
  | omega
  | (intro h; exact h)
  | (intro h; cases h; done)
  | exact .inl rfl
  | exact .inl True.intro
  | (simp; done)
theorem T_la1 (n need : Int) : T Try.prog 35 [mP 0, .int .i64 need] [(.o 0, .flat [.int .i64 n, .mpnil])] (.int .i64 0) [(.o 0, .flat [.int .i64 n, .mpnil])] := by
 have hN := T_nn1 n
 refine T_al (bdL1_p1 n need) Try.func35 ?_
 simp only [All]; and_intros
 all_goals first
  | exact True.intro
  | exact hN
  | (with_reducible assumption)
  | (rw [decide_eq_true_eq]; omega)
  | (rw [decide_eq_false_iff_not]; omega)
  | with_reducible rfl
  | (intro _ _; exact True.intro)
  | (intro _ _; with_reducible rfl)
  | (intro _ _; rfl)
  | (simp only [IntKind.min, IntKind.max, IntKind.signed, IntKind.bits, if_true]; omega)
  | omega
  | (intro h; exact h)
  | (intro h; cases h; done)
  | exact .inl rfl
  | exact .inl True.intro
  | (simp; done)
end Go.Proofs.Ytpallipnhmoipaa
namespace Go.Proofs.Ytpallipnhmoipaa
open Go Sy Go.Proofs
def mapOf (m : Nm) (h : Heap) : Nm := match pull m h with
 | some (.flat [_, .mp q], _) => q
 | _ => .g 0
def hM (m q : Nm) (n : Int) (l : List (Int × MK)) : Heap := [(m, .flat [.int .i64 n, .mp q]), (q, mB l)]
def d7 : List Int := [7, 0, 0, 0, 0, 0, 0, 0, 0, 0, 0, 0, 0, 0, 0, 0, 0, 0, 0, 0, 0, 0, 0, 0, 0, 0, 0, 0, 0, 0, 0, 0]
def tgN (n : Int) : List Int := [n, 0, 0, 0, 0, 0, 0, 0, 0, 0, 0, 0, 0, 0, 0, 0]
def lvM (k : Int) : List (Int × MK) := if k = 3 then [(3, (1, d7, tgN 3))] else if k = 0 then [(3, (1, d7, tgN 3)), (0, (1, d7, tgN 0))] else [(3, (1, d7, tgN 3)), (0, (1, d7, tgN 0)), (1, (1, d7, tgN 1))]
def lvS : List SSign := [⟨0, tgN 0⟩, ⟨1, tgN 1⟩, ⟨3, tgN 3⟩]
noncomputable def lvDb : Nat → List V → Heap → Nat → List Cl := dbQ [
 (29, fun _ _ lo => [{ val := .ptr (.o lo) 0 0 0 0, post := hM (.o lo) (.o (lo + 1)) 4 [] }]),
 (31, fun a h _ => match a with | [.ptr m _ _ _ _, .int _ k, _, _, _] => [{ pre := [m, mapOf m h], val := .int .i64 0, post := hM m (mapOf m h) 4 (lvM k) }] | _ => []),
 (32, fun a h lo => match a with | [.ptr m _ _ _ _, _, _, _] => [{ pre := [m, mapOf m h], val := sgL lo lvS, post := hM m (mapOf m h) 4 (lvM 1) ++ [(.o lo, sbL lvS)] }] | _ => []),
 (35, fun a h _ => match a with | [.ptr m _ _ _ _, .int _ k] => [{ pre := [m, mapOf m h], val := .int .i64 (if k = 3 then 1 else 0), post := hM m (mapOf m h) 4 (lvM 1) }] | _ => [])]
noncomputable def bdLv3 : Bd := { f := Try.f30, args := [], kb := { db := lvDb, lp := fun _ _ => [(True, .rounds 4)], lit := true } }
end Go.Proofs.Ytpallipnhmoipaa
