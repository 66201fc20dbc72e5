/-
  Contracts and laws that the claim's theorem leans on, joined out of the texts Qf0 Qg2 (own work of this seat): Contracts: envelopes as bytes behind any bytes, by the program and by the document's answer; an envelope that the document's answer reads; The shapes of bytes and envelopes that are handed in.
-/
import Derived.Test.YtnmccoincblecaaGreatC04
import Derived.Test.YtnmccoincblecaaGreatC11
set_option linter.unusedVariables false
set_option linter.unusedSimpArgs false
set_option maxHeartbeats 1000000
namespace Go.Proofs.YtnmccoincblecaaGreat
open Go Sy Go.Proofs
theorem bdPnR_p1 (z : Int) (l : List UInt8) (c : Bool) :
  along Tryz.prog (bdPnR z l c) [true] = (some (.ros 1 (natO (some (↑(List.length l) : Int)) (List.length l) - nat_lit 0) (shiftF (bl l) none) true, [], [(0 : Int) ≤ (↑(List.length l) : Int) ∧ (↑(List.length l) : Int) ≤ (↑(List.length l) : Int), (0 : Int) ≤ (↑(List.length l) : Int) ∧ (↑(List.length l) : Int) ≤ (↑(natO (some (↑(List.length l) : Int)) (List.length l)) : Int), q (↑(List.length l) : Int), decide (z < (0 : Int)) = true]) : Option (V × Heap × List Prop)) := by kernel_rfl

theorem bdToR_p (l : List UInt8) (c : Bool) (s : ByteArray) :
  along Tryz.prog (bdToR l c s) [] = (some (.sl (.o 63) 1 0 0 0 (List.length (l ++ textB s)) none, [(.o 63, bs (l ++ textB s))], [T Tryz.prog 35 [.ros 1 (List.length l) (bl l) c, .int .i64 (↑(ByteArray.size s) : Int)] [] (sb (.o 257) (l ++ putZ (↑(ByteArray.size s) : Int))) [(.o 257, bs (l ++ putZ (↑(ByteArray.size s) : Int)))], q (List.length (l ++ putZ (↑(ByteArray.size s) : Int))), (List.length (l ++ putZ (↑(ByteArray.size s) : Int)) + ByteArray.size s) * (1 : Nat) ≤ (140737488355328 : Nat), List.length (l ++ putZ (↑(ByteArray.size s) : Int)) + ByteArray.size s = List.length (l ++ textB s), ∀ (k : Nat), k < List.length (l ++ putZ (↑(ByteArray.size s) : Int)) + ByteArray.size s → catF (List.length (l ++ putZ (↑(ByteArray.size s) : Int))) (bl (l ++ putZ (↑(ByteArray.size s) : Int))) (fun k => [V.int IntKind.u8 (byteAt s k)]) k = bl (l ++ textB s) k, true = false → true = false, q0, q0, q0, List.length (l ++ putZ (↑(ByteArray.size s) : Int)) + ByteArray.size s = List.length (l ++ textB s), (none : Option Nat) = none ∨ (none : Option Nat) = none]) : Option (V × Heap × List Prop)) := by kernel_rfl

theorem bdEaR_p (l : List UInt8) (e : SEnv) :
  along Tryz.prog (bdEaR l e) [] = (some (.sl (.o 63) 1 0 0 0 (List.length (l ++ envI e)) none, [(.o 63, bs (l ++ envI e))], [T Tryz.prog 35 [.ros 1 (List.length l) (bl l) false, .int .i64 (SEnv.src e)] [] (sb (.o 321) (l ++ putZ (SEnv.src e))) [(.o 321, bs (l ++ putZ (SEnv.src e)))], T Tryz.prog 34 [.sl (.o 321) 1 0 0 0 (List.length (l ++ putZ (SEnv.src e))) none, .str (SEnv.body e)] [(.o 321, bs (l ++ putZ (SEnv.src e)))] (sb (.o 513) (l ++ (putI (SEnv.src e) ++ textB (SEnv.body e)))) [(.o 513, bs (l ++ (putI (SEnv.src e) ++ textB (SEnv.body e))))], q (List.length (l ++ (putI (SEnv.src e) ++ textB (SEnv.body e)))), nat_lit 16 ≤ (16 : Nat), (List.length (l ++ (putI (SEnv.src e) ++ textB (SEnv.body e))) + nat_lit 16) * (1 : Nat) ≤ (140737488355328 : Nat), List.length (l ++ (putI (SEnv.src e) ++ textB (SEnv.body e))) + nat_lit 16 = List.length (l ++ envI e), ∀ (k : Nat), k < List.length (l ++ (putI (SEnv.src e) ++ textB (SEnv.body e))) + nat_lit 16 → catF (List.length (l ++ (putI (SEnv.src e) ++ textB (SEnv.body e)))) (bl (l ++ (putI (SEnv.src e) ++ textB (SEnv.body e)))) (fun q => [V.int IntKind.u8 (List.getD (SEnv.tag e) (nat_lit 0 + q) (0 : Int))]) k = bl (l ++ envI e) k, true = false → true = false, q0, q0, q0, List.length (l ++ (putI (SEnv.src e) ++ textB (SEnv.body e))) + nat_lit 16 = List.length (l ++ envI e), (none : Option Nat) = none ∨ (none : Option Nat) = none]) : Option (V × Heap × List Prop)) := by kernel_rfl

theorem bdEnR_p (l : List UInt8) (e : SEnv) :
  along Tryz.prog (bdEnR l e) [] = (some (.sl (.o 63) 1 0 0 0 (List.length (l ++ envI e)) none, [(.o 63, bs (l ++ envI e))], [T Tryz.prog 35 [.ros 1 (List.length l) (bl l) false, .int .i64 (SEnv.src e)] [] (.ros 1 (List.length l) (bl l) true) [], T Tryz.prog 34 [.ros 1 (List.length l) (bl l) true, .str (SEnv.body e)] [] (sb (.o 513) (l ++ (putI (SEnv.src e) ++ textB (SEnv.body e)))) [(.o 513, bs (l ++ (putI (SEnv.src e) ++ textB (SEnv.body e))))], q (List.length (l ++ (putI (SEnv.src e) ++ textB (SEnv.body e)))), nat_lit 16 ≤ (16 : Nat), (List.length (l ++ (putI (SEnv.src e) ++ textB (SEnv.body e))) + nat_lit 16) * (1 : Nat) ≤ (140737488355328 : Nat), List.length (l ++ (putI (SEnv.src e) ++ textB (SEnv.body e))) + nat_lit 16 = List.length (l ++ envI e), ∀ (k : Nat), k < List.length (l ++ (putI (SEnv.src e) ++ textB (SEnv.body e))) + nat_lit 16 → catF (List.length (l ++ (putI (SEnv.src e) ++ textB (SEnv.body e)))) (bl (l ++ (putI (SEnv.src e) ++ textB (SEnv.body e)))) (fun q => [V.int IntKind.u8 (List.getD (SEnv.tag e) (nat_lit 0 + q) (0 : Int))]) k = bl (l ++ envI e) k, true = false → true = false, q0, q0, q0, List.length (l ++ (putI (SEnv.src e) ++ textB (SEnv.body e))) + nat_lit 16 = List.length (l ++ envI e), (none : Option Nat) = none ∨ (none : Option Nat) = none]) : Option (V × Heap × List Prop)) := by kernel_rfl

theorem bdRoR_p0 (n : Nat) (l : List UInt8) :
  along Tryz.prog (bdRoR n l) [false] = (some (.sl (.o 63) 1 0 0 0 (List.length (l ++ putN n)) none, [(.o 63, bs (l ++ putN n))], [q0, ∀ (k : Nat), k < List.length l → true = true, ((0 : Nat) + List.length l) * (1 : Nat) ≤ (140737488355328 : Nat), q false, T Tryz.prog 81 [.int .i64 ↑n] [] (sb (.o 513) (digs 8 n)) [(.o 513, bs (digs 8 n))], q ((0 : Nat) + List.length l), nat_lit 1 ≤ (1 : Nat), ∀ (k : Nat), k < (1 : Nat) → solid (getL [[V.int IntKind.u8 (IntKind.wrap IntKind.u8 (↑(List.length (digs (8 : Nat) n)) : Int))]] ((0 : Nat) + k)) = true, ((0 : Nat) + List.length l + (1 : Nat)) * (1 : Nat) ≤ (140737488355328 : Nat), q ((0 : Nat) + List.length l + (1 : Nat)), (0 : Nat) + List.length (digs (8 : Nat) n) ≤ List.length (digs (8 : Nat) n), ∀ (k : Nat), k < List.length (digs (8 : Nat) n) → true = true, ((0 : Nat) + List.length l + (1 : Nat) + List.length (digs (8 : Nat) n)) * (1 : Nat) ≤ (140737488355328 : Nat), (0 : Nat) + List.length l + (1 : Nat) + List.length (digs (8 : Nat) n) = List.length (l ++ putN n), ∀ (k : Nat), k < (0 : Nat) + List.length l + (1 : Nat) + List.length (digs (8 : Nat) n) → catF ((0 : Nat) + List.length l + (1 : Nat)) (catF ((0 : Nat) + List.length l) (catF (0 : Nat) (getL []) (bl l)) fun k => getL [[V.int IntKind.u8 (IntKind.wrap IntKind.u8 (↑(List.length (digs (8 : Nat) n)) : Int))]] ((0 : Nat) + k)) (fun k => bl (digs (8 : Nat) n) ((0 : Nat) + k)) k = bl (l ++ putN n) k, true = false → true = false, q0, q0, q0, (0 : Nat) + List.length l + (1 : Nat) + List.length (digs (8 : Nat) n) = List.length (l ++ putN n), (none : Option Nat) = none ∨ (none : Option Nat) = none]) : Option (V × Heap × List Prop)) := by kernel_rfl

theorem bdRnR_p1 (z : Int) (l : List UInt8) :
  along Tryz.prog (bdRnR z l) [true] = (some (.sl (.o 63) 1 0 0 0 (List.length l) none, [(.o 63, bs l)], [q0, ∀ (k : Nat), k < List.length l → true = true, ((0 : Nat) + List.length l) * (1 : Nat) ≤ (140737488355328 : Nat), decide (z < (0 : Int)) = true, (0 : Nat) + List.length l = List.length l, ∀ (k : Nat), k < (0 : Nat) + List.length l → [V.int IntKind.u8 (↑(UInt8.toNat (List.getD l (k - (0 : Nat)) (0 : UInt8))) : Int)] = bl l k, true = false → true = false, q0, q0, q0, (0 : Nat) + List.length l = List.length l, (none : Option Nat) = none ∨ (none : Option Nat) = none]) : Option (V × Heap × List Prop)) := by kernel_rfl

theorem bdE2_p (l0 : List UInt8) (e : SEnv) :
  along Tryz.prog (bdE2 l0 e) [] = (some (.sl (.o 63) 1 0 0 0 (List.length (l0 ++ envI e)) none, [(.o 63, bs (l0 ++ envI e))], [T Tryz.prog 37 [.ros 1 (List.length l0) (bl l0) false, .int .i64 (SEnv.src e)] [] (sb (.o 321) (l0 ++ putI (SEnv.src e))) [(.o 321, bs (l0 ++ putI (SEnv.src e)))], T Tryz.prog 36 [.sl (.o 321) 1 0 0 0 (List.length (l0 ++ putI (SEnv.src e))) none, .str (SEnv.body e)] [(.o 321, bs (l0 ++ putI (SEnv.src e)))] (sb (.o 513) (l0 ++ putI (SEnv.src e) ++ textB (SEnv.body e))) [(.o 513, bs (l0 ++ putI (SEnv.src e) ++ textB (SEnv.body e)))], RLoop Tryz.prog none 1 (cB (cB (cR (cL (cR (cR (bodyOf (Bd.f (bdE2 l0 e))))))))) 17 (St.mk (mkT 25 [(0, .sl (.o 1) 1 0 0 0 (List.length (l0 ++ putI (SEnv.src e) ++ textB (SEnv.body e) ++ segB [])) none), (3, .ptr (.o 2) 0 0 0 0), (5, .int .i64 0)]) [(.o 1, bs (l0 ++ putI (SEnv.src e) ++ textB (SEnv.body e) ++ segB [])), (.o 2, .flat (SEnv.c e))] 3 []) (.exit 0) (St.mk (mkT 25 [(0, .sl (.o 1) 1 0 0 0 (List.length (l0 ++ putI (SEnv.src e) ++ textB (SEnv.body e) ++ segB (List.take 16 (SEnv.tag e)))) none), (3, .ptr (.o 2) 0 0 0 0), (5, .int .i64 16)]) [(.o 1, bs (l0 ++ putI (SEnv.src e) ++ textB (SEnv.body e) ++ segB (List.take 16 (SEnv.tag e)))), (.o 2, .flat (SEnv.c e))] 3 []), List.length (l0 ++ putI (SEnv.src e) ++ textB (SEnv.body e)) = List.length (l0 ++ putI (SEnv.src e) ++ textB (SEnv.body e) ++ segB []), ∀ (k : Nat), k < List.length (l0 ++ putI (SEnv.src e) ++ textB (SEnv.body e)) → bl (l0 ++ putI (SEnv.src e) ++ textB (SEnv.body e)) k = bl (l0 ++ putI (SEnv.src e) ++ textB (SEnv.body e) ++ segB []) k, true = false → true = false, q (SEnv.src e), q (SEnv.body e), q (16 : Nat), q (SEnv.tag e), q0, q0, q0, List.length (l0 ++ putI (SEnv.src e) ++ textB (SEnv.body e)) = List.length (l0 ++ putI (SEnv.src e) ++ textB (SEnv.body e) ++ segB []), (none : Option Nat) = none ∨ (none : Option Nat) = none, q0, q0, q0, q1, List.length (l0 ++ putI (SEnv.src e) ++ textB (SEnv.body e) ++ segB (List.take (16 : Nat) (SEnv.tag e))) = List.length (l0 ++ envI e), ∀ (k : Nat), k < List.length (l0 ++ putI (SEnv.src e) ++ textB (SEnv.body e) ++ segB (List.take (16 : Nat) (SEnv.tag e))) → bl (l0 ++ putI (SEnv.src e) ++ textB (SEnv.body e) ++ segB (List.take (16 : Nat) (SEnv.tag e))) k = bl (l0 ++ envI e) k, true = false → true = false, q0, q0, q0, List.length (l0 ++ putI (SEnv.src e) ++ textB (SEnv.body e) ++ segB (List.take (16 : Nat) (SEnv.tag e))) = List.length (l0 ++ envI e), (none : Option Nat) = none ∨ (none : Option Nat) = none]) : Option (V × Heap × List Prop)) := by kernel_rfl

theorem pcE2_p1 (l : List UInt8) (e : SEnv) (k : Nat) :
  alongPc Tryz.prog (pcE2 l e k) [true] = (some (.normal, St.mk (mkT 25 [(0, .sl (.o 1) 1 0 0 0 (List.length (l ++ segB (List.take (k + 1) (SEnv.tag e)))) none), (3, .ptr (.o 2) 0 0 0 0), (5, .int .i64 (↑(k + 1) : Int))]) [(.o 1, bs (l ++ segB (List.take (k + 1) (SEnv.tag e)))), (.o 2, .flat (SEnv.c e))] 3 [], [decide ((↑k : Int) < (16 : Int)) = true, (0 : Int) ≤ (↑k : Int) ∧ (↑k : Int) < (16 : Int), (0 : Nat) + Int.toNat (↑k : Int) < (16 : Nat), q (List.length (l ++ segB (List.take k (SEnv.tag e)))), nat_lit 1 ≤ (1 : Nat), ∀ (k_1 : Nat), k_1 < (1 : Nat) → solid (getL [[V.int IntKind.u8 (List.getD (SEnv.tag e) ((0 : Nat) + Int.toNat (↑k : Int)) (0 : Int))]] ((0 : Nat) + k_1)) = true, (List.length (l ++ segB (List.take k (SEnv.tag e))) + (1 : Nat)) * (1 : Nat) ≤ (140737488355328 : Nat), InR IntKind.i64 ((↑k : Int) + (1 : Int)), List.length (l ++ segB (List.take k (SEnv.tag e))) + (1 : Nat) = List.length (l ++ segB (List.take (k + (1 : Nat)) (SEnv.tag e))), ∀ (k_1 : Nat), k_1 < List.length (l ++ segB (List.take k (SEnv.tag e))) + (1 : Nat) → catF (List.length (l ++ segB (List.take k (SEnv.tag e)))) (bl (l ++ segB (List.take k (SEnv.tag e)))) (fun k_2 => getL [[V.int IntKind.u8 (List.getD (SEnv.tag e) ((0 : Nat) + Int.toNat (↑k : Int)) (0 : Int))]] ((0 : Nat) + k_2)) k_1 = bl (l ++ segB (List.take (k + (1 : Nat)) (SEnv.tag e))) k_1, true = false → true = false, q (SEnv.src e), q (SEnv.body e), q (16 : Nat), q (SEnv.tag e), q0, q0, q0, List.length (l ++ segB (List.take k (SEnv.tag e))) + (1 : Nat) = List.length (l ++ segB (List.take (k + (1 : Nat)) (SEnv.tag e))), (none : Option Nat) = none ∨ (none : Option Nat) = none, q0, q0, q0, (↑k : Int) + (1 : Int) = (↑(k + (1 : Nat)) : Int)]) : Option (Exit × St × List Prop)) := by kernel_rfl
theorem pcE2_p0 (l : List UInt8) (e : SEnv) (k : Nat) :
  alongPc Tryz.prog (pcE2 l e k) [false] = (some (.exit 0, St.mk (mkT 25 [(0, .sl (.o 1) 1 0 0 0 (List.length (l ++ segB (List.take k (SEnv.tag e)))) none), (3, .ptr (.o 2) 0 0 0 0), (5, .int .i64 ↑k)]) [(.o 1, bs (l ++ segB (List.take k (SEnv.tag e)))), (.o 2, .flat (SEnv.c e))] 3 [], [decide ((↑k : Int) < (16 : Int)) = false, q (List.length (l ++ segB (List.take k (SEnv.tag e)))), ∀ (k_1 : Nat), k_1 < List.length (l ++ segB (List.take k (SEnv.tag e))) → bl (l ++ segB (List.take k (SEnv.tag e))) k_1 = bl (l ++ segB (List.take k (SEnv.tag e))) k_1, true = false → true = false, q (SEnv.src e), q (SEnv.body e), q (16 : Nat), q (SEnv.tag e), q0, q0, q0, q (List.length (l ++ segB (List.take k (SEnv.tag e)))), (none : Option Nat) = none ∨ (none : Option Nat) = none, q0, q0, q0, q (↑k : Int)]) : Option (Exit × St × List Prop)) := by kernel_rfl

theorem bdG2O_p0 (L : List UInt8) (s : ByteArray) (s1 : RS) (s2 : RS) (s3 : RS) (x : SEnv) (xs : List UInt8) (w : List Int) :
  along Tryz.prog (bdG2O L s s1 s2 s3 x xs w) [false] = (some (.tup [.agg [.int .i64 (SEnv.src x), .str (SEnv.body x), .seg .u8 16 w], .int .i64 0], [], [T Tryz.prog 29 [.ros 1 (ByteArray.size s) (fun q => [.int .u8 (byteAt s q)]) false] [] (.ptr (.o 256) 0 0 0 0) [(.o 256, .flat [.ros 1 (List.length L) (bl L) false, .int .i64 (↑(List.length L - List.length L) : Int), .int .i64 0])], T Tryz.prog 30 [.ptr (.o 256) 0 0 0 0, .int .i64 64] [(.o 256, .flat [.ros 1 (List.length L) (bl L) false, .int .i64 (↑(List.length L - List.length L) : Int), .int .i64 0])] (.int .i64 (SEnv.src x)) [(.o 256, .flat [.ros 1 (List.length L) (bl L) false, pV L s1, .int .i64 (eV s1)])], T Tryz.prog 31 [.ptr (.o 256) 0 0 0 0, .int .i64 4194304] [(.o 256, .flat [.ros 1 (List.length L) (bl L) false, pV L s1, .int .i64 (eV s1)])] (.str (SEnv.body x)) [(.o 256, .flat [.ros 1 (List.length L) (bl L) false, pV L s2, .int .i64 (eV s2)])], T Tryz.prog 32 [.ptr (.o 256) 0 0 0 0, .int .i64 16] [(.o 256, .flat [.ros 1 (List.length L) (bl L) false, pV L s2, .int .i64 (eV s2)])] (.ros 1 16 (bl xs) false) [(.o 256, .flat [.ros 1 (List.length L) (bl L) false, pV L s3, .int .i64 (eV s3)])], T Tryz.prog 33 [.ptr (.o 256) 0 0 0 0] [(.o 256, .flat [.ros 1 (List.length L) (bl L) false, pV L s3, .int .i64 (eV s3)])] (.int .i64 0) [(.o 256, .flat [.ros 1 (List.length L) (bl L) false, pV L s3, .int .i64 (eV s3)])], q false, RLoop Tryz.prog none 0 (cB (cB (cR (cL (cR (cR (cR (cR (cR (cR (cR (cR (bodyOf (Bd.f (bdG2O L s s1 s2 s3 x xs w))))))))))))))) 17 (St.mk (mkT 38 [(2, .ptr (.o 0) 0 0 0 0), (5, .ptr (.o 1) 0 0 0 0), (6, .ros 1 16 (bl xs) false), (8, .int .i64 0)]) [(.o 0, .flat (SEnv.c (SEnv.mk (0 : Int) (baL []) z16))), (.o 1, .flat [.int .i64 (SEnv.src x), .str (SEnv.body x), .seg .u8 16 z16])] 2 []) (.exit 0) (St.mk (mkT 38 [(2, .ptr (.o 0) 0 0 0 0), (5, .ptr (.o 1) 0 0 0 0), (6, .ros 1 16 (bl xs) false), (8, .int .i64 16)]) [(.o 0, .flat (SEnv.c (SEnv.mk (0 : Int) (baL []) z16))), (.o 1, .flat [.int .i64 (SEnv.src x), .str (SEnv.body x), .seg .u8 16 w])] 2 []), q1, ByteArray.empty = baL [], q (16 : Nat), q z16, q (SEnv.src x), q (SEnv.body x), q (16 : Nat), q z16, q0, q0, q0, q0, q0, q0, q (16 : Nat), ∀ (k : Nat), k < (16 : Nat) → bl xs k = bl xs k, false = true → false = true, q1]) : Option (V × Heap × List Prop)) := by kernel_rfl

theorem bdG2F_p1 (L : List UInt8) (s : ByteArray) (s1 : RS) (s2 : RS) (s3 : RS) (x : SEnv) (xs : List UInt8) (d : Int) :
  along Tryz.prog (bdG2F L s s1 s2 s3 x xs d) [true] = (some (.tup [.agg [.int .i64 0, .str ByteArray.empty, .seg .u8 16 z16], .int .i64 d], [], [T Tryz.prog 29 [.ros 1 (ByteArray.size s) (fun q => [.int .u8 (byteAt s q)]) false] [] (.ptr (.o 256) 0 0 0 0) [(.o 256, .flat [.ros 1 (List.length L) (bl L) false, .int .i64 (↑(List.length L - List.length L) : Int), .int .i64 0])], T Tryz.prog 30 [.ptr (.o 256) 0 0 0 0, .int .i64 64] [(.o 256, .flat [.ros 1 (List.length L) (bl L) false, .int .i64 (↑(List.length L - List.length L) : Int), .int .i64 0])] (.int .i64 (SEnv.src x)) [(.o 256, .flat [.ros 1 (List.length L) (bl L) false, pV L s1, .int .i64 (eV s1)])], T Tryz.prog 31 [.ptr (.o 256) 0 0 0 0, .int .i64 4194304] [(.o 256, .flat [.ros 1 (List.length L) (bl L) false, pV L s1, .int .i64 (eV s1)])] (.str (SEnv.body x)) [(.o 256, .flat [.ros 1 (List.length L) (bl L) false, pV L s2, .int .i64 (eV s2)])], T Tryz.prog 32 [.ptr (.o 256) 0 0 0 0, .int .i64 16] [(.o 256, .flat [.ros 1 (List.length L) (bl L) false, pV L s2, .int .i64 (eV s2)])] (.ros 1 (List.length xs) (bl xs) false) [(.o 256, .flat [.ros 1 (List.length L) (bl L) false, pV L s3, .int .i64 (eV s3)])], T Tryz.prog 33 [.ptr (.o 256) 0 0 0 0] [(.o 256, .flat [.ros 1 (List.length L) (bl L) false, pV L s3, .int .i64 (eV s3)])] (.int .i64 d) [(.o 256, .flat [.ros 1 (List.length L) (bl L) false, pV L s3, .int .i64 (eV s3)])], (!decide (d = (0 : Int))) = true]) : Option (V × Heap × List Prop)) := by kernel_rfl

theorem pcG2_p1 (x : SEnv) (xs : List UInt8) (w : List Int) (j : Nat) (w' : List Int) :
  alongPc Tryz.prog (pcG2 x xs w j w') [true] = (some (.normal, St.mk (mkT 38 [(2, .ptr (.o 0) 0 0 0 0), (5, .ptr (.o 1) 0 0 0 0), (6, .ros 1 16 (bl xs) false), (8, .int .i64 (↑(j + 1) : Int))]) [(.o 0, .flat (SEnv.c (SEnv.mk (0 : Int) (baL []) z16))), (.o 1, .flat [.int .i64 (SEnv.src x), .str (SEnv.body x), .seg .u8 16 w'])] 2 [], [decide ((↑j : Int) < (16 : Int)) = true, (0 : Int) ≤ (↑j : Int) ∧ (↑j : Int) < (16 : Int), (0 : Int) ≤ (↑j : Int) ∧ (↑j : Int) < (16 : Int), (0 : Nat) + Int.toNat (↑j : Int) < (16 : Nat), InR IntKind.i64 ((↑j : Int) + (1 : Int)), q1, q (baL []), q (16 : Nat), q z16, q (SEnv.src x), q (SEnv.body x), q (16 : Nat), List.set w ((0 : Nat) + Int.toNat (↑j : Int)) (↑(UInt8.toNat (List.getD xs (Int.toNat (↑j : Int)) (0 : UInt8))) : Int) = w', q0, q0, q0, q0, q0, q0, q (16 : Nat), ∀ (k : Nat), k < (16 : Nat) → bl xs k = bl xs k, false = true → false = true, (↑j : Int) + (1 : Int) = (↑(j + (1 : Nat)) : Int)]) : Option (Exit × St × List Prop)) := by kernel_rfl
theorem pcG2_p0 (x : SEnv) (xs : List UInt8) (w : List Int) (j : Nat) (w' : List Int) :
  alongPc Tryz.prog (pcG2 x xs w j w') [false] = (some (.exit 0, St.mk (mkT 38 [(2, .ptr (.o 0) 0 0 0 0), (5, .ptr (.o 1) 0 0 0 0), (6, .ros 1 16 (bl xs) false), (8, .int .i64 ↑j)]) [(.o 0, .flat (SEnv.c (SEnv.mk (0 : Int) (baL []) z16))), (.o 1, .flat [.int .i64 (SEnv.src x), .str (SEnv.body x), .seg .u8 16 w])] 2 [], [decide ((↑j : Int) < (16 : Int)) = false, q1, q (baL []), q (16 : Nat), q z16, q (SEnv.src x), q (SEnv.body x), q (16 : Nat), q w, q0, q0, q0, q0, q0, q0, q (16 : Nat), ∀ (k : Nat), k < (16 : Nat) → bl xs k = bl xs k, false = true → false = true, q (↑j : Int)]) : Option (Exit × St × List Prop)) := by kernel_rfl

theorem bdEr_p111 (l : List UInt8) (e : SEnv) (s : ByteArray) (x : SEnv) (d : Int) (r : List UInt8) :
  along Tryz.prog (bdEr l e s x d r) [true, true, true] = (some (.bool true, [], [decide ((2000 : Int) < (↑(List.length l) : Int)) = true, q2, q2, T Tryz.prog 7 [] [] (.bool true) []]) : Option (V × Heap × List Prop)) := by kernel_rfl

theorem bdEr_p011 (l : List UInt8) (e : SEnv) (s : ByteArray) (x : SEnv) (d : Int) (r : List UInt8) :
  along Tryz.prog (bdEr l e s x d r) [false, true, true] = (some (.bool true, [], [decide ((2000 : Int) < (↑(List.length l) : Int)) = false, decide ((20000 : Int) < (↑(ByteArray.size (SEnv.body e)) : Int)) = true, q2, T Tryz.prog 7 [] [] (.bool true) []]) : Option (V × Heap × List Prop)) := by kernel_rfl

theorem bdEr_p001 (l : List UInt8) (e : SEnv) (s : ByteArray) (x : SEnv) (d : Int) (r : List UInt8) :
  along Tryz.prog (bdEr l e s x d r) [false, false, true] = (some (.bool true, [], [decide ((2000 : Int) < (↑(List.length l) : Int)) = false, decide ((20000 : Int) < (↑(ByteArray.size (SEnv.body e)) : Int)) = false, decide ((20000 : Int) < (↑(ByteArray.size s) : Int)) = true, T Tryz.prog 7 [] [] (.bool true) []]) : Option (V × Heap × List Prop)) := by kernel_rfl

theorem bdEr_p000111 (l : List UInt8) (e : SEnv) (s : ByteArray) (x : SEnv) (d : Int) (r : List UInt8) :
  along Tryz.prog (bdEr l e s x d r) [false, false, false, true, true, true] = (some (.bool true, [], [decide ((2000 : Int) < (↑(List.length l) : Int)) = false, decide ((20000 : Int) < (↑(ByteArray.size (SEnv.body e)) : Int)) = false, decide ((20000 : Int) < (↑(ByteArray.size s) : Int)) = false, T Tryz.prog 8 [.str s] [] (.tup [.agg (SEnv.c x), .int .i64 d]) [], T Tryz.prog 9 [.str s] [] (.tup [.agg (SEnv.c x), .int .i64 d]) [], T Tryz.prog 10 [.ros 1 (List.length l) (bl l) false, .agg (SEnv.c e)] [] (sb (.o 2176) r) [(.o 2176, bs r)], ∀ (k : Nat), k < List.length r → true = true, (0 : Nat) + List.length r ≤ List.length r, ∀ (k : Nat), k < List.length r → true = true, T Tryz.prog 11 [.ros 1 (List.length l) (bl l) false, .agg (SEnv.c e)] [] (sb (.o 2432) r) [(.o 2432, bs r)], ∀ (k : Nat), k < List.length r → true = true, (0 : Nat) + List.length r ≤ List.length r, ∀ (k : Nat), k < List.length r → true = true, decide ((bytesF (List.length r) fun k => bl r ((0 : Nat) + k)) = bytesF (List.length r) fun k => bl r ((0 : Nat) + k)) = true, (decide (SEnv.src x = SEnv.src x) && (decide (SEnv.body x = SEnv.body x) && (decide (SEnv.tag x = SEnv.tag x) && true))) = true, decide (d = d) = true, T Tryz.prog 7 [] [] (.bool true) []]) : Option (V × Heap × List Prop)) := by kernel_rfl

theorem T_pnR {z : Int} (h : z < 0) (l : List UInt8) (c : Bool) : T Tryz.prog 35 [.ros 1 l.length (bl l) c, .int .i64 z] [] (.ros 1 l.length (bl l) true) [] := by
 refine T.res (T_al (bdPnR_p1 z l c) Tryz.func35 ?_) rfl ?_
 ·simp only [All, natO, Int.toNat_natCast]; and_intros
  all_goals first | exact True.intro | (rw [decide_eq_true_eq]; omega) | omega
 ·simp only [All, natO, Int.toNat_natCast]; and_intros
  all_goals first | exact True.intro | (intro k _; rw [shiftF_eq]; simp [natO]; done) | omega | (intro h; exact h)
theorem T_toR {l : List UInt8} {s : ByteArray} (hl : l.length ≤ 17592186044416) (hs : s.size ≤ 1099511627776) (c : Bool) (m : Nat) : T Tryz.prog 34 [.ros 1 l.length (bl l) c, .str s] [] (sb (.o m) (l ++ textB s)) [(.o m, bs (l ++ textB s))] := by
 have hz := num63_nat (n := s.size) (by omega)
 have e : l ++ textB s = (l ++ putZ s.size) ++ strB s := by rw [textB_eq, List.append_assoc]
 have h9 := putZ_len hz
 have hlen : (l ++ putZ (s.size : Int)).length ≤ l.length + 9 := by rw [List.length_append]; omega
 have hle : (l ++ putZ (s.size : Int)).length + s.size = (l ++ textB s).length := by rw [e, List.length_append (bs := strB s), strB_len]
 have h0 : T Tryz.prog 34 [.ros 1 l.length (bl l) c, .str s] [] (sb (.o 63) (l ++ textB s)) [(.o 63, bs (l ++ textB s))] := by
  refine T_al (bdToR_p l c s) Tryz.func34 ?_
  simp only [All]; and_intros
  all_goals first | exact T_putR hz (by omega) c _ | exact hle | omega | (rw [e, bl_append (l ++ putZ (s.size : Int)) (strB s)]; intro k _; rfl) | simp
 obtain ⟨σ, hσ, h1⟩ := T.at h0 [.o 63] [.o m] (by simp) (by simp) rfl
 simp only [List.map_cons, List.map_nil, List.cons.injEq, and_true] at hσ
 simpa [V.rens, V.ren, sb, bs, Heap.ren, B.ren, hσ] using h1
theorem putI_len {z : Int} (h : z < 9223372036854775808) : (putI z).length ≤ 9 := by
 unfold putI
 split
 ·simp
 ·exact putZ_len ⟨by omega, h⟩
theorem T_ep2 {l : List UInt8} {e : SEnv} (hl : l.length ≤ 1000000000) (hs : e.src < 9223372036854775808) (hb : e.body.size ≤ 1000000000) (ht : SegOk 16 e.tag) (m : Nat) : T Tryz.prog 10 [roB l, .agg e.c] [] (sb (.o m) (l ++ envI e)) [(.o m, bs (l ++ envI e))] := by
 have h2 := putI_len hs
 have h3 := textB_len (s := e.body) (by omega)
 have h4 := ht.len
 have e0 : l ++ envI e = (l ++ (putI e.src ++ textB e.body)) ++ segB e.tag := by simp [envI]
 have l3 : (l ++ (putI e.src ++ textB e.body)).length ≤ l.length + 18 + e.body.size := by rw [List.length_append, List.length_append]; omega
 have l4 : (l ++ (putI e.src ++ textB e.body)).length + 16 = (l ++ envI e).length := by rw [e0, List.length_append (bs := segB e.tag), segB_len, h4]
 have h : T Tryz.prog 10 [roB l, .agg e.c] [] (sb (.o 63) (l ++ envI e)) [(.o 63, bs (l ++ envI e))] := by
  by_cases hn : e.src < 0
  ·have ei : putI e.src = [] := by rw [putI, if_pos hn]
   have hT := T_toR (l := l) (s := e.body) (by omega) (by omega) true 513
   rw [← List.nil_append (textB e.body), ← ei] at hT
   refine T_al (bdEnR_p l e) Tryz.func10 ?_
   simp only [All]; and_intros
   all_goals first | exact T_pnR hn l false | exact hT | exact l4 | omega | (rw [e0, bl_append (l ++ (putI e.src ++ textB e.body)) (segB e.tag), segB_fn ht]; intro k _; rfl) | simp
  ·have ei : putI e.src = putZ e.src := by rw [putI, if_neg hn]
   have hz : num63 e.src := ⟨by omega, hs⟩
   have h9 := putZ_len hz
   have hT := T_text (l := l ++ putZ e.src) (s := e.body) (by rw [List.length_append]; omega) (by omega) (a := 321) (m := 513) (by decide)
   rw [List.append_assoc, ← ei, ← List.append_assoc] at hT
   rw [show l ++ putI e.src ++ textB e.body = l ++ (putI e.src ++ textB e.body) from List.append_assoc .., ei] at hT
   rw [← ei] at hT
   have hT : T Tryz.prog 34 [sb (.o 321) (l ++ putZ e.src), .str e.body] [(.o 321, bs (l ++ putZ e.src))] (sb (.o 513) (l ++ (putI e.src ++ textB e.body))) [(.o 513, bs (l ++ (putI e.src ++ textB e.body)))] := by rw [← ei]; exact hT
   refine T_al (bdEaR_p l e) Tryz.func10 ?_
   simp only [All]; and_intros
   all_goals first | exact T_putR hz (by omega) false _ | exact hT | exact l4 | omega | (rw [e0, bl_append (l ++ (putI e.src ++ textB e.body)) (segB e.tag), segB_fn ht]; intro k _; rfl) | simp
 obtain ⟨σ, hσ, h1⟩ := T.at h [.o 63] [.o m] (by simp) (by simp) rfl
 simp only [List.map_cons, List.map_nil, List.cons.injEq, and_true] at hσ
 simpa [V.rens, V.ren, SEnv.c, roB, sb, bs, Heap.ren, B.ren, hσ] using h1
theorem T_roR {z : Int} (hz : z < 9223372036854775808) {l : List UInt8} (hl : l.length ≤ 1000000000) (m : Nat) : T Tryz.prog 37 [roB l, .int .i64 z] [] (sb (.o m) (l ++ putI z)) [(.o m, bs (l ++ putI z))] := by
 have h : T Tryz.prog 37 [roB l, .int .i64 z] [] (sb (.o 63) (l ++ putI z)) [(.o 63, bs (l ++ putI z))] := by
  by_cases hn : z < 0
  ·rw [show putI z = [] by rw [putI, if_pos hn], List.append_nil]
   refine T_al (bdRnR_p1 z l) Tryz.func37 ?_
   simp only [All]; and_intros
   all_goals first | exact True.intro | (intro k _; rw [Nat.sub_zero]; rfl) | (rw [decide_eq_true_eq]; omega) | (intro _ _; exact True.intro) | omega | (intro h; exact h) | exact .inl True.intro
  ·rw [show putI z = putZ z by rw [putI, if_neg hn]]
   have e : ((z.toNat : Nat) : Int) = z := Int.toNat_of_nonneg (by omega)
   have h63 : z.toNat < 9223372036854775808 := by omega
   have h1 := digs_len 8 z.toNat (digs8 h63)
   have hv : IntKind.wrap IntKind.u8 ((digs 8 z.toNat).length : Int) = ((UInt8.ofNat (digs 8 z.toNat).length).toNat : Int) := wrap8 _
   have h0 : T Tryz.prog 37 [roB l, .int .i64 (z.toNat : Nat)] [] (sb (.o 63) (l ++ putN z.toNat)) [(.o 63, bs (l ++ putN z.toNat))] := by
    refine T_al (bdRoR_p0 z.toNat l) Tryz.func37 ?_
    simp only [All, Nat.zero_add, cat0]
    and_intros
    all_goals first | exact T_dg h63 | omega | (intro k _; have := put_catF l (digs 8 z.toNat) hv k; simp only [Nat.zero_add] at this; exact this) | (intro k hk; rw [show k = 0 by omega]; rfl) | (simp [putN, IntKind.min, IntKind.max, IntKind.signed, IntKind.bits] <;> omega)
   rw [e] at h0
   exact h0
 obtain ⟨σ, hσ, h1⟩ := T.at h [.o 63] [.o m] (by simp) (by simp) rfl
 simp only [List.map_cons, List.map_nil, List.cons.injEq, and_true] at hσ
 simpa [V.rens, V.ren, roB, sb, bs, Heap.ren, B.ren, hσ] using h1
theorem segB_takeS {xs : List Int} {k : Nat} (h : k < xs.length) : segB (xs.take (k + 1)) = segB (xs.take k) ++ [UInt8.ofNat (xs.getD k 0).toNat] := by
 rw [List.take_add_one, List.getElem?_eq_getElem h, segB, segB, List.map_append, List.getD_eq_getElem?_getD, List.getElem?_eq_getElem h]; rfl
theorem seg_byte {n : Nat} {xs : List Int} (h : SegOk n xs) {k : Nat} (hk : k < xs.length) : xs.getD k 0 = ((UInt8.ofNat (xs.getD k 0).toNat).toNat : Int) := by
 have hx : xs.getD k 0 ∈ xs := by rw [List.getD_eq_getElem?_getD, List.getElem?_eq_getElem hk]; exact List.getElem_mem hk
 have := h.rng _ hx
 rw [UInt8.toNat_ofNat']
 omega
theorem T_e2 {l0 : List UInt8} {e : SEnv} (hl : l0.length ≤ 1000000000) (hs : e.src < 9223372036854775808) (hb : e.body.size ≤ 1000000000) (ht : SegOk 16 e.tag) (m : Nat) : T Tryz.prog 11 [roB l0, .agg e.c] [] (sb (.o m) (l0 ++ envI e)) [(.o m, bs (l0 ++ envI e))] := by
 have h2 := putI_len hs
 have h3 := textB_len (s := e.body) (by omega)
 have h16 := ht.len
 have ht16 : e.tag.take 16 = e.tag := List.take_of_length_le (by omega)
 have hll : (l0 ++ putI e.src ++ textB e.body).length ≤ l0.length + 18 + e.body.size := by rw [List.length_append, List.length_append]; omega
 have hll0 : (l0 ++ putI e.src).length ≤ l0.length + 9 := by rw [List.length_append]; omega
 have e0 : l0 ++ envI e = l0 ++ putI e.src ++ textB e.body ++ segB e.tag := by simp [envI]
 have hR := T_roR hs hl 321
 have hT := T_rt (l := l0 ++ putI e.src) (s := e.body) (by omega) (by omega) (a := 321) (m := 513) (by decide)
 have hL : RLoop Tryz.prog none 1 (cB (cB (cR (cL (cR (cR (bodyOf Tryz.f11))))))) 17 (E2S (l0 ++ putI e.src ++ textB e.body) e 0) (.exit 0) (E2S (l0 ++ putI e.src ++ textB e.body) e 16) := by
  generalize l0 ++ putI e.src ++ textB e.body = l at *
  refine RLoop.inv (E2S l e) 16 (fun k hk => ?_) ?_ (by simp)
  ·have eS := segB_takeS (xs := e.tag) (k := k) (by omega)
   have hv := seg_byte ht (k := k) (by omega)
   have hc := catF_bl1 (l ++ segB (e.tag.take k)) _ _ hv
   have hn : (l ++ segB (e.tag.take k)).length ≤ l.length + 16 := by rw [List.length_append, segB_len, List.length_take]; omega
   refine R_alongPc NG MO _ (pcE2_p1 l e k) ?_ (show 1 ≤ 3 by decide)
   simp only [All, eS, Int.toNat_natCast, Nat.zero_add, ← List.append_assoc]
   and_intros
   all_goals first | (rw [decide_eq_true_eq]; omega) | (simp only [Nat.zero_add] at hc; exact hc) | omega | (intro j hj; rw [show j = 0 by omega]; rfl) | (simp [IntKind.min, IntKind.max, IntKind.signed, IntKind.bits] <;> omega)
  ·refine R_alongPc NG MO _ (pcE2_p0 l e 16) ?_ (show 1 ≤ 3 by decide)
   simp [All]
 have h : T Tryz.prog 11 [roB l0, .agg e.c] [] (sb (.o 63) (l0 ++ envI e)) [(.o 63, bs (l0 ++ envI e))] := by
  refine T_al (bdE2_p l0 e) Tryz.func11 ?_
  simp only [All]; and_intros
  all_goals first | exact hR | exact hT | exact hL | trivial | (rw [ht16, e0]; done) | (rw [ht16, e0]; intro _ _; rfl) | (simp [segB]; done)
 obtain ⟨σ, hσ, h1⟩ := T.at h [.o 63] [.o m] (by simp) (by simp) rfl
 simp only [List.map_cons, List.map_nil, List.cons.injEq, and_true] at hσ
 simpa [V.rens, V.ren, SEnv.c, roB, sb, bs, Heap.ren, B.ren, hσ] using h1
theorem T_xA {f : FuncId} {L : List UInt8} {args : List V} {s s' : RS} {v : V} (h : T Tryz.prog f (p0 :: args) [(.o 0, rxB L s)] v [(.o 0, rxB L s')]) (hs : ∀ σ : Nm → Nm, V.rens σ args = args) (hv : ∀ σ : Nm → Nm, V.ren σ v = v) (m : Nat) : T Tryz.prog f (.ptr (.o m) 0 0 0 0 :: args) [(.o m, rxB L s)] v [(.o m, rxB L s')] := by
 obtain ⟨σ, hσ, h1⟩ := T.at h [.o 0] [.o m] (by simp) (by simp) rfl
 simp only [List.map_cons, List.map_nil, List.cons.injEq, and_true] at hσ
 have hp : ∀ s : RS, V.ren σ (pV L s) = pV L s := fun s => by unfold pV; split <;> rfl
 rw [hv] at h1
 simpa [V.rens, V.ren, p0, rxB, roB, Heap.ren, B.ren, hσ, hs, hp] using h1
theorem tagL_16 {xs : List UInt8} (h : xs.length = 16) : tagL (uI xs) = intsB xs := by
 match xs, h with
 | [a0, a1, a2, a3, a4, a5, a6, a7, a8, a9, a10, a11, a12, a13, a14, a15], _ => rfl
theorem T_g2 (s : ByteArray) (hs : s.size ≤ 1000000000) : T Tryz.prog 9 [.str s] [] (.tup [.agg (getR (strB s)).1.c, .int .i64 (getR (strB s)).2]) [] := by
 have hl : (strB s).length ≤ 1000000000 := by rw [strB_len]; exact hs
 generalize hL0 : strB s = L at *
 have hR : T Tryz.prog 29 [.ros 1 s.size (fun q => [.int .u8 (byteAt s q)]) false] [] (.ptr (.o 256) 0 0 0 0) [(.o 256, rxB L { l := L })] := by
  have := T_xr 256 hl
  rw [roB, ← hL0, strB_len, hL0] at this
  rw [rxB_ok (Ok.init L) rfl, show L.length - ({ l := L } : RS).l.length = 0 from Nat.sub_self _]
  rw [← hL0]; rw [← hL0] at this; exact this
 have o1 : Ok L (envR1 { l := L }) := (Ok.init L).num 64
 have o2 : Ok L (envR2 { l := L }) := o1.text _
 have o3 : Ok L (rawR 16 (envR2 { l := L })).2 := o2.raw 16
 have hN := T_xA (T_xm0 (most := 64) (Ok.init L) hl) (fun _ => rfl) (fun _ => rfl) 256
 have hT := T_xA (T_xt0 (most := 4194304) o1 hl) (fun _ => rfl) (fun _ => rfl) 256
 have hW := T_xA (T_xw0 (n := 16) o2 hl) (fun _ => rfl) (fun _ => rfl) 256
 have hD := T_xA (args := []) (T_xd0 o3) (fun _ => rfl) (fun _ => rfl) 256
 have hbad : (rawR 16 (envR2 { l := L })).2.bad = false := (envR_after { l := L }).2.1
 rw [show doneX (rawR 16 (envR2 { l := L })).2 = doneR (rawR 16 (envR2 { l := L })).2 by rw [doneX, hbad]; rfl] at hD
 have eT : (envR { l := L }).2 = (rawR 16 (envR2 { l := L })).2 := rfl
 by_cases hd : doneR (rawR 16 (envR2 { l := L })).2 = 0
 ·have h : (rawR 16 (envR2 { l := L })).2.e = 0 := by
   unfold doneR at hd
   split at hd
   ·contradiction
   ·rename_i h'; simpa using h'
  have hn : (rawR 16 (envR2 { l := L })).1.length = 16 := rawR_ok (n := 16) h
  have e3 : (envR { l := L }).1.tag = intsB (rawR 16 (envR2 { l := L })).1 := by show (tagR (envR2 { l := L })).1 = _; simp [tagR, arrR, h]
  have eg : getR L = ((envR { l := L }).1, 0) := by rw [getR, eT, if_pos hd]
  rw [roB, hn] at hW
  rw [hd] at hD
  have hLo : RLoop Tryz.prog none 0 (cB (cB (cR (cL (cR (cR (cR (cR (cR (cR (cR (cR (bodyOf Tryz.f9))))))))))))) 17 (G2S (envR { l := L }).1 (rawR 16 (envR2 { l := L })).1 z16 0) (.exit 0) (G2S (envR { l := L }).1 (rawR 16 (envR2 { l := L })).1 (tagL (uI (rawR 16 (envR2 { l := L })).1)) 16) := by
   generalize (rawR 16 (envR2 { l := L })).1 = xs at *
   generalize (envR { l := L }).1 = x at *
   rw [show z16 = tagJ (uI xs) 0 from (tagJ_zero _).symm, ← tagJ_end]
   refine RLoop.inv (fun j => G2S x xs (tagJ (uI xs) j) j) 16 (fun j hj => ?_) ?_ (by simp)
   ·have e := tagJ_set (uI xs) hj
    rw [uI_get] at e
    refine R_alongPc NG MO _ (pcG2_p1 x xs (tagJ (uI xs) j) j (tagJ (uI xs) (j + 1))) ?_ (Nat.zero_le _)
    simp only [All, Int.toNat_natCast, Nat.zero_add]; and_intros
    all_goals first | exact True.intro | exact e | (with_reducible assumption) | (rw [decide_eq_true_eq]; omega) | (intro _ _; exact True.intro) | (simp only [IntKind.min, IntKind.max, IntKind.signed, IntKind.bits, if_true]; omega) | omega | (intro h; exact h)
   ·refine R_alongPc NG MO _ (pcG2_p0 x xs (tagJ (uI xs) 16) 16 []) ?_ (Nat.zero_le _)
    simp only [All]; and_intros
    all_goals first | exact True.intro | (rw [decide_eq_false_iff_not]; omega) | (intro _ _; exact True.intro) | (intro h; exact h)
  rw [tagL_16 hn, ← e3] at hLo
  refine T.val (T_al (bdG2O_p0 L s (envR1 { l := L }) (envR2 { l := L }) (rawR 16 (envR2 { l := L })).2 (envR { l := L }).1 (rawR 16 (envR2 { l := L })).1 (envR { l := L }).1.tag) Tryz.func9 ?_) (by rw [eg]; rfl)
  rw [rxB_ok (Ok.init L) rfl] at hR hN
  simp only [All]; and_intros
  all_goals first | exact True.intro | exact hR | exact hN | exact hT | exact hW | exact hD | exact hLo | (show ByteArray.empty = baL []; rfl) | (intro _ _; exact True.intro) | (intro h; exact h)
 ·have eg : getR L = (envZ, doneR (rawR 16 (envR2 { l := L })).2) := by rw [getR, eT, if_neg hd]
  refine T.val (T_al (bdG2F_p1 L s (envR1 { l := L }) (envR2 { l := L }) (rawR 16 (envR2 { l := L })).2 (envR { l := L }).1 (rawR 16 (envR2 { l := L })).1 (doneR (rawR 16 (envR2 { l := L })).2)) Tryz.func9 ?_) (by rw [eg]; rfl)
  rw [rxB_ok (Ok.init L) rfl] at hR hN
  simp only [All]; and_intros
  all_goals first | exact True.intro | exact hR | exact hN | exact hT | exact hW | exact hD | (simp [hd]; done)
theorem T_er {l : List UInt8} {e : SEnv} {s : ByteArray} (hs : e.src < 9223372036854775808) (ht : SegOk 16 e.tag) : T Tryz.prog 3 [roB l, .agg e.c, .str s] [] (.bool true) [] := by
 have hL := T_lv
 by_cases h1 : 2000 < l.length
 ·refine T_al (bdEr_p111 l e s e 0 []) Tryz.func3 ?_
  simp only [All]; and_intros
  all_goals first | exact True.intro | exact hL | (rw [decide_eq_true_eq]; omega)
 by_cases h2 : 20000 < e.body.size
 ·refine T_al (bdEr_p011 l e s e 0 []) Tryz.func3 ?_
  simp only [All]; and_intros
  all_goals first | exact True.intro | exact hL | (rw [decide_eq_true_eq]; omega) | (rw [decide_eq_false_iff_not]; omega)
 by_cases h3 : 20000 < s.size
 ·refine T_al (bdEr_p001 l e s e 0 []) Tryz.func3 ?_
  simp only [All]; and_intros
  all_goals first | exact True.intro | exact hL | (rw [decide_eq_true_eq]; omega) | (rw [decide_eq_false_iff_not]; omega)
 have hG := T_get s (by omega)
 have hG2 := T_g2 s (by omega)
 have hP := fun m => T_ep2 (l := l) (e := e) (by omega) hs (by omega) ht m
 have hP2 := fun m => T_e2 (l0 := l) (e := e) (by omega) hs (by omega) ht m
 generalize getR (strB s) = g at *
 refine T_al (bdEr_p000111 l e s g.1 g.2 (l ++ envI e)) Tryz.func3 ?_
 simp only [All]; and_intros
 all_goals first | exact True.intro | exact hL | exact hG | exact hG2 | exact hP _ | exact hP2 _ | (rw [decide_eq_false_iff_not]; omega) | (intro _ _; exact True.intro) | omega | (simp; done)
end Go.Proofs.YtnmccoincblecaaGreat
namespace Go.Proofs.YtnmccoincblecaaGreat
open Go Sy Go.Proofs
theorem cellsByte : Tryz.prog.cellsOf 5 = 1 := by kernel_rfl
theorem sg_byts (U : Imm) {d : Nat} {cs : List V} (h : ShC Tryz.prog d 22 cs) : ∃ l : List UInt8, CsLe U cs [roB l] ∧ l.length ≤ 9223372036854775807 := by
 obtain ⟨d, len, f, rfl, hl, hf⟩ := sh_slice h Tryz.underlying22
 obtain ⟨s, hs⟩ := choose_fn (α := Int) (n := len) (p := fun i n => f i = [.int .u8 n] ∧ 0 ≤ n ∧ n ≤ 255) fun i hi => by
  obtain ⟨n, h1, h2⟩ := sh_int (hf i hi) Tryz.underlying5
  exact ⟨n, h1, InR8.1 h2⟩
 have hlen : ((List.range len).map fun i => UInt8.ofNat (s i).toNat).length = len := by simp
 refine ⟨(List.range len).map fun i => UInt8.ofNat (s i).toNat, ?_, by rw [hlen]; exact hl⟩
 rw [cellsByte, roB, hlen]
 refine CsLe.ros fun i hi => ?_
 obtain ⟨h1, h2⟩ := hs i hi
 have e : bl ((List.range len).map fun i => UInt8.ofNat (s i).toNat) i = [.int .u8 (s i)] := by
  unfold bl
  rw [List.getD_eq_getElem?_getD, List.getElem?_map, List.getElem?_range hi]
  simp only [Option.map_some, Option.getD_some, UInt8.toNat_ofNat']
  congr 2
  omega
 rw [h1, e]; exact CsLe.refl _ _
theorem sg_env {d : Nat} {cs : List V} (h : ShC Tryz.prog d 26 cs) : ∃ s : SEnv, cs = s.c ∧ s.src < 9223372036854775808 ∧ SegOk 16 s.tag := by
 obtain ⟨d, a, _, rfl, ha, c, _, rfl, hc, e, _, rfl, he, rfl⟩ := sh_struct h Tryz.underlying26
 obtain ⟨n, rfl, hn⟩ := sh_int ha Tryz.underlying3
 obtain ⟨s, rfl, hs⟩ := sh_str hc Tryz.underlying9
 obtain ⟨xs, rfl, h1, h2⟩ := sh_arr he Tryz.underlying24 Tryz.underlying5
 exact ⟨⟨n, s, xs⟩, rfl, by have := (InR64.1 hn).2; show n < _; omega, ⟨h1, fun x hx => InR8.1 (h2 x hx)⟩⟩
end Go.Proofs.YtnmccoincblecaaGreat
