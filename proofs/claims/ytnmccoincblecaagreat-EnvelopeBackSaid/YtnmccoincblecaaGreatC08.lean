/-
  Contracts and laws that the claim's theorem leans on, joined out of the texts Ta9 Tb0D Tb0 Tb1D Tb1 Tb2D (own work of this seat): Contracts: the reader of bytes; Contracts: what is read of bytes; Contracts: what is read of bytes; Contracts: the message's reader: digests, tags, signs, envelopes, votes; Contracts: the message's reader: digests, tags, signs, envelopes, votes; Contracts: lists, certs and what was held are read.
-/
import Derived.Test.YtnmccoincblecaaGreatC07
set_option linter.unusedVariables false
set_option linter.unusedSimpArgs false
set_option maxHeartbeats 1000000
namespace Go.Proofs.YtnmccoincblecaaGreat
open Go Sy Go.Proofs
theorem bdRead_p (l : List UInt8) :
  along Tryz.prog (bdRead l) [] = some (V.ptr (Nm.o (63 : Nat)) (0 : Nat) (0 : Nat) (0 : Nat) (0 : Nat), [(Nm.o (63 : Nat), B.flat [V.ros (1 : Nat) (List.length l) (bl l) false, V.int IntKind.i64 (0 : Int), V.bool true])], [(0 : Nat) = (0 : Nat), ∀ (k : Nat), k < List.length l → true = true, ((0 : Nat) + List.length l) * (1 : Nat) ≤ (140737488355328 : Nat), (0 : Nat) + List.length l = List.length l, (0 : Nat) + ((0 : Nat) + List.length l) ≤ (0 : Nat) + List.length l, ∀ (k : Nat), k < (0 : Nat) + List.length l → [V.int IntKind.u8 (↑(UInt8.toNat (List.getD l ((0 : Nat) + k - (0 : Nat)) (0 : UInt8))) : Int)] = bl l k, false = true → none = some ((0 : Nat) + List.length l), (0 : Int) = (0 : Int), true = true, (0 : Nat) = (0 : Nat), (0 : Nat) = (0 : Nat), (0 : Nat) = (0 : Nat)]) := by kernel_rfl

theorem bdStop_p00 (s : RS) :
  along Tryz.prog (bdStop s) [false, false] = (some (.bool !decide (RS.e s = (0 : Int)), [(.o 0, rdB s)], [q false, q false]) : Option (V × Heap × List Prop)) := by kernel_rfl

theorem bdErr_p00 (s : RS) :
  along Tryz.prog (bdErr s) [false, false] = (some (.int .i64 (RS.e s), [(.o 0, rdB s)], [q false, q false]) : Option (V × Heap × List Prop)) := by kernel_rfl

theorem bdLeft_p (s : RS) :
  along Tryz.prog (bdLeft s) [] = (some (.int .i64 (↑(List.length (RS.l s)) : Int), [(.o 0, rdB s)], []) : Option (V × Heap × List Prop)) := by kernel_rfl

noncomputable def bdDone_c (s : RS) : Nat → List Prop
 | 0 => [T Tryz.prog 78 [.ptr (.o 0) 0 0 0 0] [(.o 0, .flat [.ros 1 (List.length (RS.l s)) (bl (RS.l s)) false, .int .i64 (RS.e s), .bool true])] (.int .i64 (RS.e s)) [(.o 0, .flat [.ros 1 (List.length (RS.l s)) (bl (RS.l s)) false, .int .i64 (RS.e s), .bool true])]]
 | 1 => [(!decide (RS.e s = (0 : Int))) = false, T Tryz.prog 77 [.ptr (.o 0) 0 0 0 0] [(.o 0, .flat [.ros 1 (List.length (RS.l s)) (bl (RS.l s)) false, .int .i64 (RS.e s), .bool true])] (.int .i64 (↑(List.length (RS.l s)) : Int)) [(.o 0, .flat [.ros 1 (List.length (RS.l s)) (bl (RS.l s)) false, .int .i64 (RS.e s), .bool true])]]
 | _ => []
theorem bdDone_p1 (s : RS) :
 along Tryz.prog (bdDone s) [true] = (some (.int .i64 (RS.e s), [(.o 0, rdB s)], bdDone_c s 0 ++ [(!decide (RS.e s = (0 : Int))) = true]) : Option (V × Heap × List Prop)) := by kernel_rfl
theorem bdDone_p01 (s : RS) :
 along Tryz.prog (bdDone s) [false, true] = (some (.int .i64 12, [(.o 0, rdB s)], bdDone_c s 0 ++ (bdDone_c s 1 ++ [decide ((0 : Int) < (↑(List.length (RS.l s)) : Int)) = true])) : Option (V × Heap × List Prop)) := by kernel_rfl
theorem bdDone_p00 (s : RS) :
 along Tryz.prog (bdDone s) [false, false] = (some (.int .i64 0, [(.o 0, rdB s)], bdDone_c s 0 ++ (bdDone_c s 1 ++ [decide ((0 : Int) < (↑(List.length (RS.l s)) : Int)) = false])) : Option (V × Heap × List Prop)) := by kernel_rfl

theorem bdFail_p (s : RS) (e : Int) :
  along Tryz.prog (bdFail s e) [] = (some (.tup [], [(.o 0, .flat [.ros 1 0 (bl []) false, .int .i64 e, .bool true])], [nat_lit 0 = (0 : Nat), q e, q2]) : Option (V × Heap × List Prop)) := by kernel_rfl

theorem bdTake_p (s : RS) (n : Nat) :
  along Tryz.prog (bdTake s n) [] = (some (.ros 1 n (bl (List.take n (RS.l s))) false, [(.o 0, .flat [.ros 1 (List.length (List.drop n (RS.l s))) (bl (List.drop n (RS.l s))) false, .int .i64 (RS.e s), .bool true])], [(0 : Int) ≤ (↑n : Int) ∧ (↑n : Int) ≤ (↑(natO none (List.length (RS.l s))) : Int), (0 : Int) ≤ (↑n : Int) ∧ (↑n : Int) ≤ (↑(natO none (List.length (RS.l s))) : Int), natO none (List.length (RS.l s)) - natO (some (↑n : Int)) (0 : Nat) = List.length (List.drop n (RS.l s)), ∀ (k : Nat), k < natO none (List.length (RS.l s)) - natO (some (↑n : Int)) (0 : Nat) → [V.int IntKind.u8 (↑(UInt8.toNat (List.getD (RS.l s) (Int.toNat (↑n : Int) + k) (0 : UInt8))) : Int)] = bl (List.drop n (RS.l s)) k, false = true → false = true, q (RS.e s), q2, natO (some (↑n : Int)) (List.length (RS.l s)) - nat_lit 0 = n, ∀ (k : Nat), k < natO (some (↑n : Int)) (List.length (RS.l s)) - nat_lit 0 → [V.int IntKind.u8 (↑(UInt8.toNat (List.getD (RS.l s) k (0 : UInt8))) : Int)] = bl (List.take n (RS.l s)) k, false = true → false = true]) : Option (V × Heap × List Prop)) := by kernel_rfl

noncomputable def bdNumber_c (s : RS) : Nat → List Prop
 | 0 => [decide ((↑(List.length (RS.l s)) : Int) = (0 : Int)) = false, (0 : Int) ≤ (0 : Int) ∧ (0 : Int) < (↑(List.length (RS.l s)) : Int), InR IntKind.i64 (↑(UInt8.toNat (List.getD (RS.l s) (nat_lit 0) (0 : UInt8))) : Int)]
 | 1 => [decide ((8 : Int) < (↑(UInt8.toNat (List.getD (RS.l s) (nat_lit 0) (0 : UInt8))) : Int)) = false]
 | 2 => [decide ((↑(List.length (RS.l s)) : Int) ≤ (↑(UInt8.toNat (List.getD (RS.l s) (nat_lit 0) (0 : UInt8))) : Int)) = false]
 | 3 => [decide ((0 : Int) < (↑(UInt8.toNat (List.getD (RS.l s) (nat_lit 0) (0 : UInt8))) : Int)) = true, (0 : Int) ≤ (1 : Int) ∧ (1 : Int) < (↑(List.length (RS.l s)) : Int)]
 | 4 => [decide ((↑(UInt8.toNat (List.getD (RS.l s) (nat_lit 1) (0 : UInt8))) : Int) = (0 : Int)) = false]
 | 5 => [decide ((↑(UInt8.toNat (List.getD (RS.l s) (nat_lit 0) (0 : UInt8))) : Int) = (8 : Int)) = true, (0 : Int) ≤ (1 : Int) ∧ (1 : Int) < (↑(List.length (RS.l s)) : Int)]
 | _ => []
theorem bdNumber_p1 (s : RS) :
 along Tryz.prog (bdNumber s) [true] = (some (.tup [.int .i64 0, .int .i64 0, .int .i64 10], [(.o 0, rdB s)], [decide ((↑(List.length (RS.l s)) : Int) = (0 : Int)) = true]) : Option (V × Heap × List Prop)) := by kernel_rfl

theorem bdNumber_p01 (s : RS) :
 along Tryz.prog (bdNumber s) [false, true] = (some (.tup [.int .i64 0, .int .i64 0, .int .i64 11], [(.o 0, rdB s)], bdNumber_c s 0 ++ [decide ((8 : Int) < (↑(UInt8.toNat (List.getD (RS.l s) (nat_lit 0) (0 : UInt8))) : Int)) = true]) : Option (V × Heap × List Prop)) := by kernel_rfl

theorem bdNumber_p001 (s : RS) :
 along Tryz.prog (bdNumber s) [false, false, true] = (some (.tup [.int .i64 0, .int .i64 0, .int .i64 10], [(.o 0, rdB s)], bdNumber_c s 0 ++ (bdNumber_c s 1 ++ [decide ((↑(List.length (RS.l s)) : Int) ≤ (↑(UInt8.toNat (List.getD (RS.l s) (nat_lit 0) (0 : UInt8))) : Int)) = true])) : Option (V × Heap × List Prop)) := by kernel_rfl

theorem bdNumber_p000111 (s : RS) :
 along Tryz.prog (bdNumber s) [false, false, false, true, true, true] = (some (.tup [.int .i64 0, .int .i64 0, .int .i64 11], [(.o 0, rdB s)], bdNumber_c s 0 ++ (bdNumber_c s 1 ++ (bdNumber_c s 2 ++ (bdNumber_c s 3 ++ [decide ((↑(UInt8.toNat (List.getD (RS.l s) (nat_lit 1) (0 : UInt8))) : Int) = (0 : Int)) = true, decide ((↑(UInt8.toNat (List.getD (RS.l s) (nat_lit 1) (0 : UInt8))) : Int) = (0 : Int)) = true])))) : Option (V × Heap × List Prop)) := by kernel_rfl

theorem bdNumber_p0001011 (s : RS) :
 along Tryz.prog (bdNumber s) [false, false, false, true, false, true, true] = (some (.tup [.int .i64 0, .int .i64 0, .int .i64 11], [(.o 0, rdB s)], bdNumber_c s 0 ++ (bdNumber_c s 1 ++ (bdNumber_c s 2 ++ (bdNumber_c s 3 ++ (bdNumber_c s 4 ++ (bdNumber_c s 5 ++ [decide ((127 : Int) < (↑(UInt8.toNat (List.getD (RS.l s) (nat_lit 1) (0 : UInt8))) : Int)) = true])))))) : Option (V × Heap × List Prop)) := by kernel_rfl

theorem bdNumber_p0001010 (s : RS) :
 along Tryz.prog (bdNumber s) [false, false, false, true, false, true, false] = (some (.tup [.int .i64 (↑(beN (List.take (kOf (RS.l s)) (List.drop 1 (RS.l s)))) : Int), .int .i64 ((1 : Int) + (↑(kOf (RS.l s)) : Int)), .int .i64 0], [(.o 0, rdB s)], bdNumber_c s 0 ++ (bdNumber_c s 1 ++ (bdNumber_c s 2 ++ (bdNumber_c s 3 ++ (bdNumber_c s 4 ++ (bdNumber_c s 5 ++ [decide ((127 : Int) < (↑(UInt8.toNat (List.getD (RS.l s) (nat_lit 1) (0 : UInt8))) : Int)) = false, InR IntKind.i64 ((1 : Int) + (↑(UInt8.toNat (List.getD (RS.l s) (nat_lit 0) (0 : UInt8))) : Int)), (0 : Int) ≤ (1 : Int) + (↑(UInt8.toNat (List.getD (RS.l s) (nat_lit 0) (0 : UInt8))) : Int) ∧ (1 : Int) + (↑(UInt8.toNat (List.getD (RS.l s) (nat_lit 0) (0 : UInt8))) : Int) ≤ (↑(natO none (List.length (RS.l s))) : Int), (0 : Int) ≤ (1 : Int) ∧ (1 : Int) ≤ (↑(natO (some ((1 : Int) + (↑(UInt8.toNat (List.getD (RS.l s) (nat_lit 0) (0 : UInt8))) : Int))) (List.length (RS.l s))) : Int), RLoop Tryz.prog none 1 (cB (cB (cR (cL (cR (cR (cR (cR (bodyOf (Bd.f (bdNumber s))))))))))) (kOf (RS.l s) + 1) (St.mk [.any, .any, .int .i64 0, .int .i64 0, .int .i64 0, .int .i64 (↑(kOf (RS.l s)) : Int), .any, .any, .any, .any, .any, .any, .any, .any, .any, .any, .any, .any, .any, .any, .any, .any, .any, .any, .any, .any, .any, .any, .any, .any, .any, .any, .any, .any, .any, .any, .any, .any, .any, .any, .any, .any, .any, .any, .any, .any, .any, .any, .any, .any, .any, .any, .any, .any, .any, .any, .any, .any, .any, .any, .any, .ros 1 (kOf (RS.l s)) (bl (List.drop 1 (RS.l s))) false, .int .i64 (↑(kOf (RS.l s)) : Int), .int .i64 0, .any, .any, .any, .any, .any, .any, .any, .any, .any, .any, .any, .any] [(.o 0, rdB s)] 1 []) (.exit 1) (St.mk [.any, .any, .int .i64 (↑(beN (List.take (kOf (RS.l s)) (List.drop 1 (RS.l s)))) : Int), .int .i64 0, .int .i64 0, .int .i64 (↑(kOf (RS.l s)) : Int), .any, .any, .any, .any, .any, .any, .any, .any, .any, .any, .any, .any, .any, .any, .any, .any, .any, .any, .any, .any, .any, .any, .any, .any, .any, .any, .any, .any, .any, .any, .any, .any, .any, .any, .any, .any, .any, .any, .any, .any, .any, .any, .any, .any, .any, .any, .any, .any, .any, .any, .any, .any, .any, .any, .any, .ros 1 (kOf (RS.l s)) (bl (List.drop 1 (RS.l s))) false, .int .i64 (↑(kOf (RS.l s)) : Int), .int .i64 (↑(kOf (RS.l s)) : Int), .any, .any, .any, .any, .any, .any, .any, .any, .any, .any, .any, .any] [(.o 0, rdB s)] 1 []), q (List.length (RS.l s)), ∀ (k : Nat), k < List.length (RS.l s) → bl (RS.l s) k = bl (RS.l s) k, false = true → false = true, q (RS.e s), q2, q1, q1, q1, (↑(UInt8.toNat (List.getD (RS.l s) (nat_lit 0) (0 : UInt8))) : Int) = (↑(kOf (RS.l s)) : Int), natO (some ((1 : Int) + (↑(UInt8.toNat (List.getD (RS.l s) (nat_lit 0) (0 : UInt8))) : Int))) (List.length (RS.l s)) - nat_lit 1 = kOf (RS.l s), ∀ (k : Nat), k < natO (some ((1 : Int) + (↑(UInt8.toNat (List.getD (RS.l s) (nat_lit 0) (0 : UInt8))) : Int))) (List.length (RS.l s)) - nat_lit 1 → [V.int IntKind.u8 (↑(UInt8.toNat (List.getD (RS.l s) (nat_lit 1 + k) (0 : UInt8))) : Int)] = bl (List.drop (1 : Nat) (RS.l s)) k, false = true → false = true, (↑(natO (some ((1 : Int) + (↑(UInt8.toNat (List.getD (RS.l s) (nat_lit 0) (0 : UInt8))) : Int))) (List.length (RS.l s)) - nat_lit 1) : Int) = (↑(kOf (RS.l s)) : Int), q1, InR IntKind.i64 ((1 : Int) + (↑(kOf (RS.l s)) : Int))])))))) : Option (V × Heap × List Prop)) := by kernel_rfl

theorem bdNumber_p0001000 (s : RS) :
 along Tryz.prog (bdNumber s) [false, false, false, true, false, false, false] = (some (.tup [.int .i64 (↑(beN (List.take (kOf (RS.l s)) (List.drop 1 (RS.l s)))) : Int), .int .i64 ((1 : Int) + (↑(kOf (RS.l s)) : Int)), .int .i64 0], [(.o 0, rdB s)], bdNumber_c s 0 ++ (bdNumber_c s 1 ++ (bdNumber_c s 2 ++ (bdNumber_c s 3 ++ (bdNumber_c s 4 ++ [decide ((↑(UInt8.toNat (List.getD (RS.l s) (nat_lit 0) (0 : UInt8))) : Int) = (8 : Int)) = false, q false, InR IntKind.i64 ((1 : Int) + (↑(UInt8.toNat (List.getD (RS.l s) (nat_lit 0) (0 : UInt8))) : Int)), (0 : Int) ≤ (1 : Int) + (↑(UInt8.toNat (List.getD (RS.l s) (nat_lit 0) (0 : UInt8))) : Int) ∧ (1 : Int) + (↑(UInt8.toNat (List.getD (RS.l s) (nat_lit 0) (0 : UInt8))) : Int) ≤ (↑(natO none (List.length (RS.l s))) : Int), (0 : Int) ≤ (1 : Int) ∧ (1 : Int) ≤ (↑(natO (some ((1 : Int) + (↑(UInt8.toNat (List.getD (RS.l s) (nat_lit 0) (0 : UInt8))) : Int))) (List.length (RS.l s))) : Int), RLoop Tryz.prog none 1 (cB (cB (cR (cL (cR (cR (cR (cR (bodyOf (Bd.f (bdNumber s))))))))))) (kOf (RS.l s) + 1) (St.mk [.any, .any, .int .i64 0, .int .i64 0, .int .i64 0, .int .i64 (↑(kOf (RS.l s)) : Int), .any, .any, .any, .any, .any, .any, .any, .any, .any, .any, .any, .any, .any, .any, .any, .any, .any, .any, .any, .any, .any, .any, .any, .any, .any, .any, .any, .any, .any, .any, .any, .any, .any, .any, .any, .any, .any, .any, .any, .any, .any, .any, .any, .any, .any, .any, .any, .any, .any, .any, .any, .any, .any, .any, .any, .ros 1 (kOf (RS.l s)) (bl (List.drop 1 (RS.l s))) false, .int .i64 (↑(kOf (RS.l s)) : Int), .int .i64 0, .any, .any, .any, .any, .any, .any, .any, .any, .any, .any, .any, .any] [(.o 0, rdB s)] 1 []) (.exit 1) (St.mk [.any, .any, .int .i64 (↑(beN (List.take (kOf (RS.l s)) (List.drop 1 (RS.l s)))) : Int), .int .i64 0, .int .i64 0, .int .i64 (↑(kOf (RS.l s)) : Int), .any, .any, .any, .any, .any, .any, .any, .any, .any, .any, .any, .any, .any, .any, .any, .any, .any, .any, .any, .any, .any, .any, .any, .any, .any, .any, .any, .any, .any, .any, .any, .any, .any, .any, .any, .any, .any, .any, .any, .any, .any, .any, .any, .any, .any, .any, .any, .any, .any, .any, .any, .any, .any, .any, .any, .ros 1 (kOf (RS.l s)) (bl (List.drop 1 (RS.l s))) false, .int .i64 (↑(kOf (RS.l s)) : Int), .int .i64 (↑(kOf (RS.l s)) : Int), .any, .any, .any, .any, .any, .any, .any, .any, .any, .any, .any, .any] [(.o 0, rdB s)] 1 []), q (List.length (RS.l s)), ∀ (k : Nat), k < List.length (RS.l s) → bl (RS.l s) k = bl (RS.l s) k, false = true → false = true, q (RS.e s), q2, q1, q1, q1, (↑(UInt8.toNat (List.getD (RS.l s) (nat_lit 0) (0 : UInt8))) : Int) = (↑(kOf (RS.l s)) : Int), natO (some ((1 : Int) + (↑(UInt8.toNat (List.getD (RS.l s) (nat_lit 0) (0 : UInt8))) : Int))) (List.length (RS.l s)) - nat_lit 1 = kOf (RS.l s), ∀ (k : Nat), k < natO (some ((1 : Int) + (↑(UInt8.toNat (List.getD (RS.l s) (nat_lit 0) (0 : UInt8))) : Int))) (List.length (RS.l s)) - nat_lit 1 → [V.int IntKind.u8 (↑(UInt8.toNat (List.getD (RS.l s) (nat_lit 1 + k) (0 : UInt8))) : Int)] = bl (List.drop (1 : Nat) (RS.l s)) k, false = true → false = true, (↑(natO (some ((1 : Int) + (↑(UInt8.toNat (List.getD (RS.l s) (nat_lit 0) (0 : UInt8))) : Int))) (List.length (RS.l s)) - nat_lit 1) : Int) = (↑(kOf (RS.l s)) : Int), q1, InR IntKind.i64 ((1 : Int) + (↑(kOf (RS.l s)) : Int))]))))) : Option (V × Heap × List Prop)) := by kernel_rfl

theorem bdNumber_p0000000 (s : RS) :
 along Tryz.prog (bdNumber s) [false, false, false, false, false, false, false] = (some (.tup [.int .i64 (↑(beN (List.take (kOf (RS.l s)) (List.drop 1 (RS.l s)))) : Int), .int .i64 ((1 : Int) + (↑(kOf (RS.l s)) : Int)), .int .i64 0], [(.o 0, rdB s)], bdNumber_c s 0 ++ (bdNumber_c s 1 ++ (bdNumber_c s 2 ++ [decide ((0 : Int) < (↑(UInt8.toNat (List.getD (RS.l s) (nat_lit 0) (0 : UInt8))) : Int)) = false, q false, decide ((↑(UInt8.toNat (List.getD (RS.l s) (nat_lit 0) (0 : UInt8))) : Int) = (8 : Int)) = false, q false, InR IntKind.i64 ((1 : Int) + (↑(UInt8.toNat (List.getD (RS.l s) (nat_lit 0) (0 : UInt8))) : Int)), (0 : Int) ≤ (1 : Int) + (↑(UInt8.toNat (List.getD (RS.l s) (nat_lit 0) (0 : UInt8))) : Int) ∧ (1 : Int) + (↑(UInt8.toNat (List.getD (RS.l s) (nat_lit 0) (0 : UInt8))) : Int) ≤ (↑(natO none (List.length (RS.l s))) : Int), (0 : Int) ≤ (1 : Int) ∧ (1 : Int) ≤ (↑(natO (some ((1 : Int) + (↑(UInt8.toNat (List.getD (RS.l s) (nat_lit 0) (0 : UInt8))) : Int))) (List.length (RS.l s))) : Int), RLoop Tryz.prog none 1 (cB (cB (cR (cL (cR (cR (cR (cR (bodyOf (Bd.f (bdNumber s))))))))))) (kOf (RS.l s) + 1) (St.mk [.any, .any, .int .i64 0, .int .i64 0, .int .i64 0, .int .i64 (↑(kOf (RS.l s)) : Int), .any, .any, .any, .any, .any, .any, .any, .any, .any, .any, .any, .any, .any, .any, .any, .any, .any, .any, .any, .any, .any, .any, .any, .any, .any, .any, .any, .any, .any, .any, .any, .any, .any, .any, .any, .any, .any, .any, .any, .any, .any, .any, .any, .any, .any, .any, .any, .any, .any, .any, .any, .any, .any, .any, .any, .ros 1 (kOf (RS.l s)) (bl (List.drop 1 (RS.l s))) false, .int .i64 (↑(kOf (RS.l s)) : Int), .int .i64 0, .any, .any, .any, .any, .any, .any, .any, .any, .any, .any, .any, .any] [(.o 0, rdB s)] 1 []) (.exit 1) (St.mk [.any, .any, .int .i64 (↑(beN (List.take (kOf (RS.l s)) (List.drop 1 (RS.l s)))) : Int), .int .i64 0, .int .i64 0, .int .i64 (↑(kOf (RS.l s)) : Int), .any, .any, .any, .any, .any, .any, .any, .any, .any, .any, .any, .any, .any, .any, .any, .any, .any, .any, .any, .any, .any, .any, .any, .any, .any, .any, .any, .any, .any, .any, .any, .any, .any, .any, .any, .any, .any, .any, .any, .any, .any, .any, .any, .any, .any, .any, .any, .any, .any, .any, .any, .any, .any, .any, .any, .ros 1 (kOf (RS.l s)) (bl (List.drop 1 (RS.l s))) false, .int .i64 (↑(kOf (RS.l s)) : Int), .int .i64 (↑(kOf (RS.l s)) : Int), .any, .any, .any, .any, .any, .any, .any, .any, .any, .any, .any, .any] [(.o 0, rdB s)] 1 []), q (List.length (RS.l s)), ∀ (k : Nat), k < List.length (RS.l s) → bl (RS.l s) k = bl (RS.l s) k, false = true → false = true, q (RS.e s), q2, q1, q1, q1, (↑(UInt8.toNat (List.getD (RS.l s) (nat_lit 0) (0 : UInt8))) : Int) = (↑(kOf (RS.l s)) : Int), natO (some ((1 : Int) + (↑(UInt8.toNat (List.getD (RS.l s) (nat_lit 0) (0 : UInt8))) : Int))) (List.length (RS.l s)) - nat_lit 1 = kOf (RS.l s), ∀ (k : Nat), k < natO (some ((1 : Int) + (↑(UInt8.toNat (List.getD (RS.l s) (nat_lit 0) (0 : UInt8))) : Int))) (List.length (RS.l s)) - nat_lit 1 → [V.int IntKind.u8 (↑(UInt8.toNat (List.getD (RS.l s) (nat_lit 1 + k) (0 : UInt8))) : Int)] = bl (List.drop (1 : Nat) (RS.l s)) k, false = true → false = true, (↑(natO (some ((1 : Int) + (↑(UInt8.toNat (List.getD (RS.l s) (nat_lit 0) (0 : UInt8))) : Int))) (List.length (RS.l s)) - nat_lit 1) : Int) = (↑(kOf (RS.l s)) : Int), q1, InR IntKind.i64 ((1 : Int) + (↑(kOf (RS.l s)) : Int))]))) : Option (V × Heap × List Prop)) := by kernel_rfl

theorem pcNumber_p1 (s : RS) (k : Nat) :
  alongPc Tryz.prog (pcNumber s k) [true] = (some (.normal, St.mk [.any, .any, .int .i64 (↑(beN (List.take (k + 1) (List.drop 1 (RS.l s)))) : Int), .int .i64 0, .int .i64 0, .int .i64 (↑(kOf (RS.l s)) : Int), .any, .any, .any, .any, .any, .any, .any, .any, .any, .any, .any, .any, .any, .any, .any, .any, .any, .any, .any, .any, .any, .any, .any, .any, .any, .any, .any, .any, .any, .any, .any, .any, .any, .any, .any, .any, .any, .any, .any, .any, .any, .any, .any, .any, .any, .any, .any, .any, .any, .any, .any, .any, .any, .any, .any, .ros 1 (kOf (RS.l s)) (bl (List.drop 1 (RS.l s))) false, .int .i64 (↑(kOf (RS.l s)) : Int), .int .i64 (↑(k + 1) : Int), .any, .any, .any, .any, .any, .any, .any, .any, .any, .any, .any, .any] [(.o 0, rdB s)] 1 [], [decide ((↑k : Int) < (↑(kOf (RS.l s)) : Int)) = true, (0 : Int) ≤ (↑k : Int) ∧ (↑k : Int) < (↑(kOf (RS.l s)) : Int), (0 : Int) ≤ (8 : Int) ∧ (8 : Int) ≤ (64 : Int), InR IntKind.i64 ((↑(beN (List.take k (List.drop (1 : Nat) (RS.l s)))) : Int) * (256 : Int)), InR IntKind.i64 (↑(UInt8.toNat (List.getD (List.drop (1 : Nat) (RS.l s)) (Int.toNat (↑k : Int)) (0 : UInt8))) : Int), InR IntKind.i64 ((↑k : Int) + (1 : Int)), q (List.length (RS.l s)), ∀ (k : Nat), k < List.length (RS.l s) → bl (RS.l s) k = bl (RS.l s) k, false = true → false = true, q (RS.e s), q2, ibits (fun x x_1 y => x_1 ||| y) IntKind.i64 ((↑(beN (List.take k (List.drop (1 : Nat) (RS.l s)))) : Int) * (256 : Int)) (↑(UInt8.toNat (List.getD (List.drop (1 : Nat) (RS.l s)) (Int.toNat (↑k : Int)) (0 : UInt8))) : Int) = (↑(beN (List.take (k + (1 : Nat)) (List.drop (1 : Nat) (RS.l s)))) : Int), q1, q1, q (↑(kOf (RS.l s)) : Int), q (kOf (RS.l s)), ∀ (k : Nat), k < kOf (RS.l s) → bl (List.drop (1 : Nat) (RS.l s)) k = bl (List.drop (1 : Nat) (RS.l s)) k, false = true → false = true, q (↑(kOf (RS.l s)) : Int), (↑k : Int) + (1 : Int) = (↑(k + (1 : Nat)) : Int)]) : Option (Exit × St × List Prop)) := by kernel_rfl
theorem pcNumber_p0 (s : RS) (k : Nat) :
  alongPc Tryz.prog (pcNumber s k) [false] = (some (.exit 1, St.mk [.any, .any, .int .i64 (↑(beN (List.take (kOf (RS.l s)) (List.drop 1 (RS.l s)))) : Int), .int .i64 0, .int .i64 0, .int .i64 (↑(kOf (RS.l s)) : Int), .any, .any, .any, .any, .any, .any, .any, .any, .any, .any, .any, .any, .any, .any, .any, .any, .any, .any, .any, .any, .any, .any, .any, .any, .any, .any, .any, .any, .any, .any, .any, .any, .any, .any, .any, .any, .any, .any, .any, .any, .any, .any, .any, .any, .any, .any, .any, .any, .any, .any, .any, .any, .any, .any, .any, .ros 1 (kOf (RS.l s)) (bl (List.drop 1 (RS.l s))) false, .int .i64 (↑(kOf (RS.l s)) : Int), .int .i64 (↑(kOf (RS.l s)) : Int), .any, .any, .any, .any, .any, .any, .any, .any, .any, .any, .any, .any] [(.o 0, rdB s)] 1 [], [decide ((↑k : Int) < (↑(kOf (RS.l s)) : Int)) = false, q (List.length (RS.l s)), ∀ (k : Nat), k < List.length (RS.l s) → bl (RS.l s) k = bl (RS.l s) k, false = true → false = true, q (RS.e s), q2, (↑(beN (List.take k (List.drop (1 : Nat) (RS.l s)))) : Int) = (↑(beN (List.take (kOf (RS.l s)) (List.drop (1 : Nat) (RS.l s)))) : Int), q1, q1, q (↑(kOf (RS.l s)) : Int), q (kOf (RS.l s)), ∀ (k : Nat), k < kOf (RS.l s) → bl (List.drop (1 : Nat) (RS.l s)) k = bl (List.drop (1 : Nat) (RS.l s)) k, false = true → false = true, q (↑(kOf (RS.l s)) : Int), (↑k : Int) = (↑(kOf (RS.l s)) : Int)]) : Option (Exit × St × List Prop)) := by kernel_rfl

noncomputable def bdNum_c (most : Int) (s : RS) : Nat → List Prop
 | 0 => [T Tryz.prog 73 [.ptr (.o 0) 0 0 0 0] [(.o 0, .flat [.ros 1 (List.length (RS.l s)) (bl (RS.l s)) false, .int .i64 (RS.e s), .bool true])] (.bool !decide (RS.e s = (0 : Int))) [(.o 0, .flat [.ros 1 (List.length (RS.l s)) (bl (RS.l s)) false, .int .i64 (RS.e s), .bool true])]]
 | 1 => [(!decide (RS.e s = (0 : Int))) = false, T Tryz.prog 74 [.ptr (.o 0) 0 0 0 0] [(.o 0, .flat [.ros 1 (List.length (RS.l s)) (bl (RS.l s)) false, .int .i64 (RS.e s), .bool true])] (.tup [.int .i64 (nV (RS.l s)), .int .i64 (nS (RS.l s)), .int .i64 (nE (RS.l s))]) [(.o 0, .flat [.ros 1 (List.length (RS.l s)) (bl (RS.l s)) false, .int .i64 (RS.e s), .bool true])]]
 | _ => []
theorem bdNum_p1 (most : Int) (s : RS) :
 along Tryz.prog (bdNum most s) [true] = (some (.int .i64 0, [(.o 0, rdB s)], bdNum_c most s 0 ++ [(!decide (RS.e s = (0 : Int))) = true]) : Option (V × Heap × List Prop)) := by kernel_rfl

theorem bdNum_p0111 (most : Int) (s : RS) :
 along Tryz.prog (bdNum most s) [false, true, true, true] = (some (.int .i64 0, [(.o 0, .flat [.ros 1 0 (bl []) false, .int .i64 (nE1 most (RS.l s)), .bool true])], bdNum_c most s 0 ++ (bdNum_c most s 1 ++ [decide (nE (RS.l s) = (0 : Int)) = true, decide (most < nV (RS.l s)) = true, q2, T Tryz.prog 75 [.ptr (.o 0) 0 0 0 0, .int .i64 3] [(.o 0, rdB s)] (.tup []) [(.o 0, .flat [.ros 1 0 (bl []) false, .int .i64 (nE1 most (RS.l s)), .bool true])]])) : Option (V × Heap × List Prop)) := by kernel_rfl

theorem bdNum_p0001 (most : Int) (s : RS) :
 along Tryz.prog (bdNum most s) [false, false, false, true] = (some (.int .i64 0, [(.o 0, .flat [.ros 1 0 (bl []) false, .int .i64 (nE1 most (RS.l s)), .bool true])], bdNum_c most s 0 ++ (bdNum_c most s 1 ++ [decide (nE (RS.l s) = (0 : Int)) = false, q false, (!decide (nE (RS.l s) = (0 : Int))) = true, T Tryz.prog 75 [.ptr (.o 0) 0 0 0 0, .int .i64 (nE (RS.l s))] [(.o 0, rdB s)] (.tup []) [(.o 0, .flat [.ros 1 0 (bl []) false, .int .i64 (nE1 most (RS.l s)), .bool true])]])) : Option (V × Heap × List Prop)) := by kernel_rfl

theorem bdNum_p0100 (most : Int) (s : RS) :
 along Tryz.prog (bdNum most s) [false, true, false, false] = (some (.int .i64 (nV (RS.l s)), [(.o 0, .flat [.ros 1 (List.length (List.drop (Int.toNat (nS (RS.l s))) (RS.l s))) (bl (List.drop (Int.toNat (nS (RS.l s))) (RS.l s))) false, .int .i64 (RS.e s), .bool true])], bdNum_c most s 0 ++ (bdNum_c most s 1 ++ [decide (nE (RS.l s) = (0 : Int)) = true, decide (most < nV (RS.l s)) = false, (!decide (nE (RS.l s) = (0 : Int))) = false, T Tryz.prog 76 [.ptr (.o 0) 0 0 0 0, .int .i64 (nS (RS.l s))] [(.o 0, rdB s)] (.ros 1 (Int.toNat (nS (RS.l s))) (bl (List.take (Int.toNat (nS (RS.l s))) (RS.l s))) false) [(.o 0, .flat [.ros 1 (List.length (List.drop (Int.toNat (nS (RS.l s))) (RS.l s))) (bl (List.drop (Int.toNat (nS (RS.l s))) (RS.l s))) false, .int .i64 (RS.e s), .bool true])]])) : Option (V × Heap × List Prop)) := by kernel_rfl

noncomputable def bdTextR_c (most : Int) (s : RS) : Nat → List Prop
 | 0 => [T Tryz.prog 73 [.ptr (.o 0) 0 0 0 0] [(.o 0, .flat [.ros 1 (List.length (RS.l s)) (bl (RS.l s)) false, .int .i64 (RS.e s), .bool true])] (.bool !decide (RS.e s = (0 : Int))) [(.o 0, .flat [.ros 1 (List.length (RS.l s)) (bl (RS.l s)) false, .int .i64 (RS.e s), .bool true])]]
 | 1 => [(!decide (RS.e s = (0 : Int))) = false, T Tryz.prog 74 [.ptr (.o 0) 0 0 0 0] [(.o 0, .flat [.ros 1 (List.length (RS.l s)) (bl (RS.l s)) false, .int .i64 (RS.e s), .bool true])] (.tup [.int .i64 (nV (RS.l s)), .int .i64 (nS (RS.l s)), .int .i64 (nE (RS.l s))]) [(.o 0, .flat [.ros 1 (List.length (RS.l s)) (bl (RS.l s)) false, .int .i64 (RS.e s), .bool true])]]
 | 2 => [decide (most < nV (RS.l s)) = false, T Tryz.prog 77 [.ptr (.o 0) 0 0 0 0] [(.o 0, .flat [.ros 1 (List.length (RS.l s)) (bl (RS.l s)) false, .int .i64 (RS.e s), .bool true])] (.int .i64 (↑(List.length (RS.l s)) : Int)) [(.o 0, .flat [.ros 1 (List.length (RS.l s)) (bl (RS.l s)) false, .int .i64 (RS.e s), .bool true])], InR IntKind.i64 ((↑(List.length (RS.l s)) : Int) - nS (RS.l s))]
 | _ => []
theorem bdTextR_p1 (most : Int) (s : RS) :
 along Tryz.prog (bdTextR most s) [true] = (some (.str (ByteArray.mk (Array.mk [])), [(.o 0, rdB s)], bdTextR_c most s 0 ++ [(!decide (RS.e s = (0 : Int))) = true]) : Option (V × Heap × List Prop)) := by kernel_rfl

theorem bdTextR_p011 (most : Int) (s : RS) :
 along Tryz.prog (bdTextR most s) [false, true, true] = (some (.str (ByteArray.mk (Array.mk [])), [(.o 0, .flat [.ros 1 0 (bl []) false, .int .i64 (tE most (RS.l s)), .bool true])], bdTextR_c most s 0 ++ (bdTextR_c most s 1 ++ [(!decide (nE (RS.l s) = (0 : Int))) = true, (!decide (nE (RS.l s) = (0 : Int))) = true, T Tryz.prog 75 [.ptr (.o 0) 0 0 0 0, .int .i64 (nE (RS.l s))] [(.o 0, rdB s)] (.tup []) [(.o 0, .flat [.ros 1 0 (bl []) false, .int .i64 (tE most (RS.l s)), .bool true])]])) : Option (V × Heap × List Prop)) := by kernel_rfl

theorem bdTextR_p0011 (most : Int) (s : RS) :
 along Tryz.prog (bdTextR most s) [false, false, true, true] = (some (.str (ByteArray.mk (Array.mk [])), [(.o 0, .flat [.ros 1 0 (bl []) false, .int .i64 (tE most (RS.l s)), .bool true])], bdTextR_c most s 0 ++ (bdTextR_c most s 1 ++ [(!decide (nE (RS.l s) = (0 : Int))) = false, decide (most < nV (RS.l s)) = true, q2, T Tryz.prog 75 [.ptr (.o 0) 0 0 0 0, .int .i64 3] [(.o 0, rdB s)] (.tup []) [(.o 0, .flat [.ros 1 0 (bl []) false, .int .i64 (tE most (RS.l s)), .bool true])]])) : Option (V × Heap × List Prop)) := by kernel_rfl

theorem bdTextR_p00011 (most : Int) (s : RS) :
 along Tryz.prog (bdTextR most s) [false, false, false, true, true] = (some (.str (ByteArray.mk (Array.mk [])), [(.o 0, .flat [.ros 1 0 (bl []) false, .int .i64 (tE most (RS.l s)), .bool true])], bdTextR_c most s 0 ++ (bdTextR_c most s 1 ++ ([(!decide (nE (RS.l s) = (0 : Int))) = false] ++ (bdTextR_c most s 2 ++ [decide ((↑(List.length (RS.l s)) : Int) - nS (RS.l s) < nV (RS.l s)) = true, q2, T Tryz.prog 75 [.ptr (.o 0) 0 0 0 0, .int .i64 10] [(.o 0, rdB s)] (.tup []) [(.o 0, .flat [.ros 1 0 (bl []) false, .int .i64 (tE most (RS.l s)), .bool true])]])))) : Option (V × Heap × List Prop)) := by kernel_rfl

theorem bdTextR_p00000 (most : Int) (s : RS) :
 along Tryz.prog (bdTextR most s) [false, false, false, false, false] = (some (.str (bytesF (Int.toNat (nV (RS.l s))) (bl (List.take (Int.toNat (nV (RS.l s))) (List.drop (Int.toNat (nS (RS.l s))) (RS.l s))))), [(.o 0, .flat [.ros 1 (List.length (List.drop (Int.toNat (nV (RS.l s))) (List.drop (Int.toNat (nS (RS.l s))) (RS.l s)))) (bl (List.drop (Int.toNat (nV (RS.l s))) (List.drop (Int.toNat (nS (RS.l s))) (RS.l s)))) false, .int .i64 (RS.e s), .bool true])], bdTextR_c most s 0 ++ (bdTextR_c most s 1 ++ ([(!decide (nE (RS.l s) = (0 : Int))) = false] ++ (bdTextR_c most s 2 ++ [decide ((↑(List.length (RS.l s)) : Int) - nS (RS.l s) < nV (RS.l s)) = false, (!decide (nE (RS.l s) = (0 : Int))) = false, T Tryz.prog 76 [.ptr (.o 0) 0 0 0 0, .int .i64 (nS (RS.l s))] [(.o 0, rdB s)] (.ros 1 (Int.toNat (nS (RS.l s))) (bl (List.take (Int.toNat (nS (RS.l s))) (RS.l s))) false) [(.o 0, .flat [.ros 1 (List.length (List.drop (Int.toNat (nS (RS.l s))) (RS.l s))) (bl (List.drop (Int.toNat (nS (RS.l s))) (RS.l s))) false, .int .i64 (RS.e s), .bool true])], T Tryz.prog 76 [.ptr (.o 0) 0 0 0 0, .int .i64 (nV (RS.l s))] [(.o 0, .flat [.ros 1 (List.length (List.drop (Int.toNat (nS (RS.l s))) (RS.l s))) (bl (List.drop (Int.toNat (nS (RS.l s))) (RS.l s))) false, .int .i64 (RS.e s), .bool true])] (.ros 1 (Int.toNat (nV (RS.l s))) (bl (List.take (Int.toNat (nV (RS.l s))) (List.drop (Int.toNat (nS (RS.l s))) (RS.l s)))) false) [(.o 0, .flat [.ros 1 (List.length (List.drop (Int.toNat (nV (RS.l s))) (List.drop (Int.toNat (nS (RS.l s))) (RS.l s)))) (bl (List.drop (Int.toNat (nV (RS.l s))) (List.drop (Int.toNat (nS (RS.l s))) (RS.l s)))) false, .int .i64 (RS.e s), .bool true])], ∀ (k : Nat), k < Int.toNat (nV (RS.l s)) → true = true, ∀ (k : Nat), k < Int.toNat (nV (RS.l s)) → true = true])))) : Option (V × Heap × List Prop)) := by kernel_rfl

noncomputable def bdRawR_c (n : Int) (s : RS) : Nat → List Prop
 | 0 => [T Tryz.prog 73 [.ptr (.o 0) 0 0 0 0] [(.o 0, .flat [.ros 1 (List.length (RS.l s)) (bl (RS.l s)) false, .int .i64 (RS.e s), .bool true])] (.bool !decide (RS.e s = (0 : Int))) [(.o 0, .flat [.ros 1 (List.length (RS.l s)) (bl (RS.l s)) false, .int .i64 (RS.e s), .bool true])]]
 | _ => []
theorem bdRawR_p1 (n : Int) (s : RS) :
 along Tryz.prog (bdRawR n s) [true] = (some (.ros 1 (List.length (Prod.fst (rawR n s))) (bl (Prod.fst (rawR n s))) false, [(.o 0, .flat [.ros 1 (List.length (RS.l (rawR n s).2)) (bl (RS.l (rawR n s).2)) false, .int .i64 (RS.e (rawR n s).2), .bool true])], bdRawR_c n s 0 ++ [(!decide (RS.e s = (0 : Int))) = true, List.length (RS.l s) = List.length (RS.l (rawR n s).2), ∀ (k : Nat), k < List.length (RS.l s) → bl (RS.l s) k = bl (RS.l (rawR n s).2) k, false = true → false = true, RS.e s = RS.e (rawR n s).2, q2, List.length (Prod.fst (rawR n s)) = (0 : Nat)]) : Option (V × Heap × List Prop)) := by kernel_rfl

theorem bdRawR_p01 (n : Int) (s : RS) :
 along Tryz.prog (bdRawR n s) [false, true] = (some (.ros 1 (List.length (Prod.fst (rawR n s))) (bl (Prod.fst (rawR n s))) false, [(.o 0, .flat [.ros 1 (List.length (RS.l (rawR n s).2)) (bl (RS.l (rawR n s).2)) false, .int .i64 (RS.e (rawR n s).2), .bool true])], bdRawR_c n s 0 ++ [(!decide (RS.e s = (0 : Int))) = false, decide (n < (0 : Int)) = true, T Tryz.prog 75 [.ptr (.o 0) 0 0 0 0, .int .i64 2] [(.o 0, rdB s)] (.tup []) [(.o 0, .flat [.ros 1 (List.length (RS.l (rawR n s).2)) (bl (RS.l (rawR n s).2)) false, .int .i64 (RS.e (rawR n s).2), .bool true])], q (List.length (RS.l (rawR n s).2)), ∀ (k : Nat), k < List.length (RS.l (rawR n s).2) → bl (RS.l (rawR n s).2) k = bl (RS.l (rawR n s).2) k, false = true → false = true, q (RS.e (rawR n s).2), q2, List.length (Prod.fst (rawR n s)) = (0 : Nat)]) : Option (V × Heap × List Prop)) := by kernel_rfl

theorem bdRawR_p001 (n : Int) (s : RS) :
 along Tryz.prog (bdRawR n s) [false, false, true] = (some (.ros 1 (List.length (Prod.fst (rawR n s))) (bl (Prod.fst (rawR n s))) false, [(.o 0, .flat [.ros 1 (List.length (RS.l (rawR n s).2)) (bl (RS.l (rawR n s).2)) false, .int .i64 (RS.e (rawR n s).2), .bool true])], bdRawR_c n s 0 ++ [(!decide (RS.e s = (0 : Int))) = false, decide (n < (0 : Int)) = false, T Tryz.prog 77 [.ptr (.o 0) 0 0 0 0] [(.o 0, rdB s)] (.int .i64 (↑(List.length (RS.l s)) : Int)) [(.o 0, rdB s)], decide ((↑(List.length (RS.l s)) : Int) < n) = true, T Tryz.prog 75 [.ptr (.o 0) 0 0 0 0, .int .i64 10] [(.o 0, rdB s)] (.tup []) [(.o 0, .flat [.ros 1 (List.length (RS.l (rawR n s).2)) (bl (RS.l (rawR n s).2)) false, .int .i64 (RS.e (rawR n s).2), .bool true])], q (List.length (RS.l (rawR n s).2)), ∀ (k : Nat), k < List.length (RS.l (rawR n s).2) → bl (RS.l (rawR n s).2) k = bl (RS.l (rawR n s).2) k, false = true → false = true, q (RS.e (rawR n s).2), q2, List.length (Prod.fst (rawR n s)) = (0 : Nat)]) : Option (V × Heap × List Prop)) := by kernel_rfl

theorem bdRawR_p000 (n : Int) (s : RS) :
  along Tryz.prog (bdRawR n s) [false, false, false] = some (V.ros (1 : Nat) (List.length (Prod.fst (rawR n s))) (bl (Prod.fst (rawR n s))) false, [(Nm.o (0 : Nat), B.flat [V.ros (1 : Nat) (List.length (RS.l (rawR n s).2)) (bl (RS.l (rawR n s).2)) false, V.int IntKind.i64 (RS.e (rawR n s).2), V.bool true])], [T Tryz.prog (73 : Nat) [V.ptr (Nm.o (0 : Nat)) (0 : Nat) (0 : Nat) (0 : Nat) (0 : Nat)] [(Nm.o (0 : Nat), B.flat [V.ros (1 : Nat) (List.length (RS.l s)) (bl (RS.l s)) false, V.int IntKind.i64 (RS.e s), V.bool true])] (V.bool !decide (RS.e s = (0 : Int))) [(Nm.o (0 : Nat), B.flat [V.ros (1 : Nat) (List.length (RS.l s)) (bl (RS.l s)) false, V.int IntKind.i64 (RS.e s), V.bool true])], (!decide (RS.e s = (0 : Int))) = false, decide (n < (0 : Int)) = false, T Tryz.prog (77 : Nat) [V.ptr (Nm.o (0 : Nat)) (0 : Nat) (0 : Nat) (nat_lit 0) (0 : Nat)] [(Nm.o (0 : Nat), B.flat [V.ros (1 : Nat) (List.length (RS.l s)) (bl (RS.l s)) false, V.int IntKind.i64 (RS.e s), V.bool true])] (V.int IntKind.i64 (↑(List.length (RS.l s)) : Int)) [(Nm.o (0 : Nat), B.flat [V.ros (1 : Nat) (List.length (RS.l s)) (bl (RS.l s)) false, V.int IntKind.i64 (RS.e s), V.bool true])], decide ((↑(List.length (RS.l s)) : Int) < n) = false, T Tryz.prog (76 : Nat) [V.ptr (Nm.o (0 : Nat)) (0 : Nat) (0 : Nat) (nat_lit 0) (0 : Nat), V.int IntKind.i64 n] [(Nm.o (0 : Nat), B.flat [V.ros (1 : Nat) (List.length (RS.l s)) (bl (RS.l s)) false, V.int IntKind.i64 (RS.e s), V.bool true])] (V.ros (1 : Nat) (Int.toNat n) (bl (List.take (Int.toNat n) (RS.l s))) false) [(Nm.o (0 : Nat), B.flat [V.ros (1 : Nat) (List.length (List.drop (Int.toNat n) (RS.l s))) (bl (List.drop (Int.toNat n) (RS.l s))) false, V.int IntKind.i64 (RS.e s), V.bool true])], (0 : Nat) = (0 : Nat), ∀ (k : Nat), k < Int.toNat n → true = true, ((0 : Nat) + Int.toNat n) * (1 : Nat) ≤ (140737488355328 : Nat), List.length (List.drop (Int.toNat n) (RS.l s)) = List.length (RS.l (rawR n s).2), ∀ (k : Nat), k < List.length (List.drop (Int.toNat n) (RS.l s)) → bl (List.drop (Int.toNat n) (RS.l s)) k = bl (RS.l (rawR n s).2) k, false = true → false = true, RS.e s = RS.e (rawR n s).2, true = true, (0 : Nat) + Int.toNat n = List.length (Prod.fst (rawR n s)), (0 : Nat) + ((0 : Nat) + Int.toNat n) ≤ (0 : Nat) + Int.toNat n, ∀ (k : Nat), k < (0 : Nat) + Int.toNat n → [V.int IntKind.u8 (↑(UInt8.toNat (List.getD (List.take (Int.toNat n) (RS.l s)) ((0 : Nat) + k - (0 : Nat)) (0 : UInt8))) : Int)] = bl (Prod.fst (rawR n s)) k, false = true → none = some ((0 : Nat) + Int.toNat n)]) := by kernel_rfl

theorem e64 : (2 : Nat) ^ IntKind.i64.bits = 18446744073709551616 := by kernel_rfl
theorem inR1 {n : Int} (h : -9223372036854775808 ≤ n) (h2 : n ≤ 9223372036854775807) : IntKind.i64.min ≤ n := (InR64.2 ⟨h, h2⟩).1
theorem inR2 {n : Int} (h : -9223372036854775808 ≤ n) (h2 : n ≤ 9223372036854775807) : n ≤ IntKind.i64.max := (InR64.2 ⟨h, h2⟩).2
set_option maxRecDepth 8000 in
theorem or_add {a b : Nat} (h : a * 256 + b < 9223372036854775808) (hb : b < 256) : ibits (fun _ x y => x ||| y) IntKind.i64 ((a : Int) * 256) (b : Int) = ((a * 256 + b : Nat) : Int) := by
 have h1 : a * 256 ||| b = a * 256 + b := by
  have := Nat.shiftLeft_add_eq_or_of_lt (b := b) (i := 8) (by simpa using hb) a
  rw [Nat.shiftLeft_eq] at this
  simpa using this.symm
 have e1 : ((a : Int) * 256) = ((a * 256 : Nat) : Int) := by simp
 unfold ibits
 have hr : InR .i64 ((a * 256 + b : Nat) : Int) := InR64.2 ⟨by omega, by omega⟩
 have hc : ((BitVec.ofInt IntKind.i64.bits ((a : Int) * 256)) ||| (BitVec.ofInt IntKind.i64.bits (b : Int))).toNat = a * 256 + b := by
  rw [BitVec.toNat_or, e1, BitVec.ofInt_natCast, BitVec.ofInt_natCast, BitVec.toNat_ofNat, BitVec.toNat_ofNat, Nat.mod_eq_of_lt (a := a * 256), Nat.mod_eq_of_lt (a := b), h1]
  ·rw [e64]; omega
  ·rw [e64]; omega
 rw [hc]
 exact hr.wrap
theorem beN_snoc (xs : List UInt8) (x : UInt8) : beN (xs ++ [x]) = beN xs * 256 + x.toNat := by
 unfold beN
 rw [List.foldl_append]; rfl
theorem be_le : ∀ (xs : List UInt8) (a : Nat), xs.foldl (fun a x => a * 256 + x.toNat) a < (a + 1) * 256 ^ xs.length
 | [], a => by simp
 | x :: xs, a => by
  have h := be_le xs (a * 256 + x.toNat)
  have hx := x.toNat_lt
  rw [List.foldl_cons, List.length_cons, Nat.pow_succ]
  refine Nat.lt_of_lt_of_le h ?_
  have : (a * 256 + x.toNat + 1) ≤ (a + 1) * 256 := by omega
  calc (a * 256 + x.toNat + 1) * 256 ^ xs.length ≤ ((a + 1) * 256) * 256 ^ xs.length := Nat.mul_le_mul_right _ this
   _ = (a + 1) * (256 ^ xs.length * 256) := by rw [Nat.mul_assoc, Nat.mul_comm 256]
theorem beN_lt (xs : List UInt8) : beN xs < 256 ^ xs.length := by
 have := be_le xs 0
 simpa [beN] using this
theorem beN_lt8 {xs : List UInt8} (h : xs.length ≤ 8) (h1 : xs.length = 8 → (xs.getD 0 0).toNat ≤ 127) : beN xs < 9223372036854775808 := by
 by_cases e : xs.length = 8
 ·match xs, e, h1 with
  | x :: t, e, h1 =>
   have h2 := h1 e
   have h3 := be_le t (0 * 256 + x.toNat)
   have e4 : t.length = 7 := by simpa using e
   have h5 : x.toNat ≤ 127 := by simpa using h2
   rw [e4] at h3
   show List.foldl _ 0 (x :: t) < _
   rw [List.foldl_cons]
   refine Nat.lt_of_lt_of_le h3 ?_
   calc (0 * 256 + x.toNat + 1) * 256 ^ 7 ≤ 128 * 256 ^ 7 := Nat.mul_le_mul_right _ (by omega)
    _ ≤ _ := by decide
 ·have h2 := beN_lt xs
  have : 256 ^ xs.length ≤ 256 ^ 7 := Nat.pow_le_pow_right (by decide) (by omega)
  omega
theorem take_snoc {d : List UInt8} {k : Nat} (h : k < d.length) : d.take (k + 1) = d.take k ++ [d.getD k 0] := by
 rw [List.take_succ_eq_append_getElem h, List.getD_eq_getElem?_getD, List.getElem?_eq_getElem h, Option.getD_some]
/-- What a number's bytes are asked. -/
structure NumOk (l : List UInt8) : Prop where
 k : kOf l ≤ 8
 len : kOf l < l.length
 top : kOf l = 8 → (l.getD 1 0).toNat ≤ 127
theorem NumOk.lt {l : List UInt8} (h : NumOk l) : beN ((l.drop 1).take (kOf l)) < 9223372036854775808 := by
 have hl := h.len
 have hk := h.k
 refine beN_lt8 (by rw [List.length_take]; omega) fun e => ?_
 rw [List.length_take, List.length_drop] at e
 have := h.top (by omega)
 rw [List.getD_eq_getElem?_getD] at this ⊢
 rw [List.getElem?_take_of_lt (by omega), List.getElem?_drop]
 simpa using this
theorem beN_mono {d : List UInt8} : ∀ {j k : Nat}, j ≤ k → k ≤ d.length → beN (d.take j) ≤ beN (d.take k)
 | j, 0, h, _ => by have : j = 0 := by omega
                    subst this; exact Nat.le_refl _
 | j, k + 1, h, hk => by
  by_cases e : j = k + 1
  ·subst e; exact Nat.le_refl _
  ·have h1 := beN_mono (d := d) (j := j) (k := k) (by omega) (by omega)
   rw [take_snoc (by omega), beN_snoc]; omega
theorem or_goal {a b c : Nat} (h : a * 256 + b < 9223372036854775808) (hb : b < 256) (hc : c = a * 256 + b) : ibits (fun _ x y => x ||| y) IntKind.i64 ((a : Int) * 256) (b : Int) = (c : Int) := by
 rw [or_add h hb, hc]
theorem numStep {s : RS} (h : NumOk s.l) (k : Nat) (hk : k < kOf s.l) : R Tryz.prog none 1 (pcNumber s 0).c (nbI s.l s k) .normal (nbI s.l s (k + 1)) := by
 have hl := h.len
 have h8 := h.k
 have hd : k < (s.l.drop 1).length := by rw [List.length_drop]; omega
 have e := take_snoc hd
 have hx := ((s.l.drop 1).getD k 0).toNat_lt
 have hm := beN_mono (d := s.l.drop 1) (j := k + 1) (k := kOf s.l) (by omega) (by rw [List.length_drop]; omega)
 have hlt := h.lt
 have e2 := beN_snoc ((s.l.drop 1).take k) ((s.l.drop 1).getD k 0)
 rw [← e] at e2
 refine R_alongPc NG MO _ (pcNumber_p1 s k) ?_ (Nat.le_refl _)
 simp only [All, All_append, bdDone_c, bdNumber_c, bdNum_c, bdTextR_c, bdRawR_c]
 exact ⟨decide_eq_true (by omega), ⟨by omega, by omega⟩, ⟨by decide, by decide⟩, InR64.2 ⟨by omega, by omega⟩, InR64.2 ⟨by rw [Int.toNat_natCast]; omega, by rw [Int.toNat_natCast]; omega⟩, InR64.2 ⟨by omega, by omega⟩, trivial, fun _ _ => trivial, fun h => h, trivial, trivial, or_goal (by rw [Int.toNat_natCast]; omega) (by rw [Int.toNat_natCast]; omega) (by rw [Int.toNat_natCast, e2]), trivial, trivial, trivial, trivial, fun _ _ => trivial, fun h => h, trivial, by omega, trivial⟩
theorem numLoop {s : RS} (h : NumOk s.l) : RLoop Tryz.prog none 1 (pcNumber s 0).c (kOf s.l + 1) (nbI s.l s 0) (.exit 1) (nbI s.l s (kOf s.l)) :=
 RLoop.inv (nbI s.l s) (kOf s.l) (fun k hk => numStep h k hk) (R_alongPc NG MO _ (pcNumber_p0 s (kOf s.l)) (by simp [All, All_append, bdDone_c, bdNumber_c, bdNum_c, bdTextR_c, bdRawR_c]) (Nat.le_refl _)) (by simp)
theorem kOf_lt (l : List UInt8) : kOf l < 256 := (l.getD 0 0).toNat_lt
theorem T_number0 (s : RS) : T Tryz.prog 74 [p0] [(.o 0, rdB s)] (numberV s.l) [(.o 0, rdB s)] := by
 have hk := kOf_lt s.l
 have hk0 : (s.l.getD 0 0).toNat < 256 := kOf_lt s.l
 by_cases h1 : s.l.length = 0
 ·refine T.conv (T_al (bdNumber_p1 s) Tryz.func74 ?_) rfl rfl (by simp [numberV, nV, nS, nE, h1]) rfl
  simp [All, All_append, bdDone_c, bdNumber_c, bdNum_c, bdTextR_c, bdRawR_c, h1]
 by_cases h2 : 8 < kOf s.l
 ·refine T.conv (T_al (bdNumber_p01 s) Tryz.func74 ?_) rfl rfl (by simp [numberV, nV, nS, nE, h1, h2]) rfl
  have h2' : 8 < (s.l.getD 0 0).toNat := h2
  simp only [All, All_append, bdDone_c, bdNumber_c, bdNum_c, bdTextR_c, bdRawR_c]; and_intros
  all_goals first | (rw [decide_eq_false_iff_not]; omega) | (rw [decide_eq_true_eq]; omega) | omega | exact inR1 (by omega) (by omega) | exact inR2 (by omega) (by omega) | trivial
 by_cases h3 : s.l.length ≤ kOf s.l
 ·refine T.conv (T_al (bdNumber_p001 s) Tryz.func74 ?_) rfl rfl (by simp [numberV, nV, nS, nE, h1, h2, h3]) rfl
  have h2' : ¬ 8 < (s.l.getD 0 0).toNat := h2
  have h3' : s.l.length ≤ (s.l.getD 0 0).toNat := h3
  simp only [All, All_append, bdDone_c, bdNumber_c, bdNum_c, bdTextR_c, bdRawR_c]; and_intros
  all_goals first | (rw [decide_eq_false_iff_not]; omega) | (rw [decide_eq_true_eq]; omega) | omega | exact inR1 (by omega) (by omega) | exact inR2 (by omega) (by omega) | trivial
 by_cases h4 : 0 < kOf s.l ∧ (s.l.getD 1 0).toNat = 0
 ·refine T.conv (T_al (bdNumber_p000111 s) Tryz.func74 ?_) rfl rfl (by simp only [numberV, nV, nS, nE, if_neg h1, if_neg h2, if_neg h3, if_pos h4]; rfl) rfl
  have h2' : ¬ 8 < (s.l.getD 0 0).toNat := h2
  have h3' : ¬ s.l.length ≤ (s.l.getD 0 0).toNat := h3
  have h4' : 0 < (s.l.getD 0 0).toNat ∧ (s.l.getD 1 0).toNat = 0 := h4
  simp only [All, All_append, bdDone_c, bdNumber_c, bdNum_c, bdTextR_c, bdRawR_c]; and_intros
  all_goals first | (rw [decide_eq_false_iff_not]; omega) | (rw [decide_eq_true_eq]; omega) | omega | exact inR1 (by omega) (by omega) | exact inR2 (by omega) (by omega) | trivial
 by_cases h5 : kOf s.l = 8 ∧ 127 < (s.l.getD 1 0).toNat
 ·refine T.conv (T_al (bdNumber_p0001011 s) Tryz.func74 ?_) rfl rfl (by simp only [numberV, nV, nS, nE, if_neg h1, if_neg h2, if_neg h3, if_neg h4, if_pos h5]; rfl) rfl
  have h2' : ¬ 8 < (s.l.getD 0 0).toNat := h2
  have h3' : ¬ s.l.length ≤ (s.l.getD 0 0).toNat := h3
  have h4' : ¬ (0 < (s.l.getD 0 0).toNat ∧ (s.l.getD 1 0).toNat = 0) := h4
  have h5' : (s.l.getD 0 0).toNat = 8 ∧ 127 < (s.l.getD 1 0).toNat := h5
  simp only [All, All_append, bdDone_c, bdNumber_c, bdNum_c, bdTextR_c, bdRawR_c]; and_intros
  all_goals first | (rw [decide_eq_false_iff_not]; omega) | (rw [decide_eq_true_eq]; omega) | omega | exact inR1 (by omega) (by omega) | exact inR2 (by omega) (by omega) | trivial
 have hok : NumOk s.l := ⟨by omega, by omega, fun h => by omega⟩
 have hv : numberV s.l = .tup [.int .i64 (beN ((s.l.drop 1).take (kOf s.l)) : Nat), .int .i64 (1 + (kOf s.l : Int)), .int .i64 0] := by
  simp only [numberV, nV, nS, nE, if_neg h1, if_neg h2, if_neg h3, if_neg h4, if_neg h5, if_true]
  rw [Int.add_comm]; rfl
 have h2' : ¬ 8 < (s.l.getD 0 0).toNat := h2
 have h3' : ¬ s.l.length ≤ (s.l.getD 0 0).toNat := h3
 have h4' : ¬ (0 < (s.l.getD 0 0).toNat ∧ (s.l.getD 1 0).toNat = 0) := h4
 have h5' : ¬ ((s.l.getD 0 0).toNat = 8 ∧ 127 < (s.l.getD 1 0).toNat) := h5
 have hkk : (s.l.getD 0 0).toNat = kOf s.l := rfl
 by_cases h6 : 0 < kOf s.l
 ·by_cases h7 : kOf s.l = 8
  ·refine T.conv (T_al (bdNumber_p0001010 s) Tryz.func74 ?_) rfl rfl hv.symm rfl
   simp only [All, All_append, bdDone_c, bdNumber_c, bdNum_c, bdTextR_c, bdRawR_c]; and_intros
   all_goals first | exact numLoop hok | exact fun _ _ => trivial | (simp only [natO]; omega) | (intro k _; simp [bl, kOf, List.getD_eq_getElem?_getD, Nat.add_comm]; done) | (intro k hk; cases hk; done) | (rw [decide_eq_false_iff_not]; omega) | (rw [decide_eq_true_eq]; omega) | omega | exact inR1 (by omega) (by omega) | exact inR2 (by omega) (by omega) | trivial
  ·refine T.conv (T_al (bdNumber_p0001000 s) Tryz.func74 ?_) rfl rfl hv.symm rfl
   simp only [All, All_append, bdDone_c, bdNumber_c, bdNum_c, bdTextR_c, bdRawR_c]; and_intros
   all_goals first | exact numLoop hok | exact fun _ _ => trivial | (simp only [natO]; omega) | (intro k _; simp [bl, kOf, List.getD_eq_getElem?_getD, Nat.add_comm]; done) | (intro k hk; cases hk; done) | (rw [decide_eq_false_iff_not]; omega) | (rw [decide_eq_true_eq]; omega) | omega | exact inR1 (by omega) (by omega) | exact inR2 (by omega) (by omega) | trivial
 ·refine T.conv (T_al (bdNumber_p0000000 s) Tryz.func74 ?_) rfl rfl hv.symm rfl
  simp only [All, All_append, bdDone_c, bdNumber_c, bdNum_c, bdTextR_c, bdRawR_c]; and_intros
  all_goals first | exact numLoop hok | exact fun _ _ => trivial | (simp only [natO]; omega) | (intro k _; simp [bl, kOf, List.getD_eq_getElem?_getD, Nat.add_comm]; done) | (intro k hk; cases hk; done) | (rw [decide_eq_false_iff_not]; omega) | (rw [decide_eq_true_eq]; omega) | omega | exact inR1 (by omega) (by omega) | exact inR2 (by omega) (by omega) | trivial
theorem T_stop0 (s : RS) : T Tryz.prog 73 [p0] [(.o 0, rdB s)] (stopV s) [(.o 0, rdB s)] :=
 T_al (bdStop_p00 s) Tryz.func73 (by simp [All, All_append, bdDone_c, bdNumber_c, bdNum_c, bdTextR_c, bdRawR_c])
theorem T_err0 (s : RS) : T Tryz.prog 78 [p0] [(.o 0, rdB s)] (.int .i64 s.e) [(.o 0, rdB s)] :=
 T_al (bdErr_p00 s) Tryz.func78 (by simp [All, All_append, bdDone_c, bdNumber_c, bdNum_c, bdTextR_c, bdRawR_c])
theorem T_left0 (s : RS) : T Tryz.prog 77 [p0] [(.o 0, rdB s)] (.int .i64 (s.l.length : Nat)) [(.o 0, rdB s)] :=
 T_al (bdLeft_p s) Tryz.func77 (by simp [All, All_append, bdDone_c, bdNumber_c, bdNum_c, bdTextR_c, bdRawR_c])
theorem T_fail0 (s : RS) {e e' : Int} (h : e = e') : T Tryz.prog 75 [p0, .int .i64 e] [(.o 0, rdB s)] (.tup []) [(.o 0, rdB (s.fail e'))] := by
 subst h
 exact T_al (bdFail_p s e) Tryz.func75 (by simp [All, All_append, bdDone_c, bdNumber_c, bdNum_c, bdTextR_c, bdRawR_c])
theorem bl_drop (l : List UInt8) (n k : Nat) : bl (l.drop n) k = bl l (n + k) := by simp [bl, List.getD_eq_getElem?_getD]
theorem bl_take (l : List UInt8) {n k : Nat} (h : k < n) : bl (l.take n) k = bl l k := by simp [bl, List.getD_eq_getElem?_getD, List.getElem?_take_of_lt h]
theorem T_take0 (s : RS) {z : Int} {n : Nat} (hz : z = (n : Int)) (h : n ≤ s.l.length) : T Tryz.prog 76 [p0, .int .i64 z] [(.o 0, rdB s)] (.ros 1 n (bl (s.l.take n)) false) [(.o 0, rdB (s.drop n))] := by
 subst hz
 refine T_al (bdTake_p s n) Tryz.func76 ?_
 simp only [All, All_append, bdDone_c, bdNumber_c, bdNum_c, bdTextR_c, bdRawR_c, natO, Int.toNat_natCast]; and_intros
 all_goals first
  | omega
  | trivial
  | (rw [List.length_drop]; done)
  | (intro k hk; rw [bl_drop]; rfl)
  | (intro k hk; rw [bl_take _ (by omega)]; rfl)
theorem nS_le {l : List UInt8} : 0 ≤ nS l ∧ nS l ≤ l.length := by
 unfold nS
 split
 ·rename_i h
  unfold nE at h
  split at h <;> try contradiction
  split at h <;> try contradiction
  split at h <;> try contradiction
  omega
 ·omega
theorem nE_ok {l : List UInt8} (h : nE l = 0) : NumOk l := by
 unfold nE at h
 split at h <;> try contradiction
 split at h <;> try contradiction
 split at h <;> try contradiction
 split at h <;> try contradiction
 split at h <;> try contradiction
 exact ⟨by omega, by omega, fun e => by omega⟩
theorem nV_le {l : List UInt8} : 0 ≤ nV l ∧ nV l < 9223372036854775808 := by
 unfold nV
 split
 ·rename_i h
  have := (nE_ok h).lt
  omega
 ·omega
theorem T_num0 (most : Int) (s : RS) : T Tryz.prog 25 [p0, .int .i64 most] [(.o 0, rdB s)] (.int .i64 (numR most s).1) [(.o 0, rdB (numR most s).2)] := by
 have hS := @nS_le s.l
 by_cases h1 : s.e = 0
 ·by_cases h2 : nE s.l = 0
  ·by_cases h3 : most < nV s.l
   ·have e1 : nE1 most s.l = 3 := by simp [nE1, h2, h3]
    have e : numR most s = (0, s.fail (nE1 most s.l)) := by simp [numR, h1, e1]
    rw [e]
    refine T_al (bdNum_p0111 most s) Tryz.func25 ?_
    simp only [All, All_append, bdDone_c, bdNumber_c, bdNum_c, bdTextR_c, bdRawR_c]; and_intros
    all_goals first
     | exact T_stop0 s
     | exact T_number0 s
     | exact T_fail0 s e1.symm
     | (simp [h1, h2, h3]; done)
   ·have e1 : nE1 most s.l = 0 := by simp [nE1, h2, h3]
    have e : numR most s = (nV s.l, s.drop (nS s.l).toNat) := by simp [numR, h1, e1]
    rw [e]
    refine T_al (bdNum_p0100 most s) Tryz.func25 ?_
    simp only [All, All_append, bdDone_c, bdNumber_c, bdNum_c, bdTextR_c, bdRawR_c]; and_intros
    all_goals first
     | exact T_stop0 s
     | exact T_number0 s
     | exact T_take0 s (by omega) (by omega)
     | (simp [h1, h2, h3]; done)
     | (simp [h1, h2, h3]; omega)
  ·have e1 : nE1 most s.l = nE s.l := by simp [nE1, h2]
   have e : numR most s = (0, s.fail (nE1 most s.l)) := by simp [numR, h1, e1, h2]
   rw [e]
   refine T_al (bdNum_p0001 most s) Tryz.func25 ?_
   simp only [All, All_append, bdDone_c, bdNumber_c, bdNum_c, bdTextR_c, bdRawR_c]; and_intros
   all_goals first
    | exact T_stop0 s
    | exact T_number0 s
    | exact T_fail0 s e1.symm
    | (simp [h1, h2]; done)
 ·have e : numR most s = (0, s) := by simp [numR, h1]
  rw [e]
  refine T_al (bdNum_p1 most s) Tryz.func25 ?_
  simp only [All, All_append, bdDone_c, bdNumber_c, bdNum_c, bdTextR_c, bdRawR_c]; and_intros
  all_goals first
   | exact T_stop0 s
   | (simp [h1]; done)
theorem T_textR0 (most : Int) (s : RS) (hl : s.l.length ≤ 1000000000) : T Tryz.prog 26 [p0, .int .i64 most] [(.o 0, rdB s)] (.str (textR most s).1) [(.o 0, rdB (textR most s).2)] := by
 have hS := @nS_le s.l
 have hV := @nV_le s.l
 by_cases h1 : s.e = 0
 ·by_cases h2 : nE s.l = 0
  ·by_cases h3 : most < nV s.l
   ·have e1 : tE most s.l = 3 := by simp [tE, h2, h3]
    have e : textR most s = (baL [], s.fail (tE most s.l)) := by simp [textR, h1, e1]
    rw [e]
    refine T_al (bdTextR_p0011 most s) Tryz.func26 ?_
    simp only [All, All_append, bdDone_c, bdNumber_c, bdNum_c, bdTextR_c, bdRawR_c]; and_intros
    all_goals first
     | exact T_stop0 s
     | exact T_number0 s
     | exact T_fail0 s e1.symm
     | (simp [h1, h2, h3]; done)
   ·by_cases h4 : (s.l.length : Int) - nS s.l < nV s.l
    ·have e1 : tE most s.l = 10 := by simp [tE, h2, h3, h4]
     have e : textR most s = (baL [], s.fail (tE most s.l)) := by simp [textR, h1, e1]
     rw [e]
     refine T_al (bdTextR_p00011 most s) Tryz.func26 ?_
     simp only [All, All_append, bdDone_c, bdNumber_c, bdNum_c, bdTextR_c, bdRawR_c]; and_intros
     all_goals first
      | exact T_stop0 s
      | exact T_number0 s
      | exact T_left0 s
      | exact T_fail0 s e1.symm
      | exact inR1 (by omega) (by omega)
      | exact inR2 (by omega) (by omega)
      | (simp [h1, h2, h3, h4]; done)
      | (simp [h1, h2, h3, h4]; omega)
    ·have e1 : tE most s.l = 0 := by simp [tE, h2, h3, h4]
     have e : textR most s = (baL ((s.l.drop (nS s.l).toNat).take (nV s.l).toNat), (s.drop (nS s.l).toNat).drop (nV s.l).toNat) := by simp [textR, h1, e1]
     rw [e]
     have hlen : ((s.l.drop (nS s.l).toNat).take (nV s.l).toNat).length = (nV s.l).toNat := by rw [List.length_take, List.length_drop]; omega
     have hb : bytesF (nV s.l).toNat (bl ((s.l.drop (nS s.l).toNat).take (nV s.l).toNat)) = baL ((s.l.drop (nS s.l).toNat).take (nV s.l).toNat) := by
      have := bytesF_bl ((s.l.drop (nS s.l).toNat).take (nV s.l).toNat)
      rw [hlen] at this
      simpa only [Nat.zero_add] using this
     refine T.conv (T_al (bdTextR_p00000 most s) Tryz.func26 ?_) rfl rfl (by rw [hb]) rfl
     simp only [All, All_append, bdDone_c, bdNumber_c, bdNum_c, bdTextR_c, bdRawR_c]; and_intros
     all_goals first
      | exact T_stop0 s
      | exact T_number0 s
      | exact T_left0 s
      | exact T_take0 s (by omega) (by omega)
      | exact T_take0 (s.drop (nS s.l).toNat) (by omega) (by simp only [RS.drop, List.length_drop]; omega)
      | exact inR1 (by omega) (by omega)
      | exact inR2 (by omega) (by omega)
      | (simp [h1, h2, h3, h4]; done)
      | (simp [h1, h2, h3, h4]; omega)
      | (intro k _; exact ⟨_, rfl⟩)
  ·have e1 : tE most s.l = nE s.l := by simp [tE, h2]
   have e : textR most s = (baL [], s.fail (tE most s.l)) := by simp [textR, h1, e1, h2]
   rw [e]
   refine T_al (bdTextR_p011 most s) Tryz.func26 ?_
   simp only [All, All_append, bdDone_c, bdNumber_c, bdNum_c, bdTextR_c, bdRawR_c]; and_intros
   all_goals first
    | exact T_stop0 s
    | exact T_number0 s
    | exact T_fail0 s e1.symm
    | (simp [h1, h2]; done)
 ·have e : textR most s = (baL [], s) := by simp [textR, h1]
  rw [e]
  refine T_al (bdTextR_p1 most s) Tryz.func26 ?_
  simp only [All, All_append, bdDone_c, bdNumber_c, bdNum_c, bdTextR_c, bdRawR_c]; and_intros
  all_goals first
   | exact T_stop0 s
   | (simp [h1]; done)
theorem T_rawR0 (n : Int) (s : RS) (hl : s.l.length ≤ 1000000000) : T Tryz.prog 27 [p0, .int .i64 n] [(.o 0, rdB s)] (roB (rawR n s).1) [(.o 0, rdB (rawR n s).2)] := by
 by_cases h1 : s.e = 0
 ·by_cases h2 : n < 0
  ·have e : rawR n s = ([], s.fail 2) := by simp [rawR, h1, h2]
   refine T_al (bdRawR_p01 n s) Tryz.func27 ?_
   simp only [e, All]; and_intros
   all_goals first
    | exact T_stop0 s
    | exact T_fail0 s rfl
    | trivial
    | (simp [h1, h2]; done)
  ·by_cases h3 : (s.l.length : Int) < n
   ·have e : rawR n s = ([], s.fail 10) := by simp [rawR, h1, h2, h3]
    refine T_al (bdRawR_p001 n s) Tryz.func27 ?_
    simp only [e, All]; and_intros
    all_goals first
     | exact T_stop0 s
     | exact T_left0 s
     | exact T_fail0 s rfl
     | trivial
     | (simp [h1, h2, h3]; done)
   ·have e : rawR n s = (s.l.take n.toNat, s.drop n.toNat) := by simp [rawR, h1, h2, h3]
    have hlen : (s.l.take n.toNat).length = n.toNat := by rw [List.length_take]; omega
    refine T_al (bdRawR_p000 n s) Tryz.func27 ?_
    simp only [e, All, RS.drop]; and_intros
    all_goals first
     | exact T_stop0 s
     | exact T_left0 s
     | exact T_take0 s (by omega) (by omega)
     | trivial
     | omega
     | (simp [h1, h2, h3]; done)
     | (simp [h1, h2, h3]; omega)
     | (rw [hlen]; omega)
     | (intro k _; rfl)
     | (intro k hk; simp [bl]; done)
 ·have e : rawR n s = ([], s) := by simp [rawR, h1]
  refine T_al (bdRawR_p1 n s) Tryz.func27 ?_
  simp only [e, All]; and_intros
  all_goals first
   | exact T_stop0 s
   | trivial
   | (simp [h1]; done)
theorem T_done0 (s : RS) : T Tryz.prog 28 [p0] [(.o 0, rdB s)] (.int .i64 (doneR s)) [(.o 0, rdB s)] := by
 by_cases h1 : s.e = 0
 ·by_cases h2 : 0 < s.l.length
  ·refine T.val (T_al (bdDone_p01 s) Tryz.func28 ?_) (by simp [doneR, h1, h2])
   simp only [All, All_append, bdDone_c, bdNumber_c, bdNum_c, bdTextR_c, bdRawR_c]; and_intros
   all_goals first
    | exact T_err0 s
    | exact T_left0 s
    | (simp [h1]; done)
    | (rw [decide_eq_true_eq]; omega)
    | trivial
  ·refine T.val (T_al (bdDone_p00 s) Tryz.func28 ?_) (by simp [doneR, h1, h2])
   simp only [All, All_append, bdDone_c, bdNumber_c, bdNum_c, bdTextR_c, bdRawR_c]; and_intros
   all_goals first
    | exact T_err0 s
    | exact T_left0 s
    | (simp [h1]; done)
    | (rw [decide_eq_false_iff_not]; omega)
    | trivial
 ·refine T.val (T_al (bdDone_p1 s) Tryz.func28 ?_) (by simp [doneR, h1])
  simp only [All, All_append, bdDone_c, bdNumber_c, bdNum_c, bdTextR_c, bdRawR_c]; and_intros
  all_goals first
   | exact T_err0 s
   | (simp [h1]; done)
   | trivial
theorem T_read0 (l : List UInt8) (hl : l.length ≤ 1000000000) : T Tryz.prog 24 [roB l] [] (.ptr (.o 63) 0 0 0 0) [(.o 63, rdB { l := l })] := by
 refine T_al (bdRead_p l) Tryz.func24 ?_
 simp only [All, All_append, bdDone_c, bdNumber_c, bdNum_c, bdTextR_c, bdRawR_c]; and_intros
 all_goals first
  | trivial
  | omega
  | (intro k _; simp [bl]; done)
  | (intro k _; rfl)
  | simp
end Go.Proofs.YtnmccoincblecaaGreat
namespace Go.Proofs.YtnmccoincblecaaGreat
open Go Sy Go.Proofs
def intsB (l : List UInt8) : List Int := l.map fun x => (x.toNat : Int)
def reqR1 (s : RS) : RS := (numR 8 s).2
def reqR2 (s : RS) : RS := (numR 1099511627776 (reqR1 s)).2
def reqR3 (s : RS) : RS := (textR 64 (reqR2 s)).2
def reqR4 (s : RS) : RS := (rawR 16 (reqR3 s)).2
def reqV (s : RS) : SReq := { client := (numR 8 s).1, num := (numR 1099511627776 (reqR1 s)).1, data := (textR 64 (reqR2 s)).1, tag := intsB (rawR 16 (reqR3 s)).1 }
def req0 : SReq := { data := baL [], tag := z16 }
def reqR (s : RS) : SReq × RS := (if (reqR4 s).e = 0 then reqV s else req0, reqR4 s)
/-- One after the other, so many times. -/
def itR {α : Type} (one : RS → α × RS) : Nat → RS → List α × RS
 | 0, s => ([], s)
 | k + 1, s => ((one s).1 :: (itR one k (one s).2).1, (itR one k (one s).2).2)
def batch1 (s : RS) : List SReq × RS := itR reqR ((numR 5 s).1.toNat - 1) (numR 5 s).2
def batchOf (b : Bool) (l : List SReq) : SBatch := { noop := b, n := l.length, req := fun i => l.getD i req0 }
def batchR (s : RS) : SBatch × RS := (if (batch1 s).2.e = 0 then batchOf (decide ((numR 5 s).1 = 0)) (batch1 s).1 else {}, (batch1 s).2)
/-- One after the other. -/
def cRdS (l : List (V × RS)) : List V → Heap → Nat → List Cl := fun args _ _ => match args with
 | .ptr a _ _ _ _ :: _ => l.map fun q => { pre := [a], val := q.1, post := [(a, rdB q.2)] }
 | _ => []
def kCell (cs : List V) (hs : Heap) : Exit → St → Option W := fun _ st => match getV st.tmps 2 with
 | .ptr a _ _ _ _ => some ⟨[], [(2, .set (.ptr a 0 0 0 0))], hsetsOf hs ++ [(a, .set (.flat cs))], none, st.next⟩
 | _ => none
def rawCl (n : Nat) (xs : List UInt8) (s : RS) : List (V × RS) := [(.ros 1 n (bl xs) false, s), (.ros 1 0 (bl []) false, s)]
noncomputable def bdReqR (s s1 s2 s3 s4 : RS) (a b : Int) (d : ByteArray) (xs : List UInt8) (r : SReq) : Bd := { f := Tryz.f139, args := [p0], pre := [(.o 0, rdB s)], base := 1, kb := { db := dbG [(26, cRd (.str d) s3), (27, cRdS (rawCl 16 xs s4))] [(2, cRd (.int .i64 a) s1), (6, cRd (.int .i64 b) s2)] }, names := n0, k := kCell r.c [(.o 0, rdB s4)] }
noncomputable def bdReqT (s s1 s2 s3 s4 : RS) (a b : Int) (d : ByteArray) (xs : List UInt8) : Bd := bdReqR s s1 s2 s3 s4 a b d xs { client := a, num := b, data := d, tag := intsB xs }
noncomputable def bdReqF (s s1 s2 s3 s4 : RS) (a b : Int) (d : ByteArray) (xs : List UInt8) : Bd := bdReqR s s1 s2 s3 s4 a b d xs req0
noncomputable def bdBatR (s s0 s1 s2 s3 s4 s5 : RS) (n : Int) (r1 r2 r3 r4 : SReq) (b : SBatch) : Bd := { f := Tryz.f107, args := [p0], pre := [(.o 0, rdB s)], base := 1, kb := { db := dbG [(25, cRd (.int .i64 n) s0), (78, cRd (.int .i64 s5.e) s5)] [(17, cRd (.agg r1.c) s1), (31, cRd (.agg r2.c) s2), (45, cRd (.agg r3.c) s3), (59, cRd (.agg r4.c) s4)], lp := fun _ _ => [(True, .rounds 6)] }, names := n0, k := kCell b.c [(.o 0, rdB s5)] }
noncomputable def bdBat0 (s s0 : RS) (n : Int) : Bd := bdBatR s s0 s0 s0 s0 s0 s0 n {} {} {} {} (batchOf (decide (n = 0)) [])
noncomputable def bdBad0 (s s0 : RS) (n : Int) : Bd := bdBatR s s0 s0 s0 s0 s0 s0 n {} {} {} {} {}
noncomputable def bdBat1 (s s0 s1 : RS) (n : Int) (r1 : SReq) : Bd := bdBatR s s0 s1 s1 s1 s1 s1 n r1 {} {} {} (batchOf (decide (n = 0)) [r1])
noncomputable def bdBad1 (s s0 s1 : RS) (n : Int) (r1 : SReq) : Bd := bdBatR s s0 s1 s1 s1 s1 s1 n r1 {} {} {} {}
noncomputable def bdBat2 (s s0 s1 s2 : RS) (n : Int) (r1 r2 : SReq) : Bd := bdBatR s s0 s1 s2 s2 s2 s2 n r1 r2 {} {} (batchOf (decide (n = 0)) [r1, r2])
noncomputable def bdBad2 (s s0 s1 s2 : RS) (n : Int) (r1 r2 : SReq) : Bd := bdBatR s s0 s1 s2 s2 s2 s2 n r1 r2 {} {} {}
noncomputable def bdBat3 (s s0 s1 s2 s3 : RS) (n : Int) (r1 r2 r3 : SReq) : Bd := bdBatR s s0 s1 s2 s3 s3 s3 n r1 r2 r3 {} (batchOf (decide (n = 0)) [r1, r2, r3])
noncomputable def bdBad3 (s s0 s1 s2 s3 : RS) (n : Int) (r1 r2 r3 : SReq) : Bd := bdBatR s s0 s1 s2 s3 s3 s3 n r1 r2 r3 {} {}
noncomputable def bdBat4 (s s0 s1 s2 s3 s4 : RS) (n : Int) (r1 r2 r3 r4 : SReq) : Bd := bdBatR s s0 s1 s2 s3 s4 s4 n r1 r2 r3 r4 (batchOf (decide (n = 0)) [r1, r2, r3, r4])
noncomputable def bdBad4 (s s0 s1 s2 s3 s4 : RS) (n : Int) (r1 r2 r3 r4 : SReq) : Bd := bdBatR s s0 s1 s2 s3 s4 s4 n r1 r2 r3 r4 {}
end Go.Proofs.YtnmccoincblecaaGreat
namespace Go.Proofs.YtnmccoincblecaaGreat
open Go Sy Go.Proofs
theorem bdReqT_p10 (s : RS) (s1 : RS) (s2 : RS) (s3 : RS) (s4 : RS) (a : Int) (b : Int) (d : ByteArray) (xs : List UInt8) :
  along Tryz.prog (bdReqT s s1 s2 s3 s4 a b d xs) [true, false] = (some (.agg [.int .i64 a, .int .i64 b, .str d, .seg .u8 16 (intsB xs)], [(.o 0, rdB s4)], [T Tryz.prog 25 [.ptr (.o 0) 0 0 0 0, .int .i64 8] [(.o 0, rdB s)] (.int .i64 a) [(.o 0, rdB s1)], T Tryz.prog 25 [.ptr (.o 0) 0 0 0 0, .int .i64 1099511627776] [(.o 0, rdB s1)] (.int .i64 b) [(.o 0, rdB s2)], T Tryz.prog 26 [.ptr (.o 0) 0 0 0 0, .int .i64 64] [(.o 0, rdB s2)] (.str d) [(.o 0, rdB s3)], T Tryz.prog 27 [.ptr (.o 0) 0 0 0 0, .int .i64 16] [(.o 0, rdB s3)] (.ros 1 16 (bl xs) false) [(.o 0, rdB s4)], nat_lit 16 ≤ (16 : Nat), ∀ (q : Nat), q < (16 : Nat) → true = true, q false, q (List.length (RS.l s4)), ∀ (k : Nat), k < List.length (RS.l s4) → bl (RS.l s4) k = bl (RS.l s4) k, false = true → false = true, q (RS.e s4), q2, q a, q b, q d, q (16 : Nat), segSet (16 : Nat) z16 (nat_lit 0) (nat_lit 16) (bl xs) = intsB xs, q0, q0, q0]) : Option (V × Heap × List Prop)) := by kernel_rfl

theorem bdReqF_p01 (s : RS) (s1 : RS) (s2 : RS) (s3 : RS) (s4 : RS) (a : Int) (b : Int) (d : ByteArray) (xs : List UInt8) :
  along Tryz.prog (bdReqF s s1 s2 s3 s4 a b d xs) [false, true] = (some (.agg [.int .i64 0, .int .i64 0, .str (baL []), .seg .u8 16 z16], [(.o 0, rdB s4)], [T Tryz.prog 25 [.ptr (.o 0) 0 0 0 0, .int .i64 8] [(.o 0, rdB s)] (.int .i64 a) [(.o 0, rdB s1)], T Tryz.prog 25 [.ptr (.o 0) 0 0 0 0, .int .i64 1099511627776] [(.o 0, rdB s1)] (.int .i64 b) [(.o 0, rdB s2)], T Tryz.prog 26 [.ptr (.o 0) 0 0 0 0, .int .i64 64] [(.o 0, rdB s2)] (.str d) [(.o 0, rdB s3)], T Tryz.prog 27 [.ptr (.o 0) 0 0 0 0, .int .i64 16] [(.o 0, rdB s3)] (.ros 1 0 (bl []) false) [(.o 0, rdB s4)], nat_lit 16 ≤ (16 : Nat), ∀ (q : Nat), q < (0 : Nat) → true = true, q2, q (List.length (RS.l s4)), ∀ (k : Nat), k < List.length (RS.l s4) → bl (RS.l s4) k = bl (RS.l s4) k, false = true → false = true, q (RS.e s4), q2, q1, q1, ByteArray.empty = baL [], q (16 : Nat), q z16, q0, q0, q0]) : Option (V × Heap × List Prop)) := by kernel_rfl

theorem bdBat0_p00 (s : RS) (s0 : RS) (n : Int) :
  along Tryz.prog (bdBat0 s s0 n) [false, false] = (some (.agg [.bool (decide (n = (0 : Int))), rq 0 fun i => SReq.mk (0 : Int) (0 : Int) (baL []) z16], [(.o 0, rdB s0)], [T Tryz.prog 25 [.ptr (.o 0) 0 0 0 0, .int .i64 5] [(.o 0, rdB s)] (.int .i64 n) [(.o 0, rdB s0)], decide ((1 : Int) < n) = false, T Tryz.prog 78 [.ptr (.o 0) 0 0 0 0] [(.o 0, rdB s0)] (.int .i64 (RS.e s0)) [(.o 0, rdB s0)], (!decide (RS.e s0 = (0 : Int))) = false, q (List.length (RS.l s0)), ∀ (k : Nat), k < List.length (RS.l s0) → bl (RS.l s0) k = bl (RS.l s0) k, false = true → false = true, q (RS.e s0), q2, q (decide (n = (0 : Int))), nat_lit 0 = (0 : Nat), q0, q0, q0]) : Option (V × Heap × List Prop)) := by kernel_rfl

theorem bdBad0_p01 (s : RS) (s0 : RS) (n : Int) :
  along Tryz.prog (bdBad0 s s0 n) [false, true] = (some (.agg [.bool false, rq 0 fun x => SReq.mk (0 : Int) (0 : Int) ByteArray.empty []], [(.o 0, rdB s0)], [T Tryz.prog 25 [.ptr (.o 0) 0 0 0 0, .int .i64 5] [(.o 0, rdB s)] (.int .i64 n) [(.o 0, rdB s0)], decide ((1 : Int) < n) = false, T Tryz.prog 78 [.ptr (.o 0) 0 0 0 0] [(.o 0, rdB s0)] (.int .i64 (RS.e s0)) [(.o 0, rdB s0)], (!decide (RS.e s0 = (0 : Int))) = true, q (List.length (RS.l s0)), ∀ (k : Nat), k < List.length (RS.l s0) → bl (RS.l s0) k = bl (RS.l s0) k, false = true → false = true, q (RS.e s0), q2, q false, q0, q0, q0, q0]) : Option (V × Heap × List Prop)) := by kernel_rfl

theorem bdBat1_p100 (s : RS) (s0 : RS) (s1 : RS) (n : Int) (r1 : SReq) :
  along Tryz.prog (bdBat1 s s0 s1 n r1) [true, false, false] = some (V.agg [V.bool (decide (n = (0 : Int))), rq (nat_lit 1) fun i => List.getD [r1] i (SReq.mk (0 : Int) (0 : Int) (baL []) z16)], [(Nm.o (0 : Nat), B.flat [V.ros (1 : Nat) (List.length (RS.l s1)) (bl (RS.l s1)) false, V.int IntKind.i64 (RS.e s1), V.bool true])], [T Tryz.prog (25 : Nat) [V.ptr (Nm.o (0 : Nat)) (0 : Nat) (0 : Nat) (0 : Nat) (0 : Nat), V.int IntKind.i64 (5 : Int)] [(Nm.o (0 : Nat), B.flat [V.ros (1 : Nat) (List.length (RS.l s)) (bl (RS.l s)) false, V.int IntKind.i64 (RS.e s), V.bool true])] (V.int IntKind.i64 n) [(Nm.o (0 : Nat), B.flat [V.ros (1 : Nat) (List.length (RS.l s0)) (bl (RS.l s0)) false, V.int IntKind.i64 (RS.e s0), V.bool true])], decide ((1 : Int) < n) = true, T Tryz.prog (139 : Nat) [V.ptr (Nm.o (0 : Nat)) (0 : Nat) (0 : Nat) (0 : Nat) (0 : Nat)] [(Nm.o (0 : Nat), B.flat [V.ros (1 : Nat) (List.length (RS.l s0)) (bl (RS.l s0)) false, V.int IntKind.i64 (RS.e s0), V.bool true])] (V.agg (SReq.c r1)) [(Nm.o (0 : Nat), B.flat [V.ros (1 : Nat) (List.length (RS.l s1)) (bl (RS.l s1)) false, V.int IntKind.i64 (RS.e s1), V.bool true])], nat_lit 1 ≤ (1 : Nat), ∀ (k : Nat), k < (1 : Nat) → solid (getL [[V.int IntKind.i64 (SReq.client r1), V.int IntKind.i64 (SReq.num r1), V.str (SReq.data r1), V.seg IntKind.u8 (16 : Nat) (SReq.tag r1)]] ((0 : Nat) + k)) = true, nat_lit 48 ≤ (140737488355328 : Nat), InR IntKind.i64 (2 : Int), decide ((2 : Int) < n) = false, T Tryz.prog (78 : Nat) [V.ptr (Nm.o (0 : Nat)) (0 : Nat) (0 : Nat) (0 : Nat) (0 : Nat)] [(Nm.o (0 : Nat), B.flat [V.ros (1 : Nat) (List.length (RS.l s1)) (bl (RS.l s1)) false, V.int IntKind.i64 (RS.e s1), V.bool true])] (V.int IntKind.i64 (RS.e s1)) [(Nm.o (0 : Nat), B.flat [V.ros (1 : Nat) (List.length (RS.l s1)) (bl (RS.l s1)) false, V.int IntKind.i64 (RS.e s1), V.bool true])], (!decide (RS.e s1 = (0 : Int))) = false, List.length (RS.l s1) = List.length (RS.l s1), ∀ (k : Nat), k < List.length (RS.l s1) → bl (RS.l s1) k = bl (RS.l s1) k, false = true → false = true, RS.e s1 = RS.e s1, true = true, decide (n = (0 : Int)) = decide (n = (0 : Int)), nat_lit 1 = nat_lit 1, nat_lit 1 ≤ nat_lit 1, ∀ (k : Nat), k < nat_lit 1 → catF (0 : Nat) (fun x => []) (fun k => getL [[V.int IntKind.i64 (SReq.client r1), V.int IntKind.i64 (SReq.num r1), V.str (SReq.data r1), V.seg IntKind.u8 (16 : Nat) (SReq.tag r1)]] ((0 : Nat) + k)) ((0 : Nat) + k) = SReq.c (SBatch.req (SBatch.mk (decide (n = (0 : Int))) (nat_lit 1) fun i => List.getD [r1] i (SReq.mk (0 : Int) (0 : Int) (baL []) z16)) k), false = true → none = some (nat_lit 1), (0 : Nat) = (0 : Nat), (0 : Nat) = (0 : Nat), (0 : Nat) = (0 : Nat)]) := by kernel_rfl

theorem bdBad1_p101 (s : RS) (s0 : RS) (s1 : RS) (n : Int) (r1 : SReq) :
  along Tryz.prog (bdBad1 s s0 s1 n r1) [true, false, true] = (some (.agg [.bool false, rq 0 fun x => SReq.mk (0 : Int) (0 : Int) ByteArray.empty []], [(.o 0, rdB s1)], [T Tryz.prog 25 [.ptr (.o 0) 0 0 0 0, .int .i64 5] [(.o 0, rdB s)] (.int .i64 n) [(.o 0, rdB s0)], decide ((1 : Int) < n) = true, T Tryz.prog 139 [.ptr (.o 0) 0 0 0 0] [(.o 0, rdB s0)] (.agg (SReq.c r1)) [(.o 0, rdB s1)], nat_lit 1 ≤ (1 : Nat), ∀ (k : Nat), k < (1 : Nat) → solid (getL [[V.int IntKind.i64 (SReq.client r1), V.int IntKind.i64 (SReq.num r1), V.str (SReq.data r1), V.seg IntKind.u8 (16 : Nat) (SReq.tag r1)]] ((0 : Nat) + k)) = true, nat_lit 48 ≤ (140737488355328 : Nat), InR IntKind.i64 (2 : Int), decide ((2 : Int) < n) = false, T Tryz.prog 78 [.ptr (.o 0) 0 0 0 0] [(.o 0, rdB s1)] (.int .i64 (RS.e s1)) [(.o 0, rdB s1)], (!decide (RS.e s1 = (0 : Int))) = true, q (List.length (RS.l s1)), ∀ (k : Nat), k < List.length (RS.l s1) → bl (RS.l s1) k = bl (RS.l s1) k, false = true → false = true, q (RS.e s1), q2, q false, q0, q0, q0, q0]) : Option (V × Heap × List Prop)) := by kernel_rfl

theorem bdBat2_p1100 (s : RS) (s0 : RS) (s1 : RS) (s2 : RS) (n : Int) (r1 : SReq) (r2 : SReq) :
  along Tryz.prog (bdBat2 s s0 s1 s2 n r1 r2) [true, true, false, false] = some (V.agg [V.bool (decide (n = (0 : Int))), rq (nat_lit 2) fun i => List.getD [r1, r2] i (SReq.mk (0 : Int) (0 : Int) (baL []) z16)], [(Nm.o (0 : Nat), B.flat [V.ros (1 : Nat) (List.length (RS.l s2)) (bl (RS.l s2)) false, V.int IntKind.i64 (RS.e s2), V.bool true])], [T Tryz.prog (25 : Nat) [V.ptr (Nm.o (0 : Nat)) (0 : Nat) (0 : Nat) (0 : Nat) (0 : Nat), V.int IntKind.i64 (5 : Int)] [(Nm.o (0 : Nat), B.flat [V.ros (1 : Nat) (List.length (RS.l s)) (bl (RS.l s)) false, V.int IntKind.i64 (RS.e s), V.bool true])] (V.int IntKind.i64 n) [(Nm.o (0 : Nat), B.flat [V.ros (1 : Nat) (List.length (RS.l s0)) (bl (RS.l s0)) false, V.int IntKind.i64 (RS.e s0), V.bool true])], decide ((1 : Int) < n) = true, T Tryz.prog (139 : Nat) [V.ptr (Nm.o (0 : Nat)) (0 : Nat) (0 : Nat) (0 : Nat) (0 : Nat)] [(Nm.o (0 : Nat), B.flat [V.ros (1 : Nat) (List.length (RS.l s0)) (bl (RS.l s0)) false, V.int IntKind.i64 (RS.e s0), V.bool true])] (V.agg (SReq.c r1)) [(Nm.o (0 : Nat), B.flat [V.ros (1 : Nat) (List.length (RS.l s1)) (bl (RS.l s1)) false, V.int IntKind.i64 (RS.e s1), V.bool true])], nat_lit 1 ≤ (1 : Nat), ∀ (k : Nat), k < (1 : Nat) → solid (getL [[V.int IntKind.i64 (SReq.client r1), V.int IntKind.i64 (SReq.num r1), V.str (SReq.data r1), V.seg IntKind.u8 (16 : Nat) (SReq.tag r1)]] ((0 : Nat) + k)) = true, nat_lit 48 ≤ (140737488355328 : Nat), InR IntKind.i64 (2 : Int), decide ((2 : Int) < n) = true, T Tryz.prog (139 : Nat) [V.ptr (Nm.o (0 : Nat)) (0 : Nat) (0 : Nat) (0 : Nat) (0 : Nat)] [(Nm.o (0 : Nat), B.flat [V.ros (1 : Nat) (List.length (RS.l s1)) (bl (RS.l s1)) false, V.int IntKind.i64 (RS.e s1), V.bool true])] (V.agg (SReq.c r2)) [(Nm.o (0 : Nat), B.flat [V.ros (1 : Nat) (List.length (RS.l s2)) (bl (RS.l s2)) false, V.int IntKind.i64 (RS.e s2), V.bool true])], nat_lit 1 = nat_lit 1, nat_lit 1 ≤ (1 : Nat), ∀ (k : Nat), k < (1 : Nat) → solid (getL [[V.int IntKind.i64 (SReq.client r2), V.int IntKind.i64 (SReq.num r2), V.str (SReq.data r2), V.seg IntKind.u8 (16 : Nat) (SReq.tag r2)]] ((0 : Nat) + k)) = true, nat_lit 96 ≤ (140737488355328 : Nat), InR IntKind.i64 (3 : Int), decide ((3 : Int) < n) = false, T Tryz.prog (78 : Nat) [V.ptr (Nm.o (0 : Nat)) (0 : Nat) (0 : Nat) (0 : Nat) (0 : Nat)] [(Nm.o (0 : Nat), B.flat [V.ros (1 : Nat) (List.length (RS.l s2)) (bl (RS.l s2)) false, V.int IntKind.i64 (RS.e s2), V.bool true])] (V.int IntKind.i64 (RS.e s2)) [(Nm.o (0 : Nat), B.flat [V.ros (1 : Nat) (List.length (RS.l s2)) (bl (RS.l s2)) false, V.int IntKind.i64 (RS.e s2), V.bool true])], (!decide (RS.e s2 = (0 : Int))) = false, List.length (RS.l s2) = List.length (RS.l s2), ∀ (k : Nat), k < List.length (RS.l s2) → bl (RS.l s2) k = bl (RS.l s2) k, false = true → false = true, RS.e s2 = RS.e s2, true = true, decide (n = (0 : Int)) = decide (n = (0 : Int)), nat_lit 2 = nat_lit 2, nat_lit 2 ≤ nat_lit 2, ∀ (k : Nat), k < nat_lit 2 → catF (nat_lit 1) (catF (0 : Nat) (fun x => []) fun k => getL [[V.int IntKind.i64 (SReq.client r1), V.int IntKind.i64 (SReq.num r1), V.str (SReq.data r1), V.seg IntKind.u8 (16 : Nat) (SReq.tag r1)]] ((0 : Nat) + k)) (fun k => getL [[V.int IntKind.i64 (SReq.client r2), V.int IntKind.i64 (SReq.num r2), V.str (SReq.data r2), V.seg IntKind.u8 (16 : Nat) (SReq.tag r2)]] ((0 : Nat) + k)) ((0 : Nat) + k) = SReq.c (SBatch.req (SBatch.mk (decide (n = (0 : Int))) (nat_lit 2) fun i => List.getD [r1, r2] i (SReq.mk (0 : Int) (0 : Int) (baL []) z16)) k), false = true → none = some (nat_lit 2), (0 : Nat) = (0 : Nat), (0 : Nat) = (0 : Nat), (0 : Nat) = (0 : Nat)]) := by kernel_rfl

theorem bdBad2_p1101 (s : RS) (s0 : RS) (s1 : RS) (s2 : RS) (n : Int) (r1 : SReq) (r2 : SReq) :
  along Tryz.prog (bdBad2 s s0 s1 s2 n r1 r2) [true, true, false, true] = (some (.agg [.bool false, rq 0 fun x => SReq.mk (0 : Int) (0 : Int) ByteArray.empty []], [(.o 0, rdB s2)], [T Tryz.prog 25 [.ptr (.o 0) 0 0 0 0, .int .i64 5] [(.o 0, rdB s)] (.int .i64 n) [(.o 0, rdB s0)], decide ((1 : Int) < n) = true, T Tryz.prog 139 [.ptr (.o 0) 0 0 0 0] [(.o 0, rdB s0)] (.agg (SReq.c r1)) [(.o 0, rdB s1)], nat_lit 1 ≤ (1 : Nat), ∀ (k : Nat), k < (1 : Nat) → solid (getL [[V.int IntKind.i64 (SReq.client r1), V.int IntKind.i64 (SReq.num r1), V.str (SReq.data r1), V.seg IntKind.u8 (16 : Nat) (SReq.tag r1)]] ((0 : Nat) + k)) = true, nat_lit 48 ≤ (140737488355328 : Nat), InR IntKind.i64 (2 : Int), decide ((2 : Int) < n) = true, T Tryz.prog 139 [.ptr (.o 0) 0 0 0 0] [(.o 0, rdB s1)] (.agg (SReq.c r2)) [(.o 0, rdB s2)], q (nat_lit 1), nat_lit 1 ≤ (1 : Nat), ∀ (k : Nat), k < (1 : Nat) → solid (getL [[V.int IntKind.i64 (SReq.client r2), V.int IntKind.i64 (SReq.num r2), V.str (SReq.data r2), V.seg IntKind.u8 (16 : Nat) (SReq.tag r2)]] ((0 : Nat) + k)) = true, nat_lit 96 ≤ (140737488355328 : Nat), InR IntKind.i64 (3 : Int), decide ((3 : Int) < n) = false, T Tryz.prog 78 [.ptr (.o 0) 0 0 0 0] [(.o 0, rdB s2)] (.int .i64 (RS.e s2)) [(.o 0, rdB s2)], (!decide (RS.e s2 = (0 : Int))) = true, q (List.length (RS.l s2)), ∀ (k : Nat), k < List.length (RS.l s2) → bl (RS.l s2) k = bl (RS.l s2) k, false = true → false = true, q (RS.e s2), q2, q false, q0, q0, q0, q0]) : Option (V × Heap × List Prop)) := by kernel_rfl

theorem bdBat3_p11100 (s : RS) (s0 : RS) (s1 : RS) (s2 : RS) (s3 : RS) (n : Int) (r1 : SReq) (r2 : SReq) (r3 : SReq) :
  along Tryz.prog (bdBat3 s s0 s1 s2 s3 n r1 r2 r3) [true, true, true, false, false] = some (V.agg [V.bool (decide (n = (0 : Int))), rq (nat_lit 3) fun i => List.getD [r1, r2, r3] i (SReq.mk (0 : Int) (0 : Int) (baL []) z16)], [(Nm.o (0 : Nat), B.flat [V.ros (1 : Nat) (List.length (RS.l s3)) (bl (RS.l s3)) false, V.int IntKind.i64 (RS.e s3), V.bool true])], [T Tryz.prog (25 : Nat) [V.ptr (Nm.o (0 : Nat)) (0 : Nat) (0 : Nat) (0 : Nat) (0 : Nat), V.int IntKind.i64 (5 : Int)] [(Nm.o (0 : Nat), B.flat [V.ros (1 : Nat) (List.length (RS.l s)) (bl (RS.l s)) false, V.int IntKind.i64 (RS.e s), V.bool true])] (V.int IntKind.i64 n) [(Nm.o (0 : Nat), B.flat [V.ros (1 : Nat) (List.length (RS.l s0)) (bl (RS.l s0)) false, V.int IntKind.i64 (RS.e s0), V.bool true])], decide ((1 : Int) < n) = true, T Tryz.prog (139 : Nat) [V.ptr (Nm.o (0 : Nat)) (0 : Nat) (0 : Nat) (0 : Nat) (0 : Nat)] [(Nm.o (0 : Nat), B.flat [V.ros (1 : Nat) (List.length (RS.l s0)) (bl (RS.l s0)) false, V.int IntKind.i64 (RS.e s0), V.bool true])] (V.agg (SReq.c r1)) [(Nm.o (0 : Nat), B.flat [V.ros (1 : Nat) (List.length (RS.l s1)) (bl (RS.l s1)) false, V.int IntKind.i64 (RS.e s1), V.bool true])], nat_lit 1 ≤ (1 : Nat), ∀ (k : Nat), k < (1 : Nat) → solid (getL [[V.int IntKind.i64 (SReq.client r1), V.int IntKind.i64 (SReq.num r1), V.str (SReq.data r1), V.seg IntKind.u8 (16 : Nat) (SReq.tag r1)]] ((0 : Nat) + k)) = true, nat_lit 48 ≤ (140737488355328 : Nat), InR IntKind.i64 (2 : Int), decide ((2 : Int) < n) = true, T Tryz.prog (139 : Nat) [V.ptr (Nm.o (0 : Nat)) (0 : Nat) (0 : Nat) (0 : Nat) (0 : Nat)] [(Nm.o (0 : Nat), B.flat [V.ros (1 : Nat) (List.length (RS.l s1)) (bl (RS.l s1)) false, V.int IntKind.i64 (RS.e s1), V.bool true])] (V.agg (SReq.c r2)) [(Nm.o (0 : Nat), B.flat [V.ros (1 : Nat) (List.length (RS.l s2)) (bl (RS.l s2)) false, V.int IntKind.i64 (RS.e s2), V.bool true])], nat_lit 1 = nat_lit 1, nat_lit 1 ≤ (1 : Nat), ∀ (k : Nat), k < (1 : Nat) → solid (getL [[V.int IntKind.i64 (SReq.client r2), V.int IntKind.i64 (SReq.num r2), V.str (SReq.data r2), V.seg IntKind.u8 (16 : Nat) (SReq.tag r2)]] ((0 : Nat) + k)) = true, nat_lit 96 ≤ (140737488355328 : Nat), InR IntKind.i64 (3 : Int), decide ((3 : Int) < n) = true, T Tryz.prog (139 : Nat) [V.ptr (Nm.o (0 : Nat)) (0 : Nat) (0 : Nat) (0 : Nat) (0 : Nat)] [(Nm.o (0 : Nat), B.flat [V.ros (1 : Nat) (List.length (RS.l s2)) (bl (RS.l s2)) false, V.int IntKind.i64 (RS.e s2), V.bool true])] (V.agg (SReq.c r3)) [(Nm.o (0 : Nat), B.flat [V.ros (1 : Nat) (List.length (RS.l s3)) (bl (RS.l s3)) false, V.int IntKind.i64 (RS.e s3), V.bool true])], nat_lit 2 = nat_lit 2, nat_lit 1 ≤ (1 : Nat), ∀ (k : Nat), k < (1 : Nat) → solid (getL [[V.int IntKind.i64 (SReq.client r3), V.int IntKind.i64 (SReq.num r3), V.str (SReq.data r3), V.seg IntKind.u8 (16 : Nat) (SReq.tag r3)]] ((0 : Nat) + k)) = true, nat_lit 144 ≤ (140737488355328 : Nat), InR IntKind.i64 (4 : Int), decide ((4 : Int) < n) = false, T Tryz.prog (78 : Nat) [V.ptr (Nm.o (0 : Nat)) (0 : Nat) (0 : Nat) (0 : Nat) (0 : Nat)] [(Nm.o (0 : Nat), B.flat [V.ros (1 : Nat) (List.length (RS.l s3)) (bl (RS.l s3)) false, V.int IntKind.i64 (RS.e s3), V.bool true])] (V.int IntKind.i64 (RS.e s3)) [(Nm.o (0 : Nat), B.flat [V.ros (1 : Nat) (List.length (RS.l s3)) (bl (RS.l s3)) false, V.int IntKind.i64 (RS.e s3), V.bool true])], (!decide (RS.e s3 = (0 : Int))) = false, List.length (RS.l s3) = List.length (RS.l s3), ∀ (k : Nat), k < List.length (RS.l s3) → bl (RS.l s3) k = bl (RS.l s3) k, false = true → false = true, RS.e s3 = RS.e s3, true = true, decide (n = (0 : Int)) = decide (n = (0 : Int)), nat_lit 3 = nat_lit 3, nat_lit 3 ≤ nat_lit 3, ∀ (k : Nat), k < nat_lit 3 → catF (nat_lit 2) (catF (nat_lit 1) (catF (0 : Nat) (fun x => []) fun k => getL [[V.int IntKind.i64 (SReq.client r1), V.int IntKind.i64 (SReq.num r1), V.str (SReq.data r1), V.seg IntKind.u8 (16 : Nat) (SReq.tag r1)]] ((0 : Nat) + k)) fun k => getL [[V.int IntKind.i64 (SReq.client r2), V.int IntKind.i64 (SReq.num r2), V.str (SReq.data r2), V.seg IntKind.u8 (16 : Nat) (SReq.tag r2)]] ((0 : Nat) + k)) (fun k => getL [[V.int IntKind.i64 (SReq.client r3), V.int IntKind.i64 (SReq.num r3), V.str (SReq.data r3), V.seg IntKind.u8 (16 : Nat) (SReq.tag r3)]] ((0 : Nat) + k)) ((0 : Nat) + k) = SReq.c (SBatch.req (SBatch.mk (decide (n = (0 : Int))) (nat_lit 3) fun i => List.getD [r1, r2, r3] i (SReq.mk (0 : Int) (0 : Int) (baL []) z16)) k), false = true → none = some (nat_lit 3), (0 : Nat) = (0 : Nat), (0 : Nat) = (0 : Nat), (0 : Nat) = (0 : Nat)]) := by kernel_rfl

theorem bdBad3_p11101 (s : RS) (s0 : RS) (s1 : RS) (s2 : RS) (s3 : RS) (n : Int) (r1 : SReq) (r2 : SReq) (r3 : SReq) :
  along Tryz.prog (bdBad3 s s0 s1 s2 s3 n r1 r2 r3) [true, true, true, false, true] = (some (.agg [.bool false, rq 0 fun x => SReq.mk (0 : Int) (0 : Int) ByteArray.empty []], [(.o 0, rdB s3)], [T Tryz.prog 25 [.ptr (.o 0) 0 0 0 0, .int .i64 5] [(.o 0, rdB s)] (.int .i64 n) [(.o 0, rdB s0)], decide ((1 : Int) < n) = true, T Tryz.prog 139 [.ptr (.o 0) 0 0 0 0] [(.o 0, rdB s0)] (.agg (SReq.c r1)) [(.o 0, rdB s1)], nat_lit 1 ≤ (1 : Nat), ∀ (k : Nat), k < (1 : Nat) → solid (getL [[V.int IntKind.i64 (SReq.client r1), V.int IntKind.i64 (SReq.num r1), V.str (SReq.data r1), V.seg IntKind.u8 (16 : Nat) (SReq.tag r1)]] ((0 : Nat) + k)) = true, nat_lit 48 ≤ (140737488355328 : Nat), InR IntKind.i64 (2 : Int), decide ((2 : Int) < n) = true, T Tryz.prog 139 [.ptr (.o 0) 0 0 0 0] [(.o 0, rdB s1)] (.agg (SReq.c r2)) [(.o 0, rdB s2)], q (nat_lit 1), nat_lit 1 ≤ (1 : Nat), ∀ (k : Nat), k < (1 : Nat) → solid (getL [[V.int IntKind.i64 (SReq.client r2), V.int IntKind.i64 (SReq.num r2), V.str (SReq.data r2), V.seg IntKind.u8 (16 : Nat) (SReq.tag r2)]] ((0 : Nat) + k)) = true, nat_lit 96 ≤ (140737488355328 : Nat), InR IntKind.i64 (3 : Int), decide ((3 : Int) < n) = true, T Tryz.prog 139 [.ptr (.o 0) 0 0 0 0] [(.o 0, rdB s2)] (.agg (SReq.c r3)) [(.o 0, rdB s3)], q (nat_lit 2), nat_lit 1 ≤ (1 : Nat), ∀ (k : Nat), k < (1 : Nat) → solid (getL [[V.int IntKind.i64 (SReq.client r3), V.int IntKind.i64 (SReq.num r3), V.str (SReq.data r3), V.seg IntKind.u8 (16 : Nat) (SReq.tag r3)]] ((0 : Nat) + k)) = true, nat_lit 144 ≤ (140737488355328 : Nat), InR IntKind.i64 (4 : Int), decide ((4 : Int) < n) = false, T Tryz.prog 78 [.ptr (.o 0) 0 0 0 0] [(.o 0, rdB s3)] (.int .i64 (RS.e s3)) [(.o 0, rdB s3)], (!decide (RS.e s3 = (0 : Int))) = true, q (List.length (RS.l s3)), ∀ (k : Nat), k < List.length (RS.l s3) → bl (RS.l s3) k = bl (RS.l s3) k, false = true → false = true, q (RS.e s3), q2, q false, q0, q0, q0, q0]) : Option (V × Heap × List Prop)) := by kernel_rfl

theorem bdBat4_p111100 (s : RS) (s0 : RS) (s1 : RS) (s2 : RS) (s3 : RS) (s4 : RS) (n : Int) (r1 : SReq) (r2 : SReq) (r3 : SReq) (r4 : SReq) :
  along Tryz.prog (bdBat4 s s0 s1 s2 s3 s4 n r1 r2 r3 r4) [true, true, true, true, false, false] = some (V.agg [V.bool (decide (n = (0 : Int))), rq (nat_lit 4) fun i => List.getD [r1, r2, r3, r4] i (SReq.mk (0 : Int) (0 : Int) (baL []) z16)], [(Nm.o (0 : Nat), B.flat [V.ros (1 : Nat) (List.length (RS.l s4)) (bl (RS.l s4)) false, V.int IntKind.i64 (RS.e s4), V.bool true])], [T Tryz.prog (25 : Nat) [V.ptr (Nm.o (0 : Nat)) (0 : Nat) (0 : Nat) (0 : Nat) (0 : Nat), V.int IntKind.i64 (5 : Int)] [(Nm.o (0 : Nat), B.flat [V.ros (1 : Nat) (List.length (RS.l s)) (bl (RS.l s)) false, V.int IntKind.i64 (RS.e s), V.bool true])] (V.int IntKind.i64 n) [(Nm.o (0 : Nat), B.flat [V.ros (1 : Nat) (List.length (RS.l s0)) (bl (RS.l s0)) false, V.int IntKind.i64 (RS.e s0), V.bool true])], decide ((1 : Int) < n) = true, T Tryz.prog (139 : Nat) [V.ptr (Nm.o (0 : Nat)) (0 : Nat) (0 : Nat) (0 : Nat) (0 : Nat)] [(Nm.o (0 : Nat), B.flat [V.ros (1 : Nat) (List.length (RS.l s0)) (bl (RS.l s0)) false, V.int IntKind.i64 (RS.e s0), V.bool true])] (V.agg (SReq.c r1)) [(Nm.o (0 : Nat), B.flat [V.ros (1 : Nat) (List.length (RS.l s1)) (bl (RS.l s1)) false, V.int IntKind.i64 (RS.e s1), V.bool true])], nat_lit 1 ≤ (1 : Nat), ∀ (k : Nat), k < (1 : Nat) → solid (getL [[V.int IntKind.i64 (SReq.client r1), V.int IntKind.i64 (SReq.num r1), V.str (SReq.data r1), V.seg IntKind.u8 (16 : Nat) (SReq.tag r1)]] ((0 : Nat) + k)) = true, nat_lit 48 ≤ (140737488355328 : Nat), InR IntKind.i64 (2 : Int), decide ((2 : Int) < n) = true, T Tryz.prog (139 : Nat) [V.ptr (Nm.o (0 : Nat)) (0 : Nat) (0 : Nat) (0 : Nat) (0 : Nat)] [(Nm.o (0 : Nat), B.flat [V.ros (1 : Nat) (List.length (RS.l s1)) (bl (RS.l s1)) false, V.int IntKind.i64 (RS.e s1), V.bool true])] (V.agg (SReq.c r2)) [(Nm.o (0 : Nat), B.flat [V.ros (1 : Nat) (List.length (RS.l s2)) (bl (RS.l s2)) false, V.int IntKind.i64 (RS.e s2), V.bool true])], nat_lit 1 = nat_lit 1, nat_lit 1 ≤ (1 : Nat), ∀ (k : Nat), k < (1 : Nat) → solid (getL [[V.int IntKind.i64 (SReq.client r2), V.int IntKind.i64 (SReq.num r2), V.str (SReq.data r2), V.seg IntKind.u8 (16 : Nat) (SReq.tag r2)]] ((0 : Nat) + k)) = true, nat_lit 96 ≤ (140737488355328 : Nat), InR IntKind.i64 (3 : Int), decide ((3 : Int) < n) = true, T Tryz.prog (139 : Nat) [V.ptr (Nm.o (0 : Nat)) (0 : Nat) (0 : Nat) (0 : Nat) (0 : Nat)] [(Nm.o (0 : Nat), B.flat [V.ros (1 : Nat) (List.length (RS.l s2)) (bl (RS.l s2)) false, V.int IntKind.i64 (RS.e s2), V.bool true])] (V.agg (SReq.c r3)) [(Nm.o (0 : Nat), B.flat [V.ros (1 : Nat) (List.length (RS.l s3)) (bl (RS.l s3)) false, V.int IntKind.i64 (RS.e s3), V.bool true])], nat_lit 2 = nat_lit 2, nat_lit 1 ≤ (1 : Nat), ∀ (k : Nat), k < (1 : Nat) → solid (getL [[V.int IntKind.i64 (SReq.client r3), V.int IntKind.i64 (SReq.num r3), V.str (SReq.data r3), V.seg IntKind.u8 (16 : Nat) (SReq.tag r3)]] ((0 : Nat) + k)) = true, nat_lit 144 ≤ (140737488355328 : Nat), InR IntKind.i64 (4 : Int), decide ((4 : Int) < n) = true, T Tryz.prog (139 : Nat) [V.ptr (Nm.o (0 : Nat)) (0 : Nat) (0 : Nat) (0 : Nat) (0 : Nat)] [(Nm.o (0 : Nat), B.flat [V.ros (1 : Nat) (List.length (RS.l s3)) (bl (RS.l s3)) false, V.int IntKind.i64 (RS.e s3), V.bool true])] (V.agg (SReq.c r4)) [(Nm.o (0 : Nat), B.flat [V.ros (1 : Nat) (List.length (RS.l s4)) (bl (RS.l s4)) false, V.int IntKind.i64 (RS.e s4), V.bool true])], nat_lit 3 = nat_lit 3, nat_lit 1 ≤ (1 : Nat), ∀ (k : Nat), k < (1 : Nat) → solid (getL [[V.int IntKind.i64 (SReq.client r4), V.int IntKind.i64 (SReq.num r4), V.str (SReq.data r4), V.seg IntKind.u8 (16 : Nat) (SReq.tag r4)]] ((0 : Nat) + k)) = true, nat_lit 192 ≤ (140737488355328 : Nat), InR IntKind.i64 (5 : Int), decide ((5 : Int) < n) = false, T Tryz.prog (78 : Nat) [V.ptr (Nm.o (0 : Nat)) (0 : Nat) (0 : Nat) (0 : Nat) (0 : Nat)] [(Nm.o (0 : Nat), B.flat [V.ros (1 : Nat) (List.length (RS.l s4)) (bl (RS.l s4)) false, V.int IntKind.i64 (RS.e s4), V.bool true])] (V.int IntKind.i64 (RS.e s4)) [(Nm.o (0 : Nat), B.flat [V.ros (1 : Nat) (List.length (RS.l s4)) (bl (RS.l s4)) false, V.int IntKind.i64 (RS.e s4), V.bool true])], (!decide (RS.e s4 = (0 : Int))) = false, List.length (RS.l s4) = List.length (RS.l s4), ∀ (k : Nat), k < List.length (RS.l s4) → bl (RS.l s4) k = bl (RS.l s4) k, false = true → false = true, RS.e s4 = RS.e s4, true = true, decide (n = (0 : Int)) = decide (n = (0 : Int)), nat_lit 4 = nat_lit 4, nat_lit 4 ≤ nat_lit 4, ∀ (k : Nat), k < nat_lit 4 → catF (nat_lit 3) (catF (nat_lit 2) (catF (nat_lit 1) (catF (0 : Nat) (fun x => []) fun k => getL [[V.int IntKind.i64 (SReq.client r1), V.int IntKind.i64 (SReq.num r1), V.str (SReq.data r1), V.seg IntKind.u8 (16 : Nat) (SReq.tag r1)]] ((0 : Nat) + k)) fun k => getL [[V.int IntKind.i64 (SReq.client r2), V.int IntKind.i64 (SReq.num r2), V.str (SReq.data r2), V.seg IntKind.u8 (16 : Nat) (SReq.tag r2)]] ((0 : Nat) + k)) fun k => getL [[V.int IntKind.i64 (SReq.client r3), V.int IntKind.i64 (SReq.num r3), V.str (SReq.data r3), V.seg IntKind.u8 (16 : Nat) (SReq.tag r3)]] ((0 : Nat) + k)) (fun k => getL [[V.int IntKind.i64 (SReq.client r4), V.int IntKind.i64 (SReq.num r4), V.str (SReq.data r4), V.seg IntKind.u8 (16 : Nat) (SReq.tag r4)]] ((0 : Nat) + k)) ((0 : Nat) + k) = SReq.c (SBatch.req (SBatch.mk (decide (n = (0 : Int))) (nat_lit 4) fun i => List.getD [r1, r2, r3, r4] i (SReq.mk (0 : Int) (0 : Int) (baL []) z16)) k), false = true → none = some (nat_lit 4), (0 : Nat) = (0 : Nat), (0 : Nat) = (0 : Nat), (0 : Nat) = (0 : Nat)]) := by kernel_rfl

theorem bdBad4_p111101 (s : RS) (s0 : RS) (s1 : RS) (s2 : RS) (s3 : RS) (s4 : RS) (n : Int) (r1 : SReq) (r2 : SReq) (r3 : SReq) (r4 : SReq) :
  along Tryz.prog (bdBad4 s s0 s1 s2 s3 s4 n r1 r2 r3 r4) [true, true, true, true, false, true] = (some (.agg [.bool false, rq 0 fun x => SReq.mk (0 : Int) (0 : Int) ByteArray.empty []], [(.o 0, rdB s4)], [T Tryz.prog 25 [.ptr (.o 0) 0 0 0 0, .int .i64 5] [(.o 0, rdB s)] (.int .i64 n) [(.o 0, rdB s0)], decide ((1 : Int) < n) = true, T Tryz.prog 139 [.ptr (.o 0) 0 0 0 0] [(.o 0, rdB s0)] (.agg (SReq.c r1)) [(.o 0, rdB s1)], nat_lit 1 ≤ (1 : Nat), ∀ (k : Nat), k < (1 : Nat) → solid (getL [[V.int IntKind.i64 (SReq.client r1), V.int IntKind.i64 (SReq.num r1), V.str (SReq.data r1), V.seg IntKind.u8 (16 : Nat) (SReq.tag r1)]] ((0 : Nat) + k)) = true, nat_lit 48 ≤ (140737488355328 : Nat), InR IntKind.i64 (2 : Int), decide ((2 : Int) < n) = true, T Tryz.prog 139 [.ptr (.o 0) 0 0 0 0] [(.o 0, rdB s1)] (.agg (SReq.c r2)) [(.o 0, rdB s2)], q (nat_lit 1), nat_lit 1 ≤ (1 : Nat), ∀ (k : Nat), k < (1 : Nat) → solid (getL [[V.int IntKind.i64 (SReq.client r2), V.int IntKind.i64 (SReq.num r2), V.str (SReq.data r2), V.seg IntKind.u8 (16 : Nat) (SReq.tag r2)]] ((0 : Nat) + k)) = true, nat_lit 96 ≤ (140737488355328 : Nat), InR IntKind.i64 (3 : Int), decide ((3 : Int) < n) = true, T Tryz.prog 139 [.ptr (.o 0) 0 0 0 0] [(.o 0, rdB s2)] (.agg (SReq.c r3)) [(.o 0, rdB s3)], q (nat_lit 2), nat_lit 1 ≤ (1 : Nat), ∀ (k : Nat), k < (1 : Nat) → solid (getL [[V.int IntKind.i64 (SReq.client r3), V.int IntKind.i64 (SReq.num r3), V.str (SReq.data r3), V.seg IntKind.u8 (16 : Nat) (SReq.tag r3)]] ((0 : Nat) + k)) = true, nat_lit 144 ≤ (140737488355328 : Nat), InR IntKind.i64 (4 : Int), decide ((4 : Int) < n) = true, T Tryz.prog 139 [.ptr (.o 0) 0 0 0 0] [(.o 0, rdB s3)] (.agg (SReq.c r4)) [(.o 0, rdB s4)], q (nat_lit 3), nat_lit 1 ≤ (1 : Nat), ∀ (k : Nat), k < (1 : Nat) → solid (getL [[V.int IntKind.i64 (SReq.client r4), V.int IntKind.i64 (SReq.num r4), V.str (SReq.data r4), V.seg IntKind.u8 (16 : Nat) (SReq.tag r4)]] ((0 : Nat) + k)) = true, nat_lit 192 ≤ (140737488355328 : Nat), InR IntKind.i64 (5 : Int), decide ((5 : Int) < n) = false, T Tryz.prog 78 [.ptr (.o 0) 0 0 0 0] [(.o 0, rdB s4)] (.int .i64 (RS.e s4)) [(.o 0, rdB s4)], (!decide (RS.e s4 = (0 : Int))) = true, q (List.length (RS.l s4)), ∀ (k : Nat), k < List.length (RS.l s4) → bl (RS.l s4) k = bl (RS.l s4) k, false = true → false = true, q (RS.e s4), q2, q false, q0, q0, q0, q0]) : Option (V × Heap × List Prop)) := by kernel_rfl

theorem T.at1 {P : Program} {f : FuncId} {args : List V} {s s' : RS} {val : V} (h : T P f (p0 :: args) [(.o 0, rdB s)] val [(.o 0, rdB s')]) (ha : ∀ σ, V.rens σ args = args) (hv : ∀ σ, V.ren σ val = val) (a : Nat) : T P f (.ptr (.o a) 0 0 0 0 :: args) [(.o a, rdB s)] val [(.o a, rdB s')] := by
 obtain ⟨σ, hσ, h1⟩ := T.at h [.o 0] [.o a] (by simp) (by simp) rfl
 simp only [List.map_cons, List.map_nil, List.cons.injEq, and_true] at hσ
 simpa [V.rens, V.ren, p0, rdB, Heap.ren, B.ren, hσ, ha, hv] using h1
theorem T_num (a : Nat) (most : Int) (s : RS) : T Tryz.prog 25 [.ptr (.o a) 0 0 0 0, .int .i64 most] [(.o a, rdB s)] (.int .i64 (numR most s).1) [(.o a, rdB (numR most s).2)] :=
 T.at1 (T_num0 most s) (fun _ => rfl) (fun _ => rfl) a
theorem T_err (a : Nat) (s : RS) : T Tryz.prog 78 [.ptr (.o a) 0 0 0 0] [(.o a, rdB s)] (.int .i64 s.e) [(.o a, rdB s)] :=
 T.at1 (T_err0 s) (fun _ => rfl) (fun _ => rfl) a
theorem T_done (a : Nat) (s : RS) : T Tryz.prog 28 [.ptr (.o a) 0 0 0 0] [(.o a, rdB s)] (.int .i64 (doneR s)) [(.o a, rdB s)] :=
 T.at1 (T_done0 s) (fun _ => rfl) (fun _ => rfl) a
theorem T_textR (a : Nat) (most : Int) (s : RS) (hl : s.l.length ≤ 1000000000) : T Tryz.prog 26 [.ptr (.o a) 0 0 0 0, .int .i64 most] [(.o a, rdB s)] (.str (textR most s).1) [(.o a, rdB (textR most s).2)] :=
 T.at1 (T_textR0 most s hl) (fun _ => rfl) (fun _ => rfl) a
theorem T_rawR (a : Nat) (n : Int) (s : RS) (hl : s.l.length ≤ 1000000000) : T Tryz.prog 27 [.ptr (.o a) 0 0 0 0, .int .i64 n] [(.o a, rdB s)] (roB (rawR n s).1) [(.o a, rdB (rawR n s).2)] :=
 T.at1 (T_rawR0 n s hl) (fun _ => rfl) (fun _ => rfl) a
theorem T_read (a : Nat) (l : List UInt8) (hl : l.length ≤ 1000000000) : T Tryz.prog 24 [roB l] [] (.ptr (.o a) 0 0 0 0) [(.o a, rdB { l := l })] := by
 obtain ⟨σ, hσ, h1⟩ := T.at (T_read0 l hl) [.o 63] [.o a] (by simp) (by simp) rfl
 simp only [List.map_cons, List.map_nil, List.cons.injEq, and_true] at hσ
 simpa [V.rens, V.ren, roB, rdB, Heap.ren, B.ren, hσ] using h1
/-- What reading leaves. -/
def After (s s' : RS) : Prop := s'.l.length ≤ s.l.length ∧ s'.bad = s.bad ∧ (s.e ≠ 0 → s'.e ≠ 0)
theorem After.refl (s : RS) : After s s := ⟨Nat.le_refl _, rfl, id⟩
theorem After.trans {a b c : RS} (h : After a b) (h' : After b c) : After a c := ⟨Nat.le_trans h'.1 h.1, h'.2.1.trans h.2.1, fun e => h'.2.2 (h.2.2 e)⟩
theorem numR_after (m : Int) (s : RS) : After s (numR m s).2 := by
 unfold numR
 split
 ·exact After.refl s
 ·split
  ·exact ⟨Nat.zero_le _, rfl, fun e => absurd e (by simpa using ‹¬ s.e ≠ 0›)⟩
  ·exact ⟨by simp [RS.drop], rfl, fun e => e⟩
theorem textR_after (m : Int) (s : RS) : After s (textR m s).2 := by
 unfold textR
 split
 ·exact After.refl s
 ·split
  ·exact ⟨Nat.zero_le _, rfl, fun e => absurd e (by simpa using ‹¬ s.e ≠ 0›)⟩
  ·exact ⟨by simp [RS.drop], rfl, fun e => e⟩
theorem rawR_after (n : Int) (s : RS) : After s (rawR n s).2 := by
 unfold rawR
 split
 ·exact After.refl s
 ·split
  ·exact ⟨Nat.zero_le _, rfl, fun e => absurd e (by simpa using ‹¬ s.e ≠ 0›)⟩
  ·split
   ·exact ⟨Nat.zero_le _, rfl, fun e => absurd e (by simpa using ‹¬ s.e ≠ 0›)⟩
   ·exact ⟨by simp [RS.drop], rfl, fun e => e⟩
theorem rawR_ok {n : Nat} {s : RS} (h : (rawR n s).2.e = 0) : (rawR n s).1.length = n := by
 unfold rawR at h ⊢
 split at h
 ·contradiction
 ·rename_i h1
  split at h
  ·exact absurd h (by simp [RS.fail])
  ·split at h
   ·exact absurd h (by simp [RS.fail])
   ·rename_i h2 h3
    rw [if_neg h1, if_neg h2, if_neg h3, List.length_take]; omega
theorem rawR_bad {n : Nat} {s : RS} (h : (rawR n s).2.e ≠ 0) : (rawR n s).1 = [] := by
 unfold rawR at h ⊢
 split
 ·rfl
 ·rename_i h1
  split
  ·rfl
  ·split
   ·rfl
   ·rename_i h2 h3
    rw [if_neg h1, if_neg h2, if_neg h3] at h
    exact absurd h (by simpa [RS.drop] using h1)
theorem int16 {xs : List UInt8} (h : xs.length = 16) : [intOf (bl xs 0), intOf (bl xs 1), intOf (bl xs 2), intOf (bl xs 3), intOf (bl xs 4), intOf (bl xs 5), intOf (bl xs 6), intOf (bl xs 7), intOf (bl xs 8), intOf (bl xs 9), intOf (bl xs 10), intOf (bl xs 11), intOf (bl xs 12), intOf (bl xs 13), intOf (bl xs 14), intOf (bl xs 15)] = intsB xs := by
 match xs, h with
 | [a0, a1, a2, a3, a4, a5, a6, a7, a8, a9, a10, a11, a12, a13, a14, a15], _ => rfl
theorem T_reqR0 (s : RS) (hl : s.l.length ≤ 1000000000) : T Tryz.prog 139 [p0] [(.o 0, rdB s)] (.agg (reqR s).1.c) [(.o 0, rdB (reqR s).2)] := by
 have l1 : (reqR1 s).l.length ≤ 1000000000 := Nat.le_trans (numR_after 8 s).1 hl
 have l2 : (reqR2 s).l.length ≤ 1000000000 := Nat.le_trans (numR_after _ _).1 l1
 have l3 : (reqR3 s).l.length ≤ 1000000000 := Nat.le_trans (textR_after _ _).1 l2
 by_cases h : (reqR4 s).e = 0
 ·have e : reqR s = (reqV s, reqR4 s) := by simp [reqR, h]
  have h16 : (rawR 16 (reqR3 s)).1.length = 16 := rawR_ok (n := 16) h
  rw [e]
  refine T_al (bdReqT_p10 s (reqR1 s) (reqR2 s) (reqR3 s) (reqR4 s) (numR 8 s).1 (numR 1099511627776 (reqR1 s)).1 (textR 64 (reqR2 s)).1 (rawR 16 (reqR3 s)).1) Tryz.func139 ?_
  simp only [All]; and_intros
  all_goals first
   | exact T_num 0 _ _
   | exact T_textR 0 _ _ l2
   | (have := T_rawR 0 16 (reqR3 s) l3; rw [roB, h16] at this; exact this)
   | exact int16 h16
   | trivial
   | (intro _ _; exact ⟨_, rfl⟩)
   | (simp [h16]; done)
 ·have e : reqR s = (req0, reqR4 s) := by simp [reqR, h]
  have h0 : (rawR 16 (reqR3 s)).1 = [] := rawR_bad (n := 16) h
  rw [e]
  refine T_al (bdReqF_p01 s (reqR1 s) (reqR2 s) (reqR3 s) (reqR4 s) (numR 8 s).1 (numR 1099511627776 (reqR1 s)).1 (textR 64 (reqR2 s)).1 (rawR 16 (reqR3 s)).1) Tryz.func139 ?_
  simp only [All]; and_intros
  all_goals first
   | exact T_num 0 _ _
   | exact T_textR 0 _ _ l2
   | (have := T_rawR 0 16 (reqR3 s) l3; rw [roB, h0] at this; exact this)
   | trivial
   | rfl
   | (intro _ _; exact ⟨_, rfl⟩)
   | simp
theorem reqR_after (s : RS) : After s (reqR s).2 := (((numR_after 8 s).trans (numR_after _ _)).trans (textR_after _ _)).trans (rawR_after _ _)
theorem itR_after {α : Type} {one : RS → α × RS} (h : ∀ s, After s (one s).2) : ∀ k s, After s (itR one k s).2
 | 0, s => After.refl s
 | k + 1, s => (h s).trans (itR_after h k _)
theorem numR_rng {m : Int} (hm : 0 ≤ m) (s : RS) : 0 ≤ (numR m s).1 ∧ (numR m s).1 ≤ m := by
 unfold numR
 split
 ·exact ⟨Int.le_refl _, hm⟩
 ·split
  ·exact ⟨Int.le_refl _, hm⟩
  ·rename_i h1 h2
   refine ⟨nV_le.1, ?_⟩
   have h2 : nE1 m s.l = 0 := by simpa using h2
   unfold nE1 at h2
   split at h2
   ·cases h2
   ·show nV s.l ≤ m
    omega
theorem T_reqRe {s s' : RS} {r : SReq} (hl : s.l.length ≤ 1000000000) (h1 : r = (reqR s).1) (h2 : s' = (reqR s).2) : T Tryz.prog 139 [p0] [(.o 0, rdB s)] (.agg r.c) [(.o 0, rdB s')] := by
 subst h1; subst h2; exact T_reqR0 s hl
theorem T_batg0 {s : RS} (hl : s.l.length ≤ 1000000000) (hk : (numR 5 s).1.toNat - 1 = 0) (h :  (itR reqR 0 (numR 5 s).2).2.e = 0) : T Tryz.prog 107 [p0] [(.o 0, rdB s)] (.agg (batchR s).1.c) [(.o 0, rdB (batchR s).2)] := by
 have hr := numR_rng (m := 5) (by decide) s
 have l0 : ∀ j, (itR reqR j (numR 5 s).2).2.l.length ≤ 1000000000 := fun j => Nat.le_trans (itR_after reqR_after j _).1 (Nat.le_trans (numR_after 5 s).1 hl)
 have e1 : batch1 s = ([], (itR reqR 0 (numR 5 s).2).2) := by unfold batch1; rw [hk]; rfl
 have e : batchR s = (batchOf (decide ((numR 5 s).1 = 0)) [], (itR reqR 0 (numR 5 s).2).2) := by simp only [batchR, e1, h, if_true, if_false]
 rw [e]
 refine T_al (bdBat0_p00 s (itR reqR 0 (numR 5 s).2).2 (numR 5 s).1 ) Tryz.func107 ?_
 simp only [All]; and_intros
 all_goals first
  | exact T_num 0 5 s
  | exact T_err 0 _
  | exact T_reqRe (l0 _) rfl rfl
  | trivial
  | exact inR1 (by decide) (by decide)
  | exact inR2 (by decide) (by decide)
  | (rw [decide_eq_true_eq]; omega)
  | (rw [decide_eq_false_iff_not]; omega)
  | (simp [h]; done)
  | (intro j hj; have hj0 : j = 0 := by omega
     subst hj0; rfl)
  | (intro j hj; have hj0 : j = 0 := by omega
     rcases hj0 with rfl <;> rfl)
  | decide
  | rfl
theorem T_bate0 {s : RS} (hl : s.l.length ≤ 1000000000) (hk : (numR 5 s).1.toNat - 1 = 0) (h : ¬ (itR reqR 0 (numR 5 s).2).2.e = 0) : T Tryz.prog 107 [p0] [(.o 0, rdB s)] (.agg (batchR s).1.c) [(.o 0, rdB (batchR s).2)] := by
 have hr := numR_rng (m := 5) (by decide) s
 have l0 : ∀ j, (itR reqR j (numR 5 s).2).2.l.length ≤ 1000000000 := fun j => Nat.le_trans (itR_after reqR_after j _).1 (Nat.le_trans (numR_after 5 s).1 hl)
 have e1 : batch1 s = ([], (itR reqR 0 (numR 5 s).2).2) := by unfold batch1; rw [hk]; rfl
 have e : batchR s = (({} : SBatch), (itR reqR 0 (numR 5 s).2).2) := by simp only [batchR, e1, h, if_true, if_false]
 rw [e]
 refine T_al (bdBad0_p01 s (itR reqR 0 (numR 5 s).2).2 (numR 5 s).1 ) Tryz.func107 ?_
 simp only [All]; and_intros
 all_goals first
  | exact T_num 0 5 s
  | exact T_err 0 _
  | exact T_reqRe (l0 _) rfl rfl
  | trivial
  | exact inR1 (by decide) (by decide)
  | exact inR2 (by decide) (by decide)
  | (rw [decide_eq_true_eq]; omega)
  | (rw [decide_eq_false_iff_not]; omega)
  | (simp [h]; done)
  | (intro j hj; have hj0 : j = 0 := by omega
     subst hj0; rfl)
  | (intro j hj; have hj0 : j = 0 := by omega
     rcases hj0 with rfl <;> rfl)
  | decide
  | rfl
theorem T_batg1 {s : RS} (hl : s.l.length ≤ 1000000000) (hk : (numR 5 s).1.toNat - 1 = 1) (h :  (itR reqR 1 (numR 5 s).2).2.e = 0) : T Tryz.prog 107 [p0] [(.o 0, rdB s)] (.agg (batchR s).1.c) [(.o 0, rdB (batchR s).2)] := by
 have hr := numR_rng (m := 5) (by decide) s
 have l0 : ∀ j, (itR reqR j (numR 5 s).2).2.l.length ≤ 1000000000 := fun j => Nat.le_trans (itR_after reqR_after j _).1 (Nat.le_trans (numR_after 5 s).1 hl)
 have e1 : batch1 s = ([(reqR (itR reqR 0 (numR 5 s).2).2).1], (itR reqR 1 (numR 5 s).2).2) := by unfold batch1; rw [hk]; rfl
 have e : batchR s = (batchOf (decide ((numR 5 s).1 = 0)) [(reqR (itR reqR 0 (numR 5 s).2).2).1], (itR reqR 1 (numR 5 s).2).2) := by simp only [batchR, e1, h, if_true, if_false]
 rw [e]
 refine T_al (bdBat1_p100 s (itR reqR 0 (numR 5 s).2).2 (itR reqR 1 (numR 5 s).2).2 (numR 5 s).1 (reqR (itR reqR 0 (numR 5 s).2).2).1) Tryz.func107 ?_
 simp only [All]; and_intros
 all_goals first
  | exact T_num 0 5 s
  | exact T_err 0 _
  | exact T_reqRe (l0 _) rfl rfl
  | trivial
  | exact inR1 (by decide) (by decide)
  | exact inR2 (by decide) (by decide)
  | (rw [decide_eq_true_eq]; omega)
  | (rw [decide_eq_false_iff_not]; omega)
  | (simp [h]; done)
  | (intro j hj; have hj0 : j = 0 := by omega
     subst hj0; rfl)
  | (intro j hj; have hj0 : j = 0 := by omega
     rcases hj0 with rfl <;> rfl)
  | decide
  | rfl
theorem T_bate1 {s : RS} (hl : s.l.length ≤ 1000000000) (hk : (numR 5 s).1.toNat - 1 = 1) (h : ¬ (itR reqR 1 (numR 5 s).2).2.e = 0) : T Tryz.prog 107 [p0] [(.o 0, rdB s)] (.agg (batchR s).1.c) [(.o 0, rdB (batchR s).2)] := by
 have hr := numR_rng (m := 5) (by decide) s
 have l0 : ∀ j, (itR reqR j (numR 5 s).2).2.l.length ≤ 1000000000 := fun j => Nat.le_trans (itR_after reqR_after j _).1 (Nat.le_trans (numR_after 5 s).1 hl)
 have e1 : batch1 s = ([(reqR (itR reqR 0 (numR 5 s).2).2).1], (itR reqR 1 (numR 5 s).2).2) := by unfold batch1; rw [hk]; rfl
 have e : batchR s = (({} : SBatch), (itR reqR 1 (numR 5 s).2).2) := by simp only [batchR, e1, h, if_true, if_false]
 rw [e]
 refine T_al (bdBad1_p101 s (itR reqR 0 (numR 5 s).2).2 (itR reqR 1 (numR 5 s).2).2 (numR 5 s).1 (reqR (itR reqR 0 (numR 5 s).2).2).1) Tryz.func107 ?_
 simp only [All]; and_intros
 all_goals first
  | exact T_num 0 5 s
  | exact T_err 0 _
  | exact T_reqRe (l0 _) rfl rfl
  | trivial
  | exact inR1 (by decide) (by decide)
  | exact inR2 (by decide) (by decide)
  | (rw [decide_eq_true_eq]; omega)
  | (rw [decide_eq_false_iff_not]; omega)
  | (simp [h]; done)
  | (intro j hj; have hj0 : j = 0 := by omega
     subst hj0; rfl)
  | (intro j hj; have hj0 : j = 0 := by omega
     rcases hj0 with rfl <;> rfl)
  | decide
  | rfl
theorem T_batg2 {s : RS} (hl : s.l.length ≤ 1000000000) (hk : (numR 5 s).1.toNat - 1 = 2) (h :  (itR reqR 2 (numR 5 s).2).2.e = 0) : T Tryz.prog 107 [p0] [(.o 0, rdB s)] (.agg (batchR s).1.c) [(.o 0, rdB (batchR s).2)] := by
 have hr := numR_rng (m := 5) (by decide) s
 have l0 : ∀ j, (itR reqR j (numR 5 s).2).2.l.length ≤ 1000000000 := fun j => Nat.le_trans (itR_after reqR_after j _).1 (Nat.le_trans (numR_after 5 s).1 hl)
 have e1 : batch1 s = ([(reqR (itR reqR 0 (numR 5 s).2).2).1, (reqR (itR reqR 1 (numR 5 s).2).2).1], (itR reqR 2 (numR 5 s).2).2) := by unfold batch1; rw [hk]; rfl
 have e : batchR s = (batchOf (decide ((numR 5 s).1 = 0)) [(reqR (itR reqR 0 (numR 5 s).2).2).1, (reqR (itR reqR 1 (numR 5 s).2).2).1], (itR reqR 2 (numR 5 s).2).2) := by simp only [batchR, e1, h, if_true, if_false]
 rw [e]
 refine T_al (bdBat2_p1100 s (itR reqR 0 (numR 5 s).2).2 (itR reqR 1 (numR 5 s).2).2 (itR reqR 2 (numR 5 s).2).2 (numR 5 s).1 (reqR (itR reqR 0 (numR 5 s).2).2).1 (reqR (itR reqR 1 (numR 5 s).2).2).1) Tryz.func107 ?_
 simp only [All]; and_intros
 all_goals first
  | exact T_num 0 5 s
  | exact T_err 0 _
  | exact T_reqRe (l0 _) rfl rfl
  | trivial
  | exact inR1 (by decide) (by decide)
  | exact inR2 (by decide) (by decide)
  | (rw [decide_eq_true_eq]; omega)
  | (rw [decide_eq_false_iff_not]; omega)
  | (simp [h]; done)
  | (intro j hj; have hj0 : j = 0 := by omega
     subst hj0; rfl)
  | (intro j hj; have hj0 : j = 0 ∨ j = 1 := by omega
     rcases hj0 with rfl | rfl <;> rfl)
  | decide
  | rfl
theorem T_bate2 {s : RS} (hl : s.l.length ≤ 1000000000) (hk : (numR 5 s).1.toNat - 1 = 2) (h : ¬ (itR reqR 2 (numR 5 s).2).2.e = 0) : T Tryz.prog 107 [p0] [(.o 0, rdB s)] (.agg (batchR s).1.c) [(.o 0, rdB (batchR s).2)] := by
 have hr := numR_rng (m := 5) (by decide) s
 have l0 : ∀ j, (itR reqR j (numR 5 s).2).2.l.length ≤ 1000000000 := fun j => Nat.le_trans (itR_after reqR_after j _).1 (Nat.le_trans (numR_after 5 s).1 hl)
 have e1 : batch1 s = ([(reqR (itR reqR 0 (numR 5 s).2).2).1, (reqR (itR reqR 1 (numR 5 s).2).2).1], (itR reqR 2 (numR 5 s).2).2) := by unfold batch1; rw [hk]; rfl
 have e : batchR s = (({} : SBatch), (itR reqR 2 (numR 5 s).2).2) := by simp only [batchR, e1, h, if_true, if_false]
 rw [e]
 refine T_al (bdBad2_p1101 s (itR reqR 0 (numR 5 s).2).2 (itR reqR 1 (numR 5 s).2).2 (itR reqR 2 (numR 5 s).2).2 (numR 5 s).1 (reqR (itR reqR 0 (numR 5 s).2).2).1 (reqR (itR reqR 1 (numR 5 s).2).2).1) Tryz.func107 ?_
 simp only [All]; and_intros
 all_goals first
  | exact T_num 0 5 s
  | exact T_err 0 _
  | exact T_reqRe (l0 _) rfl rfl
  | trivial
  | exact inR1 (by decide) (by decide)
  | exact inR2 (by decide) (by decide)
  | (rw [decide_eq_true_eq]; omega)
  | (rw [decide_eq_false_iff_not]; omega)
  | (simp [h]; done)
  | (intro j hj; have hj0 : j = 0 := by omega
     subst hj0; rfl)
  | (intro j hj; have hj0 : j = 0 ∨ j = 1 := by omega
     rcases hj0 with rfl | rfl <;> rfl)
  | decide
  | rfl
theorem T_batg3 {s : RS} (hl : s.l.length ≤ 1000000000) (hk : (numR 5 s).1.toNat - 1 = 3) (h :  (itR reqR 3 (numR 5 s).2).2.e = 0) : T Tryz.prog 107 [p0] [(.o 0, rdB s)] (.agg (batchR s).1.c) [(.o 0, rdB (batchR s).2)] := by
 have hr := numR_rng (m := 5) (by decide) s
 have l0 : ∀ j, (itR reqR j (numR 5 s).2).2.l.length ≤ 1000000000 := fun j => Nat.le_trans (itR_after reqR_after j _).1 (Nat.le_trans (numR_after 5 s).1 hl)
 have e1 : batch1 s = ([(reqR (itR reqR 0 (numR 5 s).2).2).1, (reqR (itR reqR 1 (numR 5 s).2).2).1, (reqR (itR reqR 2 (numR 5 s).2).2).1], (itR reqR 3 (numR 5 s).2).2) := by unfold batch1; rw [hk]; rfl
 have e : batchR s = (batchOf (decide ((numR 5 s).1 = 0)) [(reqR (itR reqR 0 (numR 5 s).2).2).1, (reqR (itR reqR 1 (numR 5 s).2).2).1, (reqR (itR reqR 2 (numR 5 s).2).2).1], (itR reqR 3 (numR 5 s).2).2) := by simp only [batchR, e1, h, if_true, if_false]
 rw [e]
 refine T_al (bdBat3_p11100 s (itR reqR 0 (numR 5 s).2).2 (itR reqR 1 (numR 5 s).2).2 (itR reqR 2 (numR 5 s).2).2 (itR reqR 3 (numR 5 s).2).2 (numR 5 s).1 (reqR (itR reqR 0 (numR 5 s).2).2).1 (reqR (itR reqR 1 (numR 5 s).2).2).1 (reqR (itR reqR 2 (numR 5 s).2).2).1) Tryz.func107 ?_
 simp only [All]; and_intros
 all_goals first
  | exact T_num 0 5 s
  | exact T_err 0 _
  | exact T_reqRe (l0 _) rfl rfl
  | trivial
  | exact inR1 (by decide) (by decide)
  | exact inR2 (by decide) (by decide)
  | (rw [decide_eq_true_eq]; omega)
  | (rw [decide_eq_false_iff_not]; omega)
  | (simp [h]; done)
  | (intro j hj; have hj0 : j = 0 := by omega
     subst hj0; rfl)
  | (intro j hj; have hj0 : j = 0 ∨ j = 1 ∨ j = 2 := by omega
     rcases hj0 with rfl | rfl | rfl <;> rfl)
  | decide
  | rfl
theorem T_bate3 {s : RS} (hl : s.l.length ≤ 1000000000) (hk : (numR 5 s).1.toNat - 1 = 3) (h : ¬ (itR reqR 3 (numR 5 s).2).2.e = 0) : T Tryz.prog 107 [p0] [(.o 0, rdB s)] (.agg (batchR s).1.c) [(.o 0, rdB (batchR s).2)] := by
 have hr := numR_rng (m := 5) (by decide) s
 have l0 : ∀ j, (itR reqR j (numR 5 s).2).2.l.length ≤ 1000000000 := fun j => Nat.le_trans (itR_after reqR_after j _).1 (Nat.le_trans (numR_after 5 s).1 hl)
 have e1 : batch1 s = ([(reqR (itR reqR 0 (numR 5 s).2).2).1, (reqR (itR reqR 1 (numR 5 s).2).2).1, (reqR (itR reqR 2 (numR 5 s).2).2).1], (itR reqR 3 (numR 5 s).2).2) := by unfold batch1; rw [hk]; rfl
 have e : batchR s = (({} : SBatch), (itR reqR 3 (numR 5 s).2).2) := by simp only [batchR, e1, h, if_true, if_false]
 rw [e]
 refine T_al (bdBad3_p11101 s (itR reqR 0 (numR 5 s).2).2 (itR reqR 1 (numR 5 s).2).2 (itR reqR 2 (numR 5 s).2).2 (itR reqR 3 (numR 5 s).2).2 (numR 5 s).1 (reqR (itR reqR 0 (numR 5 s).2).2).1 (reqR (itR reqR 1 (numR 5 s).2).2).1 (reqR (itR reqR 2 (numR 5 s).2).2).1) Tryz.func107 ?_
 simp only [All]; and_intros
 all_goals first
  | exact T_num 0 5 s
  | exact T_err 0 _
  | exact T_reqRe (l0 _) rfl rfl
  | trivial
  | exact inR1 (by decide) (by decide)
  | exact inR2 (by decide) (by decide)
  | (rw [decide_eq_true_eq]; omega)
  | (rw [decide_eq_false_iff_not]; omega)
  | (simp [h]; done)
  | (intro j hj; have hj0 : j = 0 := by omega
     subst hj0; rfl)
  | (intro j hj; have hj0 : j = 0 ∨ j = 1 ∨ j = 2 := by omega
     rcases hj0 with rfl | rfl | rfl <;> rfl)
  | decide
  | rfl
theorem T_batg4 {s : RS} (hl : s.l.length ≤ 1000000000) (hk : (numR 5 s).1.toNat - 1 = 4) (h :  (itR reqR 4 (numR 5 s).2).2.e = 0) : T Tryz.prog 107 [p0] [(.o 0, rdB s)] (.agg (batchR s).1.c) [(.o 0, rdB (batchR s).2)] := by
 have hr := numR_rng (m := 5) (by decide) s
 have l0 : ∀ j, (itR reqR j (numR 5 s).2).2.l.length ≤ 1000000000 := fun j => Nat.le_trans (itR_after reqR_after j _).1 (Nat.le_trans (numR_after 5 s).1 hl)
 have e1 : batch1 s = ([(reqR (itR reqR 0 (numR 5 s).2).2).1, (reqR (itR reqR 1 (numR 5 s).2).2).1, (reqR (itR reqR 2 (numR 5 s).2).2).1, (reqR (itR reqR 3 (numR 5 s).2).2).1], (itR reqR 4 (numR 5 s).2).2) := by unfold batch1; rw [hk]; rfl
 have e : batchR s = (batchOf (decide ((numR 5 s).1 = 0)) [(reqR (itR reqR 0 (numR 5 s).2).2).1, (reqR (itR reqR 1 (numR 5 s).2).2).1, (reqR (itR reqR 2 (numR 5 s).2).2).1, (reqR (itR reqR 3 (numR 5 s).2).2).1], (itR reqR 4 (numR 5 s).2).2) := by simp only [batchR, e1, h, if_true, if_false]
 rw [e]
 refine T_al (bdBat4_p111100 s (itR reqR 0 (numR 5 s).2).2 (itR reqR 1 (numR 5 s).2).2 (itR reqR 2 (numR 5 s).2).2 (itR reqR 3 (numR 5 s).2).2 (itR reqR 4 (numR 5 s).2).2 (numR 5 s).1 (reqR (itR reqR 0 (numR 5 s).2).2).1 (reqR (itR reqR 1 (numR 5 s).2).2).1 (reqR (itR reqR 2 (numR 5 s).2).2).1 (reqR (itR reqR 3 (numR 5 s).2).2).1) Tryz.func107 ?_
 simp only [All]; and_intros
 all_goals first
  | exact T_num 0 5 s
  | exact T_err 0 _
  | exact T_reqRe (l0 _) rfl rfl
  | trivial
  | exact inR1 (by decide) (by decide)
  | exact inR2 (by decide) (by decide)
  | (rw [decide_eq_true_eq]; omega)
  | (rw [decide_eq_false_iff_not]; omega)
  | (simp [h]; done)
  | (intro j hj; have hj0 : j = 0 := by omega
     subst hj0; rfl)
  | (intro j hj; have hj0 : j = 0 ∨ j = 1 ∨ j = 2 ∨ j = 3 := by omega
     rcases hj0 with rfl | rfl | rfl | rfl <;> rfl)
  | decide
  | rfl
theorem T_bate4 {s : RS} (hl : s.l.length ≤ 1000000000) (hk : (numR 5 s).1.toNat - 1 = 4) (h : ¬ (itR reqR 4 (numR 5 s).2).2.e = 0) : T Tryz.prog 107 [p0] [(.o 0, rdB s)] (.agg (batchR s).1.c) [(.o 0, rdB (batchR s).2)] := by
 have hr := numR_rng (m := 5) (by decide) s
 have l0 : ∀ j, (itR reqR j (numR 5 s).2).2.l.length ≤ 1000000000 := fun j => Nat.le_trans (itR_after reqR_after j _).1 (Nat.le_trans (numR_after 5 s).1 hl)
 have e1 : batch1 s = ([(reqR (itR reqR 0 (numR 5 s).2).2).1, (reqR (itR reqR 1 (numR 5 s).2).2).1, (reqR (itR reqR 2 (numR 5 s).2).2).1, (reqR (itR reqR 3 (numR 5 s).2).2).1], (itR reqR 4 (numR 5 s).2).2) := by unfold batch1; rw [hk]; rfl
 have e : batchR s = (({} : SBatch), (itR reqR 4 (numR 5 s).2).2) := by simp only [batchR, e1, h, if_true, if_false]
 rw [e]
 refine T_al (bdBad4_p111101 s (itR reqR 0 (numR 5 s).2).2 (itR reqR 1 (numR 5 s).2).2 (itR reqR 2 (numR 5 s).2).2 (itR reqR 3 (numR 5 s).2).2 (itR reqR 4 (numR 5 s).2).2 (numR 5 s).1 (reqR (itR reqR 0 (numR 5 s).2).2).1 (reqR (itR reqR 1 (numR 5 s).2).2).1 (reqR (itR reqR 2 (numR 5 s).2).2).1 (reqR (itR reqR 3 (numR 5 s).2).2).1) Tryz.func107 ?_
 simp only [All]; and_intros
 all_goals first
  | exact T_num 0 5 s
  | exact T_err 0 _
  | exact T_reqRe (l0 _) rfl rfl
  | trivial
  | exact inR1 (by decide) (by decide)
  | exact inR2 (by decide) (by decide)
  | (rw [decide_eq_true_eq]; omega)
  | (rw [decide_eq_false_iff_not]; omega)
  | (simp [h]; done)
  | (intro j hj; have hj0 : j = 0 := by omega
     subst hj0; rfl)
  | (intro j hj; have hj0 : j = 0 ∨ j = 1 ∨ j = 2 ∨ j = 3 := by omega
     rcases hj0 with rfl | rfl | rfl | rfl <;> rfl)
  | decide
  | rfl
theorem T_batR0 (s : RS) (hl : s.l.length ≤ 1000000000) : T Tryz.prog 107 [p0] [(.o 0, rdB s)] (.agg (batchR s).1.c) [(.o 0, rdB (batchR s).2)] := by
 have hr := numR_rng (m := 5) (by decide) s
 have hc : (numR 5 s).1.toNat - 1 = 0 ∨ (numR 5 s).1.toNat - 1 = 1 ∨ (numR 5 s).1.toNat - 1 = 2 ∨ (numR 5 s).1.toNat - 1 = 3 ∨ (numR 5 s).1.toNat - 1 = 4 := by omega
 rcases hc with hc | hc | hc | hc | hc
 ·by_cases h : (itR reqR 0 (numR 5 s).2).2.e = 0
  ·exact T_batg0 hl hc h
  ·exact T_bate0 hl hc h
 ·by_cases h : (itR reqR 1 (numR 5 s).2).2.e = 0
  ·exact T_batg1 hl hc h
  ·exact T_bate1 hl hc h
 ·by_cases h : (itR reqR 2 (numR 5 s).2).2.e = 0
  ·exact T_batg2 hl hc h
  ·exact T_bate2 hl hc h
 ·by_cases h : (itR reqR 3 (numR 5 s).2).2.e = 0
  ·exact T_batg3 hl hc h
  ·exact T_bate3 hl hc h
 ·by_cases h : (itR reqR 4 (numR 5 s).2).2.e = 0
  ·exact T_batg4 hl hc h
  ·exact T_bate4 hl hc h
theorem batchR_after (s : RS) : After s (batchR s).2 := (numR_after 5 s).trans (itR_after reqR_after _ _)
theorem T_batR (a : Nat) (s : RS) (hl : s.l.length ≤ 1000000000) : T Tryz.prog 107 [.ptr (.o a) 0 0 0 0] [(.o a, rdB s)] (.agg (batchR s).1.c) [(.o a, rdB (batchR s).2)] :=
 T.at1 (T_batR0 s hl) (fun _ => rfl) (fun _ => rfl) a
end Go.Proofs.YtnmccoincblecaaGreat
namespace Go.Proofs.YtnmccoincblecaaGreat
open Go Sy Go.Proofs
def mrH (r a : Nat) (s : RS) : Heap := [(.o r, .flat [.ptr (.o a) 0 0 0 0, .bool s.bad]), (.o a, rdB s)]
def n01 : St → List Nm := fun _ => [.o 0, .o 1]
/-- The message's reader's own methods. -/
def cMr (v : V) (s : RS) : List V → Heap → Nat → List Cl := fun _ _ _ => [{ pre := [.o 0, .o 1], val := v, post := mrH 0 1 s }]
def arrR (n : Nat) (z : List Int) (s : RS) : List Int × RS := (if (rawR n s).2.e = 0 then intsB (rawR n s).1 else z, (rawR n s).2)
def digR (s : RS) : List Int × RS := arrR 32 z32 s
def tagR (s : RS) : List Int × RS := arrR 16 z16 s
def signR (s : RS) : SSign × RS := ({ node := (numR 64 s).1, tag := (tagR (numR 64 s).2).1 }, (tagR (numR 64 s).2).2)
def envR1 (s : RS) : RS := (numR 64 s).2
def envR2 (s : RS) : RS := (textR 4194304 (envR1 s)).2
def envR (s : RS) : SEnv × RS := ({ src := (numR 64 s).1, body := (textR 4194304 (envR1 s)).1, tag := (tagR (envR2 s)).1 }, (tagR (envR2 s)).2)
def RS.spoil (s : RS) : RS := { l := [], e := 2, bad := true }
def voteR0 (s : RS) : RS := if (numR 2 s).1 = 0 ∧ (numR 2 s).2.e = 0 then (numR 2 s).2.spoil else (numR 2 s).2
def voteR1 (s : RS) : RS := (numR 1048576 (voteR0 s)).2
def voteR2 (s : RS) : RS := (numR 1099511627776 (voteR1 s)).2
def voteR3 (s : RS) : RS := (numR 1099511627776 (voteR2 s)).2
def voteR (s : RS) : SVote × RS := ({ kind := (numR 2 s).1, epoch := (numR 1048576 (voteR0 s)).1, view := (numR 1099511627776 (voteR1 s)).1, slot := (numR 1099511627776 (voteR2 s)).1, digest := (digR (voteR3 s)).1 }, (digR (voteR3 s)).2)
noncomputable def bdMr (f : Func) (x : List V) (s : RS) (db : List (Nat × Nat × (List V → Heap → Nat → List Cl))) (cs : List V) (s' : RS) : Bd := { f := f, args := p0 :: x, pre := mrH 0 1 s, base := 2, kb := { db := dbSeqF 2 db }, names := n01, k := kCell cs (mrH 0 1 s') }
noncomputable def bdDgT (s s' : RS) (xs : List UInt8) : Bd := bdMr Tryz.f113 [] s [(27, 6, cRdS (rawCl 32 xs s'))] [.seg .u8 32 (intsB xs)] s'
noncomputable def bdDgF (s s' : RS) (xs : List UInt8) : Bd := bdMr Tryz.f113 [] s [(27, 6, cRdS (rawCl 32 xs s'))] [.seg .u8 32 z32] s'
noncomputable def bdTgT (s s' : RS) (xs : List UInt8) : Bd := bdMr Tryz.f140 [] s [(27, 6, cRdS (rawCl 16 xs s'))] [.seg .u8 16 (intsB xs)] s'
noncomputable def bdTgF (s s' : RS) (xs : List UInt8) : Bd := bdMr Tryz.f140 [] s [(27, 6, cRdS (rawCl 16 xs s'))] [.seg .u8 16 z16] s'
noncomputable def bdSgR (s s1 s2 : RS) (r : SSign) : Bd := bdMr Tryz.f116 [] s [(25, 5, cRd (.int .i64 r.node) s1), (140, 7, cMr (.agg [.seg .u8 16 r.tag]) s2)] r.c s2
noncomputable def bdEvR (s s1 s2 s3 : RS) (r : SEnv) : Bd := bdMr Tryz.f112 [] s [(25, 5, cRd (.int .i64 r.src) s1), (26, 10, cRd (.str r.body) s2), (140, 12, cMr (.agg [.seg .u8 16 r.tag]) s3)] r.c s3
noncomputable def bdVtR (s s0 sb s1 s2 s3 s4 : RS) (r : SVote) : Bd := bdMr Tryz.f108 [] s [(25, 5, cRd (.int .i64 r.kind) s0), (78, 16, cRd (.int .i64 s0.e) s0), (27, 27, fun _ _ _ => [{ pre := [.o 1], val := roB [], post := [(.o 1, rdB sb)] }]), (25, 23, cRd (.int .i64 r.epoch) s1), (25, 28, cRd (.int .i64 r.view) s2), (25, 33, cRd (.int .i64 r.slot) s3), (113, 41, cMr (.agg [.seg .u8 32 r.digest]) s4), (25, 32, cRd (.int .i64 r.epoch) s1), (25, 37, cRd (.int .i64 r.view) s2), (25, 42, cRd (.int .i64 r.slot) s3), (113, 50, cMr (.agg [.seg .u8 32 r.digest]) s4)] r.c s4
end Go.Proofs.YtnmccoincblecaaGreat
namespace Go.Proofs.YtnmccoincblecaaGreat
open Go Sy Go.Proofs
theorem bdDgT_p1 (s : RS) (s' : RS) (xs : List UInt8) :
  along Tryz.prog (bdDgT s s' xs) [true] = (some (.agg [.seg .u8 32 (intsB xs)], [(.o 0, .flat [.ptr (.o 1) 0 0 0 0, .bool (RS.bad s')]), (.o 1, rdB s')], [T Tryz.prog 27 [.ptr (.o 1) 0 0 0 0, .int .i64 32] [(.o 1, rdB s)] (.ros 1 32 (bl xs) false) [(.o 1, rdB s')], nat_lit 32 ≤ (32 : Nat), ∀ (q : Nat), q < (32 : Nat) → true = true, q0, q0, q0, RS.bad s = RS.bad s', q (List.length (RS.l s')), ∀ (k : Nat), k < List.length (RS.l s') → bl (RS.l s') k = bl (RS.l s') k, false = true → false = true, q (RS.e s'), q2, q (32 : Nat), segSet (32 : Nat) z32 (nat_lit 0) (nat_lit 32) (bl xs) = intsB xs, q0, q0, q0]) : Option (V × Heap × List Prop)) := by kernel_rfl

theorem bdDgF_p0 (s : RS) (s' : RS) (xs : List UInt8) :
  along Tryz.prog (bdDgF s s' xs) [false] = (some (.agg [.seg .u8 32 z32], [(.o 0, .flat [.ptr (.o 1) 0 0 0 0, .bool (RS.bad s')]), (.o 1, rdB s')], [T Tryz.prog 27 [.ptr (.o 1) 0 0 0 0, .int .i64 32] [(.o 1, rdB s)] (.ros 1 0 (bl []) false) [(.o 1, rdB s')], nat_lit 32 ≤ (32 : Nat), ∀ (q : Nat), q < (0 : Nat) → true = true, q0, q0, q0, RS.bad s = RS.bad s', q (List.length (RS.l s')), ∀ (k : Nat), k < List.length (RS.l s') → bl (RS.l s') k = bl (RS.l s') k, false = true → false = true, q (RS.e s'), q2, q (32 : Nat), segSet (32 : Nat) z32 (nat_lit 0) (nat_lit 0) (bl []) = z32, q0, q0, q0]) : Option (V × Heap × List Prop)) := by kernel_rfl

theorem bdTgT_p1 (s : RS) (s' : RS) (xs : List UInt8) :
  along Tryz.prog (bdTgT s s' xs) [true] = (some (.agg [.seg .u8 16 (intsB xs)], [(.o 0, .flat [.ptr (.o 1) 0 0 0 0, .bool (RS.bad s')]), (.o 1, rdB s')], [T Tryz.prog 27 [.ptr (.o 1) 0 0 0 0, .int .i64 16] [(.o 1, rdB s)] (.ros 1 16 (bl xs) false) [(.o 1, rdB s')], nat_lit 16 ≤ (16 : Nat), ∀ (q : Nat), q < (16 : Nat) → true = true, q0, q0, q0, RS.bad s = RS.bad s', q (List.length (RS.l s')), ∀ (k : Nat), k < List.length (RS.l s') → bl (RS.l s') k = bl (RS.l s') k, false = true → false = true, q (RS.e s'), q2, q (16 : Nat), segSet (16 : Nat) z16 (nat_lit 0) (nat_lit 16) (bl xs) = intsB xs, q0, q0, q0]) : Option (V × Heap × List Prop)) := by kernel_rfl

theorem bdTgF_p0 (s : RS) (s' : RS) (xs : List UInt8) :
  along Tryz.prog (bdTgF s s' xs) [false] = (some (.agg [.seg .u8 16 z16], [(.o 0, .flat [.ptr (.o 1) 0 0 0 0, .bool (RS.bad s')]), (.o 1, rdB s')], [T Tryz.prog 27 [.ptr (.o 1) 0 0 0 0, .int .i64 16] [(.o 1, rdB s)] (.ros 1 0 (bl []) false) [(.o 1, rdB s')], nat_lit 16 ≤ (16 : Nat), ∀ (q : Nat), q < (0 : Nat) → true = true, q0, q0, q0, RS.bad s = RS.bad s', q (List.length (RS.l s')), ∀ (k : Nat), k < List.length (RS.l s') → bl (RS.l s') k = bl (RS.l s') k, false = true → false = true, q (RS.e s'), q2, q (16 : Nat), segSet (16 : Nat) z16 (nat_lit 0) (nat_lit 0) (bl []) = z16, q0, q0, q0]) : Option (V × Heap × List Prop)) := by kernel_rfl

theorem bdSgR_p (s : RS) (s1 : RS) (s2 : RS) (r : SSign) :
  along Tryz.prog (bdSgR s s1 s2 r) [] = (some (.agg [.int .i64 (SSign.node r), .seg .u8 16 (SSign.tag r)], [(.o 0, .flat [.ptr (.o 1) 0 0 0 0, .bool (RS.bad s2)]), (.o 1, rdB s2)], [T Tryz.prog 25 [.ptr (.o 1) 0 0 0 0, .int .i64 64] [(.o 1, rdB s)] (.int .i64 (SSign.node r)) [(.o 1, rdB s1)], T Tryz.prog 140 [.ptr (.o 0) 0 0 0 0] [(.o 0, .flat [.ptr (.o 1) 0 0 0 0, .bool (RS.bad s)]), (.o 1, rdB s1)] (.agg [.seg .u8 16 (SSign.tag r)]) [(.o 0, .flat [.ptr (.o 1) 0 0 0 0, .bool (RS.bad s2)]), (.o 1, rdB s2)], q0, q0, q0, q (RS.bad s2), q (List.length (RS.l s2)), ∀ (k : Nat), k < List.length (RS.l s2) → bl (RS.l s2) k = bl (RS.l s2) k, false = true → false = true, q (RS.e s2), q2, q (SSign.node r), q (16 : Nat), q (SSign.tag r), q0, q0, q0]) : Option (V × Heap × List Prop)) := by kernel_rfl

theorem bdEvR_p (s : RS) (s1 : RS) (s2 : RS) (s3 : RS) (r : SEnv) :
  along Tryz.prog (bdEvR s s1 s2 s3 r) [] = (some (.agg [.int .i64 (SEnv.src r), .str (SEnv.body r), .seg .u8 16 (SEnv.tag r)], [(.o 0, .flat [.ptr (.o 1) 0 0 0 0, .bool (RS.bad s3)]), (.o 1, rdB s3)], [T Tryz.prog 25 [.ptr (.o 1) 0 0 0 0, .int .i64 64] [(.o 1, rdB s)] (.int .i64 (SEnv.src r)) [(.o 1, rdB s1)], T Tryz.prog 26 [.ptr (.o 1) 0 0 0 0, .int .i64 4194304] [(.o 1, rdB s1)] (.str (SEnv.body r)) [(.o 1, rdB s2)], T Tryz.prog 140 [.ptr (.o 0) 0 0 0 0] [(.o 0, .flat [.ptr (.o 1) 0 0 0 0, .bool (RS.bad s)]), (.o 1, rdB s2)] (.agg [.seg .u8 16 (SEnv.tag r)]) [(.o 0, .flat [.ptr (.o 1) 0 0 0 0, .bool (RS.bad s3)]), (.o 1, rdB s3)], q0, q0, q0, q (RS.bad s3), q (List.length (RS.l s3)), ∀ (k : Nat), k < List.length (RS.l s3) → bl (RS.l s3) k = bl (RS.l s3) k, false = true → false = true, q (RS.e s3), q2, q (SEnv.src r), q (SEnv.body r), q (16 : Nat), q (SEnv.tag r), q0, q0, q0]) : Option (V × Heap × List Prop)) := by kernel_rfl

noncomputable def bdVtR_c (s : RS) (s0 : RS) (sb : RS) (s1 : RS) (s2 : RS) (s3 : RS) (s4 : RS) (r : SVote) : Nat → List Prop
 | 0 => [T Tryz.prog 25 [.ptr (.o 1) 0 0 0 0, .int .i64 2] [(.o 1, .flat [.ros 1 (List.length (RS.l s)) (bl (RS.l s)) false, .int .i64 (RS.e s), .bool true])] (.int .i64 (SVote.kind r)) [(.o 1, .flat [.ros 1 (List.length (RS.l s0)) (bl (RS.l s0)) false, .int .i64 (RS.e s0), .bool true])]]
 | 1 => [decide (SVote.kind r = (0 : Int)) = true, T Tryz.prog 78 [.ptr (.o 1) 0 0 0 0] [(.o 1, .flat [.ros 1 (List.length (RS.l s0)) (bl (RS.l s0)) false, .int .i64 (RS.e s0), .bool true])] (.int .i64 (RS.e s0)) [(.o 1, .flat [.ros 1 (List.length (RS.l s0)) (bl (RS.l s0)) false, .int .i64 (RS.e s0), .bool true])]]
 | _ => []
theorem bdVtR_p11 (s : RS) (s0 : RS) (sb : RS) (s1 : RS) (s2 : RS) (s3 : RS) (s4 : RS) (r : SVote) :
 along Tryz.prog (bdVtR s s0 sb s1 s2 s3 s4 r) [true, true] = (some (.agg (SVote.c r), [(.o 0, .flat [.ptr (.o 1) 0 0 0 0, .bool (RS.bad s4)]), (.o 1, rdB s4)], bdVtR_c s s0 sb s1 s2 s3 s4 r 0 ++ (bdVtR_c s s0 sb s1 s2 s3 s4 r 1 ++ [decide (RS.e s0 = (0 : Int)) = true, T Tryz.prog 27 [.ptr (.o 1) 0 0 0 0, .int .i64 (-1 : Int)] [(.o 1, rdB s0)] (.ros 1 0 (bl []) false) [(.o 1, rdB sb)], T Tryz.prog 25 [.ptr (.o 1) 0 0 0 0, .int .i64 1048576] [(.o 1, rdB sb)] (.int .i64 (SVote.epoch r)) [(.o 1, rdB s1)], T Tryz.prog 25 [.ptr (.o 1) 0 0 0 0, .int .i64 1099511627776] [(.o 1, rdB s1)] (.int .i64 (SVote.view r)) [(.o 1, rdB s2)], T Tryz.prog 25 [.ptr (.o 1) 0 0 0 0, .int .i64 1099511627776] [(.o 1, rdB s2)] (.int .i64 (SVote.slot r)) [(.o 1, rdB s3)], T Tryz.prog 113 [.ptr (.o 0) 0 0 0 0] [(.o 0, .flat [.ptr (.o 1) 0 0 0 0, .bool true]), (.o 1, rdB s3)] (.agg [.seg .u8 32 (SVote.digest r)]) [(.o 0, .flat [.ptr (.o 1) 0 0 0 0, .bool (RS.bad s4)]), (.o 1, rdB s4)], q0, q0, q0, q (RS.bad s4), q (List.length (RS.l s4)), ∀ (k : Nat), k < List.length (RS.l s4) → bl (RS.l s4) k = bl (RS.l s4) k, false = true → false = true, q (RS.e s4), q2, q (SVote.kind r), q (SVote.epoch r), q (SVote.view r), q (SVote.slot r), q (32 : Nat), q (SVote.digest r), q0, q0, q0])) : Option (V × Heap × List Prop)) := by kernel_rfl
theorem bdVtR_p10 (s : RS) (s0 : RS) (sb : RS) (s1 : RS) (s2 : RS) (s3 : RS) (s4 : RS) (r : SVote) :
 along Tryz.prog (bdVtR s s0 sb s1 s2 s3 s4 r) [true, false] = (some (.agg (SVote.c r), [(.o 0, .flat [.ptr (.o 1) 0 0 0 0, .bool (RS.bad s4)]), (.o 1, rdB s4)], bdVtR_c s s0 sb s1 s2 s3 s4 r 0 ++ (bdVtR_c s s0 sb s1 s2 s3 s4 r 1 ++ [decide (RS.e s0 = (0 : Int)) = false, T Tryz.prog 25 [.ptr (.o 1) 0 0 0 0, .int .i64 1048576] [(.o 1, rdB s0)] (.int .i64 (SVote.epoch r)) [(.o 1, rdB s1)], T Tryz.prog 25 [.ptr (.o 1) 0 0 0 0, .int .i64 1099511627776] [(.o 1, rdB s1)] (.int .i64 (SVote.view r)) [(.o 1, rdB s2)], T Tryz.prog 25 [.ptr (.o 1) 0 0 0 0, .int .i64 1099511627776] [(.o 1, rdB s2)] (.int .i64 (SVote.slot r)) [(.o 1, rdB s3)], T Tryz.prog 113 [.ptr (.o 0) 0 0 0 0] [(.o 0, .flat [.ptr (.o 1) 0 0 0 0, .bool (RS.bad s)]), (.o 1, rdB s3)] (.agg [.seg .u8 32 (SVote.digest r)]) [(.o 0, .flat [.ptr (.o 1) 0 0 0 0, .bool (RS.bad s4)]), (.o 1, rdB s4)], q0, q0, q0, q (RS.bad s4), q (List.length (RS.l s4)), ∀ (k : Nat), k < List.length (RS.l s4) → bl (RS.l s4) k = bl (RS.l s4) k, false = true → false = true, q (RS.e s4), q2, q (SVote.kind r), q (SVote.epoch r), q (SVote.view r), q (SVote.slot r), q (32 : Nat), q (SVote.digest r), q0, q0, q0])) : Option (V × Heap × List Prop)) := by kernel_rfl
theorem bdVtR_p00 (s : RS) (s0 : RS) (sb : RS) (s1 : RS) (s2 : RS) (s3 : RS) (s4 : RS) (r : SVote) :
 along Tryz.prog (bdVtR s s0 sb s1 s2 s3 s4 r) [false, false] = (some (.agg (SVote.c r), [(.o 0, .flat [.ptr (.o 1) 0 0 0 0, .bool (RS.bad s4)]), (.o 1, rdB s4)], bdVtR_c s s0 sb s1 s2 s3 s4 r 0 ++ [decide (SVote.kind r = (0 : Int)) = false, q false, T Tryz.prog 25 [.ptr (.o 1) 0 0 0 0, .int .i64 1048576] [(.o 1, rdB s0)] (.int .i64 (SVote.epoch r)) [(.o 1, rdB s1)], T Tryz.prog 25 [.ptr (.o 1) 0 0 0 0, .int .i64 1099511627776] [(.o 1, rdB s1)] (.int .i64 (SVote.view r)) [(.o 1, rdB s2)], T Tryz.prog 25 [.ptr (.o 1) 0 0 0 0, .int .i64 1099511627776] [(.o 1, rdB s2)] (.int .i64 (SVote.slot r)) [(.o 1, rdB s3)], T Tryz.prog 113 [.ptr (.o 0) 0 0 0 0] [(.o 0, .flat [.ptr (.o 1) 0 0 0 0, .bool (RS.bad s)]), (.o 1, rdB s3)] (.agg [.seg .u8 32 (SVote.digest r)]) [(.o 0, .flat [.ptr (.o 1) 0 0 0 0, .bool (RS.bad s4)]), (.o 1, rdB s4)], q0, q0, q0, q (RS.bad s4), q (List.length (RS.l s4)), ∀ (k : Nat), k < List.length (RS.l s4) → bl (RS.l s4) k = bl (RS.l s4) k, false = true → false = true, q (RS.e s4), q2, q (SVote.kind r), q (SVote.epoch r), q (SVote.view r), q (SVote.slot r), q (32 : Nat), q (SVote.digest r), q0, q0, q0]) : Option (V × Heap × List Prop)) := by kernel_rfl

/-- The same names, the reader's mark given apart. -/
def mrHb (b : Bool) (s : RS) : Heap := [(.o 0, .flat [.ptr (.o 1) 0 0 0 0, .bool b]), (.o 1, rdB s)]
theorem mrHb_eq {b : Bool} {s : RS} (h : s.bad = b) : mrHb b s = mrH 0 1 s := by subst h; rfl
theorem int32 {xs : List UInt8} (h : xs.length = 32) : [intOf (bl xs 0), intOf (bl xs 1), intOf (bl xs 2), intOf (bl xs 3), intOf (bl xs 4), intOf (bl xs 5), intOf (bl xs 6), intOf (bl xs 7), intOf (bl xs 8), intOf (bl xs 9), intOf (bl xs 10), intOf (bl xs 11), intOf (bl xs 12), intOf (bl xs 13), intOf (bl xs 14), intOf (bl xs 15), intOf (bl xs 16), intOf (bl xs 17), intOf (bl xs 18), intOf (bl xs 19), intOf (bl xs 20), intOf (bl xs 21), intOf (bl xs 22), intOf (bl xs 23), intOf (bl xs 24), intOf (bl xs 25), intOf (bl xs 26), intOf (bl xs 27), intOf (bl xs 28), intOf (bl xs 29), intOf (bl xs 30), intOf (bl xs 31)] = intsB xs := by
 match xs, h with
 | [a0, a1, a2, a3, a4, a5, a6, a7, a8, a9, a10, a11, a12, a13, a14, a15, b0, b1, b2, b3, b4, b5, b6, b7, b8, b9, b10, b11, b12, b13, b14, b15], _ => rfl
theorem T_digR (s : RS) (hl : s.l.length ≤ 1000000000) : T Tryz.prog 113 [p0] (mrH 0 1 s) (.agg [.seg .u8 32 (digR s).1]) (mrH 0 1 (digR s).2) := by
 by_cases h : (rawR 32 s).2.e = 0
 ·have hn : (rawR 32 s).1.length = 32 := rawR_ok (n := 32) h
  have e : digR s = (intsB (rawR 32 s).1, (rawR 32 s).2) := by simp [digR, arrR, h]
  rw [e]
  refine T_al (bdDgT_p1 s (rawR 32 s).2 (rawR 32 s).1) Tryz.func113 ?_
  simp only [All, All_append, bdVtR_c]; and_intros
  all_goals first
   | (have := T_rawR 1 32 s hl; rw [roB, hn] at this; exact this)
   | exact int32 hn
   | exact (rawR_after 32 s).2.1.symm
   | trivial
   | (intro _ _; exact ⟨_, rfl⟩)
   | (simp [hn]; done)
 ·have hn : (rawR 32 s).1 = [] := rawR_bad (n := 32) h
  have e : digR s = (z32, (rawR 32 s).2) := by simp [digR, arrR, h]
  rw [e]
  refine T_al (bdDgF_p0 s (rawR 32 s).2 (rawR 32 s).1) Tryz.func113 ?_
  simp only [All, All_append, bdVtR_c]; and_intros
  all_goals first
   | (have := T_rawR 1 32 s hl; rw [roB, hn] at this; exact this)
   | exact (rawR_after 32 s).2.1.symm
   | trivial
   | rfl
   | (intro _ _; exact ⟨_, rfl⟩)
   | simp
theorem T_tagR (s : RS) (hl : s.l.length ≤ 1000000000) : T Tryz.prog 140 [p0] (mrH 0 1 s) (.agg [.seg .u8 16 (tagR s).1]) (mrH 0 1 (tagR s).2) := by
 by_cases h : (rawR 16 s).2.e = 0
 ·have hn : (rawR 16 s).1.length = 16 := rawR_ok (n := 16) h
  have e : tagR s = (intsB (rawR 16 s).1, (rawR 16 s).2) := by simp [tagR, arrR, h]
  rw [e]
  refine T_al (bdTgT_p1 s (rawR 16 s).2 (rawR 16 s).1) Tryz.func140 ?_
  simp only [All, All_append, bdVtR_c]; and_intros
  all_goals first
   | (have := T_rawR 1 16 s hl; rw [roB, hn] at this; exact this)
   | exact int16 hn
   | exact (rawR_after 16 s).2.1.symm
   | trivial
   | (intro _ _; exact ⟨_, rfl⟩)
   | (simp [hn]; done)
 ·have hn : (rawR 16 s).1 = [] := rawR_bad (n := 16) h
  have e : tagR s = (z16, (rawR 16 s).2) := by simp [tagR, arrR, h]
  rw [e]
  refine T_al (bdTgF_p0 s (rawR 16 s).2 (rawR 16 s).1) Tryz.func140 ?_
  simp only [All, All_append, bdVtR_c]; and_intros
  all_goals first
   | (have := T_rawR 1 16 s hl; rw [roB, hn] at this; exact this)
   | exact (rawR_after 16 s).2.1.symm
   | trivial
   | rfl
   | (intro _ _; exact ⟨_, rfl⟩)
   | simp
theorem tagR_after (s : RS) : After s (tagR s).2 := rawR_after 16 s
theorem digR_after (s : RS) : After s (digR s).2 := rawR_after 32 s
theorem T.heap {P : Program} {f : FuncId} {args : List V} {pre pre' : Heap} {val : V} {post : Heap} (h : T P f args pre val post) (e : pre = pre') : T P f args pre' val post := by subst e; exact h
theorem T_signR (s : RS) (hl : s.l.length ≤ 1000000000) : T Tryz.prog 116 [p0] (mrH 0 1 s) (.agg (signR s).1.c) (mrH 0 1 (signR s).2) := by
 have a1 := numR_after 64 s
 refine T_al (bdSgR_p s (numR 64 s).2 (signR s).2 (signR s).1) Tryz.func116 ?_
 simp only [All, All_append, bdVtR_c]; and_intros
 all_goals first
  | exact T_num 1 64 s
  | exact T.heap (T_tagR (numR 64 s).2 (Nat.le_trans a1.1 hl)) (mrHb_eq a1.2.1).symm
  | trivial
  | rfl
  | (intro _ _; exact ⟨_, rfl⟩)
  | simp
theorem signR_after (s : RS) : After s (signR s).2 := (numR_after 64 s).trans (tagR_after _)
theorem T_envR (s : RS) (hl : s.l.length ≤ 1000000000) : T Tryz.prog 112 [p0] (mrH 0 1 s) (.agg (envR s).1.c) (mrH 0 1 (envR s).2) := by
 have a1 : After s (envR1 s) := numR_after 64 s
 have a2 : After s (envR2 s) := a1.trans (textR_after _ _)
 refine T_al (bdEvR_p s (envR1 s) (envR2 s) (envR s).2 (envR s).1) Tryz.func112 ?_
 simp only [All, All_append, bdVtR_c]; and_intros
 all_goals first
  | exact T_num 1 64 s
  | exact T_textR 1 _ _ (Nat.le_trans a1.1 hl)
  | exact T.heap (T_tagR (envR2 s) (Nat.le_trans a2.1 hl)) (mrHb_eq a2.2.1).symm
  | trivial
  | rfl
  | (intro _ _; exact ⟨_, rfl⟩)
  | simp
theorem envR_after (s : RS) : After s (envR s).2 := ((numR_after 64 s).trans (textR_after _ _)).trans (tagR_after _)
/-- What reading leaves, the mark aside. -/
def Aft (s s' : RS) : Prop := s'.l.length ≤ s.l.length ∧ (s.e ≠ 0 → s'.e ≠ 0)
theorem After.aft {s s' : RS} (h : After s s') : Aft s s' := ⟨h.1, h.2.2⟩
theorem Aft.refl (s : RS) : Aft s s := ⟨Nat.le_refl _, id⟩
theorem Aft.trans {a b c : RS} (h : Aft a b) (h' : Aft b c) : Aft a c := ⟨Nat.le_trans h'.1 h.1, fun e => h'.2 (h.2 e)⟩
theorem voteR0_aft (s : RS) : Aft s (voteR0 s) := by
 unfold voteR0
 split
 ·exact ⟨Nat.zero_le _, fun _ => by simp [RS.spoil]⟩
 ·exact (numR_after 2 s).aft
theorem voteR_aft (s : RS) : Aft s (voteR s).2 := ((((voteR0_aft s).trans (numR_after _ _).aft).trans (numR_after _ _).aft).trans (numR_after _ _).aft).trans (digR_after _).aft
theorem voteR3_bad (s : RS) : (voteR3 s).bad = (voteR0 s).bad := (((numR_after 1048576 (voteR0 s)).trans (numR_after 1099511627776 (voteR1 s))).trans (numR_after 1099511627776 (voteR2 s))).2.1
theorem T_voteR (s : RS) (hl : s.l.length ≤ 1000000000) : T Tryz.prog 108 [p0] (mrH 0 1 s) (.agg (voteR s).1.c) (mrH 0 1 (voteR s).2) := by
 have b := voteR3_bad s
 have a0 := numR_after 2 s
 have l3 : (voteR3 s).l.length ≤ 1000000000 := Nat.le_trans ((((voteR0_aft s).trans (numR_after _ _).aft).trans (numR_after _ _).aft).trans (numR_after _ _).aft).1 hl
 by_cases h1 : (numR 2 s).1 = 0
 ·by_cases h2 : (numR 2 s).2.e = 0
  ·have e0 : voteR0 s = (numR 2 s).2.spoil := by simp [voteR0, h1, h2]
   have hr : (rawR (-1) (numR 2 s).2) = ([], (numR 2 s).2.fail 2) := by simp [rawR, h2]
   refine T_al (bdVtR_p11 s (numR 2 s).2 (voteR0 s) (voteR1 s) (voteR2 s) (voteR3 s) (voteR s).2 (voteR s).1) Tryz.func108 ?_
   simp only [All, All_append, bdVtR_c]; and_intros
   all_goals first
    | exact T_num 1 _ _
    | exact T_err 1 _
    | (have := T_rawR 1 (-1) (numR 2 s).2 (Nat.le_trans a0.1 hl); rw [hr] at this; rw [e0]; exact this)
    | exact T.heap (T_digR (voteR3 s) l3) (mrHb_eq (b.trans (by rw [e0]; rfl))).symm
    | (rw [decide_eq_true_eq]; assumption)
    | trivial
    | rfl
    | (intro _ _; exact ⟨_, rfl⟩)
    | simp
  ·have e0 : voteR0 s = (numR 2 s).2 := by simp [voteR0, h2]
   refine T_al (bdVtR_p10 s (numR 2 s).2 (voteR0 s) (voteR1 s) (voteR2 s) (voteR3 s) (voteR s).2 (voteR s).1) Tryz.func108 ?_
   simp only [All, All_append, bdVtR_c]; and_intros
   all_goals first
    | exact T_num 1 _ _
    | exact T_err 1 _
    | (rw [← e0]; exact T_num 1 _ _)
    | exact T.heap (T_digR (voteR3 s) l3) (mrHb_eq (b.trans (by rw [e0]; exact a0.2.1))).symm
    | (rw [decide_eq_true_eq]; assumption)
    | (rw [decide_eq_false_iff_not]; assumption)
    | trivial
    | rfl
    | (intro _ _; exact ⟨_, rfl⟩)
    | simp
 ·have e0 : voteR0 s = (numR 2 s).2 := by simp [voteR0, h1]
  refine T_al (bdVtR_p00 s (numR 2 s).2 (voteR0 s) (voteR1 s) (voteR2 s) (voteR3 s) (voteR s).2 (voteR s).1) Tryz.func108 ?_
  simp only [All, All_append, bdVtR_c]; and_intros
  all_goals first
   | exact T_num 1 _ _
   | (rw [← e0]; exact T_num 1 _ _)
   | exact T.heap (T_digR (voteR3 s) l3) (mrHb_eq (b.trans (by rw [e0]; exact a0.2.1))).symm
   | (rw [decide_eq_false_iff_not]; assumption)
   | trivial
   | rfl
   | (intro _ _; exact ⟨_, rfl⟩)
   | simp
end Go.Proofs.YtnmccoincblecaaGreat
namespace Go.Proofs.YtnmccoincblecaaGreat
open Go Sy Go.Proofs
/-- The reader's state behind so many. -/
def stR {α : Type} (one : RS → α × RS) (s : RS) : Nat → RS
 | 0 => s
 | k + 1 => (one (stR one s k)).2
/-- How many are read, as long as nothing is wrong. -/
def cntR {α : Type} (one : RS → α × RS) : Nat → RS → Nat
 | 0, _ => 0
 | n + 1, s => if s.e = 0 then cntR one n (one s).2 + 1 else 0
def gtSgI (n : Nat) (el : Nat → SSign) (st : Nat → RS) (k : Nat) : St := ⟨mkT 28 [(0, p0), (2, .fn (.func 116) [p0] []), (6, .sl (.o 2) 17 0 0 0 k none), (12, .int .i64 n), (13, .int .i64 k)], mrH 0 1 (st k) ++ [(.o 2, .rows 17 k (fun i => (el i).c) true)], 3, []⟩
noncomputable def bdGtSg (most : Int) (n m : Nat) (el : Nat → SSign) (st : Nat → RS) (s : RS) : Bd := { f := Tryz.f115, args := [p0, .int .i64 most, .fn (.func 116) [p0] []], pre := mrH 0 1 s, base := 2, kb := { db := dbF [(25, cRd (.int .i64 n) (st 0))], lp := fun _ t => match getV t.tmps 6 with | .sl a _ _ _ _ _ _ => [(True, .loop (m + 1) (wToS [(.o 2, a)] (gtSgI n el st 0)) (.exit 0) (gtSgI n el st m))] | _ => [], fx := fun id _ => bif Nat.beq id 2 then [.virt 6 17] else [] }, names := n01, k := fun _ t => some ⟨[], [(6, .set (.ros 17 m (fun i => (el i).c) false))], hsetsOf (mrH 0 1 (st m)), none, t.next⟩ }
noncomputable def pcGtSg (n : Nat) (el : Nat → SSign) (st : Nat → RS) (k : Nat) : Pc := { c := cB (cB (cR (cL (cR (bodyOf Tryz.f115))))), st := gtSgI n el st k, p := 2, kb := { db := dbF [(78, cRd (.int .i64 (st k).e) (st k)), (116, cMr (.agg (el k).c) (st (k + 1)))] }, k := fun e t => match e with
 | .normal => match getV t.tmps 6 with
  | .sl a _ _ _ _ _ _ => some (wToS [(.o 2, a)] (gtSgI n el st (k + 1)))
  | _ => none
 | _ => some (wTo (gtSgI n el st k)) }
def gtNwI (n : Nat) (el : Nat → SEnv) (st : Nat → RS) (k : Nat) : St := ⟨mkT 28 [(0, p0), (2, .fn (.func 112) [p0] []), (6, .sl (.o 2) 18 0 0 0 k none), (12, .int .i64 n), (13, .int .i64 k)], mrH 0 1 (st k) ++ [(.o 2, .rows 18 k (fun i => (el i).c) true)], 3, []⟩
noncomputable def bdGtNw (most : Int) (n m : Nat) (el : Nat → SEnv) (st : Nat → RS) (s : RS) : Bd := { f := Tryz.f111, args := [p0, .int .i64 most, .fn (.func 112) [p0] []], pre := mrH 0 1 s, base := 2, kb := { db := dbF [(25, cRd (.int .i64 n) (st 0))], lp := fun _ t => match getV t.tmps 6 with | .sl a _ _ _ _ _ _ => [(True, .loop (m + 1) (wToS [(.o 2, a)] (gtNwI n el st 0)) (.exit 0) (gtNwI n el st m))] | _ => [], fx := fun id _ => bif Nat.beq id 2 then [.virt 6 18] else [] }, names := n01, k := fun _ t => some ⟨[], [(6, .set (.ros 18 m (fun i => (el i).c) false))], hsetsOf (mrH 0 1 (st m)), none, t.next⟩ }
noncomputable def pcGtNw (n : Nat) (el : Nat → SEnv) (st : Nat → RS) (k : Nat) : Pc := { c := cB (cB (cR (cL (cR (bodyOf Tryz.f111))))), st := gtNwI n el st k, p := 2, kb := { db := dbF [(78, cRd (.int .i64 (st k).e) (st k)), (112, cMr (.agg (el k).c) (st (k + 1)))] }, k := fun e t => match e with
 | .normal => match getV t.tmps 6 with
  | .sl a _ _ _ _ _ _ => some (wToS [(.o 2, a)] (gtNwI n el st (k + 1)))
  | _ => none
 | _ => some (wTo (gtNwI n el st k)) }
def gtHlI (n : Nat) (el : Nat → SHeld) (st : Nat → RS) (k : Nat) : St := ⟨mkT 28 [(0, p0), (2, .fn (.func 110) [p0] []), (6, .sl (.o 2) 39 0 0 0 k none), (12, .int .i64 n), (13, .int .i64 k)], mrH 0 1 (st k) ++ [(.o 2, .rows 39 k (fun i => (el i).c) true)], 3, []⟩
noncomputable def bdGtHl (most : Int) (n m : Nat) (el : Nat → SHeld) (st : Nat → RS) (s : RS) : Bd := { f := Tryz.f109, args := [p0, .int .i64 most, .fn (.func 110) [p0] []], pre := mrH 0 1 s, base := 2, kb := { db := dbF [(25, cRd (.int .i64 n) (st 0))], lp := fun _ t => match getV t.tmps 6 with | .sl a _ _ _ _ _ _ => [(True, .loop (m + 1) (wToS [(.o 2, a)] (gtHlI n el st 0)) (.exit 0) (gtHlI n el st m))] | _ => [], fx := fun id _ => bif Nat.beq id 2 then [.virt 6 39] else [] }, names := n01, k := fun _ t => some ⟨[], [(6, .set (.ros 39 m (fun i => (el i).c) false))], hsetsOf (mrH 0 1 (st m)), none, t.next⟩ }
noncomputable def pcGtHl (n : Nat) (el : Nat → SHeld) (st : Nat → RS) (k : Nat) : Pc := { c := cB (cB (cR (cL (cR (bodyOf Tryz.f109))))), st := gtHlI n el st k, p := 2, kb := { db := dbF [(78, cRd (.int .i64 (st k).e) (st k)), (110, cMr (.agg (el k).c) (st (k + 1)))] }, k := fun e t => match e with
 | .normal => match getV t.tmps 6 with
  | .sl a _ _ _ _ _ _ => some (wToS [(.o 2, a)] (gtHlI n el st (k + 1)))
  | _ => none
 | _ => some (wTo (gtHlI n el st k)) }
end Go.Proofs.YtnmccoincblecaaGreat
