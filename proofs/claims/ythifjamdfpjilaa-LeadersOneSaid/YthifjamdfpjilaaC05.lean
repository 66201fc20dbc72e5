/-
  Contracts and laws that the claim's theorem leans on, joined out of the texts La2 La3D La3 La4D La4 SySort La5D (own work of this seat): Contracts: configs and epochs that may be; the nodes of which something holds; Contracts: the leaders of an epoch; Contracts: the leaders of an epoch; Contracts: the owner of a bucket: a range over a function; Contracts: the owner of a bucket: a range over a function; What the library's sort asks of reflectlite: a slice's Value, its length, the function that swaps two elements; Contracts: what the library's stable sort calls; swaps, rotations.
-/
import Derived.Lib.ReflectliteSwap
import Derived.Laws.Externs
import Derived.Test.YthifjamdfpjilaaC04
set_option linter.unusedVariables false
set_option linter.unusedSimpArgs false
set_option maxHeartbeats 1000000
namespace Go.Proofs.Ythifjamdfpjilaa
open Go Sy Go.Proofs
noncomputable def bdMy_c (c : SCfg) (e : Int) (g : Int) : Nat → List Prop
 | 0 => [T Try.prog 11 [.agg [.int .i64 (SCfg.nodes c), .int .i64 (SCfg.clients c), .int .i64 (SCfg.window c), .int .i64 (SCfg.buckets c), .int .i64 (SCfg.cap c), .int .i64 (SCfg.slots c), .int .i64 (SCfg.requests c), .int .i64 (SCfg.timeout c), .int .i64 (SCfg.penalty c), .int .i64 (SCfg.last c)]] [] (.int .i64 g) []]
 | _ => []
theorem bdMy_p11 (c : SCfg) (e : Int) (g : Int) :
 along Try.prog (bdMy c e g) [true, true] = (some (.bool (decide (e ≤ (1048576 : Int))), [], bdMy_c c e g 0 ++ [decide (g = (0 : Int)) = true, decide ((1 : Int) ≤ e) = true]) : Option (V × Heap × List Prop)) := by kernel_rfl
theorem bdMy_p10 (c : SCfg) (e : Int) (g : Int) :
 along Try.prog (bdMy c e g) [true, false] = (some (.bool false, [], bdMy_c c e g 0 ++ [decide (g = (0 : Int)) = true, decide ((1 : Int) ≤ e) = false]) : Option (V × Heap × List Prop)) := by kernel_rfl
theorem bdMy_p00 (c : SCfg) (e : Int) (g : Int) :
 along Try.prog (bdMy c e g) [false, false] = (some (.bool false, [], bdMy_c c e g 0 ++ [decide (g = (0 : Int)) = false, q false]) : Option (V × Heap × List Prop)) := by kernel_rfl

theorem bdL1_p (pen : List Int) (e : Int) (n : Int) (p : Int) :
  along Try.prog (bdL1 pen e n p) [] = (some (.bool (decide (p ≤ e)), [(.o 0, .flat [.ros 1 (List.length pen) (li pen) false]), (.o 1, .flat [.int .i64 e])], [T Try.prog 38 [.ros 1 (List.length pen) (li pen) false, .int .i64 n] [] (.int .i64 p) []]) : Option (V × Heap × List Prop)) := by kernel_rfl

theorem bdL2_p (n : Int) :
  along Try.prog (bdL2 n) [] = (some (.bool true, [], []) : Option (V × Heap × List Prop)) := by kernel_rfl

theorem bdSmA_p (pen : List Int) (e : Int) (n : Nat) :
  along Try.prog (bdSmA pen e n) [] = some (V.ros (1 : Nat) (List.length (filS (fun i => decide (penS pen (↑i : Int) ≤ e)) n)) (li (filS (fun i => decide (penS pen (↑i : Int) ≤ e)) n)) false, [(Nm.o (0 : Nat), B.flat [V.ros (1 : Nat) (List.length pen) (li pen) false]), (Nm.o (1 : Nat), B.flat [V.int IntKind.i64 e])], [RLoop Try.prog none (2 : Nat) (cB (cB (cR (cL (cR (bodyOf (Bd.f (bdSmA pen e n)))))))) (n + (1 : Nat)) (St.mk [V.any, V.fn (Fn.func (37 : FuncId)) [] [V.ptr (Nm.o (0 : Nat)) (0 : Nat) (0 : Nat) (0 : Nat) (0 : Nat), V.ptr (Nm.o (1 : Nat)) (0 : Nat) (0 : Nat) (0 : Nat) (0 : Nat)], V.any, V.any, V.sl (Nm.o (2 : Nat)) (1 : Nat) (0 : Nat) (0 : Nat) (0 : Nat) (nat_lit 0) none, V.any, V.int IntKind.i64 (↑n : Int), V.int IntKind.i64 (0 : Int), V.any, V.any, V.any, V.any, V.any, V.any, V.any, V.any, V.any, V.any, V.any] [(Nm.o (0 : Nat), B.flat [V.ros (1 : Nat) (List.length pen) (li pen) false]), (Nm.o (1 : Nat), B.flat [V.int IntKind.i64 e]), (Nm.o (2 : Nat), B.rows (1 : Nat) (nat_lit 0) (li []) true)] (3 : Nat) []) (Exit.exit (0 : Nat)) (St.mk [V.any, V.fn (Fn.func (37 : FuncId)) [] [V.ptr (Nm.o (0 : Nat)) (0 : Nat) (0 : Nat) (0 : Nat) (0 : Nat), V.ptr (Nm.o (1 : Nat)) (0 : Nat) (0 : Nat) (0 : Nat) (0 : Nat)], V.any, V.any, V.sl (Nm.o (2 : Nat)) (1 : Nat) (0 : Nat) (0 : Nat) (0 : Nat) (List.length (filS (fun i => decide (penS pen (↑i : Int) ≤ e)) n)) none, V.any, V.int IntKind.i64 (↑n : Int), V.int IntKind.i64 (↑n : Int), V.any, V.any, V.any, V.any, V.any, V.any, V.any, V.any, V.any, V.any, V.any] [(Nm.o (0 : Nat), B.flat [V.ros (1 : Nat) (List.length pen) (li pen) false]), (Nm.o (1 : Nat), B.flat [V.int IntKind.i64 e]), (Nm.o (2 : Nat), B.rows (1 : Nat) (List.length (filS (fun i => decide (penS pen (↑i : Int) ≤ e)) n)) (li (filS (fun i => decide (penS pen (↑i : Int) ≤ e)) n)) true)] (3 : Nat) []), List.length pen = List.length pen, ∀ (k : Nat), k < List.length pen → [V.int IntKind.i64 (List.getD pen k (0 : Int))] = [V.int IntKind.i64 (List.getD pen k (0 : Int))], false = true → false = true, e = e, (0 : Nat) = nat_lit 0, ∀ (k : Nat), k < (0 : Nat) → [] = [V.int IntKind.i64 (0 : Int)], true = false → true = false, (0 : Nat) = (0 : Nat), (0 : Nat) = (0 : Nat), (0 : Nat) = (0 : Nat), (0 : Nat) = (0 : Nat), (0 : Nat) = (0 : Nat), (0 : Nat) = (0 : Nat), (0 : Nat) = (0 : Nat), (0 : Nat) = (0 : Nat), (0 : Nat) = (0 : Nat), (0 : Nat) = nat_lit 0, (none : Option Nat) = none ∨ (none : Option Nat) = none, (↑n : Int) = (↑n : Int), (0 : Int) = (0 : Int), List.length pen = List.length pen, ∀ (k : Nat), k < List.length pen → [V.int IntKind.i64 (List.getD pen k (0 : Int))] = [V.int IntKind.i64 (List.getD pen k (0 : Int))], false = true → false = true, e = e, List.length (filS (fun i => decide (penS pen (↑i : Int) ≤ e)) n) = List.length (filS (fun i => decide (penS pen (↑i : Int) ≤ e)) n), (0 : Nat) + List.length (filS (fun i => decide (penS pen (↑i : Int) ≤ e)) n) ≤ List.length (filS (fun i => decide (penS pen (↑i : Int) ≤ e)) n), ∀ (k : Nat), k < List.length (filS (fun i => decide (penS pen (↑i : Int) ≤ e)) n) → [V.int IntKind.i64 (List.getD (filS (fun i => decide (penS pen (↑i : Int) ≤ e)) n) ((0 : Nat) + k) (0 : Int))] = [V.int IntKind.i64 (List.getD (filS (fun i => decide (penS pen (↑i : Int) ≤ e)) n) k (0 : Int))], false = true → none = some (List.length (filS (fun i => decide (penS pen (↑i : Int) ≤ e)) n))]) := by kernel_rfl

theorem pcSmA_p11 (pen : List Int) (e : Int) (n : Nat) (k : Nat) (b : Bool) :
  alongPc Try.prog (pcSmA pen e n k b) [true, true] = (some (.normal, St.mk [.any, .fn (.func (37 : FuncId)) [] [.ptr (.o 0) 0 0 0 0, .ptr (.o 1) 0 0 0 0], .any, .any, .sl (.o 2) 1 0 0 0 (List.length (filS (fun i => decide (penS pen (↑i : Int) ≤ e)) (k + 1))) none, .any, .int .i64 ↑n, .int .i64 (↑(k + 1) : Int), .any, .any, .any, .any, .any, .any, .any, .any, .any, .any, .any] [(.o 0, .flat [.ros 1 (List.length pen) (li pen) false]), (.o 1, .flat [.int .i64 e]), (.o 2, .rows 1 (List.length (filS (fun i => decide (penS pen (↑i : Int) ≤ e)) (k + 1))) (li (filS (fun i => decide (penS pen (↑i : Int) ≤ e)) (k + 1))) true)] 3 [], [decide ((↑k : Int) < (↑n : Int)) = true, T Try.prog (37 : FuncId) [.int .i64 ↑k, .ptr (.o 0) 0 0 0 0, .ptr (.o 1) 0 0 0 0] [(.o 0, .flat [.ros 1 (List.length pen) (li pen) false]), (.o 1, .flat [.int .i64 e])] (.bool b) [(.o 0, .flat [.ros 1 (List.length pen) (li pen) false]), (.o 1, .flat [.int .i64 e])], b = true, q (List.length (filS (fun i => decide (penS pen (↑i : Int) ≤ e)) k)), nat_lit 1 ≤ (1 : Nat), ∀ (k_1 : Nat), k_1 < (1 : Nat) → solid (getL [[V.int IntKind.i64 (↑k : Int)]] ((0 : Nat) + k_1)) = true, (List.length (filS (fun i => decide (penS pen (↑i : Int) ≤ e)) k) + (1 : Nat)) * (8 : Nat) ≤ (140737488355328 : Nat), InR IntKind.i64 ((↑k : Int) + (1 : Int)), q (List.length pen), ∀ (k : Nat), k < List.length pen → [V.int IntKind.i64 (List.getD pen k (0 : Int))] = [V.int IntKind.i64 (List.getD pen k (0 : Int))], false = true → false = true, q e, List.length (filS (fun i => decide (penS pen (↑i : Int) ≤ e)) k) + (1 : Nat) = List.length (filS (fun i => decide (penS pen (↑i : Int) ≤ e)) (k + (1 : Nat))), ∀ (k_1 : Nat), k_1 < List.length (filS (fun i => decide (penS pen (↑i : Int) ≤ e)) k) + (1 : Nat) → catF (List.length (filS (fun i => decide (penS pen (↑i : Int) ≤ e)) k)) (li (filS (fun i => decide (penS pen (↑i : Int) ≤ e)) k)) (fun k_2 => getL [[V.int IntKind.i64 (↑k : Int)]] ((0 : Nat) + k_2)) k_1 = [V.int IntKind.i64 (List.getD (filS (fun i => decide (penS pen (↑i : Int) ≤ e)) (k + (1 : Nat))) k_1 (0 : Int))], true = false → true = false, q0, q0, q0, q0, q0, q0, q0, q0, q0, List.length (filS (fun i => decide (penS pen (↑i : Int) ≤ e)) k) + (1 : Nat) = List.length (filS (fun i => decide (penS pen (↑i : Int) ≤ e)) (k + (1 : Nat))), (none : Option Nat) = none ∨ (none : Option Nat) = none, q (↑n : Int), (↑k : Int) + (1 : Int) = (↑(k + (1 : Nat)) : Int)]) : Option (Exit × St × List Prop)) := by kernel_rfl
theorem pcSmA_p10 (pen : List Int) (e : Int) (n : Nat) (k : Nat) (b : Bool) :
  alongPc Try.prog (pcSmA pen e n k b) [true, false] = (some (.normal, St.mk [.any, .fn (.func (37 : FuncId)) [] [.ptr (.o 0) 0 0 0 0, .ptr (.o 1) 0 0 0 0], .any, .any, .sl (.o 2) 1 0 0 0 (List.length (filS (fun i => decide (penS pen (↑i : Int) ≤ e)) (k + 1))) none, .any, .int .i64 ↑n, .int .i64 (↑(k + 1) : Int), .any, .any, .any, .any, .any, .any, .any, .any, .any, .any, .any] [(.o 0, .flat [.ros 1 (List.length pen) (li pen) false]), (.o 1, .flat [.int .i64 e]), (.o 2, .rows 1 (List.length (filS (fun i => decide (penS pen (↑i : Int) ≤ e)) (k + 1))) (li (filS (fun i => decide (penS pen (↑i : Int) ≤ e)) (k + 1))) true)] 3 [], [decide ((↑k : Int) < (↑n : Int)) = true, T Try.prog (37 : FuncId) [.int .i64 ↑k, .ptr (.o 0) 0 0 0 0, .ptr (.o 1) 0 0 0 0] [(.o 0, .flat [.ros 1 (List.length pen) (li pen) false]), (.o 1, .flat [.int .i64 e])] (.bool b) [(.o 0, .flat [.ros 1 (List.length pen) (li pen) false]), (.o 1, .flat [.int .i64 e])], b = false, InR IntKind.i64 ((↑k : Int) + (1 : Int)), q (List.length pen), ∀ (k : Nat), k < List.length pen → [V.int IntKind.i64 (List.getD pen k (0 : Int))] = [V.int IntKind.i64 (List.getD pen k (0 : Int))], false = true → false = true, q e, List.length (filS (fun i => decide (penS pen (↑i : Int) ≤ e)) k) = List.length (filS (fun i => decide (penS pen (↑i : Int) ≤ e)) (k + (1 : Nat))), ∀ (k_1 : Nat), k_1 < List.length (filS (fun i => decide (penS pen (↑i : Int) ≤ e)) k) → [V.int IntKind.i64 (List.getD (filS (fun i => decide (penS pen (↑i : Int) ≤ e)) k) k_1 (0 : Int))] = [V.int IntKind.i64 (List.getD (filS (fun i => decide (penS pen (↑i : Int) ≤ e)) (k + (1 : Nat))) k_1 (0 : Int))], true = false → true = false, q0, q0, q0, q0, q0, q0, q0, q0, q0, List.length (filS (fun i => decide (penS pen (↑i : Int) ≤ e)) k) = List.length (filS (fun i => decide (penS pen (↑i : Int) ≤ e)) (k + (1 : Nat))), (none : Option Nat) = none ∨ (none : Option Nat) = none, q (↑n : Int), (↑k : Int) + (1 : Int) = (↑(k + (1 : Nat)) : Int)]) : Option (Exit × St × List Prop)) := by kernel_rfl
theorem pcSmA_p0 (pen : List Int) (e : Int) (n : Nat) (k : Nat) (b : Bool) :
  alongPc Try.prog (pcSmA pen e n k b) [false] = (some (.exit 0, St.mk [.any, .fn (.func (37 : FuncId)) [] [.ptr (.o 0) 0 0 0 0, .ptr (.o 1) 0 0 0 0], .any, .any, .sl (.o 2) 1 0 0 0 (List.length (filS (fun i => decide (penS pen (↑i : Int) ≤ e)) n)) none, .any, .int .i64 ↑n, .int .i64 ↑n, .any, .any, .any, .any, .any, .any, .any, .any, .any, .any, .any] [(.o 0, .flat [.ros 1 (List.length pen) (li pen) false]), (.o 1, .flat [.int .i64 e]), (.o 2, .rows 1 (List.length (filS (fun i => decide (penS pen (↑i : Int) ≤ e)) n)) (li (filS (fun i => decide (penS pen (↑i : Int) ≤ e)) n)) true)] 3 [], [decide ((↑k : Int) < (↑n : Int)) = false, q (List.length pen), ∀ (k : Nat), k < List.length pen → [V.int IntKind.i64 (List.getD pen k (0 : Int))] = [V.int IntKind.i64 (List.getD pen k (0 : Int))], false = true → false = true, q e, List.length (filS (fun i => decide (penS pen (↑i : Int) ≤ e)) k) = List.length (filS (fun i => decide (penS pen (↑i : Int) ≤ e)) n), ∀ (k_1 : Nat), k_1 < List.length (filS (fun i => decide (penS pen (↑i : Int) ≤ e)) k) → [V.int IntKind.i64 (List.getD (filS (fun i => decide (penS pen (↑i : Int) ≤ e)) k) k_1 (0 : Int))] = [V.int IntKind.i64 (List.getD (filS (fun i => decide (penS pen (↑i : Int) ≤ e)) n) k_1 (0 : Int))], true = false → true = false, q0, q0, q0, q0, q0, q0, q0, q0, q0, List.length (filS (fun i => decide (penS pen (↑i : Int) ≤ e)) k) = List.length (filS (fun i => decide (penS pen (↑i : Int) ≤ e)) n), (none : Option Nat) = none ∨ (none : Option Nat) = none, q (↑n : Int), (↑k : Int) = (↑n : Int)]) : Option (Exit × St × List Prop)) := by kernel_rfl

theorem bdSmB_p (n : Nat) :
  along Try.prog (bdSmB n) [] = some (V.ros (1 : Nat) (List.length (filS (fun x => true) n)) (li (filS (fun x => true) n)) false, [], [RLoop Try.prog none (0 : Nat) (cB (cB (cR (cL (cR (bodyOf (Bd.f (bdSmB n)))))))) (n + (1 : Nat)) (St.mk [V.any, V.fn (Fn.func (39 : FuncId)) [] [], V.any, V.any, V.sl (Nm.o (0 : Nat)) (1 : Nat) (0 : Nat) (0 : Nat) (0 : Nat) (nat_lit 0) none, V.any, V.int IntKind.i64 (↑n : Int), V.int IntKind.i64 (0 : Int), V.any, V.any, V.any, V.any, V.any, V.any, V.any, V.any, V.any, V.any, V.any] [(Nm.o (0 : Nat), B.rows (1 : Nat) (nat_lit 0) (li []) true)] (1 : Nat) []) (Exit.exit (0 : Nat)) (St.mk [V.any, V.fn (Fn.func (39 : FuncId)) [] [], V.any, V.any, V.sl (Nm.o (0 : Nat)) (1 : Nat) (0 : Nat) (0 : Nat) (0 : Nat) (List.length (filS (fun x => true) n)) none, V.any, V.int IntKind.i64 (↑n : Int), V.int IntKind.i64 (↑n : Int), V.any, V.any, V.any, V.any, V.any, V.any, V.any, V.any, V.any, V.any, V.any] [(Nm.o (0 : Nat), B.rows (1 : Nat) (List.length (filS (fun x => true) n)) (li (filS (fun x => true) n)) true)] (1 : Nat) []), (0 : Nat) = nat_lit 0, ∀ (k : Nat), k < (0 : Nat) → [] = [V.int IntKind.i64 (0 : Int)], true = false → true = false, (0 : Nat) = (0 : Nat), (0 : Nat) = (0 : Nat), (0 : Nat) = (0 : Nat), (0 : Nat) = nat_lit 0, (none : Option Nat) = none ∨ (none : Option Nat) = none, (↑n : Int) = (↑n : Int), (0 : Int) = (0 : Int), List.length (filS (fun x => true) n) = List.length (filS (fun x => true) n), (0 : Nat) + List.length (filS (fun x => true) n) ≤ List.length (filS (fun x => true) n), ∀ (k : Nat), k < List.length (filS (fun x => true) n) → [V.int IntKind.i64 (List.getD (filS (fun x => true) n) ((0 : Nat) + k) (0 : Int))] = [V.int IntKind.i64 (List.getD (filS (fun x => true) n) k (0 : Int))], false = true → none = some (List.length (filS (fun x => true) n))]) := by kernel_rfl

theorem pcSmB_p11 (n : Nat) (k : Nat) (b : Bool) :
  alongPc Try.prog (pcSmB n k b) [true, true] = (some (.normal, St.mk [.any, .fn (.func (39 : FuncId)) [] [], .any, .any, .sl (.o 0) 1 0 0 0 (List.length (filS (fun x => true) (k + 1))) none, .any, .int .i64 ↑n, .int .i64 (↑(k + 1) : Int), .any, .any, .any, .any, .any, .any, .any, .any, .any, .any, .any] [(.o 0, .rows 1 (List.length (filS (fun x => true) (k + 1))) (li (filS (fun x => true) (k + 1))) true)] 1 [], [decide ((↑k : Int) < (↑n : Int)) = true, T Try.prog (39 : FuncId) [.int .i64 ↑k] [] (.bool b) [], b = true, q (List.length (filS (fun x => true) k)), nat_lit 1 ≤ (1 : Nat), ∀ (k_1 : Nat), k_1 < (1 : Nat) → solid (getL [[V.int IntKind.i64 (↑k : Int)]] ((0 : Nat) + k_1)) = true, (List.length (filS (fun x => true) k) + (1 : Nat)) * (8 : Nat) ≤ (140737488355328 : Nat), InR IntKind.i64 ((↑k : Int) + (1 : Int)), List.length (filS (fun x => true) k) + (1 : Nat) = List.length (filS (fun x => true) (k + (1 : Nat))), ∀ (k_1 : Nat), k_1 < List.length (filS (fun x => true) k) + (1 : Nat) → catF (List.length (filS (fun x => true) k)) (li (filS (fun x => true) k)) (fun k_2 => getL [[V.int IntKind.i64 (↑k : Int)]] ((0 : Nat) + k_2)) k_1 = [V.int IntKind.i64 (List.getD (filS (fun x => true) (k + (1 : Nat))) k_1 (0 : Int))], true = false → true = false, q0, q0, q0, List.length (filS (fun x => true) k) + (1 : Nat) = List.length (filS (fun x => true) (k + (1 : Nat))), (none : Option Nat) = none ∨ (none : Option Nat) = none, q (↑n : Int), (↑k : Int) + (1 : Int) = (↑(k + (1 : Nat)) : Int)]) : Option (Exit × St × List Prop)) := by kernel_rfl
theorem pcSmB_p10 (n : Nat) (k : Nat) (b : Bool) :
  alongPc Try.prog (pcSmB n k b) [true, false] = (some (.normal, St.mk [.any, .fn (.func (39 : FuncId)) [] [], .any, .any, .sl (.o 0) 1 0 0 0 (List.length (filS (fun x => true) (k + 1))) none, .any, .int .i64 ↑n, .int .i64 (↑(k + 1) : Int), .any, .any, .any, .any, .any, .any, .any, .any, .any, .any, .any] [(.o 0, .rows 1 (List.length (filS (fun x => true) (k + 1))) (li (filS (fun x => true) (k + 1))) true)] 1 [], [decide ((↑k : Int) < (↑n : Int)) = true, T Try.prog (39 : FuncId) [.int .i64 ↑k] [] (.bool b) [], b = false, InR IntKind.i64 ((↑k : Int) + (1 : Int)), List.length (filS (fun x => true) k) = List.length (filS (fun x => true) (k + (1 : Nat))), ∀ (k_1 : Nat), k_1 < List.length (filS (fun x => true) k) → [V.int IntKind.i64 (List.getD (filS (fun x => true) k) k_1 (0 : Int))] = [V.int IntKind.i64 (List.getD (filS (fun x => true) (k + (1 : Nat))) k_1 (0 : Int))], true = false → true = false, q0, q0, q0, List.length (filS (fun x => true) k) = List.length (filS (fun x => true) (k + (1 : Nat))), (none : Option Nat) = none ∨ (none : Option Nat) = none, q (↑n : Int), (↑k : Int) + (1 : Int) = (↑(k + (1 : Nat)) : Int)]) : Option (Exit × St × List Prop)) := by kernel_rfl
theorem pcSmB_p0 (n : Nat) (k : Nat) (b : Bool) :
  alongPc Try.prog (pcSmB n k b) [false] = (some (.exit 0, St.mk [.any, .fn (.func (39 : FuncId)) [] [], .any, .any, .sl (.o 0) 1 0 0 0 (List.length (filS (fun x => true) n)) none, .any, .int .i64 ↑n, .int .i64 ↑n, .any, .any, .any, .any, .any, .any, .any, .any, .any, .any, .any] [(.o 0, .rows 1 (List.length (filS (fun x => true) n)) (li (filS (fun x => true) n)) true)] 1 [], [decide ((↑k : Int) < (↑n : Int)) = false, List.length (filS (fun x => true) k) = List.length (filS (fun x => true) n), ∀ (k_1 : Nat), k_1 < List.length (filS (fun x => true) k) → [V.int IntKind.i64 (List.getD (filS (fun x => true) k) k_1 (0 : Int))] = [V.int IntKind.i64 (List.getD (filS (fun x => true) n) k_1 (0 : Int))], true = false → true = false, q0, q0, q0, List.length (filS (fun x => true) k) = List.length (filS (fun x => true) n), (none : Option Nat) = none ∨ (none : Option Nat) = none, q (↑n : Int), (↑k : Int) = (↑n : Int)]) : Option (Exit × St × List Prop)) := by kernel_rfl

theorem filS_len (q : Nat → Bool) : ∀ k, (filS q k).length ≤ k
 | 0 => Nat.le_refl _
 | k + 1 => by
  have := filS_len q k
  rw [filS]; split
  ·rw [List.length_append]; simp; omega
  ·omega
theorem catF_li {l m : List Int} {x : Int} (e : m = l ++ [x]) : ∀ j, j < l.length + 1 → catF l.length (li l) (fun q => getL [[V.int .i64 x]] (0 + q)) j = li m j := by
 intro j hj
 subst e
 unfold catF li
 cases hb : Nat.blt j l.length with
 | true =>
  have h1 : j < l.length := by rw [← Nat.blt_eq]; exact hb
  simp only [cond_true]
  rw [List.getD_eq_getElem?_getD, List.getD_eq_getElem?_getD, List.getElem?_append_left h1]
 | false =>
  have h1 : l.length ≤ j := by
   rcases Nat.lt_or_ge j l.length with h2 | h2
   ·rw [← Nat.blt_eq] at h2; rw [h2] at hb; cases hb
   ·exact h2
  obtain rfl : j = l.length := by omega
  simp [getL]
def mayS (c : SCfg) (e : Int) : Bool := goodC c && (decide (1 ≤ e) && decide (e ≤ 1048576))
theorem goodE_zero {c : SCfg} : goodE c = 0 ↔ goodC c = true := by
 unfold goodE
 split
 ·simp [*]
 ·simp [*]
theorem T_my (c : SCfg) (e : Int) : T Try.prog 35 [.agg c.c, .int .i64 e] [] (.bool (mayS c e)) [] := by
 have hG := T_cg c
 by_cases h0 : goodE c = 0
 ·have hc := goodE_zero.1 h0
  by_cases h1 : 1 ≤ e
  ·refine T.val (T_al (bdMy_p11 c e (goodE c)) Try.func35 ⟨hG, decide_eq_true h0, decide_eq_true h1, trivial⟩) ?_
   rw [mayS, hc, decide_eq_true h1]; rfl
  ·refine T.val (T_al (bdMy_p10 c e (goodE c)) Try.func35 ⟨hG, decide_eq_true h0, decide_eq_false h1, trivial⟩) ?_
   rw [mayS, hc, decide_eq_false h1]; rfl
 ·have hc : goodC c = false := Bool.eq_false_iff.mpr fun h => h0 (goodE_zero.2 h)
  refine T.val (T_al (bdMy_p00 c e (goodE c)) Try.func35 ⟨hG, decide_eq_false h0, rfl, trivial⟩) ?_
  rw [mayS, hc]; rfl
theorem T_l1 (pen : List Int) (e : Int) {n : Int} (h : 0 ≤ n) : T Try.prog 37 [.int .i64 n, .ptr (.o 0) 0 0 0 0, .ptr (.o 1) 0 0 0 0] (hpE pen e) (.bool (decide (penS pen n ≤ e))) (hpE pen e) :=
 T_al (bdL1_p pen e n (penS pen n)) Try.func37 ⟨T_pn pen h, trivial⟩
theorem T_l2 (n : Int) : T Try.prog 39 [.int .i64 n] [] (.bool true) [] :=
 T_along NG MO _ (bdL2_p n) Try.func39 (by kernel_rfl) trivial (pinH_ok (by kernel_rfl)) (by kernel_rfl)
theorem T_smA (pen : List Int) (e : Int) (n : Nat) (hn : n ≤ 1000000) : T Try.prog 36 [.int .i64 n, .fn (.func 37) [] [.ptr (.o 0) 0 0 0 0, .ptr (.o 1) 0 0 0 0]] (hpE pen e) (lr (filS (fun i => decide (penS pen i ≤ e)) n)) (hpE pen e) := by
 have hstep : ∀ k, k < n → R Try.prog none 2 (cB (cB (cR (cL (cR (bodyOf Try.f36)))))) (smAI pen e n k) .normal (smAI pen e n (k + 1)) := fun k hk => by
  have hT := T_l1 pen e (n := (k : Int)) (by omega)
  have hlen := filS_len (fun i => decide (penS pen i ≤ e)) k
  cases hb : (fun i => decide (penS pen i ≤ e)) k with
  | true =>
   have ee : filS (fun i => decide (penS pen i ≤ e)) (k + 1) = filS (fun i => decide (penS pen i ≤ e)) k ++ [(k : Int)] := by rw [filS, if_pos hb]
   refine R_alongPc NG MO _ (pcSmA_p11 pen e n k true) ?_ (by show 2 ≤ 3; decide)
   simp only [All, All_append, bdMy_c]; and_intros
   all_goals first
    | exact hT.bool hb
    | exact hT
    | rfl
    | trivial
    | (rw [decide_eq_true_eq]; omega)
    | exact catF_li ee
    | (intro _ _; rfl)
    | (intro _ _; trivial)
    | (intro j hj; obtain rfl : j = 0 := by omega
       rfl)
    | (intro h; exact h)
    | exact .inl rfl
    | (rw [ee, List.length_append]; rfl)
    | omega
    | exact InR64.2 (by omega)
    | (simp [IntKind.min, IntKind.max, IntKind.signed, IntKind.bits] <;> omega)
  | false =>
   have ee : filS (fun i => decide (penS pen i ≤ e)) (k + 1) = filS (fun i => decide (penS pen i ≤ e)) k := by rw [filS, if_neg (Bool.eq_false_iff.mp hb)]
   refine R_alongPc NG MO _ (pcSmA_p10 pen e n k false) ?_ (by show 2 ≤ 3; decide)
   simp only [All, All_append, bdMy_c, ee]; and_intros
   all_goals first
    | exact hT.bool hb
    | exact hT
    | rfl
    | trivial
    | (rw [decide_eq_true_eq]; omega)
    | (intro _ _; rfl)
    | (intro _ _; trivial)
    | (intro j hj; obtain rfl : j = 0 := by omega
       rfl)
    | (intro h; exact h)
    | exact .inl rfl
    | omega
    | exact InR64.2 (by omega)
    | (simp [IntKind.min, IntKind.max, IntKind.signed, IntKind.bits] <;> omega)
 have hend : R Try.prog none 2 (cB (cB (cR (cL (cR (bodyOf Try.f36)))))) (smAI pen e n n) (.exit 0) (smAI pen e n n) := by
  refine R_alongPc NG MO _ (pcSmA_p0 pen e n n true) ?_ (by show 2 ≤ 3; decide)
  simp only [All, All_append, bdMy_c]; and_intros
  all_goals first
   | rfl
   | trivial
   | (rw [decide_eq_false_iff_not]; omega)
   | (intro _ _; rfl)
   | (intro _ _; trivial)
   | (intro h; exact h)
   | exact .inl rfl
 have hL := RLoop.inv (smAI pen e n) n hstep hend (by simp)
 refine T_al (bdSmA_p pen e n) Try.func36 ?_
 simp only [All, All_append, bdMy_c]; and_intros
 all_goals first
  | exact hL
  | rfl
  | trivial
  | (intro k hk; exact absurd hk (Nat.not_lt_zero k))
  | (intro h; cases h; done)
  | (intro k hk; simp only [Nat.zero_add]; done)
  | (intro h; exact h)
  | exact .inl rfl
  | omega
theorem T_smB  (n : Nat) (hn : n ≤ 1000000) : T Try.prog 36 [.int .i64 n, .fn (.func 39) [] []] ([]) (lr (filS (fun _ => true) n)) ([]) := by
 have hstep : ∀ k, k < n → R Try.prog none 0 (cB (cB (cR (cL (cR (bodyOf Try.f36)))))) (smBI n k) .normal (smBI n (k + 1)) := fun k hk => by
  have hT := T_l2 (k : Int)
  have hlen := filS_len (fun _ => true) k
  cases hb : (fun _ => true) k with
  | true =>
   have ee : filS (fun _ => true) (k + 1) = filS (fun _ => true) k ++ [(k : Int)] := by rw [filS, if_pos hb]
   refine R_alongPc NG MO _ (pcSmB_p11 n k true) ?_ (by show 0 ≤ 1; decide)
   simp only [All, All_append, bdMy_c]; and_intros
   all_goals first
    | exact hT.bool hb
    | exact hT
    | rfl
    | trivial
    | (rw [decide_eq_true_eq]; omega)
    | exact catF_li ee
    | (intro _ _; rfl)
    | (intro _ _; trivial)
    | (intro j hj; obtain rfl : j = 0 := by omega
       rfl)
    | (intro h; exact h)
    | exact .inl rfl
    | (rw [ee, List.length_append]; rfl)
    | omega
    | exact InR64.2 (by omega)
    | (simp [IntKind.min, IntKind.max, IntKind.signed, IntKind.bits] <;> omega)
  | false =>
   have ee : filS (fun _ => true) (k + 1) = filS (fun _ => true) k := by rw [filS, if_neg (Bool.eq_false_iff.mp hb)]
   refine R_alongPc NG MO _ (pcSmB_p10 n k false) ?_ (by show 0 ≤ 1; decide)
   simp only [All, All_append, bdMy_c, ee]; and_intros
   all_goals first
    | exact hT.bool hb
    | exact hT
    | rfl
    | trivial
    | (rw [decide_eq_true_eq]; omega)
    | (intro _ _; rfl)
    | (intro _ _; trivial)
    | (intro j hj; obtain rfl : j = 0 := by omega
       rfl)
    | (intro h; exact h)
    | exact .inl rfl
    | omega
    | exact InR64.2 (by omega)
    | (simp [IntKind.min, IntKind.max, IntKind.signed, IntKind.bits] <;> omega)
 have hend : R Try.prog none 0 (cB (cB (cR (cL (cR (bodyOf Try.f36)))))) (smBI n n) (.exit 0) (smBI n n) := by
  refine R_alongPc NG MO _ (pcSmB_p0 n n true) ?_ (by show 0 ≤ 1; decide)
  simp only [All, All_append, bdMy_c]; and_intros
  all_goals first
   | rfl
   | trivial
   | (rw [decide_eq_false_iff_not]; omega)
   | (intro _ _; rfl)
   | (intro _ _; trivial)
   | (intro h; exact h)
   | exact .inl rfl
 have hL := RLoop.inv (smBI n) n hstep hend (by simp)
 refine T_al (bdSmB_p n) Try.func36 ?_
 simp only [All, All_append, bdMy_c]; and_intros
 all_goals first
  | exact hL
  | rfl
  | trivial
  | (intro k hk; exact absurd hk (Nat.not_lt_zero k))
  | (intro h; cases h; done)
  | (intro k hk; simp only [Nat.zero_add]; done)
  | (intro h; exact h)
  | exact .inl rfl
  | omega
end Go.Proofs.Ythifjamdfpjilaa
namespace Go.Proofs.Ythifjamdfpjilaa
open Go Sy Go.Proofs
def someA (pen : List Int) (e : Int) (n : Nat) : List V → Heap → Nat → List Cl := fun args _ _ => match args with
 | [_, .fn _ _ [.ptr a _ _ _ _, .ptr b _ _ _ _]] => [{ pre := [a, b], val := lr (filS (fun i => decide (penS pen i ≤ e)) n), post := [(a, .flat [lr pen]), (b, .flat [.int .i64 e])] }]
 | _ => [{ val := lr (filS (fun _ => true) n) }]
noncomputable def bdLs (c : SCfg) (e : Int) (pen : List Int) (g : Bool) (n : Nat) (s : Int) (r : List Int) : Bd := { f := Try.f13, args := [.agg c.c, .int .i64 e, lr pen], kb := { db := dbQ [(35, cVal (.bool g)), (36, someA pen e n), (14, cVal (.int .i64 s))] }, k := fun _ t => some ⟨[], [(6, .set (lr r))], [], none, t.next⟩ }
noncomputable def bdLs0 (c : SCfg) (e : Int) (pen : List Int) : Bd := bdLs c e pen false 0 0 []
noncomputable def bdLsA (c : SCfg) (e : Int) (pen : List Int) (n : Nat) (s : Int) : Bd := bdLs c e pen true n s (filS (fun _ => true) n)
noncomputable def bdLsS (c : SCfg) (e : Int) (pen : List Int) (n : Nat) (s : Int) : Bd := bdLs c e pen true n s (filS (fun i => decide (penS pen i ≤ e)) n)
/-- Penalties: so many are set. -/
def pzS (c : SCfg) (e : Int) (pen bad : List Int) (i : Nat) : Int := if (i : Int) ∈ bad then e + 1 + c.penalty else penS pen i
def pzL (c : SCfg) (e : Int) (pen bad : List Int) (n k : Nat) : Nat → List V := fun i => [.int .i64 (if i < k then pzS c e pen bad i else 0)]
def pzI (c : SCfg) (e : Int) (pen bad : List Int) (n k : Nat) : St := ⟨mkT 42 [(1, .int .i64 e), (2, lr pen), (3, lr bad), (4, .ptr (.o 0) 0 0 0 0), (9, .sl (.o 1) 1 0 0 0 n (some n)), (19, .int .i64 n), (20, .int .i64 k)], [(.o 0, .flat c.c), (.o 1, .rows 1 n (pzL c e pen bad n k) false)], 2, []⟩
noncomputable def bdPz (c : SCfg) (e : Int) (pen bad : List Int) (g : Bool) (n : Nat) (r : List Int) : Bd := { f := Try.f17, args := [.agg c.c, .int .i64 e, lr pen, lr bad], kb := { db := dbQ [(35, cVal (.bool g))], lp := fun _ t => [(True, .loop (n + 1) (wToS [(.o 1, nmV (getV t.tmps 9)), (.o 0, nmV (getV t.tmps 4))] (pzI c e pen bad n 0)) (.exit 0) (pzI c e pen bad n n))] }, k := fun _ t => some ⟨[], [(8, .set (lr r))], [], none, t.next⟩ }
noncomputable def bdPz0 (c : SCfg) (e : Int) (pen bad : List Int) : Bd := bdPz c e pen bad false 0 []
noncomputable def bdPz1 (c : SCfg) (e : Int) (pen bad : List Int) (n : Nat) (r : List Int) : Bd := bdPz c e pen bad true n r
def pzM (c : SCfg) (e : Int) (pen bad : List Int) (n k : Nat) (p : Int) : St := ⟨mkT 42 [(1, .int .i64 e), (2, lr pen), (3, lr bad), (4, .ptr (.o 0) 0 0 0 0), (9, .sl (.o 1) 1 0 0 0 n (some n)), (10, .int .i64 k), (19, .int .i64 n), (20, .int .i64 k)], [(.o 0, .flat c.c), (.o 1, .rows 1 n (fun i => [.int .i64 (if i < k then pzS c e pen bad i else if i = k then p else 0)]) false)], 2, []⟩
noncomputable def pcPz (c : SCfg) (e : Int) (pen bad : List Int) (n k : Nat) (p : Int) (b : Bool) : Pc := { c := cB (cB (cR (cL (cR (cR (cR (bodyOf Try.f17))))))), st := pzI c e pen bad n k, kb := { db := dbQ [(38, cVal (.int .i64 p)), (46, cVal (.bool b))], fx := fun id _ => bif Nat.beq id 8 then [.wk (wTo (pzM c e pen bad n k p))] else [] }, k := fun x_ t => match x_ with
 | .normal => some (wTo (pzI c e pen bad n (k + 1)))
 | _ => some (wTo (pzI c e pen bad n n)) }
end Go.Proofs.Ythifjamdfpjilaa
namespace Go.Proofs.Ythifjamdfpjilaa
open Go Sy Go.Proofs
theorem bdLs0_p1 (c : SCfg) (e : Int) (pen : List Int) :
  along Try.prog (bdLs0 c e pen) [true] = (some (.ros 1 0 (li []) false, [], [T Try.prog 35 [.agg [.int .i64 (SCfg.nodes c), .int .i64 (SCfg.clients c), .int .i64 (SCfg.window c), .int .i64 (SCfg.buckets c), .int .i64 (SCfg.cap c), .int .i64 (SCfg.slots c), .int .i64 (SCfg.requests c), .int .i64 (SCfg.timeout c), .int .i64 (SCfg.penalty c), .int .i64 (SCfg.last c)], .int .i64 e] [] (.bool false) [], q2, nat_lit 0 = (0 : Nat)]) : Option (V × Heap × List Prop)) := by kernel_rfl

theorem bdLsA_p01 (c : SCfg) (e : Int) (pen : List Int) (n : Nat) (s : Int) :
  along Try.prog (bdLsA c e pen n s) [false, true] = (some (.ros 1 (List.length (filS (fun x => true) n)) (li (filS (fun x => true) n)) false, [], [T Try.prog 35 [.agg [.int .i64 (SCfg.nodes c), .int .i64 (SCfg.clients c), .int .i64 (SCfg.window c), .int .i64 (SCfg.buckets c), .int .i64 (SCfg.cap c), .int .i64 (SCfg.slots c), .int .i64 (SCfg.requests c), .int .i64 (SCfg.timeout c), .int .i64 (SCfg.penalty c), .int .i64 (SCfg.last c)], .int .i64 e] [] (.bool true) [], q false, T Try.prog 36 [.int .i64 (SCfg.nodes c), .fn (.func 37) [] [.ptr (.o 128) 0 0 0 0, .ptr (.o 64) 0 0 0 0]] [(.o 128, .flat [.ros 1 (List.length pen) (li pen) false]), (.o 64, .flat [.int .i64 e])] (.ros 1 (List.length (filS (fun i => decide (penS pen (↑i : Int) ≤ e)) n)) (li (filS (fun i => decide (penS pen (↑i : Int) ≤ e)) n)) false) [(.o 128, .flat [.ros 1 (List.length pen) (li pen) false]), (.o 64, .flat [.int .i64 e])], T Try.prog 14 [.int .i64 (SCfg.nodes c)] [] (.int .i64 s) [], decide ((↑(List.length (filS (fun i => decide (penS pen (↑i : Int) ≤ e)) n)) : Int) < s) = true, T Try.prog 36 [.int .i64 (SCfg.nodes c), .fn (.func 39) [] []] [] (.ros 1 (List.length (filS (fun x => true) n)) (li (filS (fun x => true) n)) false) [], q (List.length (filS (fun x => true) n)), ∀ (k : Nat), k < List.length (filS (fun x => true) n) → [V.int IntKind.i64 (List.getD (filS (fun x => true) n) k (0 : Int))] = [V.int IntKind.i64 (List.getD (filS (fun x => true) n) k (0 : Int))], false = true → false = true]) : Option (V × Heap × List Prop)) := by kernel_rfl

theorem bdLsS_p00 (c : SCfg) (e : Int) (pen : List Int) (n : Nat) (s : Int) :
  along Try.prog (bdLsS c e pen n s) [false, false] = (some (.ros 1 (List.length (filS (fun i => decide (penS pen (↑i : Int) ≤ e)) n)) (li (filS (fun i => decide (penS pen (↑i : Int) ≤ e)) n)) false, [], [T Try.prog 35 [.agg [.int .i64 (SCfg.nodes c), .int .i64 (SCfg.clients c), .int .i64 (SCfg.window c), .int .i64 (SCfg.buckets c), .int .i64 (SCfg.cap c), .int .i64 (SCfg.slots c), .int .i64 (SCfg.requests c), .int .i64 (SCfg.timeout c), .int .i64 (SCfg.penalty c), .int .i64 (SCfg.last c)], .int .i64 e] [] (.bool true) [], q false, T Try.prog 36 [.int .i64 (SCfg.nodes c), .fn (.func 37) [] [.ptr (.o 128) 0 0 0 0, .ptr (.o 64) 0 0 0 0]] [(.o 128, .flat [.ros 1 (List.length pen) (li pen) false]), (.o 64, .flat [.int .i64 e])] (.ros 1 (List.length (filS (fun i => decide (penS pen (↑i : Int) ≤ e)) n)) (li (filS (fun i => decide (penS pen (↑i : Int) ≤ e)) n)) false) [(.o 128, .flat [.ros 1 (List.length pen) (li pen) false]), (.o 64, .flat [.int .i64 e])], T Try.prog 14 [.int .i64 (SCfg.nodes c)] [] (.int .i64 s) [], decide ((↑(List.length (filS (fun i => decide (penS pen (↑i : Int) ≤ e)) n)) : Int) < s) = false, q (List.length (filS (fun i => decide (penS pen (↑i : Int) ≤ e)) n)), ∀ (k : Nat), k < List.length (filS (fun i => decide (penS pen (↑i : Int) ≤ e)) n) → [V.int IntKind.i64 (List.getD (filS (fun i => decide (penS pen (↑i : Int) ≤ e)) n) k (0 : Int))] = [V.int IntKind.i64 (List.getD (filS (fun i => decide (penS pen (↑i : Int) ≤ e)) n) k (0 : Int))], false = true → false = true]) : Option (V × Heap × List Prop)) := by kernel_rfl

theorem bdPz0_p1 (c : SCfg) (e : Int) (pen : List Int) (bad : List Int) :
  along Try.prog (bdPz0 c e pen bad) [true] = (some (.ros 1 0 (li []) false, [], [T Try.prog 35 [.agg [.int .i64 (SCfg.nodes c), .int .i64 (SCfg.clients c), .int .i64 (SCfg.window c), .int .i64 (SCfg.buckets c), .int .i64 (SCfg.cap c), .int .i64 (SCfg.slots c), .int .i64 (SCfg.requests c), .int .i64 (SCfg.timeout c), .int .i64 (SCfg.penalty c), .int .i64 (SCfg.last c)], .int .i64 e] [] (.bool false) [], q2, nat_lit 0 = (0 : Nat)]) : Option (V × Heap × List Prop)) := by kernel_rfl

theorem bdPz1_p0 (c : SCfg) (e : Int) (pen : List Int) (bad : List Int) (n : Nat) (r : List Int) :
  along Try.prog (bdPz1 c e pen bad n r) [false] = some (V.ros (1 : Nat) (List.length r) (li r) false, [], [T Try.prog (35 : Nat) [V.agg [V.int IntKind.i64 (SCfg.nodes c), V.int IntKind.i64 (SCfg.clients c), V.int IntKind.i64 (SCfg.window c), V.int IntKind.i64 (SCfg.buckets c), V.int IntKind.i64 (SCfg.cap c), V.int IntKind.i64 (SCfg.slots c), V.int IntKind.i64 (SCfg.requests c), V.int IntKind.i64 (SCfg.timeout c), V.int IntKind.i64 (SCfg.penalty c), V.int IntKind.i64 (SCfg.last c)], V.int IntKind.i64 e] [] (V.bool true) [], false = false, (0 : Int) ≤ SCfg.nodes c ∧ SCfg.nodes c ≤ SCfg.nodes c, (8 : Int) * SCfg.nodes c ≤ (281474976710656 : Int), SCfg.nodes c ≤ (281474976710656 : Int), RLoop Try.prog none (0 : Nat) (cB (cB (cR (cL (cR (cR (cR (bodyOf (Bd.f (bdPz1 c e pen bad n r)))))))))) (n + (1 : Nat)) (St.mk [V.any, V.int IntKind.i64 e, V.ros (1 : Nat) (List.length pen) (li pen) false, V.ros (1 : Nat) (List.length bad) (li bad) false, V.ptr (Nm.o (0 : Nat)) (0 : Nat) (0 : Nat) (0 : Nat) (0 : Nat), V.any, V.any, V.any, V.any, V.sl (Nm.o (1 : Nat)) (1 : Nat) (0 : Nat) (0 : Nat) (0 : Nat) n (some n), V.any, V.any, V.any, V.any, V.any, V.any, V.any, V.any, V.any, V.int IntKind.i64 (↑n : Int), V.int IntKind.i64 (0 : Int), V.any, V.any, V.any, V.any, V.any, V.any, V.any, V.any, V.any, V.any, V.any, V.any, V.any, V.any, V.any, V.any, V.any, V.any, V.any, V.any, V.any] [(Nm.o (0 : Nat), B.flat [V.int IntKind.i64 (SCfg.nodes c), V.int IntKind.i64 (SCfg.clients c), V.int IntKind.i64 (SCfg.window c), V.int IntKind.i64 (SCfg.buckets c), V.int IntKind.i64 (SCfg.cap c), V.int IntKind.i64 (SCfg.slots c), V.int IntKind.i64 (SCfg.requests c), V.int IntKind.i64 (SCfg.timeout c), V.int IntKind.i64 (SCfg.penalty c), V.int IntKind.i64 (SCfg.last c)]), (Nm.o (1 : Nat), B.rows (1 : Nat) n (pzL c e pen bad n (0 : Nat)) false)] (2 : Nat) []) (Exit.exit (0 : Nat)) (St.mk [V.any, V.int IntKind.i64 e, V.ros (1 : Nat) (List.length pen) (li pen) false, V.ros (1 : Nat) (List.length bad) (li bad) false, V.ptr (Nm.o (0 : Nat)) (0 : Nat) (0 : Nat) (0 : Nat) (0 : Nat), V.any, V.any, V.any, V.any, V.sl (Nm.o (1 : Nat)) (1 : Nat) (0 : Nat) (0 : Nat) (0 : Nat) n (some n), V.any, V.any, V.any, V.any, V.any, V.any, V.any, V.any, V.any, V.int IntKind.i64 (↑n : Int), V.int IntKind.i64 (↑n : Int), V.any, V.any, V.any, V.any, V.any, V.any, V.any, V.any, V.any, V.any, V.any, V.any, V.any, V.any, V.any, V.any, V.any, V.any, V.any, V.any, V.any] [(Nm.o (0 : Nat), B.flat [V.int IntKind.i64 (SCfg.nodes c), V.int IntKind.i64 (SCfg.clients c), V.int IntKind.i64 (SCfg.window c), V.int IntKind.i64 (SCfg.buckets c), V.int IntKind.i64 (SCfg.cap c), V.int IntKind.i64 (SCfg.slots c), V.int IntKind.i64 (SCfg.requests c), V.int IntKind.i64 (SCfg.timeout c), V.int IntKind.i64 (SCfg.penalty c), V.int IntKind.i64 (SCfg.last c)]), (Nm.o (1 : Nat), B.rows (1 : Nat) n (pzL c e pen bad n n) false)] (2 : Nat) []), SCfg.nodes c = SCfg.nodes c, SCfg.clients c = SCfg.clients c, SCfg.window c = SCfg.window c, SCfg.buckets c = SCfg.buckets c, SCfg.cap c = SCfg.cap c, SCfg.slots c = SCfg.slots c, SCfg.requests c = SCfg.requests c, SCfg.timeout c = SCfg.timeout c, SCfg.penalty c = SCfg.penalty c, SCfg.last c = SCfg.last c, Int.toNat (SCfg.nodes c) = n, ∀ (k : Nat), k < Int.toNat (SCfg.nodes c) → [V.int IntKind.i64 (0 : Int)] = [V.int IntKind.i64 (0 : Int)], false = false → false = false, e = e, List.length pen = List.length pen, ∀ (k : Nat), k < List.length pen → [V.int IntKind.i64 (List.getD pen k (0 : Int))] = [V.int IntKind.i64 (List.getD pen k (0 : Int))], false = true → false = true, List.length bad = List.length bad, ∀ (k : Nat), k < List.length bad → [V.int IntKind.i64 (List.getD bad k (0 : Int))] = [V.int IntKind.i64 (List.getD bad k (0 : Int))], false = true → false = true, (0 : Nat) = (0 : Nat), (0 : Nat) = (0 : Nat), (0 : Nat) = (0 : Nat), (0 : Nat) = (0 : Nat), (0 : Nat) = (0 : Nat), (0 : Nat) = (0 : Nat), Int.toNat (SCfg.nodes c) = n, some n = none ∨ some n = some (Int.toNat (SCfg.nodes c)), (↑(Int.toNat (SCfg.nodes c)) : Int) = (↑n : Int), (0 : Int) = (0 : Int), n = List.length r, (0 : Nat) + n ≤ n, ∀ (k : Nat), k < n → [V.int IntKind.i64 (if (0 : Nat) + k < n then pzS c e pen bad ((0 : Nat) + k) else (0 : Int))] = [V.int IntKind.i64 (List.getD r k (0 : Int))], false = true → some n = some n]) := by kernel_rfl

noncomputable def pcPz_c (c : SCfg) (e : Int) (pen : List Int) (bad : List Int) (n : Nat) (k : Nat) (p : Int) (b : Bool) : Nat → List Prop
 | 0 => [decide ((↑k : Int) < (↑n : Int)) = true, T Try.prog 38 [.ros 1 (List.length pen) (li pen) false, .int .i64 ↑k] [] (.int .i64 p) [], (0 : Int) ≤ (↑k : Int) ∧ (↑k : Int) < (↑n : Int), (0 : Nat) + Int.toNat (↑k : Int) < n, q (SCfg.nodes c), q (SCfg.clients c), q (SCfg.window c), q (SCfg.buckets c), q (SCfg.cap c), q (SCfg.slots c), q (SCfg.requests c), q (SCfg.timeout c), q (SCfg.penalty c), q (SCfg.last c), q n, ∀ (k_1 : Nat), k_1 < n → Bool.rec [V.int IntKind.i64 (if k_1 < k then pzS c e pen bad k_1 else (0 : Int))] [V.int IntKind.i64 p] (Nat.beq k_1 ((0 : Nat) + Int.toNat (↑k : Int))) = [V.int IntKind.i64 (if k_1 < k then pzS c e pen bad k_1 else if k_1 = k then p else (0 : Int))], false = false → false = false, q e, q (List.length pen), ∀ (k : Nat), k < List.length pen → [V.int IntKind.i64 (List.getD pen k (0 : Int))] = [V.int IntKind.i64 (List.getD pen k (0 : Int))], false = true → false = true, q (List.length bad), ∀ (k : Nat), k < List.length bad → [V.int IntKind.i64 (List.getD bad k (0 : Int))] = [V.int IntKind.i64 (List.getD bad k (0 : Int))], false = true → false = true, q0, q0, q0, q0, q0, q0, q n, some n = none ∨ some n = some n, q (↑k : Int), q (↑n : Int), q (↑k : Int), T Try.prog 46 [.ros 1 (List.length bad) (li bad) false, .int .i64 ↑k] [] (.bool b) []]
 | _ => []
theorem pcPz_p11 (c : SCfg) (e : Int) (pen : List Int) (bad : List Int) (n : Nat) (k : Nat) (p : Int) (b : Bool) :
 alongPc Try.prog (pcPz c e pen bad n k p b) [true, true] = (some (.normal, St.mk [.any, .int .i64 e, .ros 1 (List.length pen) (li pen) false, .ros 1 (List.length bad) (li bad) false, .ptr (.o 0) 0 0 0 0, .any, .any, .any, .any, .sl (.o 1) 1 0 0 0 n (some n), .any, .any, .any, .any, .any, .any, .any, .any, .any, .int .i64 ↑n, .int .i64 (↑(k + 1) : Int), .any, .any, .any, .any, .any, .any, .any, .any, .any, .any, .any, .any, .any, .any, .any, .any, .any, .any, .any, .any, .any] [(.o 0, .flat [.int .i64 (SCfg.nodes c), .int .i64 (SCfg.clients c), .int .i64 (SCfg.window c), .int .i64 (SCfg.buckets c), .int .i64 (SCfg.cap c), .int .i64 (SCfg.slots c), .int .i64 (SCfg.requests c), .int .i64 (SCfg.timeout c), .int .i64 (SCfg.penalty c), .int .i64 (SCfg.last c)]), (.o 1, .rows 1 n (pzL c e pen bad n (k + 1)) false)] 2 [], pcPz_c c e pen bad n k p b 0 ++ [b = true, InR IntKind.i64 (e + (1 : Int)), InR IntKind.i64 (e + (1 : Int) + SCfg.penalty c), (0 : Int) ≤ (↑k : Int) ∧ (↑k : Int) < (↑n : Int), (0 : Nat) + Int.toNat (↑k : Int) < n, InR IntKind.i64 ((↑k : Int) + (1 : Int)), q (SCfg.nodes c), q (SCfg.clients c), q (SCfg.window c), q (SCfg.buckets c), q (SCfg.cap c), q (SCfg.slots c), q (SCfg.requests c), q (SCfg.timeout c), q (SCfg.penalty c), q (SCfg.last c), q n, ∀ (k_1 : Nat), k_1 < n → Bool.rec [V.int IntKind.i64 (if k_1 < k then pzS c e pen bad k_1 else if k_1 = k then p else (0 : Int))] [V.int IntKind.i64 (e + (1 : Int) + SCfg.penalty c)] (Nat.beq k_1 ((0 : Nat) + Int.toNat (↑k : Int))) = [V.int IntKind.i64 (if k_1 < k + (1 : Nat) then pzS c e pen bad k_1 else (0 : Int))], false = false → false = false, q e, q (List.length pen), ∀ (k : Nat), k < List.length pen → [V.int IntKind.i64 (List.getD pen k (0 : Int))] = [V.int IntKind.i64 (List.getD pen k (0 : Int))], false = true → false = true, q (List.length bad), ∀ (k : Nat), k < List.length bad → [V.int IntKind.i64 (List.getD bad k (0 : Int))] = [V.int IntKind.i64 (List.getD bad k (0 : Int))], false = true → false = true, q0, q0, q0, q0, q0, q0, q n, some n = none ∨ some n = some n, q (↑n : Int), (↑k : Int) + (1 : Int) = (↑(k + (1 : Nat)) : Int)]) : Option (Exit × St × List Prop)) := by kernel_rfl
theorem pcPz_p10 (c : SCfg) (e : Int) (pen : List Int) (bad : List Int) (n : Nat) (k : Nat) (p : Int) (b : Bool) :
 alongPc Try.prog (pcPz c e pen bad n k p b) [true, false] = (some (.normal, St.mk [.any, .int .i64 e, .ros 1 (List.length pen) (li pen) false, .ros 1 (List.length bad) (li bad) false, .ptr (.o 0) 0 0 0 0, .any, .any, .any, .any, .sl (.o 1) 1 0 0 0 n (some n), .any, .any, .any, .any, .any, .any, .any, .any, .any, .int .i64 ↑n, .int .i64 (↑(k + 1) : Int), .any, .any, .any, .any, .any, .any, .any, .any, .any, .any, .any, .any, .any, .any, .any, .any, .any, .any, .any, .any, .any] [(.o 0, .flat [.int .i64 (SCfg.nodes c), .int .i64 (SCfg.clients c), .int .i64 (SCfg.window c), .int .i64 (SCfg.buckets c), .int .i64 (SCfg.cap c), .int .i64 (SCfg.slots c), .int .i64 (SCfg.requests c), .int .i64 (SCfg.timeout c), .int .i64 (SCfg.penalty c), .int .i64 (SCfg.last c)]), (.o 1, .rows 1 n (pzL c e pen bad n (k + 1)) false)] 2 [], pcPz_c c e pen bad n k p b 0 ++ [b = false, InR IntKind.i64 ((↑k : Int) + (1 : Int)), q (SCfg.nodes c), q (SCfg.clients c), q (SCfg.window c), q (SCfg.buckets c), q (SCfg.cap c), q (SCfg.slots c), q (SCfg.requests c), q (SCfg.timeout c), q (SCfg.penalty c), q (SCfg.last c), q n, ∀ (k_1 : Nat), k_1 < n → [V.int IntKind.i64 (if k_1 < k then pzS c e pen bad k_1 else if k_1 = k then p else (0 : Int))] = [V.int IntKind.i64 (if k_1 < k + (1 : Nat) then pzS c e pen bad k_1 else (0 : Int))], false = false → false = false, q e, q (List.length pen), ∀ (k : Nat), k < List.length pen → [V.int IntKind.i64 (List.getD pen k (0 : Int))] = [V.int IntKind.i64 (List.getD pen k (0 : Int))], false = true → false = true, q (List.length bad), ∀ (k : Nat), k < List.length bad → [V.int IntKind.i64 (List.getD bad k (0 : Int))] = [V.int IntKind.i64 (List.getD bad k (0 : Int))], false = true → false = true, q0, q0, q0, q0, q0, q0, q n, some n = none ∨ some n = some n, q (↑n : Int), (↑k : Int) + (1 : Int) = (↑(k + (1 : Nat)) : Int)]) : Option (Exit × St × List Prop)) := by kernel_rfl
theorem pcPz_p0 (c : SCfg) (e : Int) (pen : List Int) (bad : List Int) (n : Nat) (k : Nat) (p : Int) (b : Bool) :
 alongPc Try.prog (pcPz c e pen bad n k p b) [false] = (some (.exit 0, St.mk [.any, .int .i64 e, .ros 1 (List.length pen) (li pen) false, .ros 1 (List.length bad) (li bad) false, .ptr (.o 0) 0 0 0 0, .any, .any, .any, .any, .sl (.o 1) 1 0 0 0 n (some n), .any, .any, .any, .any, .any, .any, .any, .any, .any, .int .i64 ↑n, .int .i64 ↑n, .any, .any, .any, .any, .any, .any, .any, .any, .any, .any, .any, .any, .any, .any, .any, .any, .any, .any, .any, .any, .any] [(.o 0, .flat [.int .i64 (SCfg.nodes c), .int .i64 (SCfg.clients c), .int .i64 (SCfg.window c), .int .i64 (SCfg.buckets c), .int .i64 (SCfg.cap c), .int .i64 (SCfg.slots c), .int .i64 (SCfg.requests c), .int .i64 (SCfg.timeout c), .int .i64 (SCfg.penalty c), .int .i64 (SCfg.last c)]), (.o 1, .rows 1 n (pzL c e pen bad n n) false)] 2 [], [decide ((↑k : Int) < (↑n : Int)) = false, q (SCfg.nodes c), q (SCfg.clients c), q (SCfg.window c), q (SCfg.buckets c), q (SCfg.cap c), q (SCfg.slots c), q (SCfg.requests c), q (SCfg.timeout c), q (SCfg.penalty c), q (SCfg.last c), q n, ∀ (k_1 : Nat), k_1 < n → [V.int IntKind.i64 (if k_1 < k then pzS c e pen bad k_1 else (0 : Int))] = [V.int IntKind.i64 (if k_1 < n then pzS c e pen bad k_1 else (0 : Int))], false = false → false = false, q e, q (List.length pen), ∀ (k : Nat), k < List.length pen → [V.int IntKind.i64 (List.getD pen k (0 : Int))] = [V.int IntKind.i64 (List.getD pen k (0 : Int))], false = true → false = true, q (List.length bad), ∀ (k : Nat), k < List.length bad → [V.int IntKind.i64 (List.getD bad k (0 : Int))] = [V.int IntKind.i64 (List.getD bad k (0 : Int))], false = true → false = true, q0, q0, q0, q0, q0, q0, q n, some n = none ∨ some n = some n, q (↑n : Int), (↑k : Int) = (↑n : Int)]) : Option (Exit × St × List Prop)) := by kernel_rfl

def listS (c : SCfg) (e : Int) (pen : List Int) : List Int := if mayS c e = true then (if ((filS (fun i => decide (penS pen i ≤ e)) c.nodes.toNat).length : Int) < someS c.nodes then filS (fun _ => true) c.nodes.toNat else filS (fun i => decide (penS pen i ≤ e)) c.nodes.toNat) else []
theorem mayS_iff {c : SCfg} {e : Int} : mayS c e = true ↔ goodC c = true ∧ 1 ≤ e ∧ e ≤ 1048576 := by
 simp only [mayS, Bool.and_eq_true, decide_eq_true_eq]
theorem nodesB {c : SCfg} (h : goodC c = true) : 4 ≤ c.nodes ∧ c.nodes ≤ 64 ∧ c.nodes % 3 = 1 := goodN_iff.1 (goodC_iff.1 h).1
theorem T_sa (pen : List Int) (e : Int) (n : Nat) (hn : n ≤ 1000000) : T Try.prog 36 [.int .i64 n, .fn (.func 37) [] [.ptr (.o 128) 0 0 0 0, .ptr (.o 64) 0 0 0 0]] [(.o 128, .flat [lr pen]), (.o 64, .flat [.int .i64 e])] (lr (filS (fun i => decide (penS pen i ≤ e)) n)) [(.o 128, .flat [lr pen]), (.o 64, .flat [.int .i64 e])] := by
 obtain ⟨σ, hσ, h1⟩ := T.at (T_smA pen e n hn) [.o 0, .o 1] [.o 128, .o 64] (by decide) (by decide) rfl
 simp only [List.map_cons, List.map_nil, List.cons.injEq, and_true] at hσ
 simpa [V.rens, V.ren, lr, hpE, Heap.ren, B.ren, hσ.1, hσ.2] using h1
theorem T_ls (c : SCfg) (e : Int) (pen : List Int) : T Try.prog 13 [.agg c.c, .int .i64 e, lr pen] [] (lr (listS c e pen)) [] := by
 have hM := T_my c e
 cases hg : mayS c e with
 | false =>
  rw [hg] at hM
  refine T.val (T_al (bdLs0_p1 c e pen) Try.func13 ?_) (by rw [listS, hg]; rfl)
  simp only [All, All_append, pcPz_c]; and_intros
  all_goals first
   | assumption
   | rfl
   | trivial
 | true =>
  rw [hg] at hM
  obtain ⟨g1, g2, g3⟩ := nodesB (mayS_iff.1 hg).1
  have hn : ((c.nodes.toNat : Nat) : Int) = c.nodes := Int.toNat_of_nonneg (by omega)
  have hA := T_sa pen e c.nodes.toNat (by omega)
  have hB := T_smB c.nodes.toNat (by omega)
  rw [hn] at hA hB
  have hS := T_sm c.nodes
  by_cases hl : ((filS (fun i => decide (penS pen i ≤ e)) c.nodes.toNat).length : Int) < someS c.nodes
  ·refine T.val (T_al (bdLsA_p01 c e pen c.nodes.toNat (someS c.nodes)) Try.func13 ?_) (by rw [listS, hg, if_pos rfl, if_pos hl]; rfl)
   simp only [All, All_append, pcPz_c]; and_intros
   all_goals first
    | assumption
    | rfl
    | trivial
    | (rw [decide_eq_true_eq]; omega)
    | (rw [decide_eq_false_iff_not]; omega)
    | (intro _ _; rfl)
    | (intro _ _; trivial)
    | (intro h; exact h)
    | exact .inr rfl
    | omega
    | exact InR64.2 (by omega)
  ·refine T.val (T_al (bdLsS_p00 c e pen c.nodes.toNat (someS c.nodes)) Try.func13 ?_) (by rw [listS, hg, if_pos rfl, if_neg hl]; rfl)
   simp only [All, All_append, pcPz_c]; and_intros
   all_goals first
    | assumption
    | rfl
    | trivial
    | (rw [decide_eq_true_eq]; omega)
    | (rw [decide_eq_false_iff_not]; omega)
    | (intro _ _; rfl)
    | (intro _ _; trivial)
    | (intro h; exact h)
    | exact .inr rfl
    | omega
    | exact InR64.2 (by omega)
/-- A list by its elements. -/
def tab (f : Nat → Int) (n : Nat) : List Int := (List.range n).map f
theorem tab_len (f : Nat → Int) (n : Nat) : (tab f n).length = n := by simp [tab]
theorem tab_get {f : Nat → Int} {n i : Nat} (h : i < n) : (tab f n).getD i 0 = f i := by
 rw [tab, List.getD_eq_getElem?_getD, List.getElem?_map, List.getElem?_range h]; rfl
theorem brec_eq {α : Type} {i k : Nat} {a b c : α} (h1 : i ≠ k → a = c) (h2 : i = k → b = c) : (Bool.rec a b (Nat.beq i (0 + k)) : α) = c := by
 rw [Nat.zero_add]
 cases hb : Nat.beq i k with
 | true => exact h2 (Nat.eq_of_beq_eq_true hb)
 | false => exact h1 (fun h => by rw [h, Nat.beq_refl] at hb; cases hb)
def penL (c : SCfg) (e : Int) (pen bad : List Int) : List Int := if mayS c e = true then tab (pzS c e pen bad) c.nodes.toNat else []
theorem T_pz (c : SCfg) (e : Int) (pen : List Int) {bad : List Int} (hb : bad.length ≤ 1000000) : T Try.prog 17 [.agg c.c, .int .i64 e, lr pen, lr bad] [] (lr (penL c e pen bad)) [] := by
 have hM := T_my c e
 cases hg : mayS c e with
 | false =>
  rw [hg] at hM
  refine T.val (T_al (bdPz0_p1 c e pen bad) Try.func17 ?_) (by rw [penL, hg]; rfl)
  simp only [All, All_append, pcPz_c]; and_intros
  all_goals first
   | assumption
   | rfl
   | trivial
 | true =>
  rw [hg] at hM
  obtain ⟨m1, m2, m3⟩ := mayS_iff.1 hg
  obtain ⟨g1, g2, g3⟩ := nodesB m1
  have gp := (goodC_iff.1 m1).2.2.2.2.2.2.2.2.1
  have hn : ((c.nodes.toNat : Nat) : Int) = c.nodes := Int.toNat_of_nonneg (by omega)
  obtain ⟨n, hnn⟩ : ∃ n, c.nodes.toNat = n := ⟨_, rfl⟩
  rw [hnn] at hn
  have hstep : ∀ k, k < n → R Try.prog none 0 (cB (cB (cR (cL (cR (cR (cR (bodyOf Try.f17)))))))) (pzI c e pen bad n k) .normal (pzI c e pen bad n (k + 1)) := fun k hk => by
   have hP := T_pn pen (n := (k : Int)) (by omega)
   have hI := T_in (l := bad) (n := (k : Int)) hb
   by_cases hm : (k : Int) ∈ bad
   ·rw [decide_eq_true hm] at hI
    refine R_alongPc NG MO _ (pcPz_p11 c e pen bad n k (penS pen k) true) ?_ (Nat.zero_le _)
    simp only [All, All_append, pcPz_c, Int.toNat_natCast]; and_intros
    all_goals first
     | exact hP
     | exact hI
     | with_reducible rfl
     | omega
     | (rw [decide_eq_true_eq]; omega)
     | (simp only [IntKind.min, IntKind.max, IntKind.signed, IntKind.bits, if_true]; omega)
     | (intro i hi; refine brec_eq (fun h => ?_) (fun h => ?_)
        · by_cases h1 : i < k
          · rw [if_pos h1, if_pos h1]
          · rw [if_neg h1, if_neg h1, if_neg h]
        · subst h; rw [if_neg (by omega), if_pos rfl])
     | (intro i hi; refine brec_eq (fun h => ?_) (fun h => ?_)
        · by_cases h1 : i < k
          · rw [if_pos h1, if_pos (by omega)]
          · rw [if_neg h1, if_neg h, if_neg (by omega)]
        · subst h; rw [if_pos (by omega), pzS, if_pos hm])
     | (intro _ _; rfl)
     | (intro _ _; trivial)
     | (intro h; exact h)
     | exact .inr rfl
     | omega
     | exact InR64.2 (by omega)
     | (simp [IntKind.min, IntKind.max, IntKind.signed, IntKind.bits] <;> omega)
   ·rw [decide_eq_false hm] at hI
    refine R_alongPc NG MO _ (pcPz_p10 c e pen bad n k (penS pen k) false) ?_ (Nat.zero_le _)
    simp only [All, All_append, pcPz_c, Int.toNat_natCast]; and_intros
    all_goals first
     | exact hP
     | exact hI
     | with_reducible rfl
     | omega
     | (rw [decide_eq_true_eq]; omega)
     | (simp only [IntKind.min, IntKind.max, IntKind.signed, IntKind.bits, if_true]; omega)
     | (intro i hi; refine brec_eq (fun h => ?_) (fun h => ?_)
        · by_cases h1 : i < k
          · rw [if_pos h1, if_pos h1]
          · rw [if_neg h1, if_neg h1, if_neg h]
        · subst h; rw [if_neg (by omega), if_pos rfl])
     | (intro i hi
        by_cases h1 : i < k
        · rw [if_pos h1, if_pos (by omega)]
        · by_cases h2 : i = k
          · subst h2; rw [if_neg (by omega), if_pos rfl, if_pos (by omega), pzS, if_neg hm]
          · rw [if_neg h1, if_neg h2, if_neg (by omega)])
     | (intro i hi; refine brec_eq (fun h => ?_) (fun h => ?_)
        · by_cases h1 : i < k
          · rw [if_pos h1, if_pos (by omega)]
          · rw [if_neg h1, if_neg (by omega)]
        · subst h; rw [if_pos (by omega), pzS, if_neg hm])
     | (intro _ _; rfl)
     | (intro _ _; trivial)
     | (intro h; exact h)
     | exact .inr rfl
     | omega
     | exact InR64.2 (by omega)
     | (simp [IntKind.min, IntKind.max, IntKind.signed, IntKind.bits] <;> omega)
  have hend : R Try.prog none 0 (cB (cB (cR (cL (cR (cR (cR (bodyOf Try.f17)))))))) (pzI c e pen bad n n) (.exit 0) (pzI c e pen bad n n) := by
   refine R_alongPc NG MO _ (pcPz_p0 c e pen bad n n 0 false) ?_ (Nat.zero_le _)
   simp only [All, All_append, pcPz_c]; and_intros
   all_goals first
    | assumption
    | rfl
    | trivial
    | (rw [decide_eq_true_eq]; omega)
    | (rw [decide_eq_false_iff_not]; omega)
    | (intro _ _; rfl)
    | (intro _ _; trivial)
    | (intro h; exact h)
    | exact .inr rfl
    | omega
    | (simp; done)
    | (intro i hi; simp; done)
  have hL := RLoop.inv (pzI c e pen bad n) n hstep hend (by simp)
  refine T.val (T_al (bdPz1_p0 c e pen bad n (tab (pzS c e pen bad) n)) Try.func17 ?_) (by rw [penL, hg, hnn]; rfl)
  simp only [All, All_append, pcPz_c, tab_len]; and_intros
  all_goals first
   | assumption
   | with_reducible rfl
   | omega
   | trivial
   | (intro i hi; rw [Nat.zero_add, if_pos (by omega), tab_get (by omega)])
   | (intro i hi; rw [if_pos (by omega), tab_get (by omega)])
   | (intro _ _; rfl)
   | (intro _ _; trivial)
   | (intro h; exact h)
   | (intro h; cases h; done)
   | (intro _; rw [hnn])
   | (exact .inr (by rw [hnn]))
   | (rw [hnn]; rfl)
end Go.Proofs.Ythifjamdfpjilaa
namespace Go.Proofs.Ythifjamdfpjilaa
open Go Sy Go.Proofs
/-- The parts of a range over a function. -/
def cA : Code → Code
 | .rangeFunc _ _ a _ => a
 | _ => .skip
def cY : Code → Code
 | .rangeFunc _ _ _ b => b
 | _ => .skip
def kRd (n f : Int) : Exit → St → Option W := fun _ t => match getV t.tmps 4 with
 | .fn _ _ [.ptr a _ _ _ _, .ptr b _ _ _ _] => some ⟨[(.o 63, a), (.o 62, b)], [(4, .set (.fn (.func 93) [] [.ptr (.o 63) 0 0 0 0, .ptr (.o 62) 0 0 0 0]))], [(.o 63, .set (.flat [.int .i64 n])), (.o 62, .set (.flat [.int .i64 f]))], none, t.next⟩
 | _ => none
noncomputable def bdRd (n f : Int) : Bd := { f := Try.f45, args := [.int .i64 n, .int .i64 f], kb := kb0, k := kRd n f, names := fun _ => [.o 63, .o 62] }
/-- The loop's record, its state; the blocks that its rounds look at and turn. -/
def owT (c : SCfg) : List V := mkT 35 [(6, .ptr (.o 1) 0 0 0 0), (8, .ptr (.o 2) 0 0 0 0), (29, .fn (.func 93) [] [.ptr (.o 3) 0 0 0 0, .ptr (.o 4) 0 0 0 0])]
def owH (l : List Int) (r : Int) (n f : Int) : Heap := [(.o 1, .flat [lr l]), (.o 2, .flat [.int .i64 r]), (.o 3, .flat [.int .i64 n]), (.o 4, .flat [.int .i64 f])]
def owS (c : SCfg) (l : List Int) (n f : Int) : St := ⟨owT c, owH l 0 n f, 5, []⟩
noncomputable def owC : Code := cB (cR (cL (cR (cR (bodyOf Try.f16)))))
noncomputable def bdOw (c : SCfg) (e : Int) (l : List Int) (b : Int) (g : Bool) (f r : Int) : Bd := { f := Try.f16, args := [.agg c.c, .int .i64 e, lr l, .int .i64 b], kb := { db := dbQ [(35, cVal (.bool g)), (45, fun _ _ lo => [{ val := .fn (.func 93) [] [.ptr (.o lo) 0 0 0 0, .ptr (.o (lo + 1)) 0 0 0 0], post := [(.o lo, .flat [.int .i64 c.nodes]), (.o (lo + 1), .flat [.int .i64 f])] }])], lp := fun _ t => match getV t.tmps 29 with
 | .fn _ _ [.ptr x _ _ _ _, .ptr y _ _ _ _] => [(True, .loop 0 (wToS [(.o 1, nmV (getV t.tmps 6)), (.o 2, nmV (getV t.tmps 8)), (.o 3, x), (.o 4, y)] (owS c l c.nodes f)) .ret ⟨owT c, owH l r c.nodes f ++ [(.o 5, .dfr)], 500, [.o 5]⟩),
    (True, .loop 0 (wToS [(.o 1, nmV (getV t.tmps 6)), (.o 2, nmV (getV t.tmps 8)), (.o 3, x), (.o 4, y)] (owS c l c.nodes f)) .normal ⟨owT c, owH l 0 c.nodes f ++ [(.o 5, .dfr)], 500, [.o 5]⟩)]
 | _ => [] } }
/-- Weaken to this state, one block as it is. -/
def hkeeps (n : Nm) : Heap → List (Nm × HK)
 | [] => []
 | q :: r => (bif q.1.beq n then (q.1, .keep) else (q.1, .set q.2)) :: hkeeps n r
def wToK (n : Nm) (st : St) : W := ⟨[], setsOf (enumT 0 st.tmps), hkeeps n st.heap, none, st.next⟩
/-- The loop's record. -/
noncomputable def owL (fn : FuncId) (c : SCfg) (s : LoopState) (pe : Option Code) : B := .loop fn #[30] (owT c) (cA owC) (cY owC) s pe
def owX (c : SCfg) (x : Int) : List V := mkT 35 [(6, .ptr (.o 1) 0 0 0 0), (8, .ptr (.o 2) 0 0 0 0), (9, .int .i64 x)]
/-- A round. -/
noncomputable def owS1 (fn : FuncId) (c : SCfg) (l : List Int) (x : Int) (s : LoopState) : St := ⟨owX c x, [(.o 6, owL fn c s none), (.o 1, .flat [lr l]), (.o 2, .flat [.int .i64 0])], 600, []⟩
noncomputable def owS2 (fn : FuncId) (c : SCfg) (l : List Int) (r : Int) : St := ⟨mkT 35 [], [(.o 6, owL fn c .busy none), (.o 1, .flat [lr l]), (.o 2, .flat [.int .i64 r])], 700, []⟩
noncomputable def pcAs (qq : Nat) (fn : FuncId) (c : SCfg) (l : List Int) (x : Int) : Pc := { c := cA owC, st := ⟨setMany (owT c) [(30, .int .i64 x)], [(.o 6, owL fn c .ready none), (.o 1, .flat [lr l]), (.o 2, .flat [.int .i64 0])], 7, []⟩, p := 7, kb := kb0, ro := some qq, k := fun _ _ => some (wToK (.o 6) (owS1 fn c l x .ready)) }
noncomputable def pcYb (qq : Nat) (fn : FuncId) (c : SCfg) (l : List Int) (x : Int) (b : Bool) (r : Int) : Pc := { c := cY owC, st := owS1 fn c l x .busy, p := 7, kb := { db := dbQ [(46, cVal (.bool b))] }, ro := some qq, k := fun _ _ => some (wToK (.o 6) (owS2 fn c l r)) }
noncomputable def pcYn (qq : Nat) (fn : FuncId) (c : SCfg) (l : List Int) (x : Int) : Pc := pcYb qq fn c l x false 0
noncomputable def pcYr (qq : Nat) (fn : FuncId) (c : SCfg) (l : List Int) (x : Int) : Pc := pcYb qq fn c l x true x
/-- The iterator. -/
noncomputable def itH (fn : FuncId) (c : SCfg) (l : List Int) (r n f : Int) (s : LoopState) (pe : Option Code) : Heap := (.o 6, owL fn c s pe) :: owH l r n f
noncomputable def itI (fn : FuncId) (c : SCfg) (l : List Int) (n : Nat) (f : Int) (k : Nat) : St := ⟨mkT 18 [(0, .yld (.o 6)), (1, .ptr (.o 3) 0 0 0 0), (2, .ptr (.o 4) 0 0 0 0), (5, .int .i64 n), (6, .int .i64 k)], itH fn c l 0 n f .ready none, 7, []⟩
noncomputable def itF (fn : FuncId) (c : SCfg) (l : List Int) (n : Nat) (f r : Int) : St := ⟨mkT 18 [], itH fn c l r n f .done (some .ret), 7, []⟩
noncomputable def bdIt (fn : FuncId) (c : SCfg) (l : List Int) (n : Nat) (f : Int) (m : Nat) (r : Int) : Bd := { f := Try.f93, args := [.yld (.o 6), .ptr (.o 3) 0 0 0 0, .ptr (.o 4) 0 0 0 0], pre := itH fn c l 0 n f .ready none, base := 7, kb := { db := fun _ _ _ _ => [], lp := fun _ _ => [(True, .loop (n + 1) (wToK (.o 6) (itI fn c l n f 0)) (.exit 0) (itI fn c l n f n)), (True, .loop (m + 1) (wToK (.o 6) (itI fn c l n f 0)) .ret (itF fn c l n f r))] }, names := fun _ => [.o 6, .o 1, .o 2, .o 3, .o 4] }
noncomputable def pcIt (fn : FuncId) (c : SCfg) (l : List Int) (n : Nat) (f : Int) (k : Nat) (b : Bool) (r : Int) (s : LoopState) (pe : Option Code) (w : W) : Pc := { c := cB (cB (cR (bodyOf Try.f93))), st := itI fn c l n f k, p := 7, kb := { db := fun _ _ _ _ => [], vl := fun _ => [{ pre := [.o 6, .o 1, .o 2], val := .bool b, post := [(.o 6, owL fn c s pe), (.o 1, .flat [lr l]), (.o 2, .flat [.int .i64 r])] }] }, k := fun _ _ => some w }
noncomputable def pcIt1 (fn : FuncId) (c : SCfg) (l : List Int) (n : Nat) (f : Int) (k : Nat) : Pc := pcIt fn c l n f k true 0 .ready none (wToK (.o 6) (itI fn c l n f (k + 1)))
noncomputable def pcIt2 (fn : FuncId) (c : SCfg) (l : List Int) (n : Nat) (f : Int) (k : Nat) (r : Int) : Pc := pcIt fn c l n f k false r .done (some .ret) (wToK (.o 6) (itF fn c l n f r))
noncomputable def pcIt0 (fn : FuncId) (c : SCfg) (l : List Int) (n : Nat) (f : Int) : Pc := pcIt fn c l n f n false 0 .ready none (wToK (.o 6) (itI fn c l n f n))
end Go.Proofs.Ythifjamdfpjilaa
namespace Go.Proofs.Ythifjamdfpjilaa
open Go Sy Go.Proofs
theorem bdRd_p (n : Int) (f : Int) :
  along Try.prog (bdRd n f) [] = (some (.fn (.func (93 : FuncId)) [] [.ptr (.o 63) 0 0 0 0, .ptr (.o 62) 0 0 0 0], [(.o 63, .flat [.int .i64 n]), (.o 62, .flat [.int .i64 f])], [q n, q f, q0, q0, q0, q0, q0, q0]) : Option (V × Heap × List Prop)) := by kernel_rfl

noncomputable def bdOw_c (c : SCfg) (e : Int) (l : List Int) (b : Int) (g : Bool) (f : Int) (r : Int) : Nat → List Prop
 | 0 => [T Try.prog 35 [.agg [.int .i64 (SCfg.nodes c), .int .i64 (SCfg.clients c), .int .i64 (SCfg.window c), .int .i64 (SCfg.buckets c), .int .i64 (SCfg.cap c), .int .i64 (SCfg.slots c), .int .i64 (SCfg.requests c), .int .i64 (SCfg.timeout c), .int .i64 (SCfg.penalty c), .int .i64 (SCfg.last c)], .int .i64 e] [] (.bool g) []]
 | 1 => [decide (SCfg.buckets c ≤ b) = false, InR IntKind.i64 (b + e), T Try.prog 45 [.int .i64 (SCfg.nodes c), .int .i64 (b + e)] [] (.fn (.func (93 : FuncId)) [] [.ptr (.o 1408) 0 0 0 0, .ptr (.o 1409) 0 0 0 0]) [(.o 1408, .flat [.int .i64 (SCfg.nodes c)]), (.o 1409, .flat [.int .i64 f])]]
 | _ => []
theorem bdOw_p111 (c : SCfg) (e : Int) (l : List Int) (b : Int) (g : Bool) (f : Int) (r : Int) :
 along Try.prog (bdOw c e l b g f r) [true, true, true] = (some (.int .i64 (-1 : Int), [], bdOw_c c e l b g f r 0 ++ [(!g) = true, q2, q2]) : Option (V × Heap × List Prop)) := by kernel_rfl
theorem bdOw_p011 (c : SCfg) (e : Int) (l : List Int) (b : Int) (g : Bool) (f : Int) (r : Int) :
 along Try.prog (bdOw c e l b g f r) [false, true, true] = (some (.int .i64 (-1 : Int), [], bdOw_c c e l b g f r 0 ++ [(!g) = false, decide (b < (0 : Int)) = true, q2]) : Option (V × Heap × List Prop)) := by kernel_rfl
theorem bdOw_p001 (c : SCfg) (e : Int) (l : List Int) (b : Int) (g : Bool) (f : Int) (r : Int) :
 along Try.prog (bdOw c e l b g f r) [false, false, true] = (some (.int .i64 (-1 : Int), [], bdOw_c c e l b g f r 0 ++ [(!g) = false, decide (b < (0 : Int)) = false, decide (SCfg.buckets c ≤ b) = true]) : Option (V × Heap × List Prop)) := by kernel_rfl
theorem bdOw_p0001 (c : SCfg) (e : Int) (l : List Int) (b : Int) (g : Bool) (f : Int) (r : Int) :
 along Try.prog (bdOw c e l b g f r) [false, false, false, true] = (some (.int .i64 r, [], bdOw_c c e l b g f r 0 ++ ([(!g) = false, decide (b < (0 : Int)) = false] ++ (bdOw_c c e l b g f r 1 ++ [R Try.prog none 0 (cB (cR (cL (cR (cR (bodyOf (Bd.f (bdOw c e l b g f r)))))))) (St.mk [.any, .any, .any, .any, .any, .any, .ptr (.o 1) 0 0 0 0, .any, .ptr (.o 2) 0 0 0 0, .any, .any, .any, .any, .any, .any, .any, .any, .any, .any, .any, .any, .any, .any, .any, .any, .any, .any, .any, .any, .fn (.func (93 : FuncId)) [] [.ptr (.o 3) 0 0 0 0, .ptr (.o 4) 0 0 0 0], .any, .any, .any, .any, .any] [(.o 1, .flat [.ros 1 (List.length l) (li l) false]), (.o 2, .flat [.int .i64 0]), (.o 3, .flat [.int .i64 (SCfg.nodes c)]), (.o 4, .flat [.int .i64 f])] 5 []) .ret (St.mk [.any, .any, .any, .any, .any, .any, .ptr (.o 1) 0 0 0 0, .any, .ptr (.o 2) 0 0 0 0, .any, .any, .any, .any, .any, .any, .any, .any, .any, .any, .any, .any, .any, .any, .any, .any, .any, .any, .any, .any, .fn (.func (93 : FuncId)) [] [.ptr (.o 3) 0 0 0 0, .ptr (.o 4) 0 0 0 0], .any, .any, .any, .any, .any] [(.o 1, .flat [.ros 1 (List.length l) (li l) false]), (.o 2, .flat [.int .i64 r]), (.o 3, .flat [.int .i64 (SCfg.nodes c)]), (.o 4, .flat [.int .i64 f]), (.o 5, B.dfr)] 500 [.o 5]), q (List.length l), ∀ (k : Nat), k < List.length l → [V.int IntKind.i64 (List.getD l k (0 : Int))] = [V.int IntKind.i64 (List.getD l k (0 : Int))], false = true → false = true, q1, q (SCfg.nodes c), q f, q0, q0, q0, q0, q0, q0, q0, q0, q0, q0, q0, q0]))) : Option (V × Heap × List Prop)) := by kernel_rfl
theorem bdOw_p0000 (c : SCfg) (e : Int) (l : List Int) (b : Int) (g : Bool) (f : Int) (r : Int) :
 along Try.prog (bdOw c e l b g f r) [false, false, false, false] = (some (.int .i64 (-1 : Int), [], bdOw_c c e l b g f r 0 ++ ([(!g) = false, decide (b < (0 : Int)) = false] ++ (bdOw_c c e l b g f r 1 ++ [R Try.prog none 0 (cB (cR (cL (cR (cR (bodyOf (Bd.f (bdOw c e l b g f r)))))))) (St.mk [.any, .any, .any, .any, .any, .any, .ptr (.o 1) 0 0 0 0, .any, .ptr (.o 2) 0 0 0 0, .any, .any, .any, .any, .any, .any, .any, .any, .any, .any, .any, .any, .any, .any, .any, .any, .any, .any, .any, .any, .fn (.func (93 : FuncId)) [] [.ptr (.o 3) 0 0 0 0, .ptr (.o 4) 0 0 0 0], .any, .any, .any, .any, .any] [(.o 1, .flat [.ros 1 (List.length l) (li l) false]), (.o 2, .flat [.int .i64 0]), (.o 3, .flat [.int .i64 (SCfg.nodes c)]), (.o 4, .flat [.int .i64 f])] 5 []) .normal (St.mk [.any, .any, .any, .any, .any, .any, .ptr (.o 1) 0 0 0 0, .any, .ptr (.o 2) 0 0 0 0, .any, .any, .any, .any, .any, .any, .any, .any, .any, .any, .any, .any, .any, .any, .any, .any, .any, .any, .any, .any, .fn (.func (93 : FuncId)) [] [.ptr (.o 3) 0 0 0 0, .ptr (.o 4) 0 0 0 0], .any, .any, .any, .any, .any] [(.o 1, .flat [.ros 1 (List.length l) (li l) false]), (.o 2, .flat [.int .i64 0]), (.o 3, .flat [.int .i64 (SCfg.nodes c)]), (.o 4, .flat [.int .i64 f]), (.o 5, B.dfr)] 500 [.o 5]), q (List.length l), ∀ (k : Nat), k < List.length l → [V.int IntKind.i64 (List.getD l k (0 : Int))] = [V.int IntKind.i64 (List.getD l k (0 : Int))], false = true → false = true, q1, q (SCfg.nodes c), q f, q0, q0, q0, q0, q0, q0, q0, q0, q0, q0, q0, q0]))) : Option (V × Heap × List Prop)) := by kernel_rfl

theorem pcAs_p (qq : Nat) (fn : FuncId) (c : SCfg) (l : List Int) (x : Int) :
  alongPc Try.prog (pcAs qq fn c l x) [] = (some (.normal, St.mk [.any, .any, .any, .any, .any, .any, .ptr (.o 1) 0 0 0 0, .any, .ptr (.o 2) 0 0 0 0, .int .i64 x, .any, .any, .any, .any, .any, .any, .any, .any, .any, .any, .any, .any, .any, .any, .any, .any, .any, .any, .any, .any, .any, .any, .any, .any, .any] [(.o 6, B.loop fn (Array.mk [(30 : Tmp)]) [.any, .any, .any, .any, .any, .any, .ptr (.o 1) 0 0 0 0, .any, .ptr (.o 2) 0 0 0 0, .any, .any, .any, .any, .any, .any, .any, .any, .any, .any, .any, .any, .any, .any, .any, .any, .any, .any, .any, .any, .fn (.func (93 : FuncId)) [] [.ptr (.o 3) 0 0 0 0, .ptr (.o 4) 0 0 0 0], .any, .any, .any, .any, .any] (cA owC) (cY owC) LoopState.ready none), (.o 1, .flat [.ros 1 (List.length l) (li l) false]), (.o 2, .flat [.int .i64 0])] 600 [], [q2, q (List.length l), ∀ (k : Nat), k < List.length l → [V.int IntKind.i64 (List.getD l k (0 : Int))] = [V.int IntKind.i64 (List.getD l k (0 : Int))], false = true → false = true, q1, q0, q0, q0, q0, q0, q0, q x]) : Option (Exit × St × List Prop)) := by kernel_rfl

theorem pcYn_p0 (qq : Nat) (fn : FuncId) (c : SCfg) (l : List Int) (x : Int) :
  alongPc Try.prog (pcYn qq fn c l x) [false] = (some (.normal, St.mk [.any, .any, .any, .any, .any, .any, .any, .any, .any, .any, .any, .any, .any, .any, .any, .any, .any, .any, .any, .any, .any, .any, .any, .any, .any, .any, .any, .any, .any, .any, .any, .any, .any, .any, .any] [(.o 6, B.loop fn (Array.mk [(30 : Tmp)]) [.any, .any, .any, .any, .any, .any, .ptr (.o 1) 0 0 0 0, .any, .ptr (.o 2) 0 0 0 0, .any, .any, .any, .any, .any, .any, .any, .any, .any, .any, .any, .any, .any, .any, .any, .any, .any, .any, .any, .any, .fn (.func (93 : FuncId)) [] [.ptr (.o 3) 0 0 0 0, .ptr (.o 4) 0 0 0 0], .any, .any, .any, .any, .any] (cA owC) (cY owC) LoopState.busy none), (.o 1, .flat [.ros 1 (List.length l) (li l) false]), (.o 2, .flat [.int .i64 0])] 700 [], [T Try.prog 46 [.ros 1 (List.length l) (li l) false, .int .i64 x] [] (.bool false) [], q false, q2, q (List.length l), ∀ (k : Nat), k < List.length l → [V.int IntKind.i64 (List.getD l k (0 : Int))] = [V.int IntKind.i64 (List.getD l k (0 : Int))], false = true → false = true, q1]) : Option (Exit × St × List Prop)) := by kernel_rfl

theorem pcYr_p1 (qq : Nat) (fn : FuncId) (c : SCfg) (l : List Int) (x : Int) :
  alongPc Try.prog (pcYr qq fn c l x) [true] = (some (.ret, St.mk [.any, .any, .any, .any, .any, .any, .any, .any, .any, .any, .any, .any, .any, .any, .any, .any, .any, .any, .any, .any, .any, .any, .any, .any, .any, .any, .any, .any, .any, .any, .any, .any, .any, .any, .any] [(.o 6, B.loop fn (Array.mk [(30 : Tmp)]) [.any, .any, .any, .any, .any, .any, .ptr (.o 1) 0 0 0 0, .any, .ptr (.o 2) 0 0 0 0, .any, .any, .any, .any, .any, .any, .any, .any, .any, .any, .any, .any, .any, .any, .any, .any, .any, .any, .any, .any, .fn (.func (93 : FuncId)) [] [.ptr (.o 3) 0 0 0 0, .ptr (.o 4) 0 0 0 0], .any, .any, .any, .any, .any] (cA owC) (cY owC) LoopState.busy none), (.o 1, .flat [.ros 1 (List.length l) (li l) false]), (.o 2, .flat [.int .i64 x])] 700 [], [T Try.prog 46 [.ros 1 (List.length l) (li l) false, .int .i64 x] [] (.bool true) [], q2, q2, q (List.length l), ∀ (k : Nat), k < List.length l → [V.int IntKind.i64 (List.getD l k (0 : Int))] = [V.int IntKind.i64 (List.getD l k (0 : Int))], false = true → false = true, q x]) : Option (Exit × St × List Prop)) := by kernel_rfl

theorem bdIt_p1 (fn : FuncId) (c : SCfg) (l : List Int) (n : Nat) (f : Int) (m : Nat) (r : Int) :
  along Try.prog (bdIt fn c l n f m r) [true] = (some (.tup [], [(.o 6, B.loop fn (Array.mk [(30 : Tmp)]) [.any, .any, .any, .any, .any, .any, .ptr (.o 1) 0 0 0 0, .any, .ptr (.o 2) 0 0 0 0, .any, .any, .any, .any, .any, .any, .any, .any, .any, .any, .any, .any, .any, .any, .any, .any, .any, .any, .any, .any, .fn (.func (93 : FuncId)) [] [.ptr (.o 3) 0 0 0 0, .ptr (.o 4) 0 0 0 0], .any, .any, .any, .any, .any] (cA owC) (cY owC) LoopState.ready none), (.o 1, .flat [.ros 1 (List.length l) (li l) false]), (.o 2, .flat [.int .i64 0]), (.o 3, .flat [.int .i64 ↑n]), (.o 4, .flat [.int .i64 f])], [RLoop Try.prog none 7 (cB (cB (cR (bodyOf (Bd.f (bdIt fn c l n f m r)))))) (n + 1) (St.mk [V.yld (.o 6), .ptr (.o 3) 0 0 0 0, .ptr (.o 4) 0 0 0 0, .any, .any, .int .i64 ↑n, .int .i64 0, .any, .any, .any, .any, .any, .any, .any, .any, .any, .any, .any] [(.o 6, B.loop fn (Array.mk [(30 : Tmp)]) [.any, .any, .any, .any, .any, .any, .ptr (.o 1) 0 0 0 0, .any, .ptr (.o 2) 0 0 0 0, .any, .any, .any, .any, .any, .any, .any, .any, .any, .any, .any, .any, .any, .any, .any, .any, .any, .any, .any, .any, .fn (.func (93 : FuncId)) [] [.ptr (.o 3) 0 0 0 0, .ptr (.o 4) 0 0 0 0], .any, .any, .any, .any, .any] (cA owC) (cY owC) LoopState.ready none), (.o 1, .flat [.ros 1 (List.length l) (li l) false]), (.o 2, .flat [.int .i64 0]), (.o 3, .flat [.int .i64 ↑n]), (.o 4, .flat [.int .i64 f])] 7 []) (.exit 0) (St.mk [V.yld (.o 6), .ptr (.o 3) 0 0 0 0, .ptr (.o 4) 0 0 0 0, .any, .any, .int .i64 ↑n, .int .i64 ↑n, .any, .any, .any, .any, .any, .any, .any, .any, .any, .any, .any] [(.o 6, B.loop fn (Array.mk [(30 : Tmp)]) [.any, .any, .any, .any, .any, .any, .ptr (.o 1) 0 0 0 0, .any, .ptr (.o 2) 0 0 0 0, .any, .any, .any, .any, .any, .any, .any, .any, .any, .any, .any, .any, .any, .any, .any, .any, .any, .any, .any, .any, .fn (.func (93 : FuncId)) [] [.ptr (.o 3) 0 0 0 0, .ptr (.o 4) 0 0 0 0], .any, .any, .any, .any, .any] (cA owC) (cY owC) LoopState.ready none), (.o 1, .flat [.ros 1 (List.length l) (li l) false]), (.o 2, .flat [.int .i64 0]), (.o 3, .flat [.int .i64 ↑n]), (.o 4, .flat [.int .i64 f])] 7 []), q2, q (List.length l), ∀ (k : Nat), k < List.length l → [V.int IntKind.i64 (List.getD l k (0 : Int))] = [V.int IntKind.i64 (List.getD l k (0 : Int))], false = true → false = true, q1, q (↑n : Int), q f, q0, q0, q0, q0, q0, q0, q (↑n : Int), q1]) : Option (V × Heap × List Prop)) := by kernel_rfl
theorem bdIt_p0 (fn : FuncId) (c : SCfg) (l : List Int) (n : Nat) (f : Int) (m : Nat) (r : Int) :
  along Try.prog (bdIt fn c l n f m r) [false] = (some (.tup [], [(.o 6, B.loop fn (Array.mk [(30 : Tmp)]) [.any, .any, .any, .any, .any, .any, .ptr (.o 1) 0 0 0 0, .any, .ptr (.o 2) 0 0 0 0, .any, .any, .any, .any, .any, .any, .any, .any, .any, .any, .any, .any, .any, .any, .any, .any, .any, .any, .any, .any, .fn (.func (93 : FuncId)) [] [.ptr (.o 3) 0 0 0 0, .ptr (.o 4) 0 0 0 0], .any, .any, .any, .any, .any] (cA owC) (cY owC) LoopState.done (some Code.ret)), (.o 1, .flat [.ros 1 (List.length l) (li l) false]), (.o 2, .flat [.int .i64 r]), (.o 3, .flat [.int .i64 ↑n]), (.o 4, .flat [.int .i64 f])], [RLoop Try.prog none 7 (cB (cB (cR (bodyOf (Bd.f (bdIt fn c l n f m r)))))) (m + 1) (St.mk [V.yld (.o 6), .ptr (.o 3) 0 0 0 0, .ptr (.o 4) 0 0 0 0, .any, .any, .int .i64 ↑n, .int .i64 0, .any, .any, .any, .any, .any, .any, .any, .any, .any, .any, .any] [(.o 6, B.loop fn (Array.mk [(30 : Tmp)]) [.any, .any, .any, .any, .any, .any, .ptr (.o 1) 0 0 0 0, .any, .ptr (.o 2) 0 0 0 0, .any, .any, .any, .any, .any, .any, .any, .any, .any, .any, .any, .any, .any, .any, .any, .any, .any, .any, .any, .any, .fn (.func (93 : FuncId)) [] [.ptr (.o 3) 0 0 0 0, .ptr (.o 4) 0 0 0 0], .any, .any, .any, .any, .any] (cA owC) (cY owC) LoopState.ready none), (.o 1, .flat [.ros 1 (List.length l) (li l) false]), (.o 2, .flat [.int .i64 0]), (.o 3, .flat [.int .i64 ↑n]), (.o 4, .flat [.int .i64 f])] 7 []) .ret (St.mk [.any, .any, .any, .any, .any, .any, .any, .any, .any, .any, .any, .any, .any, .any, .any, .any, .any, .any] [(.o 6, B.loop fn (Array.mk [(30 : Tmp)]) [.any, .any, .any, .any, .any, .any, .ptr (.o 1) 0 0 0 0, .any, .ptr (.o 2) 0 0 0 0, .any, .any, .any, .any, .any, .any, .any, .any, .any, .any, .any, .any, .any, .any, .any, .any, .any, .any, .any, .any, .fn (.func (93 : FuncId)) [] [.ptr (.o 3) 0 0 0 0, .ptr (.o 4) 0 0 0 0], .any, .any, .any, .any, .any] (cA owC) (cY owC) LoopState.done (some Code.ret)), (.o 1, .flat [.ros 1 (List.length l) (li l) false]), (.o 2, .flat [.int .i64 r]), (.o 3, .flat [.int .i64 ↑n]), (.o 4, .flat [.int .i64 f])] 7 []), q2, q (List.length l), ∀ (k : Nat), k < List.length l → [V.int IntKind.i64 (List.getD l k (0 : Int))] = [V.int IntKind.i64 (List.getD l k (0 : Int))], false = true → false = true, q1, q (↑n : Int), q f, q0, q0, q0, q0, q0, q0, q (↑n : Int), q1]) : Option (V × Heap × List Prop)) := by kernel_rfl

theorem pcIt1_p10 (fn : FuncId) (c : SCfg) (l : List Int) (n : Nat) (f : Int) (k : Nat) :
  alongPc Try.prog (pcIt1 fn c l n f k) [true, false] = (some (.normal, St.mk [V.yld (.o 6), .ptr (.o 3) 0 0 0 0, .ptr (.o 4) 0 0 0 0, .any, .any, .int .i64 ↑n, .int .i64 (↑(k + 1) : Int), .any, .any, .any, .any, .any, .any, .any, .any, .any, .any, .any] [(.o 6, B.loop fn (Array.mk [(30 : Tmp)]) [.any, .any, .any, .any, .any, .any, .ptr (.o 1) 0 0 0 0, .any, .ptr (.o 2) 0 0 0 0, .any, .any, .any, .any, .any, .any, .any, .any, .any, .any, .any, .any, .any, .any, .any, .any, .any, .any, .any, .any, .fn (.func (93 : FuncId)) [] [.ptr (.o 3) 0 0 0 0, .ptr (.o 4) 0 0 0 0], .any, .any, .any, .any, .any] (cA owC) (cY owC) LoopState.ready none), (.o 1, .flat [.ros 1 (List.length l) (li l) false]), (.o 2, .flat [.int .i64 0]), (.o 3, .flat [.int .i64 ↑n]), (.o 4, .flat [.int .i64 f])] 7 [], [decide ((↑k : Int) < (↑n : Int)) = true, InR IntKind.i64 (f + (↑k : Int)), (0 : Int) ≤ f + (↑k : Int) ∧ (0 : Int) < (↑n : Int), TV Try.prog (V.yld (Nm.o (6 : Nat))) [V.int IntKind.i64 ((f + (↑k : Int)) % (↑n : Int))] [(Nm.o (6 : Nat), B.loop fn (Array.mk [(30 : Tmp)]) [V.any, V.any, V.any, V.any, V.any, V.any, V.ptr (Nm.o (1 : Nat)) (0 : Nat) (0 : Nat) (0 : Nat) (0 : Nat), V.any, V.ptr (Nm.o (2 : Nat)) (0 : Nat) (0 : Nat) (0 : Nat) (0 : Nat), V.any, V.any, V.any, V.any, V.any, V.any, V.any, V.any, V.any, V.any, V.any, V.any, V.any, V.any, V.any, V.any, V.any, V.any, V.any, V.any, V.fn (Fn.func (93 : FuncId)) [] [V.ptr (Nm.o (3 : Nat)) (0 : Nat) (0 : Nat) (0 : Nat) (0 : Nat), V.ptr (Nm.o (4 : Nat)) (0 : Nat) (0 : Nat) (0 : Nat) (0 : Nat)], V.any, V.any, V.any, V.any, V.any] (cA owC) (cY owC) LoopState.ready none), (Nm.o (1 : Nat), B.flat [V.ros (1 : Nat) (List.length l) (li l) false]), (Nm.o (2 : Nat), B.flat [V.int IntKind.i64 (0 : Int)])] (V.bool true) [(Nm.o (6 : Nat), B.loop fn (Array.mk [(30 : Tmp)]) [V.any, V.any, V.any, V.any, V.any, V.any, V.ptr (Nm.o (1 : Nat)) (0 : Nat) (0 : Nat) (0 : Nat) (0 : Nat), V.any, V.ptr (Nm.o (2 : Nat)) (0 : Nat) (0 : Nat) (0 : Nat) (0 : Nat), V.any, V.any, V.any, V.any, V.any, V.any, V.any, V.any, V.any, V.any, V.any, V.any, V.any, V.any, V.any, V.any, V.any, V.any, V.any, V.any, V.fn (Fn.func (93 : FuncId)) [] [V.ptr (Nm.o (3 : Nat)) (0 : Nat) (0 : Nat) (0 : Nat) (0 : Nat), V.ptr (Nm.o (4 : Nat)) (0 : Nat) (0 : Nat) (0 : Nat) (0 : Nat)], V.any, V.any, V.any, V.any, V.any] (cA owC) (cY owC) LoopState.ready none), (Nm.o (1 : Nat), B.flat [V.ros (1 : Nat) (List.length l) (li l) false]), (Nm.o (2 : Nat), B.flat [V.int IntKind.i64 (0 : Int)])], q false, InR IntKind.i64 ((↑k : Int) + (1 : Int)), q2, q (List.length l), ∀ (k : Nat), k < List.length l → [V.int IntKind.i64 (List.getD l k (0 : Int))] = [V.int IntKind.i64 (List.getD l k (0 : Int))], false = true → false = true, q1, q (↑n : Int), q f, q0, q0, q0, q0, q0, q0, q (↑n : Int), (↑k : Int) + (1 : Int) = (↑(k + (1 : Nat)) : Int)]) : Option (Exit × St × List Prop)) := by kernel_rfl

theorem pcIt2_p11 (fn : FuncId) (c : SCfg) (l : List Int) (n : Nat) (f : Int) (k : Nat) (r : Int) :
  alongPc Try.prog (pcIt2 fn c l n f k r) [true, true] = (some (.ret, St.mk [.any, .any, .any, .any, .any, .any, .any, .any, .any, .any, .any, .any, .any, .any, .any, .any, .any, .any] [(.o 6, B.loop fn (Array.mk [(30 : Tmp)]) [.any, .any, .any, .any, .any, .any, .ptr (.o 1) 0 0 0 0, .any, .ptr (.o 2) 0 0 0 0, .any, .any, .any, .any, .any, .any, .any, .any, .any, .any, .any, .any, .any, .any, .any, .any, .any, .any, .any, .any, .fn (.func (93 : FuncId)) [] [.ptr (.o 3) 0 0 0 0, .ptr (.o 4) 0 0 0 0], .any, .any, .any, .any, .any] (cA owC) (cY owC) LoopState.done (some Code.ret)), (.o 1, .flat [.ros 1 (List.length l) (li l) false]), (.o 2, .flat [.int .i64 r]), (.o 3, .flat [.int .i64 ↑n]), (.o 4, .flat [.int .i64 f])] 7 [], [decide ((↑k : Int) < (↑n : Int)) = true, InR IntKind.i64 (f + (↑k : Int)), (0 : Int) ≤ f + (↑k : Int) ∧ (0 : Int) < (↑n : Int), TV Try.prog (V.yld (Nm.o (6 : Nat))) [V.int IntKind.i64 ((f + (↑k : Int)) % (↑n : Int))] [(Nm.o (6 : Nat), B.loop fn (Array.mk [(30 : Tmp)]) [V.any, V.any, V.any, V.any, V.any, V.any, V.ptr (Nm.o (1 : Nat)) (0 : Nat) (0 : Nat) (0 : Nat) (0 : Nat), V.any, V.ptr (Nm.o (2 : Nat)) (0 : Nat) (0 : Nat) (0 : Nat) (0 : Nat), V.any, V.any, V.any, V.any, V.any, V.any, V.any, V.any, V.any, V.any, V.any, V.any, V.any, V.any, V.any, V.any, V.any, V.any, V.any, V.any, V.fn (Fn.func (93 : FuncId)) [] [V.ptr (Nm.o (3 : Nat)) (0 : Nat) (0 : Nat) (0 : Nat) (0 : Nat), V.ptr (Nm.o (4 : Nat)) (0 : Nat) (0 : Nat) (0 : Nat) (0 : Nat)], V.any, V.any, V.any, V.any, V.any] (cA owC) (cY owC) LoopState.ready none), (Nm.o (1 : Nat), B.flat [V.ros (1 : Nat) (List.length l) (li l) false]), (Nm.o (2 : Nat), B.flat [V.int IntKind.i64 (0 : Int)])] (V.bool false) [(Nm.o (6 : Nat), B.loop fn (Array.mk [(30 : Tmp)]) [V.any, V.any, V.any, V.any, V.any, V.any, V.ptr (Nm.o (1 : Nat)) (0 : Nat) (0 : Nat) (0 : Nat) (0 : Nat), V.any, V.ptr (Nm.o (2 : Nat)) (0 : Nat) (0 : Nat) (0 : Nat) (0 : Nat), V.any, V.any, V.any, V.any, V.any, V.any, V.any, V.any, V.any, V.any, V.any, V.any, V.any, V.any, V.any, V.any, V.any, V.any, V.any, V.any, V.fn (Fn.func (93 : FuncId)) [] [V.ptr (Nm.o (3 : Nat)) (0 : Nat) (0 : Nat) (0 : Nat) (0 : Nat), V.ptr (Nm.o (4 : Nat)) (0 : Nat) (0 : Nat) (0 : Nat) (0 : Nat)], V.any, V.any, V.any, V.any, V.any] (cA owC) (cY owC) LoopState.done (some Code.ret)), (Nm.o (1 : Nat), B.flat [V.ros (1 : Nat) (List.length l) (li l) false]), (Nm.o (2 : Nat), B.flat [V.int IntKind.i64 r])], q2, q2, q (List.length l), ∀ (k : Nat), k < List.length l → [V.int IntKind.i64 (List.getD l k (0 : Int))] = [V.int IntKind.i64 (List.getD l k (0 : Int))], false = true → false = true, q r, q (↑n : Int), q f]) : Option (Exit × St × List Prop)) := by kernel_rfl

theorem pcIt0_p0 (fn : FuncId) (c : SCfg) (l : List Int) (n : Nat) (f : Int) :
  alongPc Try.prog (pcIt0 fn c l n f) [false] = (some (.exit 0, St.mk [V.yld (.o 6), .ptr (.o 3) 0 0 0 0, .ptr (.o 4) 0 0 0 0, .any, .any, .int .i64 ↑n, .int .i64 ↑n, .any, .any, .any, .any, .any, .any, .any, .any, .any, .any, .any] [(.o 6, B.loop fn (Array.mk [(30 : Tmp)]) [.any, .any, .any, .any, .any, .any, .ptr (.o 1) 0 0 0 0, .any, .ptr (.o 2) 0 0 0 0, .any, .any, .any, .any, .any, .any, .any, .any, .any, .any, .any, .any, .any, .any, .any, .any, .any, .any, .any, .any, .fn (.func (93 : FuncId)) [] [.ptr (.o 3) 0 0 0 0, .ptr (.o 4) 0 0 0 0], .any, .any, .any, .any, .any] (cA owC) (cY owC) LoopState.ready none), (.o 1, .flat [.ros 1 (List.length l) (li l) false]), (.o 2, .flat [.int .i64 0]), (.o 3, .flat [.int .i64 ↑n]), (.o 4, .flat [.int .i64 f])] 7 [], [decide ((↑n : Int) < (↑n : Int)) = false, q2, q (List.length l), ∀ (k : Nat), k < List.length l → [V.int IntKind.i64 (List.getD l k (0 : Int))] = [V.int IntKind.i64 (List.getD l k (0 : Int))], false = true → false = true, q1, q (↑n : Int), q f, q0, q0, q0, q0, q0, q0, q (↑n : Int), q (↑n : Int)]) : Option (Exit × St × List Prop)) := by kernel_rfl

theorem T_rd1 (n f : Int) : T Try.prog 45 [.int .i64 n, .int .i64 f] [] (.fn (.func 93) [] [.ptr (.o 63) 0 0 0 0, .ptr (.o 62) 0 0 0 0]) [(.o 63, .flat [.int .i64 n]), (.o 62, .flat [.int .i64 f])] := by
 refine T_al (bdRd_p n f) Try.func45 ?_
 simp [All, All_append, bdOw_c]
theorem T_rd (n f : Int) {a b : Nat} (h : a ≠ b) : T Try.prog 45 [.int .i64 n, .int .i64 f] [] (.fn (.func 93) [] [.ptr (.o a) 0 0 0 0, .ptr (.o b) 0 0 0 0]) [(.o a, .flat [.int .i64 n]), (.o b, .flat [.int .i64 f])] := by
 obtain ⟨σ, hσ, h1⟩ := T.at (T_rd1 n f) [.o 63, .o 62] [.o a, .o b] (by decide) (by simp [h]) rfl
 simp only [List.map_cons, List.map_nil, List.cons.injEq, and_true] at hσ
 simpa [V.rens, V.ren, Heap.ren, B.ren, hσ.1, hσ.2] using h1
theorem owC_eq : owC = .rangeFunc (.tmp 29) #[30] (cA owC) (cY owC) := by kernel_rfl
theorem R_as (q : Nat) (fn : FuncId) (c : SCfg) (l : List Int) (x : Int) : R Try.prog (some q) 7 (cA owC) ⟨setMany (owT c) [(30, .int .i64 x)], [(.o 6, owL fn c .ready none), (.o 1, .flat [lr l]), (.o 2, .flat [.int .i64 0])], 7, []⟩ .normal (owS1 fn c l x .ready) := by
 refine R_alongPc NG MO _ (pcAs_p q fn c l x) ?_ (Nat.le_refl _)
 simp [All, All_append, bdOw_c]
theorem yd_no (fn : FuncId) (c : SCfg) {l : List Int} {x : Int} (hl : l.length ≤ 1000000) (h : ¬ x ∈ l) : TV Try.prog (.yld (.o 6)) [.int .i64 x] [(.o 6, owL fn c .ready none), (.o 1, .flat [lr l]), (.o 2, .flat [.int .i64 0])] (.bool true) [(.o 6, owL fn c .ready none), (.o 1, .flat [lr l]), (.o 2, .flat [.int .i64 0])] := by
 refine TV_round (n := .o 6) (p := 7) (fn := fn) (ps := #[30]) (ts := owT c) (args := [.int .i64 x]) (assign := cA owC) (body := cY owC) (h0 := [(.o 1, .flat [lr l]), (.o 2, .flat [.int .i64 0])]) (h1 := [(.o 1, .flat [lr l]), (.o 2, .flat [.int .i64 0])]) (post := [(.o 1, .flat [lr l]), (.o 2, .flat [.int .i64 0])]) (rest2 := []) (st1 := owS1 fn c l x .ready) (st2 := owS2 fn c l 0) (e := .normal) (s' := .ready) (pe := none)
  rfl (pinH_ok (by kernel_rfl)) (by kernel_rfl) (fun q => R_as q fn c l x) (List.Perm.refl _) (by show 7 ≤ 600; decide) (fun q => ?_) (List.Perm.refl _) (by show 7 ≤ 700; decide) .on (fun q hq => ⟨Nm.pin 7, withinH_ok (by kernel_rfl) q hq, fun m hm => .inl hm⟩)
 have hI := T_in (l := l) (n := x) hl
 rw [decide_eq_false h] at hI
 refine R_alongPc NG MO _ (pcYn_p0 q fn c l x) ?_ (by show 7 ≤ 600; decide)
 simp only [All, All_append, bdOw_c]; and_intros
 all_goals first
  | exact hI
  | rfl
  | trivial
  | (intro _ _; rfl)
  | (intro _ _; trivial)
  | (intro h; exact h)
theorem yd_yes (fn : FuncId) (c : SCfg) {l : List Int} {x : Int} (hl : l.length ≤ 1000000) (h : x ∈ l) : TV Try.prog (.yld (.o 6)) [.int .i64 x] [(.o 6, owL fn c .ready none), (.o 1, .flat [lr l]), (.o 2, .flat [.int .i64 0])] (.bool false) [(.o 6, owL fn c .done (some .ret)), (.o 1, .flat [lr l]), (.o 2, .flat [.int .i64 x])] := by
 refine TV_round (n := .o 6) (p := 7) (fn := fn) (ps := #[30]) (ts := owT c) (args := [.int .i64 x]) (assign := cA owC) (body := cY owC) (h0 := [(.o 1, .flat [lr l]), (.o 2, .flat [.int .i64 0])]) (h1 := [(.o 1, .flat [lr l]), (.o 2, .flat [.int .i64 0])]) (post := [(.o 1, .flat [lr l]), (.o 2, .flat [.int .i64 x])]) (rest2 := []) (st1 := owS1 fn c l x .ready) (st2 := owS2 fn c l x) (e := .ret) (s' := .done) (pe := some .ret)
  rfl (pinH_ok (by kernel_rfl)) (by kernel_rfl) (fun q => R_as q fn c l x) (List.Perm.refl _) (by show 7 ≤ 600; decide) (fun q => ?_) (List.Perm.refl _) (by show 7 ≤ 700; decide) .ret (fun q hq => ⟨Nm.pin 7, withinH_ok (by kernel_rfl) q hq, fun m hm => .inl hm⟩)
 have hI := T_in (l := l) (n := x) hl
 rw [decide_eq_true h] at hI
 refine R_alongPc NG MO _ (pcYr_p1 q fn c l x) ?_ (by show 7 ≤ 600; decide)
 simp only [All, All_append, bdOw_c]; and_intros
 all_goals first
  | exact hI
  | rfl
  | trivial
  | (intro _ _; rfl)
  | (intro _ _; trivial)
  | (intro h; exact h)
/-- The first of these numbers that is in a list. -/
def ownS (l : List Int) (f : Int) (n : Nat) : Int := match (List.range n).find? (fun k => decide ((f + (k : Nat)) % (n : Int) ∈ l)) with
 | some k => (f + (k : Nat)) % (n : Int)
 | none => -1
theorem ownS_none {l : List Int} {f : Int} {n : Nat} (h : ∀ k, k < n → ¬ (f + (k : Nat)) % (n : Int) ∈ l) : ownS l f n = -1 := by
 have : (List.range n).find? (fun k => decide ((f + (k : Nat)) % (n : Int) ∈ l)) = none := by
  rw [List.find?_eq_none]
  intro k hk
  simpa using h k (List.mem_range.1 hk)
 rw [ownS, this]
theorem ownS_some {l : List Int} {f : Int} {n m : Nat} (hm : m < n) (h : ∀ k, k < m → ¬ (f + (k : Nat)) % (n : Int) ∈ l) (h2 : (f + (m : Nat)) % (n : Int) ∈ l) : ownS l f n = (f + (m : Nat)) % (n : Int) := by
 have : (List.range n).find? (fun k => decide ((f + (k : Nat)) % (n : Int) ∈ l)) = some m := by
  rw [List.find?_range_eq_some]
  refine ⟨by simpa using h2, List.mem_range.2 hm, fun j hj => ?_⟩
  simpa using h j hj
 rw [ownS, this]
theorem R_ow (c : SCfg) {l : List Int} {f : Int} {n : Nat} (hl : l.length ≤ 1000000) (hn : 1 ≤ n ∧ n ≤ 64) (hf : 0 ≤ f ∧ f ≤ 1000000000) :
  R Try.prog none 0 owC (owS c l n f) .ret ⟨owT c, owH l (ownS l f n) n f ++ [(.o 5, .dfr)], 500, [.o 5]⟩ ∨ (ownS l f n = -1 ∧ R Try.prog none 0 owC (owS c l n f) .normal ⟨owT c, owH l 0 n f ++ [(.o 5, .dfr)], 500, [.o 5]⟩) := by
 have hloop : ∀ fn, _ := fun fn => loop_all (P := Try.prog) (ro := none) (p := 7) (c := cB (cB (cR (bodyOf Try.f93)))) (I := itI fn c l n f) (F := fun k => itF fn c l n f ((f + (k : Nat)) % (n : Int))) (e := fun _ => .ret) (q := fun k => ¬ (f + (k : Nat)) % (n : Int) ∈ l) (n := n)
   (fun k hk hq => by
    have hY := yd_no fn c hl hq
    refine R_alongPc NG MO _ (pcIt1_p10 fn c l n f k) ?_ (Nat.le_refl _)
    simp only [All, All_append, bdOw_c]; and_intros
    all_goals first
     | exact hY
     | (rw [decide_eq_true_eq]; omega)
     | omega
     | with_reducible rfl
     | (intro _ _; rfl)
     | (intro _ _; trivial)
     | (intro h; exact h)
     | (simp only [IntKind.min, IntKind.max, IntKind.signed, IntKind.bits, if_true]; omega)
     | trivial)
   (fun k hk hq => by
    have hY := yd_yes fn c hl (Classical.not_not.1 hq)
    refine R_alongPc NG MO _ (pcIt2_p11 fn c l n f k ((f + (k : Nat)) % (n : Int))) ?_ (Nat.le_refl _)
    simp only [All, All_append, bdOw_c]; and_intros
    all_goals first
     | exact hY
     | (rw [decide_eq_true_eq]; omega)
     | omega
     | with_reducible rfl
     | (intro _ _; rfl)
     | (intro _ _; trivial)
     | (intro h; exact h)
     | (simp only [IntKind.min, IntKind.max, IntKind.signed, IntKind.bits, if_true]; omega)
     | trivial)
   (by simp) (R_alongPc NG MO _ (pcIt0_p0 fn c l n f) (by
    simp only [All, All_append, bdOw_c]; and_intros
    all_goals first
     | (rw [decide_eq_false_iff_not]; omega)
     | with_reducible rfl
     | (intro _ _; rfl)
     | (intro _ _; trivial)
     | (intro h; exact h)
     | trivial) (Nat.le_refl _)) (by simp)
 rcases first_bad (fun k => ¬ (f + (k : Nat)) % (n : Int) ∈ l) n with h | ⟨m, hm, h, hq⟩
 ·refine .inr ⟨ownS_none h, ?_⟩
  rw [owC_eq]
  refine R_range NG (st := owS c l n f) (k := 93) (caps := [.ptr (.o 3) 0 0 0 0, .ptr (.o 4) 0 0 0 0]) (pre := owH l 0 n f) (rest := []) (post := owH l 0 n f) (val := .tup []) (s := .ready) (pe := none) (nx := 500) (Nat.zero_le _) (by kernel_rfl) (by kernel_rfl) (by simp [owS]) (fun fn => ?_) (by decide) (fun n hn => .inl hn) (by show 5 + 2 ≤ 500; decide) .on
  rcases hloop fn with ⟨_, hL⟩ | ⟨m, hm, _, hq, _⟩
  ·refine T_al (bdIt_p1 fn c l n f 0 0) Try.func93 ?_
   simp only [All, All_append, bdOw_c]; and_intros
   all_goals first
    | exact hL
    | with_reducible rfl
    | (intro _ _; rfl)
    | (intro _ _; trivial)
    | (intro h; exact h)
    | trivial
  ·exact absurd (h m hm) hq
 ·have e := ownS_some hm h (Classical.not_not.1 hq)
  refine .inl ?_
  rw [owC_eq, e]
  refine R_range NG (st := owS c l n f) (k := 93) (caps := [.ptr (.o 3) 0 0 0 0, .ptr (.o 4) 0 0 0 0]) (pre := owH l 0 n f) (rest := []) (post := owH l ((f + (m : Nat)) % (n : Int)) n f) (val := .tup []) (s := .done) (pe := some .ret) (nx := 500) (Nat.zero_le _) (by kernel_rfl) (by kernel_rfl) (by simp [owS]) (fun fn => ?_) (by decide) (fun n hn => .inl (by
    obtain ⟨b, hb⟩ := hn
    simp only [owH, List.mem_cons, Prod.mk.injEq, List.not_mem_nil, or_false] at hb
    rcases hb with ⟨rfl, _⟩ | ⟨rfl, _⟩ | ⟨rfl, _⟩ | ⟨rfl, _⟩ <;> exact ⟨_, by simp [owH]; rfl⟩)) (by show 5 + 2 ≤ 500; decide) .ret
  rcases hloop fn with ⟨hh, _⟩ | ⟨m', hm', h', hq', hL⟩
  ·exact absurd (hh m hm) hq
  ·obtain rfl : m' = m := by
    rcases Nat.lt_trichotomy m' m with g | g | g
    ·exact absurd (h m' g) hq'
    ·exact g
    ·exact absurd (h' m g) hq
   refine T_al (bdIt_p0 fn c l n f m' ((f + (m' : Nat)) % (n : Int))) Try.func93 ?_
   simp only [All, All_append, bdOw_c]; and_intros
   all_goals first
    | exact hL
    | with_reducible rfl
    | (intro _ _; rfl)
    | (intro _ _; trivial)
    | (intro h; exact h)
    | trivial
def ownerS (c : SCfg) (e : Int) (l : List Int) (b : Int) : Int := if mayS c e = true ∧ 0 ≤ b ∧ b < c.buckets then ownS l (b + e) c.nodes.toNat else -1
theorem T_ow (c : SCfg) {e : Int} {l : List Int} {b : Int} (hl : l.length ≤ 1000000) : T Try.prog 16 [.agg c.c, .int .i64 e, lr l, .int .i64 b] [] (.int .i64 (ownerS c e l b)) [] := by
 have hM := T_my c e
 have fin : ∀ {p : List Bool}, True := trivial
 cases hg : mayS c e with
 | false =>
  rw [hg] at hM
  refine T.val (T_al (bdOw_p111 c e l b false 0 0) Try.func16 ?_) (by rw [ownerS, hg, if_neg (by simp)])
  simp only [All, All_append, bdOw_c]; and_intros
  all_goals first
   | exact hM
   | rfl
   | trivial
 | true =>
  rw [hg] at hM
  obtain ⟨m1, m2, m3⟩ := mayS_iff.1 hg
  obtain ⟨g1, g2, g3⟩ := nodesB m1
  have gb := (goodC_iff.1 m1).2.2.2.1
  have hn : ((c.nodes.toNat : Nat) : Int) = c.nodes := Int.toNat_of_nonneg (by omega)
  by_cases h1 : b < 0
  ·refine T.val (T_al (bdOw_p011 c e l b true 0 0) Try.func16 ?_) (by rw [ownerS, if_neg (by omega)])
   simp only [All, All_append, bdOw_c]; and_intros
   all_goals first
    | exact hM
    | exact decide_eq_true h1
    | rfl
    | trivial
  by_cases h2 : c.buckets ≤ b
  ·refine T.val (T_al (bdOw_p001 c e l b true 0 0) Try.func16 ?_) (by rw [ownerS, if_neg (by omega)])
   simp only [All, All_append, bdOw_c]; and_intros
   all_goals first
    | exact hM
    | exact decide_eq_true h2
    | exact decide_eq_false h1
    | rfl
    | trivial
  have hR := R_ow c (l := l) (f := b + e) (n := c.nodes.toNat) hl (by omega) (by omega)
  have hD := T_rd c.nodes (b + e) (a := 1408) (b := 1409) (by decide)
  have eo : ownerS c e l b = ownS l (b + e) c.nodes.toNat := by rw [ownerS, if_pos ⟨hg, by omega, by omega⟩]
  rw [hn] at hR
  rcases hR with hR | ⟨hz, hR⟩
  ·refine T.val (T_al (bdOw_p0001 c e l b true (b + e) (ownS l (b + e) c.nodes.toNat)) Try.func16 ?_) (by rw [eo])
   simp only [All, All_append, bdOw_c]; and_intros
   all_goals first
    | exact hM
    | exact hD
    | exact hR
    | exact decide_eq_false h1
    | exact decide_eq_false h2
    | with_reducible rfl
    | (simp only [IntKind.min, IntKind.max, IntKind.signed, IntKind.bits, if_true]; omega)
    | (intro _ _; rfl)
    | (intro _ _; trivial)
    | (intro h; exact h)
    | trivial
  ·refine T.val (T_al (bdOw_p0000 c e l b true (b + e) 0) Try.func16 ?_) (by rw [eo, hz])
   simp only [All, All_append, bdOw_c]; and_intros
   all_goals first
    | exact hM
    | exact hD
    | exact hR
    | exact decide_eq_false h1
    | exact decide_eq_false h2
    | with_reducible rfl
    | (simp only [IntKind.min, IntKind.max, IntKind.signed, IntKind.bits, if_true]; omega)
    | (intro _ _; rfl)
    | (intro _ _; trivial)
    | (intro h; exact h)
    | trivial
end Go.Proofs.Ythifjamdfpjilaa
namespace Sy
open Go Go.Lib
variable {P : Program}

/-- A function for which the model stands in. -/
theorem TV_extern {f : FuncId} {e : Array Value → Sem Value} {b args : List V} {pre post : Heap} {val : V}
  (hx : ∀ zs w, (callFunc f zs).run P w = ((e zs).run P w).andThen fun v w' => .ok (.value v) w')
  (h : ∀ U ρ (w : World) (xs m : Array Value), HRel U ρ pre w → VsRel U ρ args xs.toList → VsRel U ρ b m.toList → (∀ n, Heap.dom post n → Heap.dom pre n ∨ ρ n = none) →
   ∃ y w' U' ρ', (e (xs ++ m)).run P w = .ok y w' ∧ Leaves U ρ pre w val post y U' ρ' w') : TV P (.fn (.func f) [] b) args pre val post := by
 intro U ρ w x xs hh hv ha hf
 rw [VRel] at hv
 obtain ⟨l, m, rfl, h1, h2⟩ := hv
 rw [VsRel] at h1
 have hl : l = #[] := by apply Array.ext'; simpa using h1
 subst hl
 obtain ⟨y, w', U', ρ', g1, g2⟩ := h U ρ w xs m hh ha h2 hf
 simp only [Deferred.ofValue, Sem.run_bind, Sem.run_pure, Result.andThen_ok, invoke]
 rw [show (#[] : Array Value) ++ xs ++ m = xs ++ m by simp, hx, g1]
 exact ⟨U', ρ', g2⟩

theorem VsRel_1 {U : Imm} {ρ : Env} {v : V} {l : Array Value} (h : VsRel U ρ [v] l.toList) : ∃ x, l = #[x] ∧ VRel U ρ v x := by
 rw [VsRel] at h
 obtain ⟨x, r, e, h1, h2⟩ := h
 rw [VsRel] at h2
 subst h2
 exact ⟨x, by apply Array.ext'; simpa using e, h1⟩
theorem VsRel_2 {U : Imm} {ρ : Env} {u v : V} {l : Array Value} (h : VsRel U ρ [u, v] l.toList) : ∃ x y, l = #[x, y] ∧ VRel U ρ u x ∧ VRel U ρ v y := by
 rw [VsRel] at h
 obtain ⟨x, r, e, h1, h2⟩ := h
 rw [VsRel] at h2
 obtain ⟨y, r', rfl, h3, h4⟩ := h2
 rw [VsRel] at h4
 subst h4
 exact ⟨x, y, by apply Array.ext'; simpa using e, h1, h3⟩
theorem VRel_sl {U : Imm} {ρ : Env} {n : Nm} {es i o j len : Nat} {cap : Option Nat} {x : Value} (h : VRel U ρ (.sl n es i o j len cap) x) : ∃ p cp, x = .slice p len cp := by
 rw [VRel] at h
 obtain ⟨l, cp, _, _, _, ⟨_, rfl, _⟩ | ⟨_, rfl, rfl, rfl⟩⟩ := h
 ·exact ⟨_, _, rfl⟩
 ·exact ⟨_, _, rfl⟩

/-- reflectlite.ValueOf, of a slice. -/
theorem TV_valueOf {f : FuncId} (hx : ∀ zs w, (callFunc f zs).run P w = ((Extern.ReflectliteValue.unpack (zs.getD 0 (.tuple #[]))).run P w).andThen fun v w' => .ok (.value v) w')
  {t e : TypeId} {ti : TypeInfo} (hi : P.info? t = some ti) (hd : ti.desc = .slice e) {n : Nm} {es i o j len : Nat} {cap : Option Nat} (q : Nat) :
  TV P (.fn (.func f) [] []) [.ifc t (.sl n es i o j len cap)] [] (.agg [.abs P.globals.size t, .ptr (.o q) 0 0 0 0, .int .u64 151]) [(.o q, .flat [.sl n es i o j len cap])] := by
 refine TV_extern (e := fun zs => Extern.ReflectliteValue.unpack (zs.getD 0 (.tuple #[]))) hx fun U ρ w xs m hh ha hm hf => ?_
 obtain ⟨x, rfl, hv⟩ := VsRel_1 ha
 rw [VRel] at hv
 obtain ⟨y, rfl, hy⟩ := hv
 obtain ⟨p, cp, rfl⟩ := VRel_sl hy
 have hq : ρ (.o q) = none := (hf (.o q) ⟨_, List.mem_cons_self ..⟩).resolve_left fun ⟨b, hb⟩ => absurd hb List.not_mem_nil
 have hle := Env.le_add hq ⟨w.heap.size, 1, true⟩
 refine ⟨.agg #[typeHandle P t, .pointer (some ⟨w.heap.size, 0, none⟩), .int .u64 151], _, U, _, ?_, Leaves.new (b := .flat [.sl n es i o j len cap]) (sz := 1) hh hq (w' := w.alloc (.cells #[.slice p len cp] t)) rfl ⟨#[.slice p len cp], t, 0, 0, rfl, rfl, .inl (Nat.le_refl _), ?_⟩ ?_⟩
 ·have := run_valueOf_slice (P := P) t e ti hi hd p len cp w
  have e1 : (#[Value.iface t (.slice p len cp)] ++ m).getD 0 (.tuple #[]) = .iface t (.slice p len cp) := by
   rw [VsRel] at hm
   have hm' : m = #[] := by apply Array.ext'; simpa using hm
   subst hm'; rfl
  simp only [e1]
  exact this
 ·exact (CsRel_one rfl).2 ⟨_, [], rfl, VRel.mono (Imm.le_refl _) hle hy, by rw [CsRel]⟩
 ·rw [VRel]
  refine ⟨_, rfl, ?_⟩
  refine (CsRel_one rfl).2 ⟨_, _, rfl, by rw [VRel]; rfl, (CsRel_one rfl).2 ⟨_, _, rfl, ?_, (CsRel_one rfl).2 ⟨_, _, rfl, by rw [VRel], by rw [CsRel]⟩⟩⟩
  rw [VRel]
  exact ⟨_, Env.add_self, rfl, by simp⟩

/-- Its length. -/
theorem TV_vlen {f : FuncId} (hx : ∀ zs w, (callFunc f zs).run P w = ((Extern.ReflectliteValue.method (Extern.ReflectliteValue.valueError "reflectlite.Value.Len" 0) Extern.ReflectliteValue.len zs).run P w).andThen fun v w' => .ok (.value v) w')
  {t e : TypeId} {ti : TypeInfo} (hi : P.info? t = some ti) (hd : ti.desc = .slice e) (hpk : P.packed t = false) {n : Nm} {es i o j len : Nat} {cap : Option Nat} (q : Nat) :
  TV P (.fn (.func f) [] []) [.agg [.abs P.globals.size t, .ptr (.o q) 0 0 0 0, .int .u64 151]] [(.o q, .flat [.sl n es i o j len cap])] (.int .i64 len) [(.o q, .flat [.sl n es i o j len cap])] := by
 refine TV_extern (e := Extern.ReflectliteValue.method (Extern.ReflectliteValue.valueError "reflectlite.Value.Len" 0) Extern.ReflectliteValue.len) hx fun U ρ w xs m hh ha hm hf => ?_
 obtain ⟨x, rfl, hv⟩ := VsRel_1 ha
 rw [VsRel] at hm
 have hm' : m = #[] := by apply Array.ext'; simpa using hm
 subst hm'
 rw [VRel] at hv
 obtain ⟨c, rfl, hc⟩ := hv
 obtain ⟨x0, r0, e0, h0, hc⟩ := (CsRel_one rfl).1 hc
 obtain ⟨x1, r1, rfl, h1, hc⟩ := (CsRel_one rfl).1 hc
 obtain ⟨x2, r2, rfl, h2, hc⟩ := (CsRel_one rfl).1 hc
 rw [CsRel] at hc; subst hc
 rw [VRel] at h0
 rw [VRel] at h1
 rw [VRel] at h2
 subst h0 h2
 obtain ⟨l, hl, hr, rfl⟩ := h1
 obtain ⟨ob, g1, ⟨cc, el, lo, hi', rfl, g2, g3, g4⟩, _⟩ := hh.real (List.mem_cons_self ..) hl hr
 obtain ⟨y, r, ey, hy, hr2⟩ := (CsRel_one rfl).1 g4
 rw [CsRel] at hr2; subst hr2
 obtain ⟨p, cp, rfl⟩ := VRel_sl hy
 have hcell : w.cell? ⟨l.blk, 0, none⟩ = some (.slice p len cp) := by
  simp only [World.cell?, g1]
  rw [← Array.getElem?_toList, ey]; rfl
 have ec : c = #[typeHandle P t, .pointer (some ⟨l.blk, 0, none⟩), .int .u64 151] := by
  apply Array.ext'
  rw [e0]; simp [typeHandle]
 subst ec
 refine ⟨_, w, U, ρ, ?_, Leaves.same hh (by rw [VRel]) rfl⟩
 rw [show (#[Value.agg #[typeHandle P t, .pointer (some ⟨l.blk, 0, none⟩), .int .u64 151]] ++ #[] : Array Value) = #[.agg #[typeHandle P t, .pointer (some ⟨l.blk, 0, none⟩), .int .u64 151]] by simp]
 exact run_valueLen_slice (P := P) t e ti hi hd hpk ⟨l.blk, 0, none⟩ p len cp w hcell

/-- reflectlite.Swapper, of a slice of two or more elements, of none, of one. -/
theorem TV_swapper {f : FuncId} (hx : ∀ zs w, (callFunc f zs).run P w = ((Extern.ReflectliteSwapper.swapper "internal/reflectlite" (Extern.ReflectliteValue.valueError "Swapper") zs).run P w).andThen fun v w' => .ok (.value v) w')
  {t e : TypeId} {ti ie : TypeInfo} (hi : P.info? t = some ti) (hd : ti.desc = .slice e) (hie : P.info? e = some ie) {ke : Nat} (hke : ∀ w, (Extern.Rtype.kind e).run P w = .ok ke w)
  {n : Nm} {es i o j len k : Nat} {cap : Option Nat} {g : FuncId} (hk : swapperK len ie ke = k) (hf : P.funcs.findIdx? (·.name == "internal/reflectlite" ++ ".Swapper$" ++ toString k) = some g) {bs : List V} (hbs : bs = if k ≤ 2 then [] else [.sl n es i o j len cap, .abs P.globals.size e]) :
  TV P (.fn (.func f) [] []) [.ifc t (.sl n es i o j len cap)] [] (.fn (.func g) [] bs) [] := by
 refine TV_extern (e := Extern.ReflectliteSwapper.swapper "internal/reflectlite" (Extern.ReflectliteValue.valueError "Swapper")) hx fun U ρ w xs m hh ha hm _ => ?_
 obtain ⟨x, rfl, hv⟩ := VsRel_1 ha
 rw [VsRel] at hm
 have hm' : m = #[] := by apply Array.ext'; simpa using hm
 subst hm'
 rw [VRel] at hv
 obtain ⟨y, rfl, hy⟩ := hv
 have hy0 := hy
 obtain ⟨p, cp, rfl⟩ := VRel_sl hy
 refine ⟨_, w, U, ρ, ?_, Leaves.same (val := .fn (.func g) [] bs) (x := .func (.func g) #[] (if swapperK len ie ke ≤ 2 then #[] else #[.slice p len cp, typeHandle P e])) hh ?_ rfl⟩
 ·have := run_swapper_slice (P := P) t e ti ie hi hd hie ke hke p len cp g (by rw [hk]; exact hf) w
  rw [show (#[Value.iface t (.slice p len cp)] ++ #[] : Array Value) = #[.iface t (.slice p len cp)] by simp]
  exact this
 ·rw [VRel]
  refine ⟨_, _, rfl, by simp [VsRel], ?_⟩
  rw [hk, hbs]
  split
  ·simp [VsRel]
  ·rw [VsRel]
   refine ⟨_, _, rfl, hy0, ?_⟩
   rw [VsRel]
   exact ⟨_, _, rfl, by rw [VRel]; rfl, by rw [VsRel]⟩

/-- Two elements change places. -/
def swF (f : Nat → Int) (i j : Nat) : Nat → Int := fun k => if k = i then f j else if k = j then f i else f k
theorem TV_swap {f : FuncId} (hx : ∀ zs w, (callFunc f zs).run P w = ((Extern.ReflectliteSwapper.swap true zs).run P w).andThen fun v w' => .ok (.value v) w')
  {e : TypeId} {ie : TypeInfo} (hie : P.info? e = some ie) (hs : ie.size = 1) (hagg : ∀ w, (isAgg e).run P w = .ok false w) {q n i j : Nat} (hi : i < n) (hj : j < n) (F : Nat → Int) (cap : Option Nat) :
  TV P (.fn (.func f) [] [.sl (.o q) 1 0 0 0 n cap, .abs P.globals.size e]) [.int .i64 i, .int .i64 j] [(.o q, .rows 1 n (fun k => [.int .i64 (F k)]) true)] (.tup []) [(.o q, .rows 1 n (fun k => [.int .i64 (swF F i j k)]) true)] := by
 refine TV_extern (e := Extern.ReflectliteSwapper.swap true) hx fun U ρ w xs m hh ha hm _ => ?_
 obtain ⟨x1, x2, rfl, h1, h2⟩ := VsRel_2 ha
 obtain ⟨m1, m2, rfl, h3, h4⟩ := VsRel_2 hm
 rw [VRel] at h1
 rw [VRel] at h2
 rw [VRel] at h3
 rw [VRel] at h4
 subst h1 h2 h4
 obtain ⟨l, cp, hl, _, _, h3⟩ := h3
 rcases h3 with ⟨hr, rfl, _⟩ | ⟨_, _, rfl, _⟩
 ·obtain ⟨ob, g1, ⟨c, el, lo, hi', rfl, g2, g3, g4, _, g5⟩, _⟩ := hh.real (List.mem_cons_self ..) hl hr
  have cell : ∀ k, k < n → c[k]? = some (.int .i64 (F k)) := fun k hk => by
   obtain ⟨r, r1, r2, r3⟩ := g5 k hk
   obtain ⟨y, t, rfl, hy, ht⟩ := (CsRel_one rfl).1 r1
   rw [CsRel] at ht; subst ht
   rw [VRel] at hy; subst hy
   have := r3 0 (by simp)
   simpa using this
  have hsz : n ≤ c.size := by omega
  have fr : ∀ k, k < n → w.frozen? ⟨l.blk, 0 + k, none⟩ = false := fun k hk => by
   rw [Nat.zero_add]; exact frozen_of g1 g3 (by omega)
  have ce : ∀ k, k < n → w.cell? ⟨l.blk, 0 + k, none⟩ = some (.int .i64 (F k)) := fun k hk => by
   rw [Nat.zero_add]; simp only [World.cell?, g1]; exact cell k hk
  have hrun := run_swap_one (P := P) true e ie hie hs hagg l.blk 0 n cp i j hi hj (.int .i64 (F i)) (.int .i64 (F j)) rfl rfl w (ce i hi) (ce j hj) (fr i hi) (fr j hj)
  have hw1 := setCell_put (off := 0 + i) g1 (.int .i64 (F j))
  have hlt := lt_size g1
  have g1' : (w.setCell ⟨l.blk, 0 + i, none⟩ (.int .i64 (F j))).heap[l.blk]? = some (.cells (c.setIfInBounds (0 + i) (.int .i64 (F j))) el (lo, hi')) := by
   rw [hw1]; simp [hlt]
  have hw2 := setCell_put (off := 0 + j) g1' (.int .i64 (F i))
  refine ⟨.tuple #[], (w.setCell ⟨l.blk, 0 + i, none⟩ (.int .i64 (F j))).setCell ⟨l.blk, 0 + j, none⟩ (.int .i64 (F i)), U, ρ, ?_, Leaves.set (b' := .rows 1 n (fun k => [.int .i64 (swF F i j k)]) true) (o' := .cells ((c.setIfInBounds (0 + i) (.int .i64 (F j))).setIfInBounds (0 + j) (.int .i64 (F i))) el (lo, hi')) hh hl hr ?_ ⟨_, el, lo, hi', rfl, ?_, ?_, ?_, ?_, ?_⟩ (by rw [VRel]; exact ⟨#[], rfl, by simp [VsRel]⟩) ?_⟩
  ·rw [show (#[Value.int .i64 (i : Int), .int .i64 (j : Int)] ++ #[.slice (some ⟨l.blk, 0 * 1 + 0 + 0, none⟩) n cp, .pointer (some ⟨P.globals.size, e, none⟩)] : Array Value) = #[.int .i64 i, .int .i64 j, .slice (some ⟨l.blk, 0, none⟩) n cp, typeHandle P e] by simp [typeHandle]]
   exact hrun
  ·rw [hw2, hw1]; simp
  ·simp only [Array.size_setIfInBounds]; exact g2
  ·simp only [Array.size_setIfInBounds]; exact g3
  ·simp only [Array.size_setIfInBounds]; omega
  ·intro h; cases h
  ·intro k hk
   refine ⟨[.int .i64 (swF F i j k)], (CsRel_one rfl).2 ⟨_, _, rfl, by rw [VRel], by rw [CsRel]⟩, rfl, fun t ht => ?_⟩
   obtain rfl : t = 0 := by simpa using ht
   simp only [Nat.mul_one, Nat.add_zero, List.getElem?_cons_zero, Nat.zero_add]
   rw [Array.getElem?_setIfInBounds, Array.getElem?_setIfInBounds]
   unfold swF
   by_cases hkj : k = j
   ·subst hkj
    by_cases hki : k = i
    ·subst hki; simp [show k < c.size by omega]
    ·simp [Ne.symm hki, show k < c.size by omega, hki]
   ·by_cases hki : k = i
    ·subst hki; simp [Ne.symm hkj, show k < c.size by omega]
    ·simp [Ne.symm hkj, Ne.symm hki, hki, hkj, cell k hk]
  ·rw [hw2, hw1]; exact ⟨rfl, rfl⟩
 ·omega
end Sy
namespace Go.Proofs.Ythifjamdfpjilaa
open Go Sy Go.Proofs
noncomputable abbrev G0 : Nat := Try.prog.globals.size
def ownB (c : SCfg) (e nd x : Int) : Bool := decide ((x + e) % c.nodes = nd)
def rwB (n : Nat) (F : Nat → Int) : B := .rows 1 n (fun k => [.int .i64 (F k)]) true
def lsV : V := .fn (.func 44) [] [.ptr (.o 1) 0 0 0 0, .ptr (.o 2) 0 0 0 0]
noncomputable def swV (n : Nat) : V := .fn (.func 129) [] [.sl (.o 0) 1 0 0 0 n none, .abs G0 3]
noncomputable def dtC (n : Nat) : List V := [lsV, swV n]
def hpS (c : SCfg) (e nd : Int) (n : Nat) (F : Nat → Int) : Heap := [(.o 0, rwB n F), (.o 1, .flat [.fn (.func 42) [] [.ptr (.o 3) 0 0 0 0, .ptr (.o 4) 0 0 0 0, .ptr (.o 5) 0 0 0 0]]), (.o 2, .flat [.sl (.o 0) 1 0 0 0 n none]), (.o 3, .flat [.int .i64 e]), (.o 4, .flat c.c), (.o 5, .flat [.int .i64 nd])]
noncomputable def bdOn (c : SCfg) (e nd x : Int) : Bd := { f := Try.f42, args := [.int .i64 x, .ptr (.o 3) 0 0 0 0, .ptr (.o 4) 0 0 0 0, .ptr (.o 5) 0 0 0 0], pre := [(.o 3, .flat [.int .i64 e]), (.o 4, .flat c.c), (.o 5, .flat [.int .i64 nd])], base := 6, kb := kb0, names := fun _ => [.o 3, .o 4, .o 5] }
noncomputable def bdLe (c : SCfg) (e nd : Int) (n : Nat) (F : Nat → Int) (i j : Nat) (x y : Bool) : Bd := { f := Try.f44, args := [.int .i64 i, .int .i64 j, .ptr (.o 1) 0 0 0 0, .ptr (.o 2) 0 0 0 0], pre := hpS c e nd n F, base := 6, kb := { db := fun _ _ _ lo => bif Nat.blt lo 600 then [{ pre := [.o 3, .o 4, .o 5], val := .bool x, post := [(.o 3, .flat [.int .i64 e]), (.o 4, .flat c.c), (.o 5, .flat [.int .i64 nd])] }] else [{ pre := [.o 3, .o 4, .o 5], val := .bool y, post := [(.o 3, .flat [.int .i64 e]), (.o 4, .flat c.c), (.o 5, .flat [.int .i64 nd])] }] }, names := fun _ => [.o 0, .o 1, .o 2, .o 3, .o 4, .o 5] }
/-- A swap, where it is called. -/
def cSw (n : Nat) (F : Nat → Int) : List V → Heap → Nat → List Cl := fun _ _ _ => [{ sym := true, pre := [.o 0], val := .tup [], post := [(.o 0, rwB n F)] }]
noncomputable def bdS1 (n : Nat) (F G : Nat → Int) (a b : Nat) : Bd := { f := Try.f143, args := [.agg (dtC n), .int .i64 a, .int .i64 b, .int .i64 1], pre := [(.o 0, rwB n F)], base := 6, kb := { db := dbQ [(129, cSw n G)], lp := fun _ _ => [(True, .rounds 3)] }, names := fun _ => [.o 0] }
/-- The last one of a stretch, in front of it; so many steps. -/
def rtF (F : Nat → Int) (a m k : Nat) : Nat → Int := fun t => if a ≤ t ∧ t < a + k then (if t = a then F m else F (t - 1)) else if t = m then (if k = 0 then F m else F (a + k - 1)) else F t
def cSr (n : Nat) (F : Nat → Int) : List V → Heap → Nat → List Cl := fun _ _ _ => [{ pre := [.o 0], val := .tup [], post := [(.o 0, rwB n F)] }]
noncomputable def rtI (n : Nat) (F : Nat → Int) (a m k : Nat) : St := ⟨mkT 53 [(2, .int .i64 m), (4, .ptr (.o 6) 0 0 0 0), (8, .int .i64 (m - a - k : Nat)), (9, .int .i64 1)], [(.o 0, rwB n (rtF F a m k)), (.o 6, .flat (dtC n))], 7, []⟩
noncomputable def bdRt (n : Nat) (F G : Nat → Int) (a m : Nat) : Bd := { f := Try.f142, args := [.agg (dtC n), .int .i64 a, .int .i64 m, .int .i64 (m + 1 : Nat)], pre := [(.o 0, rwB n F)], base := 6, kb := { db := dbQ [(143, cSr n G)], lp := fun _ t => [(True, .loop (m - a) (wToS [(.o 6, nmV (getV t.tmps 4))] (rtI n F a m 0)) (.exit 0) (rtI n F a m (m - a - 1)))] }, names := fun _ => [.o 0] }
noncomputable def pcRt (n : Nat) (F : Nat → Int) (a m k : Nat) : Pc := { c := cB (cB (cL (cR (cR (cR (bodyOf Try.f142)))))), st := rtI n F a m k, p := 6, kb := { db := dbQ [(143, cSr n (rtF F a m (k + 1)))] }, k := fun x_ _ => match x_ with
 | .normal => some (wTo (rtI n F a m (k + 1)))
 | _ => some (wTo (rtI n F a m (m - a - 1))) }
/-- Insertion: so far, within a stretch. -/
def nm6 : List Nm := [.o 0, .o 1, .o 2, .o 3, .o 4, .o 5]
def cLs (c : SCfg) (e nd : Int) (n : Nat) (F : Nat → Int) (x : Bool) : List V → Heap → Nat → List Cl := fun _ _ _ => [{ pre := nm6, val := .bool x, post := hpS c e nd n F }]
def cHp (c : SCfg) (e nd : Int) (n : Nat) (F : Nat → Int) : List V → Heap → Nat → List Cl := fun _ _ _ => [{ pre := nm6, val := .tup [], post := hpS c e nd n F }]
noncomputable def hp6 (c : SCfg) (e nd : Int) (n : Nat) (F : Nat → Int) : Heap := hpS c e nd n F ++ [(.o 6, .flat (dtC n))]
noncomputable def isO (c : SCfg) (e nd : Int) (n a b i : Nat) (F : Nat → Int) : St := ⟨mkT 35 [(1, .int .i64 a), (2, .int .i64 b), (3, .ptr (.o 6) 0 0 0 0), (6, .int .i64 i)], hp6 c e nd n F, 7, []⟩
noncomputable def isI (c : SCfg) (e nd : Int) (n a b i j : Nat) (F : Nat → Int) : St := ⟨mkT 35 [(1, .int .i64 a), (2, .int .i64 b), (3, .ptr (.o 6) 0 0 0 0), (6, .int .i64 i), (7, .int .i64 j)], hp6 c e nd n F, 7, []⟩
noncomputable def bdIs (c : SCfg) (e nd : Int) (n a b : Nat) (F : Nat → Int) (R x : Nat) (G : Nat → Int) : Bd := { f := Try.f134, args := [.agg (dtC n), .int .i64 a, .int .i64 b], pre := hpS c e nd n F, base := 6, kb := { db := fun _ _ _ _ => [], lp := fun _ t => [(True, .loop R (wToS [(.o 6, nmV (getV t.tmps 3))] (isO c e nd n a b (a + 1) F)) (.exit 0) (isO c e nd n a b x G))] }, names := fun _ => nm6 }
noncomputable def pcIo (c : SCfg) (e nd : Int) (n a b i : Nat) (F : Nat → Int) (R j : Nat) (G : Nat → Int) : Pc := { c := cB (cB (cR (cR (bodyOf Try.f134)))), st := isO c e nd n a b i F, p := 6, kb := { db := fun _ _ _ _ => [], lp := fun _ _ => [(True, .loop R (wTo (isI c e nd n a b i i F)) (.exit 2) (isI c e nd n a b i j G))] }, k := fun x_ _ => match x_ with
 | .normal => some (wTo (isO c e nd n a b (i + 1) G))
 | _ => some (wTo (isO c e nd n a b i F)) }
noncomputable def isC : Code := cB (cB (cR (cR (bodyOf Try.f134))))
noncomputable def pcIi (c : SCfg) (e nd : Int) (n a b i j : Nat) (F : Nat → Int) (x : Bool) (w : Exit → W) (G : Nat → Int) : Pc := { c := cB (cB (cR (cB (cL (cR isC))))), st := isI c e nd n a b i j F, p := 6, kb := { db := dbQ [(44, cLs c e nd n F x), (129, cSw n G)] }, k := fun x_ _ => some (w x_) }
noncomputable def pcIi1 (c : SCfg) (e nd : Int) (n a b i j : Nat) (F G : Nat → Int) : Pc := pcIi c e nd n a b i j F true (fun _ => wTo (isI c e nd n a b i (j - 1) G)) G
noncomputable def pcIi0 (c : SCfg) (e nd : Int) (n a b i j : Nat) (F : Nat → Int) (x : Bool) : Pc := pcIi c e nd n a b i j F x (fun _ => wTo (isI c e nd n a b i j F)) F
end Go.Proofs.Ythifjamdfpjilaa
