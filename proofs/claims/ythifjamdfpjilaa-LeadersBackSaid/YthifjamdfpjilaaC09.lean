/-
  Contracts and laws that the claim's theorem leans on, joined out of the texts Lc1 Lg0 (own work of this seat): Contract: the law LeadersBack; The shapes of configs and lists of numbers that are handed in.
-/
import Derived.Test.YthifjamdfpjilaaC04
import Derived.Test.YthifjamdfpjilaaC05
import Derived.Test.YthifjamdfpjilaaC08
set_option linter.unusedVariables false
set_option linter.unusedSimpArgs false
set_option maxHeartbeats 1000000
namespace Go.Proofs.Ythifjamdfpjilaa
open Go Sy Go.Proofs
noncomputable def bdBa_c (c : SCfg) (e : Int) (pen : List Int) (bad : List Int) (sd : Int) (g : Int) (p : List Int) (L : List Int) : Nat → List Prop
 | 0 => [T Try.prog 11 [.agg [.int .i64 (SCfg.nodes c), .int .i64 (SCfg.clients c), .int .i64 (SCfg.window c), .int .i64 (SCfg.buckets c), .int .i64 (SCfg.cap c), .int .i64 (SCfg.slots c), .int .i64 (SCfg.requests c), .int .i64 (SCfg.timeout c), .int .i64 (SCfg.penalty c), .int .i64 (SCfg.last c)]] [] (.int .i64 g) []]
 | _ => []
theorem bdBa_p11111 (c : SCfg) (e : Int) (pen : List Int) (bad : List Int) (sd : Int) (g : Int) (p : List Int) (L : List Int) :
 along Try.prog (bdBa c e pen bad sd g p L) [true, true, true, true, true] = (some (.bool true, [], bdBa_c c e pen bad sd g p L 0 ++ [(!decide (g = (0 : Int))) = true, q2, q2, q2, q2, T Try.prog 12 [] [] (.bool true) []]) : Option (V × Heap × List Prop)) := by kernel_rfl

theorem bdBa_p01111 (c : SCfg) (e : Int) (pen : List Int) (bad : List Int) (sd : Int) (g : Int) (p : List Int) (L : List Int) :
 along Try.prog (bdBa c e pen bad sd g p L) [false, true, true, true, true] = (some (.bool true, [], bdBa_c c e pen bad sd g p L 0 ++ [(!decide (g = (0 : Int))) = false, decide (e < (1 : Int)) = true, q2, q2, q2, T Try.prog 12 [] [] (.bool true) []]) : Option (V × Heap × List Prop)) := by kernel_rfl

theorem bdBa_p00111 (c : SCfg) (e : Int) (pen : List Int) (bad : List Int) (sd : Int) (g : Int) (p : List Int) (L : List Int) :
 along Try.prog (bdBa c e pen bad sd g p L) [false, false, true, true, true] = (some (.bool true, [], bdBa_c c e pen bad sd g p L 0 ++ [(!decide (g = (0 : Int))) = false, decide (e < (1 : Int)) = false, decide ((1048512 : Int) < e) = true, q2, q2, T Try.prog 12 [] [] (.bool true) []]) : Option (V × Heap × List Prop)) := by kernel_rfl

theorem bdBa_p00011 (c : SCfg) (e : Int) (pen : List Int) (bad : List Int) (sd : Int) (g : Int) (p : List Int) (L : List Int) :
 along Try.prog (bdBa c e pen bad sd g p L) [false, false, false, true, true] = (some (.bool true, [], bdBa_c c e pen bad sd g p L 0 ++ [(!decide (g = (0 : Int))) = false, decide (e < (1 : Int)) = false, decide ((1048512 : Int) < e) = false, decide ((200 : Int) < (↑(List.length pen) : Int)) = true, q2, T Try.prog 12 [] [] (.bool true) []]) : Option (V × Heap × List Prop)) := by kernel_rfl

theorem bdBa_p00001 (c : SCfg) (e : Int) (pen : List Int) (bad : List Int) (sd : Int) (g : Int) (p : List Int) (L : List Int) :
 along Try.prog (bdBa c e pen bad sd g p L) [false, false, false, false, true] = (some (.bool true, [], bdBa_c c e pen bad sd g p L 0 ++ [(!decide (g = (0 : Int))) = false, decide (e < (1 : Int)) = false, decide ((1048512 : Int) < e) = false, decide ((200 : Int) < (↑(List.length pen) : Int)) = false, decide ((200 : Int) < (↑(List.length bad) : Int)) = true, T Try.prog 12 [] [] (.bool true) []]) : Option (V × Heap × List Prop)) := by kernel_rfl

theorem bdBa_p000000 (c : SCfg) (e : Int) (pen : List Int) (bad : List Int) (sd : Int) (g : Int) (p : List Int) (L : List Int) :
 along Try.prog (bdBa c e pen bad sd g p L) [false, false, false, false, false, false] = (some (.bool true, [], bdBa_c c e pen bad sd g p L 0 ++ [(!decide (g = (0 : Int))) = false, decide (e < (1 : Int)) = false, decide ((1048512 : Int) < e) = false, decide ((200 : Int) < (↑(List.length pen) : Int)) = false, decide ((200 : Int) < (↑(List.length bad) : Int)) = false, T Try.prog 17 [.agg [.int .i64 (SCfg.nodes c), .int .i64 (SCfg.clients c), .int .i64 (SCfg.window c), .int .i64 (SCfg.buckets c), .int .i64 (SCfg.cap c), .int .i64 (SCfg.slots c), .int .i64 (SCfg.requests c), .int .i64 (SCfg.timeout c), .int .i64 (SCfg.penalty c), .int .i64 (SCfg.last c)], .int .i64 e, .ros 1 (List.length pen) (li pen) false, .ros 1 (List.length bad) (li bad) false] [] (.ros 1 (List.length p) (li p) false) [], InR IntKind.i64 (e + (1 : Int)), InR IntKind.i64 (e + (1 : Int) + SCfg.penalty c), (0 : Int) ≤ IntKind.wrap IntKind.u64 sd ∧ (0 : Int) < (20 : Int), InR IntKind.i64 (IntKind.wrap IntKind.u64 sd % (20 : Int)), InR IntKind.i64 (e + (1 : Int) + SCfg.penalty c + IntKind.wrap IntKind.u64 sd % (20 : Int)), T Try.prog 13 [.agg [.int .i64 (SCfg.nodes c), .int .i64 (SCfg.clients c), .int .i64 (SCfg.window c), .int .i64 (SCfg.buckets c), .int .i64 (SCfg.cap c), .int .i64 (SCfg.slots c), .int .i64 (SCfg.requests c), .int .i64 (SCfg.timeout c), .int .i64 (SCfg.penalty c), .int .i64 (SCfg.last c)], .int .i64 (e + (1 : Int) + SCfg.penalty c + IntKind.wrap .u64 sd % (20 : Int)), .ros 1 (List.length p) (li p) false] [] (.ros 1 (List.length L) (li L) false) [], RLoop Try.prog none 0 (cB (cB (cR (cL (cR (cR (cR (cR (cR (bodyOf (Bd.f (bdBa c e pen bad sd g p L)))))))))))) (List.length bad + 1) (St.mk [.any, .int .i64 e, .ros 1 (List.length pen) (li pen) false, .ros 1 (List.length bad) (li bad) false, .any, .ptr (.o 0) 0 0 0 0, .any, .any, .any, .any, .any, .ros 1 (List.length p) (li p) false, .any, .ros 1 (List.length L) (li L) false, .any, .any, .any, .any, .any, .any, .any, .any, .any, .any, .any, .any, .any, .any, .any, .any, .any, .any, .any, .any, .any, .any, .any, .any, .any, .any, .any, .any, .any, .any, .any, .any, .any, .any, .any, .any, .any, .any, .any, .any, .any, .any, .any, .any, .ros 1 (List.length bad) (li bad) false, .int .i64 (↑(List.length bad) : Int), .int .i64 0, .any, .any, .any, .any, .any, .any, .any, .any, .any, .any, .any, .any, .any, .any, .any, .any, .any, .any, .any, .any, .any, .any, .any, .any, .any, .any, .any, .any, .any, .any, .any, .any, .any, .any, .any, .any, .any, .any, .any, .any, .any, .any, .any, .any, .any, .any, .any, .any, .any, .any, .any, .any, .any, .any, .any, .any, .any, .any, .any, .any, .any, .any, .any, .any] [(.o 0, .flat [.int .i64 (SCfg.nodes c), .int .i64 (SCfg.clients c), .int .i64 (SCfg.window c), .int .i64 (SCfg.buckets c), .int .i64 (SCfg.cap c), .int .i64 (SCfg.slots c), .int .i64 (SCfg.requests c), .int .i64 (SCfg.timeout c), .int .i64 (SCfg.penalty c), .int .i64 (SCfg.last c)])] 1 []) (.exit 0) (St.mk [.any, .int .i64 e, .ros 1 (List.length pen) (li pen) false, .ros 1 (List.length bad) (li bad) false, .any, .ptr (.o 0) 0 0 0 0, .any, .any, .any, .any, .any, .ros 1 (List.length p) (li p) false, .any, .ros 1 (List.length L) (li L) false, .any, .any, .any, .any, .any, .any, .any, .any, .any, .any, .any, .any, .any, .any, .any, .any, .any, .any, .any, .any, .any, .any, .any, .any, .any, .any, .any, .any, .any, .any, .any, .any, .any, .any, .any, .any, .any, .any, .any, .any, .any, .any, .any, .any, .ros 1 (List.length bad) (li bad) false, .int .i64 (↑(List.length bad) : Int), .int .i64 (↑(List.length bad) : Int), .any, .any, .any, .any, .any, .any, .any, .any, .any, .any, .any, .any, .any, .any, .any, .any, .any, .any, .any, .any, .any, .any, .any, .any, .any, .any, .any, .any, .any, .any, .any, .any, .any, .any, .any, .any, .any, .any, .any, .any, .any, .any, .any, .any, .any, .any, .any, .any, .any, .any, .any, .any, .any, .any, .any, .any, .any, .any, .any, .any, .any, .any, .any, .any] [(.o 0, .flat [.int .i64 (SCfg.nodes c), .int .i64 (SCfg.clients c), .int .i64 (SCfg.window c), .int .i64 (SCfg.buckets c), .int .i64 (SCfg.cap c), .int .i64 (SCfg.slots c), .int .i64 (SCfg.requests c), .int .i64 (SCfg.timeout c), .int .i64 (SCfg.penalty c), .int .i64 (SCfg.last c)])] 1 []), q (SCfg.nodes c), q (SCfg.clients c), q (SCfg.window c), q (SCfg.buckets c), q (SCfg.cap c), q (SCfg.slots c), q (SCfg.requests c), q (SCfg.timeout c), q (SCfg.penalty c), q (SCfg.last c), q e, q (List.length pen), ∀ (k : Nat), k < List.length pen → [V.int IntKind.i64 (List.getD pen k (0 : Int))] = [V.int IntKind.i64 (List.getD pen k (0 : Int))], false = true → false = true, q (List.length bad), ∀ (k : Nat), k < List.length bad → [V.int IntKind.i64 (List.getD bad k (0 : Int))] = [V.int IntKind.i64 (List.getD bad k (0 : Int))], false = true → false = true, q0, q0, q0, q (List.length p), ∀ (k : Nat), k < List.length p → [V.int IntKind.i64 (List.getD p k (0 : Int))] = [V.int IntKind.i64 (List.getD p k (0 : Int))], false = true → false = true, q (List.length L), ∀ (k : Nat), k < List.length L → [V.int IntKind.i64 (List.getD L k (0 : Int))] = [V.int IntKind.i64 (List.getD L k (0 : Int))], false = true → false = true, q (List.length bad), ∀ (k : Nat), k < List.length bad → [V.int IntKind.i64 (List.getD bad k (0 : Int))] = [V.int IntKind.i64 (List.getD bad k (0 : Int))], false = true → false = true, q (↑(List.length bad) : Int), q1, (!decide ((↑(List.length p) : Int) = SCfg.nodes c)) = false, RLoop Try.prog none 0 (cB (cB (cR (cL (cR (cR (cR (cR (cR (cR (cR (bodyOf (Bd.f (bdBa c e pen bad sd g p L)))))))))))))) (List.length p + 1) (St.mk [.any, .int .i64 e, .ros 1 (List.length pen) (li pen) false, .ros 1 (List.length bad) (li bad) false, .any, .ptr (.o 0) 0 0 0 0, .any, .any, .any, .any, .any, .ros 1 (List.length p) (li p) false, .any, .any, .any, .any, .any, .any, .any, .any, .any, .any, .any, .any, .any, .any, .any, .any, .any, .any, .any, .any, .any, .any, .any, .any, .any, .any, .any, .any, .any, .any, .any, .any, .any, .any, .any, .any, .any, .any, .any, .any, .any, .any, .any, .any, .any, .any, .any, .any, .any, .any, .any, .any, .any, .any, .any, .any, .any, .any, .any, .any, .any, .any, .any, .any, .any, .any, .any, .any, .any, .any, .any, .any, .ros 1 (List.length p) (li p) false, .int .i64 (↑(List.length p) : Int), .int .i64 0, .any, .any, .any, .any, .any, .any, .any, .any, .any, .any, .any, .any, .any, .any, .any, .any, .any, .any, .any, .any, .any, .any, .any, .any, .any, .any, .any, .any, .any, .any, .any, .any, .any, .any, .any, .any, .any, .any] [(.o 0, .flat [.int .i64 (SCfg.nodes c), .int .i64 (SCfg.clients c), .int .i64 (SCfg.window c), .int .i64 (SCfg.buckets c), .int .i64 (SCfg.cap c), .int .i64 (SCfg.slots c), .int .i64 (SCfg.requests c), .int .i64 (SCfg.timeout c), .int .i64 (SCfg.penalty c), .int .i64 (SCfg.last c)])] 1 []) (.exit 2) (St.mk [.any, .int .i64 e, .ros 1 (List.length pen) (li pen) false, .ros 1 (List.length bad) (li bad) false, .any, .ptr (.o 0) 0 0 0 0, .any, .any, .any, .any, .any, .ros 1 (List.length p) (li p) false, .any, .any, .any, .any, .any, .any, .any, .any, .any, .any, .any, .any, .any, .any, .any, .any, .any, .any, .any, .any, .any, .any, .any, .any, .any, .any, .any, .any, .any, .any, .any, .any, .any, .any, .any, .any, .any, .any, .any, .any, .any, .any, .any, .any, .any, .any, .any, .any, .any, .any, .any, .any, .any, .any, .any, .any, .any, .any, .any, .any, .any, .any, .any, .any, .any, .any, .any, .any, .any, .any, .any, .any, .ros 1 (List.length p) (li p) false, .int .i64 (↑(List.length p) : Int), .int .i64 (↑(List.length p) : Int), .any, .any, .any, .any, .any, .any, .any, .any, .any, .any, .any, .any, .any, .any, .any, .any, .any, .any, .any, .any, .any, .any, .any, .any, .any, .any, .any, .any, .any, .any, .any, .any, .any, .any, .any, .any, .any, .any] [(.o 0, .flat [.int .i64 (SCfg.nodes c), .int .i64 (SCfg.clients c), .int .i64 (SCfg.window c), .int .i64 (SCfg.buckets c), .int .i64 (SCfg.cap c), .int .i64 (SCfg.slots c), .int .i64 (SCfg.requests c), .int .i64 (SCfg.timeout c), .int .i64 (SCfg.penalty c), .int .i64 (SCfg.last c)])] 1 []), q (SCfg.nodes c), q (SCfg.clients c), q (SCfg.window c), q (SCfg.buckets c), q (SCfg.cap c), q (SCfg.slots c), q (SCfg.requests c), q (SCfg.timeout c), q (SCfg.penalty c), q (SCfg.last c), q e, q (List.length pen), ∀ (k : Nat), k < List.length pen → [V.int IntKind.i64 (List.getD pen k (0 : Int))] = [V.int IntKind.i64 (List.getD pen k (0 : Int))], false = true → false = true, q (List.length bad), ∀ (k : Nat), k < List.length bad → [V.int IntKind.i64 (List.getD bad k (0 : Int))] = [V.int IntKind.i64 (List.getD bad k (0 : Int))], false = true → false = true, q0, q0, q0, q (List.length p), ∀ (k : Nat), k < List.length p → [V.int IntKind.i64 (List.getD p k (0 : Int))] = [V.int IntKind.i64 (List.getD p k (0 : Int))], false = true → false = true, q (List.length p), ∀ (k : Nat), k < List.length p → [V.int IntKind.i64 (List.getD p k (0 : Int))] = [V.int IntKind.i64 (List.getD p k (0 : Int))], false = true → false = true, q (↑(List.length p) : Int), q1, T Try.prog 12 [] [] (.bool true) []]) : Option (V × Heap × List Prop)) := by kernel_rfl

theorem pcBi_p1110 (c : SCfg) (e : Int) (pen : List Int) (bad : List Int) (p : List Int) (L : List Int) (k : Nat) (b : Bool) :
  alongPc Try.prog (pcBi c e pen bad p L k b) [true, true, true, false] = (some (.normal, St.mk [.any, .int .i64 e, .ros 1 (List.length pen) (li pen) false, .ros 1 (List.length bad) (li bad) false, .any, .ptr (.o 0) 0 0 0 0, .any, .any, .any, .any, .any, .ros 1 (List.length p) (li p) false, .any, .ros 1 (List.length L) (li L) false, .any, .any, .any, .any, .any, .any, .any, .any, .any, .any, .any, .any, .any, .any, .any, .any, .any, .any, .any, .any, .any, .any, .any, .any, .any, .any, .any, .any, .any, .any, .any, .any, .any, .any, .any, .any, .any, .any, .any, .any, .any, .any, .any, .any, .ros 1 (List.length bad) (li bad) false, .int .i64 (↑(List.length bad) : Int), .int .i64 (↑(k + 1) : Int), .any, .any, .any, .any, .any, .any, .any, .any, .any, .any, .any, .any, .any, .any, .any, .any, .any, .any, .any, .any, .any, .any, .any, .any, .any, .any, .any, .any, .any, .any, .any, .any, .any, .any, .any, .any, .any, .any, .any, .any, .any, .any, .any, .any, .any, .any, .any, .any, .any, .any, .any, .any, .any, .any, .any, .any, .any, .any, .any, .any, .any, .any, .any, .any] [(.o 0, .flat [.int .i64 (SCfg.nodes c), .int .i64 (SCfg.clients c), .int .i64 (SCfg.window c), .int .i64 (SCfg.buckets c), .int .i64 (SCfg.cap c), .int .i64 (SCfg.slots c), .int .i64 (SCfg.requests c), .int .i64 (SCfg.timeout c), .int .i64 (SCfg.penalty c), .int .i64 (SCfg.last c)])] 1 [], [decide ((↑k : Int) < (↑(List.length bad) : Int)) = true, (0 : Int) ≤ (↑k : Int) ∧ (↑k : Int) < (↑(List.length bad) : Int), decide ((0 : Int) ≤ List.getD bad (Int.toNat (↑k : Int)) (0 : Int)) = true, decide (List.getD bad (Int.toNat (↑k : Int)) (0 : Int) < SCfg.nodes c) = true, T Try.prog 18 [.ros 1 (List.length L) (li L) false, .int .i64 (List.getD bad (Int.toNat (↑k : Int)) (0 : Int))] [] (.bool b) [], (!b) = false, InR IntKind.i64 ((↑k : Int) + (1 : Int)), q (SCfg.nodes c), q (SCfg.clients c), q (SCfg.window c), q (SCfg.buckets c), q (SCfg.cap c), q (SCfg.slots c), q (SCfg.requests c), q (SCfg.timeout c), q (SCfg.penalty c), q (SCfg.last c), q e, q (List.length pen), ∀ (k : Nat), k < List.length pen → [V.int IntKind.i64 (List.getD pen k (0 : Int))] = [V.int IntKind.i64 (List.getD pen k (0 : Int))], false = true → false = true, q (List.length bad), ∀ (k : Nat), k < List.length bad → [V.int IntKind.i64 (List.getD bad k (0 : Int))] = [V.int IntKind.i64 (List.getD bad k (0 : Int))], false = true → false = true, q0, q0, q0, q (List.length p), ∀ (k : Nat), k < List.length p → [V.int IntKind.i64 (List.getD p k (0 : Int))] = [V.int IntKind.i64 (List.getD p k (0 : Int))], false = true → false = true, q (List.length L), ∀ (k : Nat), k < List.length L → [V.int IntKind.i64 (List.getD L k (0 : Int))] = [V.int IntKind.i64 (List.getD L k (0 : Int))], false = true → false = true, q (List.length bad), ∀ (k : Nat), k < List.length bad → [V.int IntKind.i64 (List.getD bad k (0 : Int))] = [V.int IntKind.i64 (List.getD bad k (0 : Int))], false = true → false = true, q (↑(List.length bad) : Int), (↑k : Int) + (1 : Int) = (↑(k + (1 : Nat)) : Int)]) : Option (Exit × St × List Prop)) := by kernel_rfl

theorem pcBi_p1100 (c : SCfg) (e : Int) (pen : List Int) (bad : List Int) (p : List Int) (L : List Int) (k : Nat) (b : Bool) :
  alongPc Try.prog (pcBi c e pen bad p L k b) [true, true, false, false] = (some (.normal, St.mk [.any, .int .i64 e, .ros 1 (List.length pen) (li pen) false, .ros 1 (List.length bad) (li bad) false, .any, .ptr (.o 0) 0 0 0 0, .any, .any, .any, .any, .any, .ros 1 (List.length p) (li p) false, .any, .ros 1 (List.length L) (li L) false, .any, .any, .any, .any, .any, .any, .any, .any, .any, .any, .any, .any, .any, .any, .any, .any, .any, .any, .any, .any, .any, .any, .any, .any, .any, .any, .any, .any, .any, .any, .any, .any, .any, .any, .any, .any, .any, .any, .any, .any, .any, .any, .any, .any, .ros 1 (List.length bad) (li bad) false, .int .i64 (↑(List.length bad) : Int), .int .i64 (↑(k + 1) : Int), .any, .any, .any, .any, .any, .any, .any, .any, .any, .any, .any, .any, .any, .any, .any, .any, .any, .any, .any, .any, .any, .any, .any, .any, .any, .any, .any, .any, .any, .any, .any, .any, .any, .any, .any, .any, .any, .any, .any, .any, .any, .any, .any, .any, .any, .any, .any, .any, .any, .any, .any, .any, .any, .any, .any, .any, .any, .any, .any, .any, .any, .any, .any, .any] [(.o 0, .flat [.int .i64 (SCfg.nodes c), .int .i64 (SCfg.clients c), .int .i64 (SCfg.window c), .int .i64 (SCfg.buckets c), .int .i64 (SCfg.cap c), .int .i64 (SCfg.slots c), .int .i64 (SCfg.requests c), .int .i64 (SCfg.timeout c), .int .i64 (SCfg.penalty c), .int .i64 (SCfg.last c)])] 1 [], [decide ((↑k : Int) < (↑(List.length bad) : Int)) = true, (0 : Int) ≤ (↑k : Int) ∧ (↑k : Int) < (↑(List.length bad) : Int), decide ((0 : Int) ≤ List.getD bad (Int.toNat (↑k : Int)) (0 : Int)) = true, decide (List.getD bad (Int.toNat (↑k : Int)) (0 : Int) < SCfg.nodes c) = false, q false, InR IntKind.i64 ((↑k : Int) + (1 : Int)), q (SCfg.nodes c), q (SCfg.clients c), q (SCfg.window c), q (SCfg.buckets c), q (SCfg.cap c), q (SCfg.slots c), q (SCfg.requests c), q (SCfg.timeout c), q (SCfg.penalty c), q (SCfg.last c), q e, q (List.length pen), ∀ (k : Nat), k < List.length pen → [V.int IntKind.i64 (List.getD pen k (0 : Int))] = [V.int IntKind.i64 (List.getD pen k (0 : Int))], false = true → false = true, q (List.length bad), ∀ (k : Nat), k < List.length bad → [V.int IntKind.i64 (List.getD bad k (0 : Int))] = [V.int IntKind.i64 (List.getD bad k (0 : Int))], false = true → false = true, q0, q0, q0, q (List.length p), ∀ (k : Nat), k < List.length p → [V.int IntKind.i64 (List.getD p k (0 : Int))] = [V.int IntKind.i64 (List.getD p k (0 : Int))], false = true → false = true, q (List.length L), ∀ (k : Nat), k < List.length L → [V.int IntKind.i64 (List.getD L k (0 : Int))] = [V.int IntKind.i64 (List.getD L k (0 : Int))], false = true → false = true, q (List.length bad), ∀ (k : Nat), k < List.length bad → [V.int IntKind.i64 (List.getD bad k (0 : Int))] = [V.int IntKind.i64 (List.getD bad k (0 : Int))], false = true → false = true, q (↑(List.length bad) : Int), (↑k : Int) + (1 : Int) = (↑(k + (1 : Nat)) : Int)]) : Option (Exit × St × List Prop)) := by kernel_rfl

theorem pcBi_p1000 (c : SCfg) (e : Int) (pen : List Int) (bad : List Int) (p : List Int) (L : List Int) (k : Nat) (b : Bool) :
  alongPc Try.prog (pcBi c e pen bad p L k b) [true, false, false, false] = (some (.normal, St.mk [.any, .int .i64 e, .ros 1 (List.length pen) (li pen) false, .ros 1 (List.length bad) (li bad) false, .any, .ptr (.o 0) 0 0 0 0, .any, .any, .any, .any, .any, .ros 1 (List.length p) (li p) false, .any, .ros 1 (List.length L) (li L) false, .any, .any, .any, .any, .any, .any, .any, .any, .any, .any, .any, .any, .any, .any, .any, .any, .any, .any, .any, .any, .any, .any, .any, .any, .any, .any, .any, .any, .any, .any, .any, .any, .any, .any, .any, .any, .any, .any, .any, .any, .any, .any, .any, .any, .ros 1 (List.length bad) (li bad) false, .int .i64 (↑(List.length bad) : Int), .int .i64 (↑(k + 1) : Int), .any, .any, .any, .any, .any, .any, .any, .any, .any, .any, .any, .any, .any, .any, .any, .any, .any, .any, .any, .any, .any, .any, .any, .any, .any, .any, .any, .any, .any, .any, .any, .any, .any, .any, .any, .any, .any, .any, .any, .any, .any, .any, .any, .any, .any, .any, .any, .any, .any, .any, .any, .any, .any, .any, .any, .any, .any, .any, .any, .any, .any, .any, .any, .any] [(.o 0, .flat [.int .i64 (SCfg.nodes c), .int .i64 (SCfg.clients c), .int .i64 (SCfg.window c), .int .i64 (SCfg.buckets c), .int .i64 (SCfg.cap c), .int .i64 (SCfg.slots c), .int .i64 (SCfg.requests c), .int .i64 (SCfg.timeout c), .int .i64 (SCfg.penalty c), .int .i64 (SCfg.last c)])] 1 [], [decide ((↑k : Int) < (↑(List.length bad) : Int)) = true, (0 : Int) ≤ (↑k : Int) ∧ (↑k : Int) < (↑(List.length bad) : Int), decide ((0 : Int) ≤ List.getD bad (Int.toNat (↑k : Int)) (0 : Int)) = false, q false, q false, InR IntKind.i64 ((↑k : Int) + (1 : Int)), q (SCfg.nodes c), q (SCfg.clients c), q (SCfg.window c), q (SCfg.buckets c), q (SCfg.cap c), q (SCfg.slots c), q (SCfg.requests c), q (SCfg.timeout c), q (SCfg.penalty c), q (SCfg.last c), q e, q (List.length pen), ∀ (k : Nat), k < List.length pen → [V.int IntKind.i64 (List.getD pen k (0 : Int))] = [V.int IntKind.i64 (List.getD pen k (0 : Int))], false = true → false = true, q (List.length bad), ∀ (k : Nat), k < List.length bad → [V.int IntKind.i64 (List.getD bad k (0 : Int))] = [V.int IntKind.i64 (List.getD bad k (0 : Int))], false = true → false = true, q0, q0, q0, q (List.length p), ∀ (k : Nat), k < List.length p → [V.int IntKind.i64 (List.getD p k (0 : Int))] = [V.int IntKind.i64 (List.getD p k (0 : Int))], false = true → false = true, q (List.length L), ∀ (k : Nat), k < List.length L → [V.int IntKind.i64 (List.getD L k (0 : Int))] = [V.int IntKind.i64 (List.getD L k (0 : Int))], false = true → false = true, q (List.length bad), ∀ (k : Nat), k < List.length bad → [V.int IntKind.i64 (List.getD bad k (0 : Int))] = [V.int IntKind.i64 (List.getD bad k (0 : Int))], false = true → false = true, q (↑(List.length bad) : Int), (↑k : Int) + (1 : Int) = (↑(k + (1 : Nat)) : Int)]) : Option (Exit × St × List Prop)) := by kernel_rfl

theorem pcBi_p0 (c : SCfg) (e : Int) (pen : List Int) (bad : List Int) (p : List Int) (L : List Int) (k : Nat) (b : Bool) :
  alongPc Try.prog (pcBi c e pen bad p L k b) [false] = (some (.exit 0, St.mk [.any, .int .i64 e, .ros 1 (List.length pen) (li pen) false, .ros 1 (List.length bad) (li bad) false, .any, .ptr (.o 0) 0 0 0 0, .any, .any, .any, .any, .any, .ros 1 (List.length p) (li p) false, .any, .ros 1 (List.length L) (li L) false, .any, .any, .any, .any, .any, .any, .any, .any, .any, .any, .any, .any, .any, .any, .any, .any, .any, .any, .any, .any, .any, .any, .any, .any, .any, .any, .any, .any, .any, .any, .any, .any, .any, .any, .any, .any, .any, .any, .any, .any, .any, .any, .any, .any, .ros 1 (List.length bad) (li bad) false, .int .i64 (↑(List.length bad) : Int), .int .i64 ↑k, .any, .any, .any, .any, .any, .any, .any, .any, .any, .any, .any, .any, .any, .any, .any, .any, .any, .any, .any, .any, .any, .any, .any, .any, .any, .any, .any, .any, .any, .any, .any, .any, .any, .any, .any, .any, .any, .any, .any, .any, .any, .any, .any, .any, .any, .any, .any, .any, .any, .any, .any, .any, .any, .any, .any, .any, .any, .any, .any, .any, .any, .any, .any, .any] [(.o 0, .flat [.int .i64 (SCfg.nodes c), .int .i64 (SCfg.clients c), .int .i64 (SCfg.window c), .int .i64 (SCfg.buckets c), .int .i64 (SCfg.cap c), .int .i64 (SCfg.slots c), .int .i64 (SCfg.requests c), .int .i64 (SCfg.timeout c), .int .i64 (SCfg.penalty c), .int .i64 (SCfg.last c)])] 1 [], [decide ((↑k : Int) < (↑(List.length bad) : Int)) = false, q (SCfg.nodes c), q (SCfg.clients c), q (SCfg.window c), q (SCfg.buckets c), q (SCfg.cap c), q (SCfg.slots c), q (SCfg.requests c), q (SCfg.timeout c), q (SCfg.penalty c), q (SCfg.last c), q e, q (List.length pen), ∀ (k : Nat), k < List.length pen → [V.int IntKind.i64 (List.getD pen k (0 : Int))] = [V.int IntKind.i64 (List.getD pen k (0 : Int))], false = true → false = true, q (List.length bad), ∀ (k : Nat), k < List.length bad → [V.int IntKind.i64 (List.getD bad k (0 : Int))] = [V.int IntKind.i64 (List.getD bad k (0 : Int))], false = true → false = true, q0, q0, q0, q (List.length p), ∀ (k : Nat), k < List.length p → [V.int IntKind.i64 (List.getD p k (0 : Int))] = [V.int IntKind.i64 (List.getD p k (0 : Int))], false = true → false = true, q (List.length L), ∀ (k : Nat), k < List.length L → [V.int IntKind.i64 (List.getD L k (0 : Int))] = [V.int IntKind.i64 (List.getD L k (0 : Int))], false = true → false = true, q (List.length bad), ∀ (k : Nat), k < List.length bad → [V.int IntKind.i64 (List.getD bad k (0 : Int))] = [V.int IntKind.i64 (List.getD bad k (0 : Int))], false = true → false = true, q (↑(List.length bad) : Int), q (↑k : Int)]) : Option (Exit × St × List Prop)) := by kernel_rfl

theorem pcBj_p100 (c : SCfg) (e : Int) (pen : List Int) (bad : List Int) (p : List Int) (k : Nat) (b : Bool) :
  alongPc Try.prog (pcBj c e pen bad p k b) [true, false, false] = (some (.normal, St.mk [.any, .int .i64 e, .ros 1 (List.length pen) (li pen) false, .ros 1 (List.length bad) (li bad) false, .any, .ptr (.o 0) 0 0 0 0, .any, .any, .any, .any, .any, .ros 1 (List.length p) (li p) false, .any, .any, .any, .any, .any, .any, .any, .any, .any, .any, .any, .any, .any, .any, .any, .any, .any, .any, .any, .any, .any, .any, .any, .any, .any, .any, .any, .any, .any, .any, .any, .any, .any, .any, .any, .any, .any, .any, .any, .any, .any, .any, .any, .any, .any, .any, .any, .any, .any, .any, .any, .any, .any, .any, .any, .any, .any, .any, .any, .any, .any, .any, .any, .any, .any, .any, .any, .any, .any, .any, .any, .any, .ros 1 (List.length p) (li p) false, .int .i64 (↑(List.length p) : Int), .int .i64 (↑(k + 1) : Int), .any, .any, .any, .any, .any, .any, .any, .any, .any, .any, .any, .any, .any, .any, .any, .any, .any, .any, .any, .any, .any, .any, .any, .any, .any, .any, .any, .any, .any, .any, .any, .any, .any, .any, .any, .any, .any, .any] [(.o 0, .flat [.int .i64 (SCfg.nodes c), .int .i64 (SCfg.clients c), .int .i64 (SCfg.window c), .int .i64 (SCfg.buckets c), .int .i64 (SCfg.cap c), .int .i64 (SCfg.slots c), .int .i64 (SCfg.requests c), .int .i64 (SCfg.timeout c), .int .i64 (SCfg.penalty c), .int .i64 (SCfg.last c)])] 1 [], [decide ((↑k : Int) < (↑(List.length p) : Int)) = true, T Try.prog 18 [.ros 1 (List.length bad) (li bad) false, .int .i64 ↑k] [] (.bool b) [], (!b) = false, q false, InR IntKind.i64 ((↑k : Int) + (1 : Int)), q (SCfg.nodes c), q (SCfg.clients c), q (SCfg.window c), q (SCfg.buckets c), q (SCfg.cap c), q (SCfg.slots c), q (SCfg.requests c), q (SCfg.timeout c), q (SCfg.penalty c), q (SCfg.last c), q e, q (List.length pen), ∀ (k : Nat), k < List.length pen → [V.int IntKind.i64 (List.getD pen k (0 : Int))] = [V.int IntKind.i64 (List.getD pen k (0 : Int))], false = true → false = true, q (List.length bad), ∀ (k : Nat), k < List.length bad → [V.int IntKind.i64 (List.getD bad k (0 : Int))] = [V.int IntKind.i64 (List.getD bad k (0 : Int))], false = true → false = true, q0, q0, q0, q (List.length p), ∀ (k : Nat), k < List.length p → [V.int IntKind.i64 (List.getD p k (0 : Int))] = [V.int IntKind.i64 (List.getD p k (0 : Int))], false = true → false = true, q (List.length p), ∀ (k : Nat), k < List.length p → [V.int IntKind.i64 (List.getD p k (0 : Int))] = [V.int IntKind.i64 (List.getD p k (0 : Int))], false = true → false = true, q (↑(List.length p) : Int), (↑k : Int) + (1 : Int) = (↑(k + (1 : Nat)) : Int)]) : Option (Exit × St × List Prop)) := by kernel_rfl

theorem pcBj_p111000 (c : SCfg) (e : Int) (pen : List Int) (bad : List Int) (p : List Int) (k : Nat) (b : Bool) :
  alongPc Try.prog (pcBj c e pen bad p k b) [true, true, true, false, false, false] = (some (.normal, St.mk [.any, .int .i64 e, .ros 1 (List.length pen) (li pen) false, .ros 1 (List.length bad) (li bad) false, .any, .ptr (.o 0) 0 0 0 0, .any, .any, .any, .any, .any, .ros 1 (List.length p) (li p) false, .any, .any, .any, .any, .any, .any, .any, .any, .any, .any, .any, .any, .any, .any, .any, .any, .any, .any, .any, .any, .any, .any, .any, .any, .any, .any, .any, .any, .any, .any, .any, .any, .any, .any, .any, .any, .any, .any, .any, .any, .any, .any, .any, .any, .any, .any, .any, .any, .any, .any, .any, .any, .any, .any, .any, .any, .any, .any, .any, .any, .any, .any, .any, .any, .any, .any, .any, .any, .any, .any, .any, .any, .ros 1 (List.length p) (li p) false, .int .i64 (↑(List.length p) : Int), .int .i64 (↑(k + 1) : Int), .any, .any, .any, .any, .any, .any, .any, .any, .any, .any, .any, .any, .any, .any, .any, .any, .any, .any, .any, .any, .any, .any, .any, .any, .any, .any, .any, .any, .any, .any, .any, .any, .any, .any, .any, .any, .any, .any] [(.o 0, .flat [.int .i64 (SCfg.nodes c), .int .i64 (SCfg.clients c), .int .i64 (SCfg.window c), .int .i64 (SCfg.buckets c), .int .i64 (SCfg.cap c), .int .i64 (SCfg.slots c), .int .i64 (SCfg.requests c), .int .i64 (SCfg.timeout c), .int .i64 (SCfg.penalty c), .int .i64 (SCfg.last c)])] 1 [], [decide ((↑k : Int) < (↑(List.length p) : Int)) = true, T Try.prog 18 [.ros 1 (List.length bad) (li bad) false, .int .i64 ↑k] [] (.bool b) [], (!b) = true, decide ((↑k : Int) < (↑(List.length pen) : Int)) = true, (0 : Int) ≤ (↑k : Int) ∧ (↑k : Int) < (↑(List.length p) : Int), (0 : Int) ≤ (↑k : Int) ∧ (↑k : Int) < (↑(List.length pen) : Int), (!decide (List.getD p (Int.toNat (↑k : Int)) (0 : Int) = List.getD pen (Int.toNat (↑k : Int)) (0 : Int))) = false, decide ((↑(List.length pen) : Int) ≤ (↑k : Int)) = false, q false, InR IntKind.i64 ((↑k : Int) + (1 : Int)), q (SCfg.nodes c), q (SCfg.clients c), q (SCfg.window c), q (SCfg.buckets c), q (SCfg.cap c), q (SCfg.slots c), q (SCfg.requests c), q (SCfg.timeout c), q (SCfg.penalty c), q (SCfg.last c), q e, q (List.length pen), ∀ (k : Nat), k < List.length pen → [V.int IntKind.i64 (List.getD pen k (0 : Int))] = [V.int IntKind.i64 (List.getD pen k (0 : Int))], false = true → false = true, q (List.length bad), ∀ (k : Nat), k < List.length bad → [V.int IntKind.i64 (List.getD bad k (0 : Int))] = [V.int IntKind.i64 (List.getD bad k (0 : Int))], false = true → false = true, q0, q0, q0, q (List.length p), ∀ (k : Nat), k < List.length p → [V.int IntKind.i64 (List.getD p k (0 : Int))] = [V.int IntKind.i64 (List.getD p k (0 : Int))], false = true → false = true, q (List.length p), ∀ (k : Nat), k < List.length p → [V.int IntKind.i64 (List.getD p k (0 : Int))] = [V.int IntKind.i64 (List.getD p k (0 : Int))], false = true → false = true, q (↑(List.length p) : Int), (↑k : Int) + (1 : Int) = (↑(k + (1 : Nat)) : Int)]) : Option (Exit × St × List Prop)) := by kernel_rfl

theorem pcBj_p110010 (c : SCfg) (e : Int) (pen : List Int) (bad : List Int) (p : List Int) (k : Nat) (b : Bool) :
  alongPc Try.prog (pcBj c e pen bad p k b) [true, true, false, false, true, false] = (some (.normal, St.mk [.any, .int .i64 e, .ros 1 (List.length pen) (li pen) false, .ros 1 (List.length bad) (li bad) false, .any, .ptr (.o 0) 0 0 0 0, .any, .any, .any, .any, .any, .ros 1 (List.length p) (li p) false, .any, .any, .any, .any, .any, .any, .any, .any, .any, .any, .any, .any, .any, .any, .any, .any, .any, .any, .any, .any, .any, .any, .any, .any, .any, .any, .any, .any, .any, .any, .any, .any, .any, .any, .any, .any, .any, .any, .any, .any, .any, .any, .any, .any, .any, .any, .any, .any, .any, .any, .any, .any, .any, .any, .any, .any, .any, .any, .any, .any, .any, .any, .any, .any, .any, .any, .any, .any, .any, .any, .any, .any, .ros 1 (List.length p) (li p) false, .int .i64 (↑(List.length p) : Int), .int .i64 (↑(k + 1) : Int), .any, .any, .any, .any, .any, .any, .any, .any, .any, .any, .any, .any, .any, .any, .any, .any, .any, .any, .any, .any, .any, .any, .any, .any, .any, .any, .any, .any, .any, .any, .any, .any, .any, .any, .any, .any, .any, .any] [(.o 0, .flat [.int .i64 (SCfg.nodes c), .int .i64 (SCfg.clients c), .int .i64 (SCfg.window c), .int .i64 (SCfg.buckets c), .int .i64 (SCfg.cap c), .int .i64 (SCfg.slots c), .int .i64 (SCfg.requests c), .int .i64 (SCfg.timeout c), .int .i64 (SCfg.penalty c), .int .i64 (SCfg.last c)])] 1 [], [decide ((↑k : Int) < (↑(List.length p) : Int)) = true, T Try.prog 18 [.ros 1 (List.length bad) (li bad) false, .int .i64 ↑k] [] (.bool b) [], (!b) = true, decide ((↑k : Int) < (↑(List.length pen) : Int)) = false, q false, decide ((↑(List.length pen) : Int) ≤ (↑k : Int)) = true, (0 : Int) ≤ (↑k : Int) ∧ (↑k : Int) < (↑(List.length p) : Int), (!decide (List.getD p (Int.toNat (↑k : Int)) (0 : Int) = (0 : Int))) = false, InR IntKind.i64 ((↑k : Int) + (1 : Int)), q (SCfg.nodes c), q (SCfg.clients c), q (SCfg.window c), q (SCfg.buckets c), q (SCfg.cap c), q (SCfg.slots c), q (SCfg.requests c), q (SCfg.timeout c), q (SCfg.penalty c), q (SCfg.last c), q e, q (List.length pen), ∀ (k : Nat), k < List.length pen → [V.int IntKind.i64 (List.getD pen k (0 : Int))] = [V.int IntKind.i64 (List.getD pen k (0 : Int))], false = true → false = true, q (List.length bad), ∀ (k : Nat), k < List.length bad → [V.int IntKind.i64 (List.getD bad k (0 : Int))] = [V.int IntKind.i64 (List.getD bad k (0 : Int))], false = true → false = true, q0, q0, q0, q (List.length p), ∀ (k : Nat), k < List.length p → [V.int IntKind.i64 (List.getD p k (0 : Int))] = [V.int IntKind.i64 (List.getD p k (0 : Int))], false = true → false = true, q (List.length p), ∀ (k : Nat), k < List.length p → [V.int IntKind.i64 (List.getD p k (0 : Int))] = [V.int IntKind.i64 (List.getD p k (0 : Int))], false = true → false = true, q (↑(List.length p) : Int), (↑k : Int) + (1 : Int) = (↑(k + (1 : Nat)) : Int)]) : Option (Exit × St × List Prop)) := by kernel_rfl

theorem pcBj_p0 (c : SCfg) (e : Int) (pen : List Int) (bad : List Int) (p : List Int) (k : Nat) (b : Bool) :
  alongPc Try.prog (pcBj c e pen bad p k b) [false] = (some (.exit 2, St.mk [.any, .int .i64 e, .ros 1 (List.length pen) (li pen) false, .ros 1 (List.length bad) (li bad) false, .any, .ptr (.o 0) 0 0 0 0, .any, .any, .any, .any, .any, .ros 1 (List.length p) (li p) false, .any, .any, .any, .any, .any, .any, .any, .any, .any, .any, .any, .any, .any, .any, .any, .any, .any, .any, .any, .any, .any, .any, .any, .any, .any, .any, .any, .any, .any, .any, .any, .any, .any, .any, .any, .any, .any, .any, .any, .any, .any, .any, .any, .any, .any, .any, .any, .any, .any, .any, .any, .any, .any, .any, .any, .any, .any, .any, .any, .any, .any, .any, .any, .any, .any, .any, .any, .any, .any, .any, .any, .any, .ros 1 (List.length p) (li p) false, .int .i64 (↑(List.length p) : Int), .int .i64 ↑k, .any, .any, .any, .any, .any, .any, .any, .any, .any, .any, .any, .any, .any, .any, .any, .any, .any, .any, .any, .any, .any, .any, .any, .any, .any, .any, .any, .any, .any, .any, .any, .any, .any, .any, .any, .any, .any, .any] [(.o 0, .flat [.int .i64 (SCfg.nodes c), .int .i64 (SCfg.clients c), .int .i64 (SCfg.window c), .int .i64 (SCfg.buckets c), .int .i64 (SCfg.cap c), .int .i64 (SCfg.slots c), .int .i64 (SCfg.requests c), .int .i64 (SCfg.timeout c), .int .i64 (SCfg.penalty c), .int .i64 (SCfg.last c)])] 1 [], [decide ((↑k : Int) < (↑(List.length p) : Int)) = false, q (SCfg.nodes c), q (SCfg.clients c), q (SCfg.window c), q (SCfg.buckets c), q (SCfg.cap c), q (SCfg.slots c), q (SCfg.requests c), q (SCfg.timeout c), q (SCfg.penalty c), q (SCfg.last c), q e, q (List.length pen), ∀ (k : Nat), k < List.length pen → [V.int IntKind.i64 (List.getD pen k (0 : Int))] = [V.int IntKind.i64 (List.getD pen k (0 : Int))], false = true → false = true, q (List.length bad), ∀ (k : Nat), k < List.length bad → [V.int IntKind.i64 (List.getD bad k (0 : Int))] = [V.int IntKind.i64 (List.getD bad k (0 : Int))], false = true → false = true, q0, q0, q0, q (List.length p), ∀ (k : Nat), k < List.length p → [V.int IntKind.i64 (List.getD p k (0 : Int))] = [V.int IntKind.i64 (List.getD p k (0 : Int))], false = true → false = true, q (List.length p), ∀ (k : Nat), k < List.length p → [V.int IntKind.i64 (List.getD p k (0 : Int))] = [V.int IntKind.i64 (List.getD p k (0 : Int))], false = true → false = true, q (↑(List.length p) : Int), q (↑k : Int)]) : Option (Exit × St × List Prop)) := by kernel_rfl

set_option maxHeartbeats 1000000
theorem T_ba (c : SCfg) (e : Int) (pen bad : List Int) (sd : Int) : T Try.prog 6 [.agg c.c, .int .i64 e, lr pen, lr bad, .int .i64 sd] [] (.bool true) [] := by
 have hL := T_lv
 have hG := T_cg c
 by_cases g1 : goodE c = 0
 rotate_left
 ·have g1 := goodE_ne g1
  refine T_al (bdBa_p11111 c e pen bad sd (goodE c) [] []) Try.func6 ?_
  simp only [All, All_append, bdBa_c]; and_intros
  all_goals first
   | exact hL
   | exact hG
   | exact g1
   | (rw [decide_eq_true_eq]; omega)
   | (rw [decide_eq_false_iff_not]; omega)
   | omega
   | with_reducible rfl
   | (intro _ _; rfl)
   | (intro _ _; trivial)
   | (intro h; exact h)
   | exact .inl rfl
   | (simp only [IntKind.min, IntKind.max, IntKind.signed, IntKind.bits, if_true]; omega)
   | rfl
   | trivial
 have hm1 := goodE_zero.1 g1
 have g1 := goodE_eq g1
 by_cases g2 : e < 1
 ·skip
  refine T_al (bdBa_p01111 c e pen bad sd (goodE c) [] []) Try.func6 ?_
  simp only [All, All_append, bdBa_c]; and_intros
  all_goals first
   | exact hL
   | exact hG
   | exact g1
   | (rw [decide_eq_true_eq]; omega)
   | (rw [decide_eq_false_iff_not]; omega)
   | omega
   | with_reducible rfl
   | (intro _ _; rfl)
   | (intro _ _; trivial)
   | (intro h; exact h)
   | exact .inl rfl
   | (simp only [IntKind.min, IntKind.max, IntKind.signed, IntKind.bits, if_true]; omega)
   | rfl
   | trivial
 by_cases g3 : 1048512 < e
 ·skip
  refine T_al (bdBa_p00111 c e pen bad sd (goodE c) [] []) Try.func6 ?_
  simp only [All, All_append, bdBa_c]; and_intros
  all_goals first
   | exact hL
   | exact hG
   | exact g1
   | (rw [decide_eq_true_eq]; omega)
   | (rw [decide_eq_false_iff_not]; omega)
   | omega
   | with_reducible rfl
   | (intro _ _; rfl)
   | (intro _ _; trivial)
   | (intro h; exact h)
   | exact .inl rfl
   | (simp only [IntKind.min, IntKind.max, IntKind.signed, IntKind.bits, if_true]; omega)
   | rfl
   | trivial
 by_cases g4 : 200 < pen.length
 ·skip
  refine T_al (bdBa_p00011 c e pen bad sd (goodE c) [] []) Try.func6 ?_
  simp only [All, All_append, bdBa_c]; and_intros
  all_goals first
   | exact hL
   | exact hG
   | exact g1
   | (rw [decide_eq_true_eq]; omega)
   | (rw [decide_eq_false_iff_not]; omega)
   | omega
   | with_reducible rfl
   | (intro _ _; rfl)
   | (intro _ _; trivial)
   | (intro h; exact h)
   | exact .inl rfl
   | (simp only [IntKind.min, IntKind.max, IntKind.signed, IntKind.bits, if_true]; omega)
   | rfl
   | trivial
 by_cases g5 : 200 < bad.length
 ·skip
  refine T_al (bdBa_p00001 c e pen bad sd (goodE c) [] []) Try.func6 ?_
  simp only [All, All_append, bdBa_c]; and_intros
  all_goals first
   | exact hL
   | exact hG
   | exact g1
   | (rw [decide_eq_true_eq]; omega)
   | (rw [decide_eq_false_iff_not]; omega)
   | omega
   | with_reducible rfl
   | (intro _ _; rfl)
   | (intro _ _; trivial)
   | (intro h; exact h)
   | exact .inl rfl
   | (simp only [IntKind.min, IntKind.max, IntKind.signed, IntKind.bits, if_true]; omega)
   | rfl
   | trivial
 have hm : mayS c e = true := mayS_iff.2 ⟨hm1, by omega, by omega⟩
 obtain ⟨n1, n2, n3⟩ := nodesB hm1
 have hp := (goodC_iff.1 hm1).2.2.2.2.2.2.2.2.1
 obtain ⟨n, hn⟩ : ∃ n, n = c.nodes.toNat := ⟨_, rfl⟩
 have hn' : (n : Int) = c.nodes := by omega
 have hs0 : 0 ≤ IntKind.wrap IntKind.u64 sd := by
  simp only [IntKind.wrap, IntKind.signed, IntKind.bits]; simp; omega
 obtain ⟨r, hr⟩ : ∃ r, r = IntKind.wrap IntKind.u64 sd % 20 := ⟨_, rfl⟩
 have hr0 : 0 ≤ r := by omega
 have hr1 : r < 20 := by omega
 have hat : mayS c (e + 1 + c.penalty + r) = true := mayS_iff.2 ⟨hm1, by omega, by omega⟩
 obtain ⟨p, hpp⟩ : ∃ p, p = penL c e pen bad := ⟨_, rfl⟩
 have hpe : p = tab (pzS c e pen bad) n := by rw [hpp, penL, if_pos hm, hn]
 have hplen : p.length = n := by rw [hpe, tab_len]
 have hpg : ∀ k, k < n → p.getD k 0 = pzS c e pen bad k := fun k hk => by rw [hpe, tab_get hk]
 obtain ⟨L, hLL⟩ : ∃ L, L = listS c (e + 1 + c.penalty + r) p := ⟨_, rfl⟩
 have hPz := T_pz c e pen (bad := bad) (by omega)
 have hLs := T_ls c (e + 1 + c.penalty + r) p
 rw [← hpp] at hPz
 rw [← hLL, hr] at hLs
 have hin : ∀ x, x ∈ bad → 0 ≤ x → x < n → x ∈ L := fun x h1 h2 h3 => by
  have hx : p.getD x.toNat 0 = e + 1 + c.penalty := by
   rw [hpg _ (by omega), pzS, if_pos (by rwa [Int.toNat_of_nonneg h2])]
  rw [hLL, listS, if_pos hat, ← hn]
  split
  ·exact (filS_mem _ _ _).2 ⟨x.toNat, by omega, by omega, rfl⟩
  ·refine (filS_mem _ _ _).2 ⟨x.toNat, by omega, by omega, ?_⟩
   rw [decide_eq_true_eq, penS, Int.toNat_natCast, hx]; omega
 have hLlen : L.length ≤ 1000000 := by
  have h0 : L.length ≤ n := by
   rw [hLL, listS, if_pos hat, ← hn]
   split <;> exact filS_len _ _
  omega
 have step : ∀ k, k < bad.length → R Try.prog none 0 baC0 (baI c e pen bad p L k) .normal (baI c e pen bad p L (k + 1)) := fun k hk => by
  have hmem : bad.getD k 0 ∈ bad := by
   rw [List.getD_eq_getElem?_getD, List.getElem?_eq_getElem hk]; exact List.getElem_mem hk
  by_cases h1 : 0 ≤ bad.getD k 0
  ·by_cases h2 : bad.getD k 0 < c.nodes
   ·have hI := T_ri (l := L) (n := bad.getD k 0) hLlen
    rw [decide_eq_true (hin _ hmem h1 (by omega))] at hI
    refine R_alongPc NG MO _ (pcBi_p1110 c e pen bad p L k true) ?_ (by show 0 ≤ 1; decide)
    simp only [All, All_append, bdBa_c, Int.toNat_natCast]; and_intros
    all_goals first
     | exact hI
     | (rw [decide_eq_true_eq, Int.toNat_natCast]; omega)
     | (rw [decide_eq_false_iff_not, Int.toNat_natCast]; omega)
     | (rw [decide_eq_true_eq]; omega)
     | (rw [decide_eq_false_iff_not]; omega)
     | omega
     | with_reducible rfl
     | (intro _ _; rfl)
     | (intro _ _; trivial)
     | (intro h; exact h)
     | exact .inl rfl
     | (simp only [IntKind.min, IntKind.max, IntKind.signed, IntKind.bits, if_true]; omega)
     | rfl
     | trivial
   ·skip
    refine R_alongPc NG MO _ (pcBi_p1100 c e pen bad p L k true) ?_ (by show 0 ≤ 1; decide)
    simp only [All, All_append, bdBa_c, Int.toNat_natCast]; and_intros
    all_goals first
     | (rw [decide_eq_true_eq, Int.toNat_natCast]; omega)
     | (rw [decide_eq_false_iff_not, Int.toNat_natCast]; omega)
     | (rw [decide_eq_true_eq]; omega)
     | (rw [decide_eq_false_iff_not]; omega)
     | omega
     | with_reducible rfl
     | (intro _ _; rfl)
     | (intro _ _; trivial)
     | (intro h; exact h)
     | exact .inl rfl
     | (simp only [IntKind.min, IntKind.max, IntKind.signed, IntKind.bits, if_true]; omega)
     | rfl
     | trivial
  ·skip
   refine R_alongPc NG MO _ (pcBi_p1000 c e pen bad p L k true) ?_ (by show 0 ≤ 1; decide)
   simp only [All, All_append, bdBa_c, Int.toNat_natCast]; and_intros
   all_goals first
    | (rw [decide_eq_true_eq, Int.toNat_natCast]; omega)
    | (rw [decide_eq_false_iff_not, Int.toNat_natCast]; omega)
    | (rw [decide_eq_true_eq]; omega)
    | (rw [decide_eq_false_iff_not]; omega)
    | omega
    | with_reducible rfl
    | (intro _ _; rfl)
    | (intro _ _; trivial)
    | (intro h; exact h)
    | exact .inl rfl
    | (simp only [IntKind.min, IntKind.max, IntKind.signed, IntKind.bits, if_true]; omega)
    | rfl
    | trivial
 have out : R Try.prog none 0 baC0 (baI c e pen bad p L bad.length) (.exit 0) (baI c e pen bad p L bad.length) := by
  refine R_alongPc NG MO _ (pcBi_p0 c e pen bad p L bad.length true) ?_ (by show 0 ≤ 1; decide)
  simp only [All, All_append, bdBa_c, Int.toNat_natCast]; and_intros
  all_goals first
   | (rw [decide_eq_true_eq]; omega)
   | (rw [decide_eq_false_iff_not]; omega)
   | omega
   | with_reducible rfl
   | (intro _ _; rfl)
   | (intro _ _; trivial)
   | (intro h; exact h)
   | exact .inl rfl
   | (simp only [IntKind.min, IntKind.max, IntKind.signed, IntKind.bits, if_true]; omega)
   | rfl
   | trivial
 have hL0 := RLoop.inv (fun k => baI c e pen bad p L k) bad.length step out (by simp)
 have step2 : ∀ k, k < p.length → R Try.prog none 0 baC2 (baJ c e pen bad p k) .normal (baJ c e pen bad p (k + 1)) := fun k hk => by
  have hI := T_ri (l := bad) (n := (k : Int)) (by omega)
  have hg := hpg k (by omega)
  by_cases h1 : (k : Int) ∈ bad
  ·rw [decide_eq_true h1] at hI
   refine R_alongPc NG MO _ (pcBj_p100 c e pen bad p k true) ?_ (by show 0 ≤ 1; decide)
   simp only [All, All_append, bdBa_c, Int.toNat_natCast]; and_intros
   all_goals first
    | exact hI
    | (rw [decide_eq_true_eq, Int.toNat_natCast]; omega)
    | (rw [decide_eq_false_iff_not, Int.toNat_natCast]; omega)
    | (rw [decide_eq_true_eq]; omega)
    | (rw [decide_eq_false_iff_not]; omega)
    | omega
    | with_reducible rfl
    | (intro _ _; rfl)
    | (intro _ _; trivial)
    | (intro h; exact h)
    | exact .inl rfl
    | (simp only [IntKind.min, IntKind.max, IntKind.signed, IntKind.bits, if_true]; omega)
    | rfl
    | trivial
  ·rw [decide_eq_false h1] at hI
   rw [pzS, if_neg h1, penS, Int.toNat_natCast] at hg
   by_cases h2 : k < pen.length
   ·have ge : (!decide (p.getD (Int.toNat (k : Int)) 0 = pen.getD (Int.toNat (k : Int)) 0)) = false := by
     rw [Int.toNat_natCast, hg]; simp
    refine R_alongPc NG MO _ (pcBj_p111000 c e pen bad p k false) ?_ (by show 0 ≤ 1; decide)
    simp only [All, All_append, bdBa_c, Int.toNat_natCast]; and_intros
    all_goals first
     | exact hI
     | exact ge
     | (rw [decide_eq_true_eq, Int.toNat_natCast]; omega)
     | (rw [decide_eq_false_iff_not, Int.toNat_natCast]; omega)
     | (rw [decide_eq_true_eq]; omega)
     | (rw [decide_eq_false_iff_not]; omega)
     | omega
     | with_reducible rfl
     | (intro _ _; rfl)
     | (intro _ _; trivial)
     | (intro h; exact h)
     | exact .inl rfl
     | (simp only [IntKind.min, IntKind.max, IntKind.signed, IntKind.bits, if_true]; omega)
     | rfl
     | trivial
   ·rw [List.getD_eq_getElem?_getD (l := pen), List.getElem?_eq_none (by omega)] at hg
    have ge : (!decide (p.getD (Int.toNat (k : Int)) 0 = 0)) = false := by
     rw [Int.toNat_natCast, hg]; simp
    refine R_alongPc NG MO _ (pcBj_p110010 c e pen bad p k false) ?_ (by show 0 ≤ 1; decide)
    simp only [All, All_append, bdBa_c, Int.toNat_natCast]; and_intros
    all_goals first
     | exact hI
     | exact ge
     | (rw [decide_eq_true_eq, Int.toNat_natCast]; omega)
     | (rw [decide_eq_false_iff_not, Int.toNat_natCast]; omega)
     | (rw [decide_eq_true_eq]; omega)
     | (rw [decide_eq_false_iff_not]; omega)
     | omega
     | with_reducible rfl
     | (intro _ _; rfl)
     | (intro _ _; trivial)
     | (intro h; exact h)
     | exact .inl rfl
     | (simp only [IntKind.min, IntKind.max, IntKind.signed, IntKind.bits, if_true]; omega)
     | rfl
     | trivial
 have out2 : R Try.prog none 0 baC2 (baJ c e pen bad p p.length) (.exit 2) (baJ c e pen bad p p.length) := by
  refine R_alongPc NG MO _ (pcBj_p0 c e pen bad p p.length true) ?_ (by show 0 ≤ 1; decide)
  simp only [All, All_append, bdBa_c, Int.toNat_natCast]; and_intros
  all_goals first
   | (rw [decide_eq_true_eq]; omega)
   | (rw [decide_eq_false_iff_not]; omega)
   | omega
   | with_reducible rfl
   | (intro _ _; rfl)
   | (intro _ _; trivial)
   | (intro h; exact h)
   | exact .inl rfl
   | (simp only [IntKind.min, IntKind.max, IntKind.signed, IntKind.bits, if_true]; omega)
   | rfl
   | trivial
 have hL2 := RLoop.inv (fun k => baJ c e pen bad p k) p.length step2 out2 (by simp)
 have ge : (!decide ((p.length : Int) = c.nodes)) = false := by rw [decide_eq_true (by omega)]; rfl
 refine T_al (bdBa_p000000 c e pen bad sd (goodE c) p L) Try.func6 ?_
 simp only [All, All_append, bdBa_c]; and_intros
 all_goals first
  | exact hL
  | exact hG
  | exact g1
  | exact ge
  | exact hPz
  | exact hLs
  | exact hL0
  | exact hL2
  | (rw [decide_eq_true_eq]; omega)
  | (rw [decide_eq_false_iff_not]; omega)
  | omega
  | with_reducible rfl
  | (intro _ _; rfl)
  | (intro _ _; trivial)
  | (intro h; exact h)
  | exact .inl rfl
  | (simp only [IntKind.min, IntKind.max, IntKind.signed, IntKind.bits, if_true]; omega)
  | rfl
  | trivial
end Go.Proofs.Ythifjamdfpjilaa
namespace Go.Proofs.Ythifjamdfpjilaa
open Go Sy Go.Proofs
theorem cellsInt : Try.prog.cellsOf 3 = 1 := by kernel_rfl
theorem cellsInts : Try.prog.cellsOf 24 = 1 := by kernel_rfl
theorem sg_ints (U : Imm) {d : Nat} {cs : List V} (h : ShC Try.prog d 24 cs) : ∃ l : List Int, CsLe U cs [lr l] ∧ l.length ≤ 9223372036854775807 := by
 obtain ⟨d, len, f, rfl, hl, hf⟩ := sh_slice h Try.underlying24
 obtain ⟨s, hs⟩ := choose_fn (α := Int) (n := len) (p := fun i n => f i = [.int .i64 n]) fun i hi => by
  obtain ⟨n, h1, _⟩ := sh_int (hf i hi) Try.underlying3
  exact ⟨n, h1⟩
 refine ⟨tab s len, ?_, by rw [tab_len]; exact hl⟩
 rw [cellsInt, lr, tab_len]
 exact CsLe.ros fun i hi => by
  rw [hs i hi, li, tab_get hi]; exact CsLe.refl _ _
/-- Lists of lists. -/
def lrr (n : Nat) (L : Nat → List Int) : V := .ros 1 n (fun i => [lr (L i)]) false
theorem sg_intss (U : Imm) {d : Nat} {cs : List V} (h : ShC Try.prog d 33 cs) : ∃ n L, CsLe U cs [lrr n L] ∧ n ≤ 9223372036854775807 := by
 obtain ⟨d, len, f, rfl, hl, hf⟩ := sh_slice h Try.underlying33
 obtain ⟨s, hs⟩ := choose_fn (α := List Int) (n := len) (p := fun i l => CsLe U (f i) [lr l]) fun i hi => by
  obtain ⟨l, h1, _⟩ := sg_ints U (hf i hi)
  exact ⟨l, h1⟩
 refine ⟨len, s, ?_, hl⟩
 rw [cellsInts]
 exact CsLe.ros fun i hi => hs i hi
theorem sg_config {d : Nat} {cs : List V} (h : ShC Try.prog d 23 cs) : ∃ s : SCfg, cs = s.c ∧ True := by
 obtain ⟨d, a0, _, rfl, h0, a1, _, rfl, h1, a2, _, rfl, h2, a3, _, rfl, h3, a4, _, rfl, h4, a5, _, rfl, h5, a6, _, rfl, h6, a7, _, rfl, h7, a8, _, rfl, h8, a9, _, rfl, h9, rfl⟩ := sh_struct h Try.underlying23
 obtain ⟨n0, rfl, _⟩ := sh_int h0 Try.underlying3
 obtain ⟨n1, rfl, _⟩ := sh_int h1 Try.underlying3
 obtain ⟨n2, rfl, _⟩ := sh_int h2 Try.underlying3
 obtain ⟨n3, rfl, _⟩ := sh_int h3 Try.underlying3
 obtain ⟨n4, rfl, _⟩ := sh_int h4 Try.underlying3
 obtain ⟨n5, rfl, _⟩ := sh_int h5 Try.underlying3
 obtain ⟨n6, rfl, _⟩ := sh_int h6 Try.underlying3
 obtain ⟨n7, rfl, _⟩ := sh_int h7 Try.underlying3
 obtain ⟨n8, rfl, _⟩ := sh_int h8 Try.underlying3
 obtain ⟨n9, rfl, _⟩ := sh_int h9 Try.underlying3
 exact ⟨⟨n0, n1, n2, n3, n4, n5, n6, n7, n8, n9⟩, rfl, trivial⟩
end Go.Proofs.Ythifjamdfpjilaa
