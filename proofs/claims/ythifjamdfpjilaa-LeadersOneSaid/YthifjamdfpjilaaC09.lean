/-
  Contracts and laws that the claim's theorem leans on, joined out of the texts Lc1 Lg0 Lc2D Lc2 Lc3D (own work of this seat): Contract: the law LeadersBack; The shapes of configs and lists of numbers that are handed in; Contract: the law LeadersRound; Contract: the law LeadersRound; Contract: the law LeadersOne.
-/
import Derived.Test.YthifjamdfpjilaaC04
import Derived.Test.YthifjamdfpjilaaC05
import Derived.Test.YthifjamdfpjilaaC08
set_option linter.unusedVariables false
set_option linter.unusedSimpArgs false
set_option maxHeartbeats 1000000
namespace Go.Proofs.Ythifjamdfpjilaa
open Go Sy Go.Proofs
noncomputable def bdBa_c (c : SCfg) (e : Int) (pen : List Int) (bad : List Int) (sd : Int) (g : Int) (p : List Int) (L : List Int) : Nat → List Prop
 | 0 => [T Try.prog 11 [.agg [.int .i64 (SCfg.nodes c), .int .i64 (SCfg.clients c), .int .i64 (SCfg.window c), .int .i64 (SCfg.buckets c), .int .i64 (SCfg.cap c), .int .i64 (SCfg.slots c), .int .i64 (SCfg.requests c), .int .i64 (SCfg.timeout c), .int .i64 (SCfg.penalty c), .int .i64 (SCfg.last c)]] [] (.int .i64 g) []]
 | _ => []
theorem bdBa_p11111 (c : SCfg) (e : Int) (pen : List Int) (bad : List Int) (sd : Int) (g : Int) (p : List Int) (L : List Int) :
 along Try.prog (bdBa c e pen bad sd g p L) [true, true, true, true, true] = (some (.bool true, [], bdBa_c c e pen bad sd g p L 0 ++ [(!decide (g = (0 : Int))) = true, q2, q2, q2, q2, T Try.prog 12 [] [] (.bool true) []]) : Option (V × Heap × List Prop)) := by kernel_rfl

theorem bdBa_p01111 (c : SCfg) (e : Int) (pen : List Int) (bad : List Int) (sd : Int) (g : Int) (p : List Int) (L : List Int) :
 along Try.prog (bdBa c e pen bad sd g p L) [false, true, true, true, true] = (some (.bool true, [], bdBa_c c e pen bad sd g p L 0 ++ [(!decide (g = (0 : Int))) = false, decide (e < (1 : Int)) = true, q2, q2, q2, T Try.prog 12 [] [] (.bool true) []]) : Option (V × Heap × List Prop)) := by kernel_rfl

theorem bdBa_p00111 (c : SCfg) (e : Int) (pen : List Int) (bad : List Int) (sd : Int) (g : Int) (p : List Int) (L : List Int) :
 along Try.prog (bdBa c e pen bad sd g p L) [false, false, true, true, true] = (some (.bool true, [], bdBa_c c e pen bad sd g p L 0 ++ [(!decide (g = (0 : Int))) = false, decide (e < (1 : Int)) = false, decide ((1048512 : Int) < e) = true, q2, q2, T Try.prog 12 [] [] (.bool true) []]) : Option (V × Heap × List Prop)) := by kernel_rfl

theorem bdBa_p00011 (c : SCfg) (e : Int) (pen : List Int) (bad : List Int) (sd : Int) (g : Int) (p : List Int) (L : List Int) :
 along Try.prog (bdBa c e pen bad sd g p L) [false, false, false, true, true] = (some (.bool true, [], bdBa_c c e pen bad sd g p L 0 ++ [(!decide (g = (0 : Int))) = false, decide (e < (1 : Int)) = false, decide ((1048512 : Int) < e) = false, decide ((200 : Int) < (↑(List.length pen) : Int)) = true, q2, T Try.prog 12 [] [] (.bool true) []]) : Option (V × Heap × List Prop)) := by kernel_rfl

theorem bdBa_p00001 (c : SCfg) (e : Int) (pen : List Int) (bad : List Int) (sd : Int) (g : Int) (p : List Int) (L : List Int) :
 along Try.prog (bdBa c e pen bad sd g p L) [false, false, false, false, true] = (some (.bool true, [], bdBa_c c e pen bad sd g p L 0 ++ [(!decide (g = (0 : Int))) = false, decide (e < (1 : Int)) = false, decide ((1048512 : Int) < e) = false, decide ((200 : Int) < (↑(List.length pen) : Int)) = false, decide ((200 : Int) < (↑(List.length bad) : Int)) = true, T Try.prog 12 [] [] (.bool true) []]) : Option (V × Heap × List Prop)) := by kernel_rfl

theorem bdBa_p000000 (c : SCfg) (e : Int) (pen : List Int) (bad : List Int) (sd : Int) (g : Int) (p : List Int) (L : List Int) :
 along Try.prog (bdBa c e pen bad sd g p L) [false, false, false, false, false, false] = (some (.bool true, [], bdBa_c c e pen bad sd g p L 0 ++ [(!decide (g = (0 : Int))) = false, decide (e < (1 : Int)) = false, decide ((1048512 : Int) < e) = false, decide ((200 : Int) < (↑(List.length pen) : Int)) = false, decide ((200 : Int) < (↑(List.length bad) : Int)) = false, T Try.prog 17 [.agg [.int .i64 (SCfg.nodes c), .int .i64 (SCfg.clients c), .int .i64 (SCfg.window c), .int .i64 (SCfg.buckets c), .int .i64 (SCfg.cap c), .int .i64 (SCfg.slots c), .int .i64 (SCfg.requests c), .int .i64 (SCfg.timeout c), .int .i64 (SCfg.penalty c), .int .i64 (SCfg.last c)], .int .i64 e, .ros 1 (List.length pen) (li pen) false, .ros 1 (List.length bad) (li bad) false] [] (.ros 1 (List.length p) (li p) false) [], InR IntKind.i64 (e + (1 : Int)), InR IntKind.i64 (e + (1 : Int) + SCfg.penalty c), (0 : Int) ≤ IntKind.wrap IntKind.u64 sd ∧ (0 : Int) < (20 : Int), InR IntKind.i64 (IntKind.wrap IntKind.u64 sd % (20 : Int)), InR IntKind.i64 (e + (1 : Int) + SCfg.penalty c + IntKind.wrap IntKind.u64 sd % (20 : Int)), T Try.prog 13 [.agg [.int .i64 (SCfg.nodes c), .int .i64 (SCfg.clients c), .int .i64 (SCfg.window c), .int .i64 (SCfg.buckets c), .int .i64 (SCfg.cap c), .int .i64 (SCfg.slots c), .int .i64 (SCfg.requests c), .int .i64 (SCfg.timeout c), .int .i64 (SCfg.penalty c), .int .i64 (SCfg.last c)], .int .i64 (e + (1 : Int) + SCfg.penalty c + IntKind.wrap .u64 sd % (20 : Int)), .ros 1 (List.length p) (li p) false] [] (.ros 1 (List.length L) (li L) false) [], RLoop Try.prog none 0 (cB (cB (cR (cL (cR (cR (cR (cR (cR (bodyOf (Bd.f (bdBa c e pen bad sd g p L)))))))))))) (List.length bad + 1) (St.mk [.any, .int .i64 e, .ros 1 (List.length pen) (li pen) false, .ros 1 (List.length bad) (li bad) false, .any, .ptr (.o 0) 0 0 0 0, .any, .any, .any, .any, .any, .ros 1 (List.length p) (li p) false, .any, .ros 1 (List.length L) (li L) false, .any, .any, .any, .any, .any, .any, .any, .any, .any, .any, .any, .any, .any, .any, .any, .any, .any, .any, .any, .any, .any, .any, .any, .any, .any, .any, .any, .any, .any, .any, .any, .any, .any, .any, .any, .any, .any, .any, .any, .any, .any, .any, .any, .any, .ros 1 (List.length bad) (li bad) false, .int .i64 (↑(List.length bad) : Int), .int .i64 0, .any, .any, .any, .any, .any, .any, .any, .any, .any, .any, .any, .any, .any, .any, .any, .any, .any, .any, .any, .any, .any, .any, .any, .any, .any, .any, .any, .any, .any, .any, .any, .any, .any, .any, .any, .any, .any, .any, .any, .any, .any, .any, .any, .any, .any, .any, .any, .any, .any, .any, .any, .any, .any, .any, .any, .any, .any, .any, .any, .any, .any, .any, .any, .any] [(.o 0, .flat [.int .i64 (SCfg.nodes c), .int .i64 (SCfg.clients c), .int .i64 (SCfg.window c), .int .i64 (SCfg.buckets c), .int .i64 (SCfg.cap c), .int .i64 (SCfg.slots c), .int .i64 (SCfg.requests c), .int .i64 (SCfg.timeout c), .int .i64 (SCfg.penalty c), .int .i64 (SCfg.last c)])] 1 []) (.exit 0) (St.mk [.any, .int .i64 e, .ros 1 (List.length pen) (li pen) false, .ros 1 (List.length bad) (li bad) false, .any, .ptr (.o 0) 0 0 0 0, .any, .any, .any, .any, .any, .ros 1 (List.length p) (li p) false, .any, .ros 1 (List.length L) (li L) false, .any, .any, .any, .any, .any, .any, .any, .any, .any, .any, .any, .any, .any, .any, .any, .any, .any, .any, .any, .any, .any, .any, .any, .any, .any, .any, .any, .any, .any, .any, .any, .any, .any, .any, .any, .any, .any, .any, .any, .any, .any, .any, .any, .any, .ros 1 (List.length bad) (li bad) false, .int .i64 (↑(List.length bad) : Int), .int .i64 (↑(List.length bad) : Int), .any, .any, .any, .any, .any, .any, .any, .any, .any, .any, .any, .any, .any, .any, .any, .any, .any, .any, .any, .any, .any, .any, .any, .any, .any, .any, .any, .any, .any, .any, .any, .any, .any, .any, .any, .any, .any, .any, .any, .any, .any, .any, .any, .any, .any, .any, .any, .any, .any, .any, .any, .any, .any, .any, .any, .any, .any, .any, .any, .any, .any, .any, .any, .any] [(.o 0, .flat [.int .i64 (SCfg.nodes c), .int .i64 (SCfg.clients c), .int .i64 (SCfg.window c), .int .i64 (SCfg.buckets c), .int .i64 (SCfg.cap c), .int .i64 (SCfg.slots c), .int .i64 (SCfg.requests c), .int .i64 (SCfg.timeout c), .int .i64 (SCfg.penalty c), .int .i64 (SCfg.last c)])] 1 []), q (SCfg.nodes c), q (SCfg.clients c), q (SCfg.window c), q (SCfg.buckets c), q (SCfg.cap c), q (SCfg.slots c), q (SCfg.requests c), q (SCfg.timeout c), q (SCfg.penalty c), q (SCfg.last c), q e, q (List.length pen), ∀ (k : Nat), k < List.length pen → [V.int IntKind.i64 (List.getD pen k (0 : Int))] = [V.int IntKind.i64 (List.getD pen k (0 : Int))], false = true → false = true, q (List.length bad), ∀ (k : Nat), k < List.length bad → [V.int IntKind.i64 (List.getD bad k (0 : Int))] = [V.int IntKind.i64 (List.getD bad k (0 : Int))], false = true → false = true, q0, q0, q0, q (List.length p), ∀ (k : Nat), k < List.length p → [V.int IntKind.i64 (List.getD p k (0 : Int))] = [V.int IntKind.i64 (List.getD p k (0 : Int))], false = true → false = true, q (List.length L), ∀ (k : Nat), k < List.length L → [V.int IntKind.i64 (List.getD L k (0 : Int))] = [V.int IntKind.i64 (List.getD L k (0 : Int))], false = true → false = true, q (List.length bad), ∀ (k : Nat), k < List.length bad → [V.int IntKind.i64 (List.getD bad k (0 : Int))] = [V.int IntKind.i64 (List.getD bad k (0 : Int))], false = true → false = true, q (↑(List.length bad) : Int), q1, (!decide ((↑(List.length p) : Int) = SCfg.nodes c)) = false, RLoop Try.prog none 0 (cB (cB (cR (cL (cR (cR (cR (cR (cR (cR (cR (bodyOf (Bd.f (bdBa c e pen bad sd g p L)))))))))))))) (List.length p + 1) (St.mk [.any, .int .i64 e, .ros 1 (List.length pen) (li pen) false, .ros 1 (List.length bad) (li bad) false, .any, .ptr (.o 0) 0 0 0 0, .any, .any, .any, .any, .any, .ros 1 (List.length p) (li p) false, .any, .any, .any, .any, .any, .any, .any, .any, .any, .any, .any, .any, .any, .any, .any, .any, .any, .any, .any, .any, .any, .any, .any, .any, .any, .any, .any, .any, .any, .any, .any, .any, .any, .any, .any, .any, .any, .any, .any, .any, .any, .any, .any, .any, .any, .any, .any, .any, .any, .any, .any, .any, .any, .any, .any, .any, .any, .any, .any, .any, .any, .any, .any, .any, .any, .any, .any, .any, .any, .any, .any, .any, .ros 1 (List.length p) (li p) false, .int .i64 (↑(List.length p) : Int), .int .i64 0, .any, .any, .any, .any, .any, .any, .any, .any, .any, .any, .any, .any, .any, .any, .any, .any, .any, .any, .any, .any, .any, .any, .any, .any, .any, .any, .any, .any, .any, .any, .any, .any, .any, .any, .any, .any, .any, .any] [(.o 0, .flat [.int .i64 (SCfg.nodes c), .int .i64 (SCfg.clients c), .int .i64 (SCfg.window c), .int .i64 (SCfg.buckets c), .int .i64 (SCfg.cap c), .int .i64 (SCfg.slots c), .int .i64 (SCfg.requests c), .int .i64 (SCfg.timeout c), .int .i64 (SCfg.penalty c), .int .i64 (SCfg.last c)])] 1 []) (.exit 2) (St.mk [.any, .int .i64 e, .ros 1 (List.length pen) (li pen) false, .ros 1 (List.length bad) (li bad) false, .any, .ptr (.o 0) 0 0 0 0, .any, .any, .any, .any, .any, .ros 1 (List.length p) (li p) false, .any, .any, .any, .any, .any, .any, .any, .any, .any, .any, .any, .any, .any, .any, .any, .any, .any, .any, .any, .any, .any, .any, .any, .any, .any, .any, .any, .any, .any, .any, .any, .any, .any, .any, .any, .any, .any, .any, .any, .any, .any, .any, .any, .any, .any, .any, .any, .any, .any, .any, .any, .any, .any, .any, .any, .any, .any, .any, .any, .any, .any, .any, .any, .any, .any, .any, .any, .any, .any, .any, .any, .any, .ros 1 (List.length p) (li p) false, .int .i64 (↑(List.length p) : Int), .int .i64 (↑(List.length p) : Int), .any, .any, .any, .any, .any, .any, .any, .any, .any, .any, .any, .any, .any, .any, .any, .any, .any, .any, .any, .any, .any, .any, .any, .any, .any, .any, .any, .any, .any, .any, .any, .any, .any, .any, .any, .any, .any, .any] [(.o 0, .flat [.int .i64 (SCfg.nodes c), .int .i64 (SCfg.clients c), .int .i64 (SCfg.window c), .int .i64 (SCfg.buckets c), .int .i64 (SCfg.cap c), .int .i64 (SCfg.slots c), .int .i64 (SCfg.requests c), .int .i64 (SCfg.timeout c), .int .i64 (SCfg.penalty c), .int .i64 (SCfg.last c)])] 1 []), q (SCfg.nodes c), q (SCfg.clients c), q (SCfg.window c), q (SCfg.buckets c), q (SCfg.cap c), q (SCfg.slots c), q (SCfg.requests c), q (SCfg.timeout c), q (SCfg.penalty c), q (SCfg.last c), q e, q (List.length pen), ∀ (k : Nat), k < List.length pen → [V.int IntKind.i64 (List.getD pen k (0 : Int))] = [V.int IntKind.i64 (List.getD pen k (0 : Int))], false = true → false = true, q (List.length bad), ∀ (k : Nat), k < List.length bad → [V.int IntKind.i64 (List.getD bad k (0 : Int))] = [V.int IntKind.i64 (List.getD bad k (0 : Int))], false = true → false = true, q0, q0, q0, q (List.length p), ∀ (k : Nat), k < List.length p → [V.int IntKind.i64 (List.getD p k (0 : Int))] = [V.int IntKind.i64 (List.getD p k (0 : Int))], false = true → false = true, q (List.length p), ∀ (k : Nat), k < List.length p → [V.int IntKind.i64 (List.getD p k (0 : Int))] = [V.int IntKind.i64 (List.getD p k (0 : Int))], false = true → false = true, q (↑(List.length p) : Int), q1, T Try.prog 12 [] [] (.bool true) []]) : Option (V × Heap × List Prop)) := by kernel_rfl

theorem pcBi_p1110 (c : SCfg) (e : Int) (pen : List Int) (bad : List Int) (p : List Int) (L : List Int) (k : Nat) (b : Bool) :
  alongPc Try.prog (pcBi c e pen bad p L k b) [true, true, true, false] = (some (.normal, St.mk [.any, .int .i64 e, .ros 1 (List.length pen) (li pen) false, .ros 1 (List.length bad) (li bad) false, .any, .ptr (.o 0) 0 0 0 0, .any, .any, .any, .any, .any, .ros 1 (List.length p) (li p) false, .any, .ros 1 (List.length L) (li L) false, .any, .any, .any, .any, .any, .any, .any, .any, .any, .any, .any, .any, .any, .any, .any, .any, .any, .any, .any, .any, .any, .any, .any, .any, .any, .any, .any, .any, .any, .any, .any, .any, .any, .any, .any, .any, .any, .any, .any, .any, .any, .any, .any, .any, .ros 1 (List.length bad) (li bad) false, .int .i64 (↑(List.length bad) : Int), .int .i64 (↑(k + 1) : Int), .any, .any, .any, .any, .any, .any, .any, .any, .any, .any, .any, .any, .any, .any, .any, .any, .any, .any, .any, .any, .any, .any, .any, .any, .any, .any, .any, .any, .any, .any, .any, .any, .any, .any, .any, .any, .any, .any, .any, .any, .any, .any, .any, .any, .any, .any, .any, .any, .any, .any, .any, .any, .any, .any, .any, .any, .any, .any, .any, .any, .any, .any, .any, .any] [(.o 0, .flat [.int .i64 (SCfg.nodes c), .int .i64 (SCfg.clients c), .int .i64 (SCfg.window c), .int .i64 (SCfg.buckets c), .int .i64 (SCfg.cap c), .int .i64 (SCfg.slots c), .int .i64 (SCfg.requests c), .int .i64 (SCfg.timeout c), .int .i64 (SCfg.penalty c), .int .i64 (SCfg.last c)])] 1 [], [decide ((↑k : Int) < (↑(List.length bad) : Int)) = true, (0 : Int) ≤ (↑k : Int) ∧ (↑k : Int) < (↑(List.length bad) : Int), decide ((0 : Int) ≤ List.getD bad (Int.toNat (↑k : Int)) (0 : Int)) = true, decide (List.getD bad (Int.toNat (↑k : Int)) (0 : Int) < SCfg.nodes c) = true, T Try.prog 18 [.ros 1 (List.length L) (li L) false, .int .i64 (List.getD bad (Int.toNat (↑k : Int)) (0 : Int))] [] (.bool b) [], (!b) = false, InR IntKind.i64 ((↑k : Int) + (1 : Int)), q (SCfg.nodes c), q (SCfg.clients c), q (SCfg.window c), q (SCfg.buckets c), q (SCfg.cap c), q (SCfg.slots c), q (SCfg.requests c), q (SCfg.timeout c), q (SCfg.penalty c), q (SCfg.last c), q e, q (List.length pen), ∀ (k : Nat), k < List.length pen → [V.int IntKind.i64 (List.getD pen k (0 : Int))] = [V.int IntKind.i64 (List.getD pen k (0 : Int))], false = true → false = true, q (List.length bad), ∀ (k : Nat), k < List.length bad → [V.int IntKind.i64 (List.getD bad k (0 : Int))] = [V.int IntKind.i64 (List.getD bad k (0 : Int))], false = true → false = true, q0, q0, q0, q (List.length p), ∀ (k : Nat), k < List.length p → [V.int IntKind.i64 (List.getD p k (0 : Int))] = [V.int IntKind.i64 (List.getD p k (0 : Int))], false = true → false = true, q (List.length L), ∀ (k : Nat), k < List.length L → [V.int IntKind.i64 (List.getD L k (0 : Int))] = [V.int IntKind.i64 (List.getD L k (0 : Int))], false = true → false = true, q (List.length bad), ∀ (k : Nat), k < List.length bad → [V.int IntKind.i64 (List.getD bad k (0 : Int))] = [V.int IntKind.i64 (List.getD bad k (0 : Int))], false = true → false = true, q (↑(List.length bad) : Int), (↑k : Int) + (1 : Int) = (↑(k + (1 : Nat)) : Int)]) : Option (Exit × St × List Prop)) := by kernel_rfl

theorem pcBi_p1100 (c : SCfg) (e : Int) (pen : List Int) (bad : List Int) (p : List Int) (L : List Int) (k : Nat) (b : Bool) :
  alongPc Try.prog (pcBi c e pen bad p L k b) [true, true, false, false] = (some (.normal, St.mk [.any, .int .i64 e, .ros 1 (List.length pen) (li pen) false, .ros 1 (List.length bad) (li bad) false, .any, .ptr (.o 0) 0 0 0 0, .any, .any, .any, .any, .any, .ros 1 (List.length p) (li p) false, .any, .ros 1 (List.length L) (li L) false, .any, .any, .any, .any, .any, .any, .any, .any, .any, .any, .any, .any, .any, .any, .any, .any, .any, .any, .any, .any, .any, .any, .any, .any, .any, .any, .any, .any, .any, .any, .any, .any, .any, .any, .any, .any, .any, .any, .any, .any, .any, .any, .any, .any, .ros 1 (List.length bad) (li bad) false, .int .i64 (↑(List.length bad) : Int), .int .i64 (↑(k + 1) : Int), .any, .any, .any, .any, .any, .any, .any, .any, .any, .any, .any, .any, .any, .any, .any, .any, .any, .any, .any, .any, .any, .any, .any, .any, .any, .any, .any, .any, .any, .any, .any, .any, .any, .any, .any, .any, .any, .any, .any, .any, .any, .any, .any, .any, .any, .any, .any, .any, .any, .any, .any, .any, .any, .any, .any, .any, .any, .any, .any, .any, .any, .any, .any, .any] [(.o 0, .flat [.int .i64 (SCfg.nodes c), .int .i64 (SCfg.clients c), .int .i64 (SCfg.window c), .int .i64 (SCfg.buckets c), .int .i64 (SCfg.cap c), .int .i64 (SCfg.slots c), .int .i64 (SCfg.requests c), .int .i64 (SCfg.timeout c), .int .i64 (SCfg.penalty c), .int .i64 (SCfg.last c)])] 1 [], [decide ((↑k : Int) < (↑(List.length bad) : Int)) = true, (0 : Int) ≤ (↑k : Int) ∧ (↑k : Int) < (↑(List.length bad) : Int), decide ((0 : Int) ≤ List.getD bad (Int.toNat (↑k : Int)) (0 : Int)) = true, decide (List.getD bad (Int.toNat (↑k : Int)) (0 : Int) < SCfg.nodes c) = false, q false, InR IntKind.i64 ((↑k : Int) + (1 : Int)), q (SCfg.nodes c), q (SCfg.clients c), q (SCfg.window c), q (SCfg.buckets c), q (SCfg.cap c), q (SCfg.slots c), q (SCfg.requests c), q (SCfg.timeout c), q (SCfg.penalty c), q (SCfg.last c), q e, q (List.length pen), ∀ (k : Nat), k < List.length pen → [V.int IntKind.i64 (List.getD pen k (0 : Int))] = [V.int IntKind.i64 (List.getD pen k (0 : Int))], false = true → false = true, q (List.length bad), ∀ (k : Nat), k < List.length bad → [V.int IntKind.i64 (List.getD bad k (0 : Int))] = [V.int IntKind.i64 (List.getD bad k (0 : Int))], false = true → false = true, q0, q0, q0, q (List.length p), ∀ (k : Nat), k < List.length p → [V.int IntKind.i64 (List.getD p k (0 : Int))] = [V.int IntKind.i64 (List.getD p k (0 : Int))], false = true → false = true, q (List.length L), ∀ (k : Nat), k < List.length L → [V.int IntKind.i64 (List.getD L k (0 : Int))] = [V.int IntKind.i64 (List.getD L k (0 : Int))], false = true → false = true, q (List.length bad), ∀ (k : Nat), k < List.length bad → [V.int IntKind.i64 (List.getD bad k (0 : Int))] = [V.int IntKind.i64 (List.getD bad k (0 : Int))], false = true → false = true, q (↑(List.length bad) : Int), (↑k : Int) + (1 : Int) = (↑(k + (1 : Nat)) : Int)]) : Option (Exit × St × List Prop)) := by kernel_rfl

theorem pcBi_p1000 (c : SCfg) (e : Int) (pen : List Int) (bad : List Int) (p : List Int) (L : List Int) (k : Nat) (b : Bool) :
  alongPc Try.prog (pcBi c e pen bad p L k b) [true, false, false, false] = (some (.normal, St.mk [.any, .int .i64 e, .ros 1 (List.length pen) (li pen) false, .ros 1 (List.length bad) (li bad) false, .any, .ptr (.o 0) 0 0 0 0, .any, .any, .any, .any, .any, .ros 1 (List.length p) (li p) false, .any, .ros 1 (List.length L) (li L) false, .any, .any, .any, .any, .any, .any, .any, .any, .any, .any, .any, .any, .any, .any, .any, .any, .any, .any, .any, .any, .any, .any, .any, .any, .any, .any, .any, .any, .any, .any, .any, .any, .any, .any, .any, .any, .any, .any, .any, .any, .any, .any, .any, .any, .ros 1 (List.length bad) (li bad) false, .int .i64 (↑(List.length bad) : Int), .int .i64 (↑(k + 1) : Int), .any, .any, .any, .any, .any, .any, .any, .any, .any, .any, .any, .any, .any, .any, .any, .any, .any, .any, .any, .any, .any, .any, .any, .any, .any, .any, .any, .any, .any, .any, .any, .any, .any, .any, .any, .any, .any, .any, .any, .any, .any, .any, .any, .any, .any, .any, .any, .any, .any, .any, .any, .any, .any, .any, .any, .any, .any, .any, .any, .any, .any, .any, .any, .any] [(.o 0, .flat [.int .i64 (SCfg.nodes c), .int .i64 (SCfg.clients c), .int .i64 (SCfg.window c), .int .i64 (SCfg.buckets c), .int .i64 (SCfg.cap c), .int .i64 (SCfg.slots c), .int .i64 (SCfg.requests c), .int .i64 (SCfg.timeout c), .int .i64 (SCfg.penalty c), .int .i64 (SCfg.last c)])] 1 [], [decide ((↑k : Int) < (↑(List.length bad) : Int)) = true, (0 : Int) ≤ (↑k : Int) ∧ (↑k : Int) < (↑(List.length bad) : Int), decide ((0 : Int) ≤ List.getD bad (Int.toNat (↑k : Int)) (0 : Int)) = false, q false, q false, InR IntKind.i64 ((↑k : Int) + (1 : Int)), q (SCfg.nodes c), q (SCfg.clients c), q (SCfg.window c), q (SCfg.buckets c), q (SCfg.cap c), q (SCfg.slots c), q (SCfg.requests c), q (SCfg.timeout c), q (SCfg.penalty c), q (SCfg.last c), q e, q (List.length pen), ∀ (k : Nat), k < List.length pen → [V.int IntKind.i64 (List.getD pen k (0 : Int))] = [V.int IntKind.i64 (List.getD pen k (0 : Int))], false = true → false = true, q (List.length bad), ∀ (k : Nat), k < List.length bad → [V.int IntKind.i64 (List.getD bad k (0 : Int))] = [V.int IntKind.i64 (List.getD bad k (0 : Int))], false = true → false = true, q0, q0, q0, q (List.length p), ∀ (k : Nat), k < List.length p → [V.int IntKind.i64 (List.getD p k (0 : Int))] = [V.int IntKind.i64 (List.getD p k (0 : Int))], false = true → false = true, q (List.length L), ∀ (k : Nat), k < List.length L → [V.int IntKind.i64 (List.getD L k (0 : Int))] = [V.int IntKind.i64 (List.getD L k (0 : Int))], false = true → false = true, q (List.length bad), ∀ (k : Nat), k < List.length bad → [V.int IntKind.i64 (List.getD bad k (0 : Int))] = [V.int IntKind.i64 (List.getD bad k (0 : Int))], false = true → false = true, q (↑(List.length bad) : Int), (↑k : Int) + (1 : Int) = (↑(k + (1 : Nat)) : Int)]) : Option (Exit × St × List Prop)) := by kernel_rfl

theorem pcBi_p0 (c : SCfg) (e : Int) (pen : List Int) (bad : List Int) (p : List Int) (L : List Int) (k : Nat) (b : Bool) :
  alongPc Try.prog (pcBi c e pen bad p L k b) [false] = (some (.exit 0, St.mk [.any, .int .i64 e, .ros 1 (List.length pen) (li pen) false, .ros 1 (List.length bad) (li bad) false, .any, .ptr (.o 0) 0 0 0 0, .any, .any, .any, .any, .any, .ros 1 (List.length p) (li p) false, .any, .ros 1 (List.length L) (li L) false, .any, .any, .any, .any, .any, .any, .any, .any, .any, .any, .any, .any, .any, .any, .any, .any, .any, .any, .any, .any, .any, .any, .any, .any, .any, .any, .any, .any, .any, .any, .any, .any, .any, .any, .any, .any, .any, .any, .any, .any, .any, .any, .any, .any, .ros 1 (List.length bad) (li bad) false, .int .i64 (↑(List.length bad) : Int), .int .i64 ↑k, .any, .any, .any, .any, .any, .any, .any, .any, .any, .any, .any, .any, .any, .any, .any, .any, .any, .any, .any, .any, .any, .any, .any, .any, .any, .any, .any, .any, .any, .any, .any, .any, .any, .any, .any, .any, .any, .any, .any, .any, .any, .any, .any, .any, .any, .any, .any, .any, .any, .any, .any, .any, .any, .any, .any, .any, .any, .any, .any, .any, .any, .any, .any, .any] [(.o 0, .flat [.int .i64 (SCfg.nodes c), .int .i64 (SCfg.clients c), .int .i64 (SCfg.window c), .int .i64 (SCfg.buckets c), .int .i64 (SCfg.cap c), .int .i64 (SCfg.slots c), .int .i64 (SCfg.requests c), .int .i64 (SCfg.timeout c), .int .i64 (SCfg.penalty c), .int .i64 (SCfg.last c)])] 1 [], [decide ((↑k : Int) < (↑(List.length bad) : Int)) = false, q (SCfg.nodes c), q (SCfg.clients c), q (SCfg.window c), q (SCfg.buckets c), q (SCfg.cap c), q (SCfg.slots c), q (SCfg.requests c), q (SCfg.timeout c), q (SCfg.penalty c), q (SCfg.last c), q e, q (List.length pen), ∀ (k : Nat), k < List.length pen → [V.int IntKind.i64 (List.getD pen k (0 : Int))] = [V.int IntKind.i64 (List.getD pen k (0 : Int))], false = true → false = true, q (List.length bad), ∀ (k : Nat), k < List.length bad → [V.int IntKind.i64 (List.getD bad k (0 : Int))] = [V.int IntKind.i64 (List.getD bad k (0 : Int))], false = true → false = true, q0, q0, q0, q (List.length p), ∀ (k : Nat), k < List.length p → [V.int IntKind.i64 (List.getD p k (0 : Int))] = [V.int IntKind.i64 (List.getD p k (0 : Int))], false = true → false = true, q (List.length L), ∀ (k : Nat), k < List.length L → [V.int IntKind.i64 (List.getD L k (0 : Int))] = [V.int IntKind.i64 (List.getD L k (0 : Int))], false = true → false = true, q (List.length bad), ∀ (k : Nat), k < List.length bad → [V.int IntKind.i64 (List.getD bad k (0 : Int))] = [V.int IntKind.i64 (List.getD bad k (0 : Int))], false = true → false = true, q (↑(List.length bad) : Int), q (↑k : Int)]) : Option (Exit × St × List Prop)) := by kernel_rfl

theorem pcBj_p100 (c : SCfg) (e : Int) (pen : List Int) (bad : List Int) (p : List Int) (k : Nat) (b : Bool) :
  alongPc Try.prog (pcBj c e pen bad p k b) [true, false, false] = (some (.normal, St.mk [.any, .int .i64 e, .ros 1 (List.length pen) (li pen) false, .ros 1 (List.length bad) (li bad) false, .any, .ptr (.o 0) 0 0 0 0, .any, .any, .any, .any, .any, .ros 1 (List.length p) (li p) false, .any, .any, .any, .any, .any, .any, .any, .any, .any, .any, .any, .any, .any, .any, .any, .any, .any, .any, .any, .any, .any, .any, .any, .any, .any, .any, .any, .any, .any, .any, .any, .any, .any, .any, .any, .any, .any, .any, .any, .any, .any, .any, .any, .any, .any, .any, .any, .any, .any, .any, .any, .any, .any, .any, .any, .any, .any, .any, .any, .any, .any, .any, .any, .any, .any, .any, .any, .any, .any, .any, .any, .any, .ros 1 (List.length p) (li p) false, .int .i64 (↑(List.length p) : Int), .int .i64 (↑(k + 1) : Int), .any, .any, .any, .any, .any, .any, .any, .any, .any, .any, .any, .any, .any, .any, .any, .any, .any, .any, .any, .any, .any, .any, .any, .any, .any, .any, .any, .any, .any, .any, .any, .any, .any, .any, .any, .any, .any, .any] [(.o 0, .flat [.int .i64 (SCfg.nodes c), .int .i64 (SCfg.clients c), .int .i64 (SCfg.window c), .int .i64 (SCfg.buckets c), .int .i64 (SCfg.cap c), .int .i64 (SCfg.slots c), .int .i64 (SCfg.requests c), .int .i64 (SCfg.timeout c), .int .i64 (SCfg.penalty c), .int .i64 (SCfg.last c)])] 1 [], [decide ((↑k : Int) < (↑(List.length p) : Int)) = true, T Try.prog 18 [.ros 1 (List.length bad) (li bad) false, .int .i64 ↑k] [] (.bool b) [], (!b) = false, q false, InR IntKind.i64 ((↑k : Int) + (1 : Int)), q (SCfg.nodes c), q (SCfg.clients c), q (SCfg.window c), q (SCfg.buckets c), q (SCfg.cap c), q (SCfg.slots c), q (SCfg.requests c), q (SCfg.timeout c), q (SCfg.penalty c), q (SCfg.last c), q e, q (List.length pen), ∀ (k : Nat), k < List.length pen → [V.int IntKind.i64 (List.getD pen k (0 : Int))] = [V.int IntKind.i64 (List.getD pen k (0 : Int))], false = true → false = true, q (List.length bad), ∀ (k : Nat), k < List.length bad → [V.int IntKind.i64 (List.getD bad k (0 : Int))] = [V.int IntKind.i64 (List.getD bad k (0 : Int))], false = true → false = true, q0, q0, q0, q (List.length p), ∀ (k : Nat), k < List.length p → [V.int IntKind.i64 (List.getD p k (0 : Int))] = [V.int IntKind.i64 (List.getD p k (0 : Int))], false = true → false = true, q (List.length p), ∀ (k : Nat), k < List.length p → [V.int IntKind.i64 (List.getD p k (0 : Int))] = [V.int IntKind.i64 (List.getD p k (0 : Int))], false = true → false = true, q (↑(List.length p) : Int), (↑k : Int) + (1 : Int) = (↑(k + (1 : Nat)) : Int)]) : Option (Exit × St × List Prop)) := by kernel_rfl

theorem pcBj_p111000 (c : SCfg) (e : Int) (pen : List Int) (bad : List Int) (p : List Int) (k : Nat) (b : Bool) :
  alongPc Try.prog (pcBj c e pen bad p k b) [true, true, true, false, false, false] = (some (.normal, St.mk [.any, .int .i64 e, .ros 1 (List.length pen) (li pen) false, .ros 1 (List.length bad) (li bad) false, .any, .ptr (.o 0) 0 0 0 0, .any, .any, .any, .any, .any, .ros 1 (List.length p) (li p) false, .any, .any, .any, .any, .any, .any, .any, .any, .any, .any, .any, .any, .any, .any, .any, .any, .any, .any, .any, .any, .any, .any, .any, .any, .any, .any, .any, .any, .any, .any, .any, .any, .any, .any, .any, .any, .any, .any, .any, .any, .any, .any, .any, .any, .any, .any, .any, .any, .any, .any, .any, .any, .any, .any, .any, .any, .any, .any, .any, .any, .any, .any, .any, .any, .any, .any, .any, .any, .any, .any, .any, .any, .ros 1 (List.length p) (li p) false, .int .i64 (↑(List.length p) : Int), .int .i64 (↑(k + 1) : Int), .any, .any, .any, .any, .any, .any, .any, .any, .any, .any, .any, .any, .any, .any, .any, .any, .any, .any, .any, .any, .any, .any, .any, .any, .any, .any, .any, .any, .any, .any, .any, .any, .any, .any, .any, .any, .any, .any] [(.o 0, .flat [.int .i64 (SCfg.nodes c), .int .i64 (SCfg.clients c), .int .i64 (SCfg.window c), .int .i64 (SCfg.buckets c), .int .i64 (SCfg.cap c), .int .i64 (SCfg.slots c), .int .i64 (SCfg.requests c), .int .i64 (SCfg.timeout c), .int .i64 (SCfg.penalty c), .int .i64 (SCfg.last c)])] 1 [], [decide ((↑k : Int) < (↑(List.length p) : Int)) = true, T Try.prog 18 [.ros 1 (List.length bad) (li bad) false, .int .i64 ↑k] [] (.bool b) [], (!b) = true, decide ((↑k : Int) < (↑(List.length pen) : Int)) = true, (0 : Int) ≤ (↑k : Int) ∧ (↑k : Int) < (↑(List.length p) : Int), (0 : Int) ≤ (↑k : Int) ∧ (↑k : Int) < (↑(List.length pen) : Int), (!decide (List.getD p (Int.toNat (↑k : Int)) (0 : Int) = List.getD pen (Int.toNat (↑k : Int)) (0 : Int))) = false, decide ((↑(List.length pen) : Int) ≤ (↑k : Int)) = false, q false, InR IntKind.i64 ((↑k : Int) + (1 : Int)), q (SCfg.nodes c), q (SCfg.clients c), q (SCfg.window c), q (SCfg.buckets c), q (SCfg.cap c), q (SCfg.slots c), q (SCfg.requests c), q (SCfg.timeout c), q (SCfg.penalty c), q (SCfg.last c), q e, q (List.length pen), ∀ (k : Nat), k < List.length pen → [V.int IntKind.i64 (List.getD pen k (0 : Int))] = [V.int IntKind.i64 (List.getD pen k (0 : Int))], false = true → false = true, q (List.length bad), ∀ (k : Nat), k < List.length bad → [V.int IntKind.i64 (List.getD bad k (0 : Int))] = [V.int IntKind.i64 (List.getD bad k (0 : Int))], false = true → false = true, q0, q0, q0, q (List.length p), ∀ (k : Nat), k < List.length p → [V.int IntKind.i64 (List.getD p k (0 : Int))] = [V.int IntKind.i64 (List.getD p k (0 : Int))], false = true → false = true, q (List.length p), ∀ (k : Nat), k < List.length p → [V.int IntKind.i64 (List.getD p k (0 : Int))] = [V.int IntKind.i64 (List.getD p k (0 : Int))], false = true → false = true, q (↑(List.length p) : Int), (↑k : Int) + (1 : Int) = (↑(k + (1 : Nat)) : Int)]) : Option (Exit × St × List Prop)) := by kernel_rfl

theorem pcBj_p110010 (c : SCfg) (e : Int) (pen : List Int) (bad : List Int) (p : List Int) (k : Nat) (b : Bool) :
  alongPc Try.prog (pcBj c e pen bad p k b) [true, true, false, false, true, false] = (some (.normal, St.mk [.any, .int .i64 e, .ros 1 (List.length pen) (li pen) false, .ros 1 (List.length bad) (li bad) false, .any, .ptr (.o 0) 0 0 0 0, .any, .any, .any, .any, .any, .ros 1 (List.length p) (li p) false, .any, .any, .any, .any, .any, .any, .any, .any, .any, .any, .any, .any, .any, .any, .any, .any, .any, .any, .any, .any, .any, .any, .any, .any, .any, .any, .any, .any, .any, .any, .any, .any, .any, .any, .any, .any, .any, .any, .any, .any, .any, .any, .any, .any, .any, .any, .any, .any, .any, .any, .any, .any, .any, .any, .any, .any, .any, .any, .any, .any, .any, .any, .any, .any, .any, .any, .any, .any, .any, .any, .any, .any, .ros 1 (List.length p) (li p) false, .int .i64 (↑(List.length p) : Int), .int .i64 (↑(k + 1) : Int), .any, .any, .any, .any, .any, .any, .any, .any, .any, .any, .any, .any, .any, .any, .any, .any, .any, .any, .any, .any, .any, .any, .any, .any, .any, .any, .any, .any, .any, .any, .any, .any, .any, .any, .any, .any, .any, .any] [(.o 0, .flat [.int .i64 (SCfg.nodes c), .int .i64 (SCfg.clients c), .int .i64 (SCfg.window c), .int .i64 (SCfg.buckets c), .int .i64 (SCfg.cap c), .int .i64 (SCfg.slots c), .int .i64 (SCfg.requests c), .int .i64 (SCfg.timeout c), .int .i64 (SCfg.penalty c), .int .i64 (SCfg.last c)])] 1 [], [decide ((↑k : Int) < (↑(List.length p) : Int)) = true, T Try.prog 18 [.ros 1 (List.length bad) (li bad) false, .int .i64 ↑k] [] (.bool b) [], (!b) = true, decide ((↑k : Int) < (↑(List.length pen) : Int)) = false, q false, decide ((↑(List.length pen) : Int) ≤ (↑k : Int)) = true, (0 : Int) ≤ (↑k : Int) ∧ (↑k : Int) < (↑(List.length p) : Int), (!decide (List.getD p (Int.toNat (↑k : Int)) (0 : Int) = (0 : Int))) = false, InR IntKind.i64 ((↑k : Int) + (1 : Int)), q (SCfg.nodes c), q (SCfg.clients c), q (SCfg.window c), q (SCfg.buckets c), q (SCfg.cap c), q (SCfg.slots c), q (SCfg.requests c), q (SCfg.timeout c), q (SCfg.penalty c), q (SCfg.last c), q e, q (List.length pen), ∀ (k : Nat), k < List.length pen → [V.int IntKind.i64 (List.getD pen k (0 : Int))] = [V.int IntKind.i64 (List.getD pen k (0 : Int))], false = true → false = true, q (List.length bad), ∀ (k : Nat), k < List.length bad → [V.int IntKind.i64 (List.getD bad k (0 : Int))] = [V.int IntKind.i64 (List.getD bad k (0 : Int))], false = true → false = true, q0, q0, q0, q (List.length p), ∀ (k : Nat), k < List.length p → [V.int IntKind.i64 (List.getD p k (0 : Int))] = [V.int IntKind.i64 (List.getD p k (0 : Int))], false = true → false = true, q (List.length p), ∀ (k : Nat), k < List.length p → [V.int IntKind.i64 (List.getD p k (0 : Int))] = [V.int IntKind.i64 (List.getD p k (0 : Int))], false = true → false = true, q (↑(List.length p) : Int), (↑k : Int) + (1 : Int) = (↑(k + (1 : Nat)) : Int)]) : Option (Exit × St × List Prop)) := by kernel_rfl

theorem pcBj_p0 (c : SCfg) (e : Int) (pen : List Int) (bad : List Int) (p : List Int) (k : Nat) (b : Bool) :
  alongPc Try.prog (pcBj c e pen bad p k b) [false] = (some (.exit 2, St.mk [.any, .int .i64 e, .ros 1 (List.length pen) (li pen) false, .ros 1 (List.length bad) (li bad) false, .any, .ptr (.o 0) 0 0 0 0, .any, .any, .any, .any, .any, .ros 1 (List.length p) (li p) false, .any, .any, .any, .any, .any, .any, .any, .any, .any, .any, .any, .any, .any, .any, .any, .any, .any, .any, .any, .any, .any, .any, .any, .any, .any, .any, .any, .any, .any, .any, .any, .any, .any, .any, .any, .any, .any, .any, .any, .any, .any, .any, .any, .any, .any, .any, .any, .any, .any, .any, .any, .any, .any, .any, .any, .any, .any, .any, .any, .any, .any, .any, .any, .any, .any, .any, .any, .any, .any, .any, .any, .any, .ros 1 (List.length p) (li p) false, .int .i64 (↑(List.length p) : Int), .int .i64 ↑k, .any, .any, .any, .any, .any, .any, .any, .any, .any, .any, .any, .any, .any, .any, .any, .any, .any, .any, .any, .any, .any, .any, .any, .any, .any, .any, .any, .any, .any, .any, .any, .any, .any, .any, .any, .any, .any, .any] [(.o 0, .flat [.int .i64 (SCfg.nodes c), .int .i64 (SCfg.clients c), .int .i64 (SCfg.window c), .int .i64 (SCfg.buckets c), .int .i64 (SCfg.cap c), .int .i64 (SCfg.slots c), .int .i64 (SCfg.requests c), .int .i64 (SCfg.timeout c), .int .i64 (SCfg.penalty c), .int .i64 (SCfg.last c)])] 1 [], [decide ((↑k : Int) < (↑(List.length p) : Int)) = false, q (SCfg.nodes c), q (SCfg.clients c), q (SCfg.window c), q (SCfg.buckets c), q (SCfg.cap c), q (SCfg.slots c), q (SCfg.requests c), q (SCfg.timeout c), q (SCfg.penalty c), q (SCfg.last c), q e, q (List.length pen), ∀ (k : Nat), k < List.length pen → [V.int IntKind.i64 (List.getD pen k (0 : Int))] = [V.int IntKind.i64 (List.getD pen k (0 : Int))], false = true → false = true, q (List.length bad), ∀ (k : Nat), k < List.length bad → [V.int IntKind.i64 (List.getD bad k (0 : Int))] = [V.int IntKind.i64 (List.getD bad k (0 : Int))], false = true → false = true, q0, q0, q0, q (List.length p), ∀ (k : Nat), k < List.length p → [V.int IntKind.i64 (List.getD p k (0 : Int))] = [V.int IntKind.i64 (List.getD p k (0 : Int))], false = true → false = true, q (List.length p), ∀ (k : Nat), k < List.length p → [V.int IntKind.i64 (List.getD p k (0 : Int))] = [V.int IntKind.i64 (List.getD p k (0 : Int))], false = true → false = true, q (↑(List.length p) : Int), q (↑k : Int)]) : Option (Exit × St × List Prop)) := by kernel_rfl

set_option maxHeartbeats 1000000
theorem T_ba (c : SCfg) (e : Int) (pen bad : List Int) (sd : Int) : T Try.prog 6 [.agg c.c, .int .i64 e, lr pen, lr bad, .int .i64 sd] [] (.bool true) [] := by
 have hL := T_lv
 have hG := T_cg c
 by_cases g1 : goodE c = 0
 rotate_left
 ·have g1 := goodE_ne g1
  refine T_al (bdBa_p11111 c e pen bad sd (goodE c) [] []) Try.func6 ?_
  simp only [All, All_append, bdBa_c]; and_intros
  all_goals first
   | exact hL
   | exact hG
   | exact g1
   | (rw [decide_eq_true_eq]; omega)
   | (rw [decide_eq_false_iff_not]; omega)
   | omega
   | with_reducible rfl
   | (intro _ _; rfl)
   | (intro _ _; trivial)
   | (intro h; exact h)
   | exact .inl rfl
   | (simp only [IntKind.min, IntKind.max, IntKind.signed, IntKind.bits, if_true]; omega)
   | rfl
   | trivial
 have hm1 := goodE_zero.1 g1
 have g1 := goodE_eq g1
 by_cases g2 : e < 1
 ·skip
  refine T_al (bdBa_p01111 c e pen bad sd (goodE c) [] []) Try.func6 ?_
  simp only [All, All_append, bdBa_c]; and_intros
  all_goals first
   | exact hL
   | exact hG
   | exact g1
   | (rw [decide_eq_true_eq]; omega)
   | (rw [decide_eq_false_iff_not]; omega)
   | omega
   | with_reducible rfl
   | (intro _ _; rfl)
   | (intro _ _; trivial)
   | (intro h; exact h)
   | exact .inl rfl
   | (simp only [IntKind.min, IntKind.max, IntKind.signed, IntKind.bits, if_true]; omega)
   | rfl
   | trivial
 by_cases g3 : 1048512 < e
 ·skip
  refine T_al (bdBa_p00111 c e pen bad sd (goodE c) [] []) Try.func6 ?_
  simp only [All, All_append, bdBa_c]; and_intros
  all_goals first
   | exact hL
   | exact hG
   | exact g1
   | (rw [decide_eq_true_eq]; omega)
   | (rw [decide_eq_false_iff_not]; omega)
   | omega
   | with_reducible rfl
   | (intro _ _; rfl)
   | (intro _ _; trivial)
   | (intro h; exact h)
   | exact .inl rfl
   | (simp only [IntKind.min, IntKind.max, IntKind.signed, IntKind.bits, if_true]; omega)
   | rfl
   | trivial
 by_cases g4 : 200 < pen.length
 ·skip
  refine T_al (bdBa_p00011 c e pen bad sd (goodE c) [] []) Try.func6 ?_
  simp only [All, All_append, bdBa_c]; and_intros
  all_goals first
   | exact hL
   | exact hG
   | exact g1
   | (rw [decide_eq_true_eq]; omega)
   | (rw [decide_eq_false_iff_not]; omega)
   | omega
   | with_reducible rfl
   | (intro _ _; rfl)
   | (intro _ _; trivial)
   | (intro h; exact h)
   | exact .inl rfl
   | (simp only [IntKind.min, IntKind.max, IntKind.signed, IntKind.bits, if_true]; omega)
   | rfl
   | trivial
 by_cases g5 : 200 < bad.length
 ·skip
  refine T_al (bdBa_p00001 c e pen bad sd (goodE c) [] []) Try.func6 ?_
  simp only [All, All_append, bdBa_c]; and_intros
  all_goals first
   | exact hL
   | exact hG
   | exact g1
   | (rw [decide_eq_true_eq]; omega)
   | (rw [decide_eq_false_iff_not]; omega)
   | omega
   | with_reducible rfl
   | (intro _ _; rfl)
   | (intro _ _; trivial)
   | (intro h; exact h)
   | exact .inl rfl
   | (simp only [IntKind.min, IntKind.max, IntKind.signed, IntKind.bits, if_true]; omega)
   | rfl
   | trivial
 have hm : mayS c e = true := mayS_iff.2 ⟨hm1, by omega, by omega⟩
 obtain ⟨n1, n2, n3⟩ := nodesB hm1
 have hp := (goodC_iff.1 hm1).2.2.2.2.2.2.2.2.1
 obtain ⟨n, hn⟩ : ∃ n, n = c.nodes.toNat := ⟨_, rfl⟩
 have hn' : (n : Int) = c.nodes := by omega
 have hs0 : 0 ≤ IntKind.wrap IntKind.u64 sd := by
  simp only [IntKind.wrap, IntKind.signed, IntKind.bits]; simp; omega
 obtain ⟨r, hr⟩ : ∃ r, r = IntKind.wrap IntKind.u64 sd % 20 := ⟨_, rfl⟩
 have hr0 : 0 ≤ r := by omega
 have hr1 : r < 20 := by omega
 have hat : mayS c (e + 1 + c.penalty + r) = true := mayS_iff.2 ⟨hm1, by omega, by omega⟩
 obtain ⟨p, hpp⟩ : ∃ p, p = penL c e pen bad := ⟨_, rfl⟩
 have hpe : p = tab (pzS c e pen bad) n := by rw [hpp, penL, if_pos hm, hn]
 have hplen : p.length = n := by rw [hpe, tab_len]
 have hpg : ∀ k, k < n → p.getD k 0 = pzS c e pen bad k := fun k hk => by rw [hpe, tab_get hk]
 obtain ⟨L, hLL⟩ : ∃ L, L = listS c (e + 1 + c.penalty + r) p := ⟨_, rfl⟩
 have hPz := T_pz c e pen (bad := bad) (by omega)
 have hLs := T_ls c (e + 1 + c.penalty + r) p
 rw [← hpp] at hPz
 rw [← hLL, hr] at hLs
 have hin : ∀ x, x ∈ bad → 0 ≤ x → x < n → x ∈ L := fun x h1 h2 h3 => by
  have hx : p.getD x.toNat 0 = e + 1 + c.penalty := by
   rw [hpg _ (by omega), pzS, if_pos (by rwa [Int.toNat_of_nonneg h2])]
  rw [hLL, listS, if_pos hat, ← hn]
  split
  ·exact (filS_mem _ _ _).2 ⟨x.toNat, by omega, by omega, rfl⟩
  ·refine (filS_mem _ _ _).2 ⟨x.toNat, by omega, by omega, ?_⟩
   rw [decide_eq_true_eq, penS, Int.toNat_natCast, hx]; omega
 have hLlen : L.length ≤ 1000000 := by
  have h0 : L.length ≤ n := by
   rw [hLL, listS, if_pos hat, ← hn]
   split <;> exact filS_len _ _
  omega
 have step : ∀ k, k < bad.length → R Try.prog none 0 baC0 (baI c e pen bad p L k) .normal (baI c e pen bad p L (k + 1)) := fun k hk => by
  have hmem : bad.getD k 0 ∈ bad := by
   rw [List.getD_eq_getElem?_getD, List.getElem?_eq_getElem hk]; exact List.getElem_mem hk
  by_cases h1 : 0 ≤ bad.getD k 0
  ·by_cases h2 : bad.getD k 0 < c.nodes
   ·have hI := T_ri (l := L) (n := bad.getD k 0) hLlen
    rw [decide_eq_true (hin _ hmem h1 (by omega))] at hI
    refine R_alongPc NG MO _ (pcBi_p1110 c e pen bad p L k true) ?_ (by show 0 ≤ 1; decide)
    simp only [All, All_append, bdBa_c, Int.toNat_natCast]; and_intros
    all_goals first
     | exact hI
     | (rw [decide_eq_true_eq, Int.toNat_natCast]; omega)
     | (rw [decide_eq_false_iff_not, Int.toNat_natCast]; omega)
     | (rw [decide_eq_true_eq]; omega)
     | (rw [decide_eq_false_iff_not]; omega)
     | omega
     | with_reducible rfl
     | (intro _ _; rfl)
     | (intro _ _; trivial)
     | (intro h; exact h)
     | exact .inl rfl
     | (simp only [IntKind.min, IntKind.max, IntKind.signed, IntKind.bits, if_true]; omega)
     | rfl
     | trivial
   ·skip
    refine R_alongPc NG MO _ (pcBi_p1100 c e pen bad p L k true) ?_ (by show 0 ≤ 1; decide)
    simp only [All, All_append, bdBa_c, Int.toNat_natCast]; and_intros
    all_goals first
     | (rw [decide_eq_true_eq, Int.toNat_natCast]; omega)
     | (rw [decide_eq_false_iff_not, Int.toNat_natCast]; omega)
     | (rw [decide_eq_true_eq]; omega)
     | (rw [decide_eq_false_iff_not]; omega)
     | omega
     | with_reducible rfl
     | (intro _ _; rfl)
     | (intro _ _; trivial)
     | (intro h; exact h)
     | exact .inl rfl
     | (simp only [IntKind.min, IntKind.max, IntKind.signed, IntKind.bits, if_true]; omega)
     | rfl
     | trivial
  ·skip
   refine R_alongPc NG MO _ (pcBi_p1000 c e pen bad p L k true) ?_ (by show 0 ≤ 1; decide)
   simp only [All, All_append, bdBa_c, Int.toNat_natCast]; and_intros
   all_goals first
    | (rw [decide_eq_true_eq, Int.toNat_natCast]; omega)
    | (rw [decide_eq_false_iff_not, Int.toNat_natCast]; omega)
    | (rw [decide_eq_true_eq]; omega)
    | (rw [decide_eq_false_iff_not]; omega)
    | omega
    | with_reducible rfl
    | (intro _ _; rfl)
    | (intro _ _; trivial)
    | (intro h; exact h)
    | exact .inl rfl
    | (simp only [IntKind.min, IntKind.max, IntKind.signed, IntKind.bits, if_true]; omega)
    | rfl
    | trivial
 have out : R Try.prog none 0 baC0 (baI c e pen bad p L bad.length) (.exit 0) (baI c e pen bad p L bad.length) := by
  refine R_alongPc NG MO _ (pcBi_p0 c e pen bad p L bad.length true) ?_ (by show 0 ≤ 1; decide)
  simp only [All, All_append, bdBa_c, Int.toNat_natCast]; and_intros
  all_goals first
   | (rw [decide_eq_true_eq]; omega)
   | (rw [decide_eq_false_iff_not]; omega)
   | omega
   | with_reducible rfl
   | (intro _ _; rfl)
   | (intro _ _; trivial)
   | (intro h; exact h)
   | exact .inl rfl
   | (simp only [IntKind.min, IntKind.max, IntKind.signed, IntKind.bits, if_true]; omega)
   | rfl
   | trivial
 have hL0 := RLoop.inv (fun k => baI c e pen bad p L k) bad.length step out (by simp)
 have step2 : ∀ k, k < p.length → R Try.prog none 0 baC2 (baJ c e pen bad p k) .normal (baJ c e pen bad p (k + 1)) := fun k hk => by
  have hI := T_ri (l := bad) (n := (k : Int)) (by omega)
  have hg := hpg k (by omega)
  by_cases h1 : (k : Int) ∈ bad
  ·rw [decide_eq_true h1] at hI
   refine R_alongPc NG MO _ (pcBj_p100 c e pen bad p k true) ?_ (by show 0 ≤ 1; decide)
   simp only [All, All_append, bdBa_c, Int.toNat_natCast]; and_intros
   all_goals first
    | exact hI
    | (rw [decide_eq_true_eq, Int.toNat_natCast]; omega)
    | (rw [decide_eq_false_iff_not, Int.toNat_natCast]; omega)
    | (rw [decide_eq_true_eq]; omega)
    | (rw [decide_eq_false_iff_not]; omega)
    | omega
    | with_reducible rfl
    | (intro _ _; rfl)
    | (intro _ _; trivial)
    | (intro h; exact h)
    | exact .inl rfl
    | (simp only [IntKind.min, IntKind.max, IntKind.signed, IntKind.bits, if_true]; omega)
    | rfl
    | trivial
  ·rw [decide_eq_false h1] at hI
   rw [pzS, if_neg h1, penS, Int.toNat_natCast] at hg
   by_cases h2 : k < pen.length
   ·have ge : (!decide (p.getD (Int.toNat (k : Int)) 0 = pen.getD (Int.toNat (k : Int)) 0)) = false := by
     rw [Int.toNat_natCast, hg]; simp
    refine R_alongPc NG MO _ (pcBj_p111000 c e pen bad p k false) ?_ (by show 0 ≤ 1; decide)
    simp only [All, All_append, bdBa_c, Int.toNat_natCast]; and_intros
    all_goals first
     | exact hI
     | exact ge
     | (rw [decide_eq_true_eq, Int.toNat_natCast]; omega)
     | (rw [decide_eq_false_iff_not, Int.toNat_natCast]; omega)
     | (rw [decide_eq_true_eq]; omega)
     | (rw [decide_eq_false_iff_not]; omega)
     | omega
     | with_reducible rfl
     | (intro _ _; rfl)
     | (intro _ _; trivial)
     | (intro h; exact h)
     | exact .inl rfl
     | (simp only [IntKind.min, IntKind.max, IntKind.signed, IntKind.bits, if_true]; omega)
     | rfl
     | trivial
   ·rw [List.getD_eq_getElem?_getD (l := pen), List.getElem?_eq_none (by omega)] at hg
    have ge : (!decide (p.getD (Int.toNat (k : Int)) 0 = 0)) = false := by
     rw [Int.toNat_natCast, hg]; simp
    refine R_alongPc NG MO _ (pcBj_p110010 c e pen bad p k false) ?_ (by show 0 ≤ 1; decide)
    simp only [All, All_append, bdBa_c, Int.toNat_natCast]; and_intros
    all_goals first
     | exact hI
     | exact ge
     | (rw [decide_eq_true_eq, Int.toNat_natCast]; omega)
     | (rw [decide_eq_false_iff_not, Int.toNat_natCast]; omega)
     | (rw [decide_eq_true_eq]; omega)
     | (rw [decide_eq_false_iff_not]; omega)
     | omega
     | with_reducible rfl
     | (intro _ _; rfl)
     | (intro _ _; trivial)
     | (intro h; exact h)
     | exact .inl rfl
     | (simp only [IntKind.min, IntKind.max, IntKind.signed, IntKind.bits, if_true]; omega)
     | rfl
     | trivial
 have out2 : R Try.prog none 0 baC2 (baJ c e pen bad p p.length) (.exit 2) (baJ c e pen bad p p.length) := by
  refine R_alongPc NG MO _ (pcBj_p0 c e pen bad p p.length true) ?_ (by show 0 ≤ 1; decide)
  simp only [All, All_append, bdBa_c, Int.toNat_natCast]; and_intros
  all_goals first
   | (rw [decide_eq_true_eq]; omega)
   | (rw [decide_eq_false_iff_not]; omega)
   | omega
   | with_reducible rfl
   | (intro _ _; rfl)
   | (intro _ _; trivial)
   | (intro h; exact h)
   | exact .inl rfl
   | (simp only [IntKind.min, IntKind.max, IntKind.signed, IntKind.bits, if_true]; omega)
   | rfl
   | trivial
 have hL2 := RLoop.inv (fun k => baJ c e pen bad p k) p.length step2 out2 (by simp)
 have ge : (!decide ((p.length : Int) = c.nodes)) = false := by rw [decide_eq_true (by omega)]; rfl
 refine T_al (bdBa_p000000 c e pen bad sd (goodE c) p L) Try.func6 ?_
 simp only [All, All_append, bdBa_c]; and_intros
 all_goals first
  | exact hL
  | exact hG
  | exact g1
  | exact ge
  | exact hPz
  | exact hLs
  | exact hL0
  | exact hL2
  | (rw [decide_eq_true_eq]; omega)
  | (rw [decide_eq_false_iff_not]; omega)
  | omega
  | with_reducible rfl
  | (intro _ _; rfl)
  | (intro _ _; trivial)
  | (intro h; exact h)
  | exact .inl rfl
  | (simp only [IntKind.min, IntKind.max, IntKind.signed, IntKind.bits, if_true]; omega)
  | rfl
  | trivial
end Go.Proofs.Ythifjamdfpjilaa
namespace Go.Proofs.Ythifjamdfpjilaa
open Go Sy Go.Proofs
theorem cellsInt : Try.prog.cellsOf 3 = 1 := by kernel_rfl
theorem cellsInts : Try.prog.cellsOf 24 = 1 := by kernel_rfl
theorem sg_ints (U : Imm) {d : Nat} {cs : List V} (h : ShC Try.prog d 24 cs) : ∃ l : List Int, CsLe U cs [lr l] ∧ l.length ≤ 9223372036854775807 := by
 obtain ⟨d, len, f, rfl, hl, hf⟩ := sh_slice h Try.underlying24
 obtain ⟨s, hs⟩ := choose_fn (α := Int) (n := len) (p := fun i n => f i = [.int .i64 n]) fun i hi => by
  obtain ⟨n, h1, _⟩ := sh_int (hf i hi) Try.underlying3
  exact ⟨n, h1⟩
 refine ⟨tab s len, ?_, by rw [tab_len]; exact hl⟩
 rw [cellsInt, lr, tab_len]
 exact CsLe.ros fun i hi => by
  rw [hs i hi, li, tab_get hi]; exact CsLe.refl _ _
/-- Lists of lists. -/
def lrr (n : Nat) (L : Nat → List Int) : V := .ros 1 n (fun i => [lr (L i)]) false
theorem sg_intss (U : Imm) {d : Nat} {cs : List V} (h : ShC Try.prog d 33 cs) : ∃ n L, CsLe U cs [lrr n L] ∧ n ≤ 9223372036854775807 := by
 obtain ⟨d, len, f, rfl, hl, hf⟩ := sh_slice h Try.underlying33
 obtain ⟨s, hs⟩ := choose_fn (α := List Int) (n := len) (p := fun i l => CsLe U (f i) [lr l]) fun i hi => by
  obtain ⟨l, h1, _⟩ := sg_ints U (hf i hi)
  exact ⟨l, h1⟩
 refine ⟨len, s, ?_, hl⟩
 rw [cellsInts]
 exact CsLe.ros fun i hi => hs i hi
theorem sg_config {d : Nat} {cs : List V} (h : ShC Try.prog d 23 cs) : ∃ s : SCfg, cs = s.c ∧ True := by
 obtain ⟨d, a0, _, rfl, h0, a1, _, rfl, h1, a2, _, rfl, h2, a3, _, rfl, h3, a4, _, rfl, h4, a5, _, rfl, h5, a6, _, rfl, h6, a7, _, rfl, h7, a8, _, rfl, h8, a9, _, rfl, h9, rfl⟩ := sh_struct h Try.underlying23
 obtain ⟨n0, rfl, _⟩ := sh_int h0 Try.underlying3
 obtain ⟨n1, rfl, _⟩ := sh_int h1 Try.underlying3
 obtain ⟨n2, rfl, _⟩ := sh_int h2 Try.underlying3
 obtain ⟨n3, rfl, _⟩ := sh_int h3 Try.underlying3
 obtain ⟨n4, rfl, _⟩ := sh_int h4 Try.underlying3
 obtain ⟨n5, rfl, _⟩ := sh_int h5 Try.underlying3
 obtain ⟨n6, rfl, _⟩ := sh_int h6 Try.underlying3
 obtain ⟨n7, rfl, _⟩ := sh_int h7 Try.underlying3
 obtain ⟨n8, rfl, _⟩ := sh_int h8 Try.underlying3
 obtain ⟨n9, rfl, _⟩ := sh_int h9 Try.underlying3
 exact ⟨⟨n0, n1, n2, n3, n4, n5, n6, n7, n8, n9⟩, rfl, trivial⟩
end Go.Proofs.Ythifjamdfpjilaa
namespace Go.Proofs.Ythifjamdfpjilaa
open Go Sy Go.Proofs
/-- Which ones are asked for in this round. -/
def roL (L : Nat → List Int) (n : Nat) (nd : Int) (k : Nat) : List Int := nd :: (if k < n ∧ (L k).length < 200 then L k else [])
def roI (c : SCfg) (e : Int) (m : Nat) (L : Nat → List Int) (nd b : Int) (n k : Nat) (y : Int) : St := ⟨mkT 121 [(1, .int .i64 e), (4, lrr m L), (5, .ptr (.o 0) 0 0 0 0), (11, .int .i64 nd), (12, .int .i64 b), (13, .int .i64 y), (49, .int .i64 n), (50, .int .i64 k)], [(.o 0, .flat c.c)], 1, []⟩
noncomputable def bdRo (c : SCfg) (e x z : Int) (m : Nat) (L : Nat → List Int) (g : Int) (nd b : Int) (n : Nat) (y : Int) : Bd := { f := Try.f4, args := [.agg c.c, .int .i64 e, .int .i64 x, .int .i64 z, lrr m L], kb := { db := dbQ [(11, cVal (.int .i64 g)), (12, cVal (.bool true))], lp := fun id t => [(True, .loop (n + 1) (wToS [(.o 0, nmV (getV t.tmps 5))] (roI c e m L nd b n 0 0)) (.exit 0) (roI c e m L nd b n n y))] } }
noncomputable def roC : Code := cB (cB (cR (cL (cR (cR (cR (cR (bodyOf Try.f4))))))))
def roBk (B : List Int) : List V → Heap → Nat → List Cl := fun a _ lo => match a with
 | [_, _, .sl s _ _ _ _ _ _, _] => [{ rd := [s], val := ls lo B, post := [(.o lo, lb B)] }]
 | _ => []
def roOw (o : Int) : List V → Heap → Nat → List Cl := fun a _ _ => match a with
 | [_, _, .sl s _ _ _ _ _ _, _] => [{ rd := [s], val := .int .i64 o }]
 | _ => []
noncomputable def pcRo (c : SCfg) (e : Int) (m : Nat) (L : Nat → List Int) (nd b : Int) (n k : Nat) (y y' : Int) (B : List Int) (o : Int) : Pc := { c := roC, st := roI c e m L nd b n k y, p := 0, kb := { db := dbQ [(15, roBk B), (16, roOw o)] }, k := fun x_ _ => match x_ with
 | .normal => some (wTo (roI c e m L nd b n (k + 1) y'))
 | _ => some (wTo (roI c e m L nd b n k y)) }
end Go.Proofs.Ythifjamdfpjilaa
namespace Go.Proofs.Ythifjamdfpjilaa
open Go Sy Go.Proofs
noncomputable def bdRo_c (c : SCfg) (e : Int) (x : Int) (z : Int) (m : Nat) (L : Nat → List Int) (g : Int) (nd : Int) (b : Int) (n : Nat) (y : Int) : Nat → List Prop
 | 0 => [T Try.prog 11 [.agg [.int .i64 (SCfg.nodes c), .int .i64 (SCfg.clients c), .int .i64 (SCfg.window c), .int .i64 (SCfg.buckets c), .int .i64 (SCfg.cap c), .int .i64 (SCfg.slots c), .int .i64 (SCfg.requests c), .int .i64 (SCfg.timeout c), .int .i64 (SCfg.penalty c), .int .i64 (SCfg.last c)]] [] (.int .i64 g) []]
 | _ => []
theorem bdRo_p1111 (c : SCfg) (e : Int) (x : Int) (z : Int) (m : Nat) (L : Nat → List Int) (g : Int) (nd : Int) (b : Int) (n : Nat) (y : Int) :
 along Try.prog (bdRo c e x z m L g nd b n y) [true, true, true, true] = (some (.bool true, [], bdRo_c c e x z m L g nd b n y 0 ++ [(!decide (g = (0 : Int))) = true, q2, q2, q2, T Try.prog 12 [] [] (.bool true) []]) : Option (V × Heap × List Prop)) := by kernel_rfl

theorem bdRo_p0111 (c : SCfg) (e : Int) (x : Int) (z : Int) (m : Nat) (L : Nat → List Int) (g : Int) (nd : Int) (b : Int) (n : Nat) (y : Int) :
 along Try.prog (bdRo c e x z m L g nd b n y) [false, true, true, true] = (some (.bool true, [], bdRo_c c e x z m L g nd b n y 0 ++ [(!decide (g = (0 : Int))) = false, decide (e < (1 : Int)) = true, q2, q2, T Try.prog 12 [] [] (.bool true) []]) : Option (V × Heap × List Prop)) := by kernel_rfl

theorem bdRo_p0011 (c : SCfg) (e : Int) (x : Int) (z : Int) (m : Nat) (L : Nat → List Int) (g : Int) (nd : Int) (b : Int) (n : Nat) (y : Int) :
 along Try.prog (bdRo c e x z m L g nd b n y) [false, false, true, true] = (some (.bool true, [], bdRo_c c e x z m L g nd b n y 0 ++ [(!decide (g = (0 : Int))) = false, decide (e < (1 : Int)) = false, decide ((1048512 : Int) < e) = true, q2, T Try.prog 12 [] [] (.bool true) []]) : Option (V × Heap × List Prop)) := by kernel_rfl

theorem bdRo_p0001 (c : SCfg) (e : Int) (x : Int) (z : Int) (m : Nat) (L : Nat → List Int) (g : Int) (nd : Int) (b : Int) (n : Nat) (y : Int) :
 along Try.prog (bdRo c e x z m L g nd b n y) [false, false, false, true] = (some (.bool true, [], bdRo_c c e x z m L g nd b n y 0 ++ [(!decide (g = (0 : Int))) = false, decide (e < (1 : Int)) = false, decide ((1048512 : Int) < e) = false, decide ((100 : Int) < (↑m : Int)) = true, T Try.prog 12 [] [] (.bool true) []]) : Option (V × Heap × List Prop)) := by kernel_rfl

theorem bdRo_p00001 (c : SCfg) (e : Int) (x : Int) (z : Int) (m : Nat) (L : Nat → List Int) (g : Int) (nd : Int) (b : Int) (n : Nat) (y : Int) :
 along Try.prog (bdRo c e x z m L g nd b n y) [false, false, false, false, true] = (some (.bool true, [], bdRo_c c e x z m L g nd b n y 0 ++ [(!decide (g = (0 : Int))) = false, decide (e < (1 : Int)) = false, decide ((1048512 : Int) < e) = false, decide ((100 : Int) < (↑m : Int)) = false, (0 : Int) ≤ IntKind.wrap IntKind.u64 x ∧ (0 : Int) < IntKind.wrap IntKind.u64 (SCfg.nodes c), InR IntKind.i64 (IntKind.wrap IntKind.u64 x % IntKind.wrap IntKind.u64 (SCfg.nodes c)), (0 : Int) ≤ IntKind.wrap IntKind.u64 z ∧ (0 : Int) < IntKind.wrap IntKind.u64 (SCfg.buckets c), InR IntKind.i64 (IntKind.wrap IntKind.u64 z % IntKind.wrap IntKind.u64 (SCfg.buckets c)), RLoop Try.prog none 0 (cB (cB (cR (cL (cR (cR (cR (cR (bodyOf (Bd.f (bdRo c e x z m L g nd b n y))))))))))) (n + 1) (St.mk [.any, .int .i64 e, .any, .any, .ros 1 m (fun i => [.ros 1 (List.length (L i)) (li (L i)) false]) false, .ptr (.o 0) 0 0 0 0, .any, .any, .any, .any, .any, .int .i64 nd, .int .i64 b, .int .i64 0, .any, .any, .any, .any, .any, .any, .any, .any, .any, .any, .any, .any, .any, .any, .any, .any, .any, .any, .any, .any, .any, .any, .any, .any, .any, .any, .any, .any, .any, .any, .any, .any, .any, .any, .any, .int .i64 ↑n, .int .i64 0, .any, .any, .any, .any, .any, .any, .any, .any, .any, .any, .any, .any, .any, .any, .any, .any, .any, .any, .any, .any, .any, .any, .any, .any, .any, .any, .any, .any, .any, .any, .any, .any, .any, .any, .any, .any, .any, .any, .any, .any, .any, .any, .any, .any, .any, .any, .any, .any, .any, .any, .any, .any, .any, .any, .any, .any, .any, .any, .any, .any, .any, .any, .any, .any, .any, .any, .any, .any, .any, .any] [(.o 0, .flat [.int .i64 (SCfg.nodes c), .int .i64 (SCfg.clients c), .int .i64 (SCfg.window c), .int .i64 (SCfg.buckets c), .int .i64 (SCfg.cap c), .int .i64 (SCfg.slots c), .int .i64 (SCfg.requests c), .int .i64 (SCfg.timeout c), .int .i64 (SCfg.penalty c), .int .i64 (SCfg.last c)])] 1 []) (.exit 0) (St.mk [.any, .int .i64 e, .any, .any, .ros 1 m (fun i => [.ros 1 (List.length (L i)) (li (L i)) false]) false, .ptr (.o 0) 0 0 0 0, .any, .any, .any, .any, .any, .int .i64 nd, .int .i64 b, .int .i64 y, .any, .any, .any, .any, .any, .any, .any, .any, .any, .any, .any, .any, .any, .any, .any, .any, .any, .any, .any, .any, .any, .any, .any, .any, .any, .any, .any, .any, .any, .any, .any, .any, .any, .any, .any, .int .i64 ↑n, .int .i64 ↑n, .any, .any, .any, .any, .any, .any, .any, .any, .any, .any, .any, .any, .any, .any, .any, .any, .any, .any, .any, .any, .any, .any, .any, .any, .any, .any, .any, .any, .any, .any, .any, .any, .any, .any, .any, .any, .any, .any, .any, .any, .any, .any, .any, .any, .any, .any, .any, .any, .any, .any, .any, .any, .any, .any, .any, .any, .any, .any, .any, .any, .any, .any, .any, .any, .any, .any, .any, .any, .any, .any] [(.o 0, .flat [.int .i64 (SCfg.nodes c), .int .i64 (SCfg.clients c), .int .i64 (SCfg.window c), .int .i64 (SCfg.buckets c), .int .i64 (SCfg.cap c), .int .i64 (SCfg.slots c), .int .i64 (SCfg.requests c), .int .i64 (SCfg.timeout c), .int .i64 (SCfg.penalty c), .int .i64 (SCfg.last c)])] 1 []), q (SCfg.nodes c), q (SCfg.clients c), q (SCfg.window c), q (SCfg.buckets c), q (SCfg.cap c), q (SCfg.slots c), q (SCfg.requests c), q (SCfg.timeout c), q (SCfg.penalty c), q (SCfg.last c), q e, q m, ∀ (k : Nat), k < m → [V.ros (1 : Nat) (List.length (L k)) (li (L k)) false] = [V.ros (1 : Nat) (List.length (L k)) (li (L k)) false], false = true → false = true, q0, q0, q0, IntKind.wrap IntKind.u64 x % IntKind.wrap IntKind.u64 (SCfg.nodes c) = nd, IntKind.wrap IntKind.u64 z % IntKind.wrap IntKind.u64 (SCfg.buckets c) = b, q1, SCfg.nodes c = (↑n : Int), q1, decide (y = (1 : Int)) = true, T Try.prog 12 [] [] (.bool true) []]) : Option (V × Heap × List Prop)) := by kernel_rfl

noncomputable def pcRo_c (c : SCfg) (e : Int) (m : Nat) (L : Nat → List Int) (nd : Int) (b : Int) (n : Nat) (k : Nat) (y : Int) (y' : Int) (B : List Int) (o : Int) : Nat → List Prop
 | 0 => [decide ((↑k : Int) < (↑m : Int)) = true, (0 : Int) ≤ (↑k : Int) ∧ (↑k : Int) < (↑m : Int)]
 | 1 => [decide ((↑(List.length (L (Int.toNat (↑k : Int)))) : Int) < (200 : Int)) = true, (0 : Int) ≤ (↑k : Int) ∧ (↑k : Int) < (↑m : Int), q (1 : Nat), ∀ (k_1 : Nat), k_1 < List.length (L (Int.toNat (↑k : Int))) → true = true, ((1 : Nat) + List.length (L (Int.toNat (↑k : Int)))) * (8 : Nat) ≤ (140737488355328 : Nat), InR IntKind.i64 (e + (↑k : Int)), T Try.prog 15 [.agg [.int .i64 (SCfg.nodes c), .int .i64 (SCfg.clients c), .int .i64 (SCfg.window c), .int .i64 (SCfg.buckets c), .int .i64 (SCfg.cap c), .int .i64 (SCfg.slots c), .int .i64 (SCfg.requests c), .int .i64 (SCfg.timeout c), .int .i64 (SCfg.penalty c), .int .i64 (SCfg.last c)], .int .i64 (e + (↑k : Int)), .sl (.o 1473) 1 0 0 0 (1 + List.length (L (Int.toNat (↑k : Int)))) none, .int .i64 nd] [(.o 1473, Sy.B.rows 1 (1 + List.length (L (Int.toNat (↑k : Int)))) (catF 1 (getL [[.int .i64 nd]]) (li (L (Int.toNat (↑k : Int))))) true)] (.sl (.o 1985) 1 0 0 0 (List.length B) none) [(.o 1985, Sy.B.rows 1 (List.length B) (li B) true), (.o 1473, Sy.B.rows 1 (1 + List.length (L (Int.toNat (↑k : Int)))) (catF 1 (getL [[.int .i64 nd]]) (li (L (Int.toNat (↑k : Int))))) true)]]
 | 2 => [decide ((0 : Int) < (↑(List.length B) : Int)) = true, (0 : Int) ≤ (0 : Int) ∧ (0 : Int) < (↑(List.length B) : Int), nat_lit 0 < List.length B]
 | 3 => [decide (List.getD B (nat_lit 0) (0 : Int) = b) = true, InR IntKind.i64 (e + (↑k : Int)), T Try.prog 16 [.agg [.int .i64 (SCfg.nodes c), .int .i64 (SCfg.clients c), .int .i64 (SCfg.window c), .int .i64 (SCfg.buckets c), .int .i64 (SCfg.cap c), .int .i64 (SCfg.slots c), .int .i64 (SCfg.requests c), .int .i64 (SCfg.timeout c), .int .i64 (SCfg.penalty c), .int .i64 (SCfg.last c)], .int .i64 (e + (↑k : Int)), .sl (.o 1473) 1 0 0 0 (1 + List.length (L (Int.toNat (↑k : Int)))) none, .int .i64 b] [(.o 1473, Sy.B.rows 1 (1 + List.length (L (Int.toNat (↑k : Int)))) (catF 1 (getL [[.int .i64 nd]]) (li (L (Int.toNat (↑k : Int))))) true)] (.int .i64 o) [(.o 1473, Sy.B.rows 1 (1 + List.length (L (Int.toNat (↑k : Int)))) (catF 1 (getL [[.int .i64 nd]]) (li (L (Int.toNat (↑k : Int))))) true)]]
 | 4 => [decide (o = nd) = true, InR IntKind.i64 (b + e), InR IntKind.i64 (b + e + (↑k : Int)), (0 : Int) ≤ b + e + (↑k : Int) ∧ (0 : Int) < SCfg.nodes c]
 | 5 => [decide ((↑(List.length (L (Int.toNat (↑k : Int)))) : Int) < (200 : Int)) = false, InR IntKind.i64 (e + (↑k : Int)), T Try.prog 15 [.agg [.int .i64 (SCfg.nodes c), .int .i64 (SCfg.clients c), .int .i64 (SCfg.window c), .int .i64 (SCfg.buckets c), .int .i64 (SCfg.cap c), .int .i64 (SCfg.slots c), .int .i64 (SCfg.requests c), .int .i64 (SCfg.timeout c), .int .i64 (SCfg.penalty c), .int .i64 (SCfg.last c)], .int .i64 (e + (↑k : Int)), .sl (.o 257) 1 0 0 0 1 (some 1), .int .i64 nd] [(.o 257, Sy.B.rows 1 1 (getL [[.int .i64 nd]]) false)] (.sl (.o 1537) 1 0 0 0 (List.length B) none) [(.o 1537, Sy.B.rows 1 (List.length B) (li B) true), (.o 257, Sy.B.rows 1 1 (getL [[.int .i64 nd]]) false)]]
 | 6 => [decide ((0 : Int) < (↑(List.length B) : Int)) = true, (0 : Int) ≤ (0 : Int) ∧ (0 : Int) < (↑(List.length B) : Int), nat_lit 0 < List.length B]
 | 7 => [decide (List.getD B (nat_lit 0) (0 : Int) = b) = true, InR IntKind.i64 (e + (↑k : Int)), T Try.prog 16 [.agg [.int .i64 (SCfg.nodes c), .int .i64 (SCfg.clients c), .int .i64 (SCfg.window c), .int .i64 (SCfg.buckets c), .int .i64 (SCfg.cap c), .int .i64 (SCfg.slots c), .int .i64 (SCfg.requests c), .int .i64 (SCfg.timeout c), .int .i64 (SCfg.penalty c), .int .i64 (SCfg.last c)], .int .i64 (e + (↑k : Int)), .sl (.o 257) 1 0 0 0 1 (some 1), .int .i64 b] [(.o 257, Sy.B.rows 1 1 (getL [[.int .i64 nd]]) false)] (.int .i64 o) [(.o 257, Sy.B.rows 1 1 (getL [[.int .i64 nd]]) false)]]
 | 8 => [decide (o = nd) = true, InR IntKind.i64 (b + e), InR IntKind.i64 (b + e + (↑k : Int)), (0 : Int) ≤ b + e + (↑k : Int) ∧ (0 : Int) < SCfg.nodes c]
 | 9 => [decide ((↑k : Int) < (↑m : Int)) = false, q false, InR IntKind.i64 (e + (↑k : Int)), T Try.prog 15 [.agg [.int .i64 (SCfg.nodes c), .int .i64 (SCfg.clients c), .int .i64 (SCfg.window c), .int .i64 (SCfg.buckets c), .int .i64 (SCfg.cap c), .int .i64 (SCfg.slots c), .int .i64 (SCfg.requests c), .int .i64 (SCfg.timeout c), .int .i64 (SCfg.penalty c), .int .i64 (SCfg.last c)], .int .i64 (e + (↑k : Int)), .sl (.o 257) 1 0 0 0 1 (some 1), .int .i64 nd] [(.o 257, Sy.B.rows 1 1 (getL [[.int .i64 nd]]) false)] (.sl (.o 1537) 1 0 0 0 (List.length B) none) [(.o 1537, Sy.B.rows 1 (List.length B) (li B) true), (.o 257, Sy.B.rows 1 1 (getL [[.int .i64 nd]]) false)]]
 | 10 => [decide ((0 : Int) < (↑(List.length B) : Int)) = true, (0 : Int) ≤ (0 : Int) ∧ (0 : Int) < (↑(List.length B) : Int), nat_lit 0 < List.length B]
 | 11 => [decide (List.getD B (nat_lit 0) (0 : Int) = b) = true, InR IntKind.i64 (e + (↑k : Int)), T Try.prog 16 [.agg [.int .i64 (SCfg.nodes c), .int .i64 (SCfg.clients c), .int .i64 (SCfg.window c), .int .i64 (SCfg.buckets c), .int .i64 (SCfg.cap c), .int .i64 (SCfg.slots c), .int .i64 (SCfg.requests c), .int .i64 (SCfg.timeout c), .int .i64 (SCfg.penalty c), .int .i64 (SCfg.last c)], .int .i64 (e + (↑k : Int)), .sl (.o 257) 1 0 0 0 1 (some 1), .int .i64 b] [(.o 257, Sy.B.rows 1 1 (getL [[.int .i64 nd]]) false)] (.int .i64 o) [(.o 257, Sy.B.rows 1 1 (getL [[.int .i64 nd]]) false)]]
 | 12 => [decide (o = nd) = true, InR IntKind.i64 (b + e), InR IntKind.i64 (b + e + (↑k : Int)), (0 : Int) ≤ b + e + (↑k : Int) ∧ (0 : Int) < SCfg.nodes c]
 | _ => []
theorem pcRo_p1111111 (c : SCfg) (e : Int) (m : Nat) (L : Nat → List Int) (nd : Int) (b : Int) (n : Nat) (k : Nat) (y : Int) (y' : Int) (B : List Int) (o : Int) :
 alongPc Try.prog (pcRo c e m L nd b n k y y' B o) [true, true, true, true, true, true, true] = (some (.normal, St.mk [.any, .int .i64 e, .any, .any, .ros 1 m (fun i => [.ros 1 (List.length (L i)) (li (L i)) false]) false, .ptr (.o 0) 0 0 0 0, .any, .any, .any, .any, .any, .int .i64 nd, .int .i64 b, .int .i64 y', .any, .any, .any, .any, .any, .any, .any, .any, .any, .any, .any, .any, .any, .any, .any, .any, .any, .any, .any, .any, .any, .any, .any, .any, .any, .any, .any, .any, .any, .any, .any, .any, .any, .any, .any, .int .i64 ↑n, .int .i64 (↑(k + 1) : Int), .any, .any, .any, .any, .any, .any, .any, .any, .any, .any, .any, .any, .any, .any, .any, .any, .any, .any, .any, .any, .any, .any, .any, .any, .any, .any, .any, .any, .any, .any, .any, .any, .any, .any, .any, .any, .any, .any, .any, .any, .any, .any, .any, .any, .any, .any, .any, .any, .any, .any, .any, .any, .any, .any, .any, .any, .any, .any, .any, .any, .any, .any, .any, .any, .any, .any, .any, .any, .any, .any] [(.o 0, Sy.B.flat [.int .i64 (SCfg.nodes c), .int .i64 (SCfg.clients c), .int .i64 (SCfg.window c), .int .i64 (SCfg.buckets c), .int .i64 (SCfg.cap c), .int .i64 (SCfg.slots c), .int .i64 (SCfg.requests c), .int .i64 (SCfg.timeout c), .int .i64 (SCfg.penalty c), .int .i64 (SCfg.last c)])] 1 [], [decide ((↑k : Int) < (↑n : Int)) = true] ++ (pcRo_c c e m L nd b n k y y' B o 0 ++ (pcRo_c c e m L nd b n k y y' B o 1 ++ (pcRo_c c e m L nd b n k y y' B o 2 ++ (pcRo_c c e m L nd b n k y y' B o 3 ++ (pcRo_c c e m L nd b n k y y' B o 4 ++ [decide ((b + e + (↑k : Int)) % SCfg.nodes c = nd) = true, InR IntKind.i64 (y + (1 : Int)), InR IntKind.i64 ((↑k : Int) + (1 : Int)), q (SCfg.nodes c), q (SCfg.clients c), q (SCfg.window c), q (SCfg.buckets c), q (SCfg.cap c), q (SCfg.slots c), q (SCfg.requests c), q (SCfg.timeout c), q (SCfg.penalty c), q (SCfg.last c), q e, q m, ∀ (k : Nat), k < m → [V.ros (1 : Nat) (List.length (L k)) (li (L k)) false] = [V.ros (1 : Nat) (List.length (L k)) (li (L k)) false], false = true → false = true, q0, q0, q0, q nd, q b, y + (1 : Int) = y', q (↑n : Int), (↑k : Int) + (1 : Int) = (↑(k + (1 : Nat)) : Int)])))))) : Option (Exit × St × List Prop)) := by kernel_rfl

theorem pcRo_p1111110 (c : SCfg) (e : Int) (m : Nat) (L : Nat → List Int) (nd : Int) (b : Int) (n : Nat) (k : Nat) (y : Int) (y' : Int) (B : List Int) (o : Int) :
 alongPc Try.prog (pcRo c e m L nd b n k y y' B o) [true, true, true, true, true, true, false] = (some (.normal, St.mk [.any, .int .i64 e, .any, .any, .ros 1 m (fun i => [.ros 1 (List.length (L i)) (li (L i)) false]) false, .ptr (.o 0) 0 0 0 0, .any, .any, .any, .any, .any, .int .i64 nd, .int .i64 b, .int .i64 y', .any, .any, .any, .any, .any, .any, .any, .any, .any, .any, .any, .any, .any, .any, .any, .any, .any, .any, .any, .any, .any, .any, .any, .any, .any, .any, .any, .any, .any, .any, .any, .any, .any, .any, .any, .int .i64 ↑n, .int .i64 (↑(k + 1) : Int), .any, .any, .any, .any, .any, .any, .any, .any, .any, .any, .any, .any, .any, .any, .any, .any, .any, .any, .any, .any, .any, .any, .any, .any, .any, .any, .any, .any, .any, .any, .any, .any, .any, .any, .any, .any, .any, .any, .any, .any, .any, .any, .any, .any, .any, .any, .any, .any, .any, .any, .any, .any, .any, .any, .any, .any, .any, .any, .any, .any, .any, .any, .any, .any, .any, .any, .any, .any, .any, .any] [(.o 0, Sy.B.flat [.int .i64 (SCfg.nodes c), .int .i64 (SCfg.clients c), .int .i64 (SCfg.window c), .int .i64 (SCfg.buckets c), .int .i64 (SCfg.cap c), .int .i64 (SCfg.slots c), .int .i64 (SCfg.requests c), .int .i64 (SCfg.timeout c), .int .i64 (SCfg.penalty c), .int .i64 (SCfg.last c)])] 1 [], [decide ((↑k : Int) < (↑n : Int)) = true] ++ (pcRo_c c e m L nd b n k y y' B o 0 ++ (pcRo_c c e m L nd b n k y y' B o 1 ++ (pcRo_c c e m L nd b n k y y' B o 2 ++ (pcRo_c c e m L nd b n k y y' B o 3 ++ (pcRo_c c e m L nd b n k y y' B o 4 ++ [decide ((b + e + (↑k : Int)) % SCfg.nodes c = nd) = false, InR IntKind.i64 ((↑k : Int) + (1 : Int)), q (SCfg.nodes c), q (SCfg.clients c), q (SCfg.window c), q (SCfg.buckets c), q (SCfg.cap c), q (SCfg.slots c), q (SCfg.requests c), q (SCfg.timeout c), q (SCfg.penalty c), q (SCfg.last c), q e, q m, ∀ (k : Nat), k < m → [V.ros (1 : Nat) (List.length (L k)) (li (L k)) false] = [V.ros (1 : Nat) (List.length (L k)) (li (L k)) false], false = true → false = true, q0, q0, q0, q nd, q b, y = y', q (↑n : Int), (↑k : Int) + (1 : Int) = (↑(k + (1 : Nat)) : Int)])))))) : Option (Exit × St × List Prop)) := by kernel_rfl

theorem pcRo_p1111100 (c : SCfg) (e : Int) (m : Nat) (L : Nat → List Int) (nd : Int) (b : Int) (n : Nat) (k : Nat) (y : Int) (y' : Int) (B : List Int) (o : Int) :
 alongPc Try.prog (pcRo c e m L nd b n k y y' B o) [true, true, true, true, true, false, false] = (some (.normal, St.mk [.any, .int .i64 e, .any, .any, .ros 1 m (fun i => [.ros 1 (List.length (L i)) (li (L i)) false]) false, .ptr (.o 0) 0 0 0 0, .any, .any, .any, .any, .any, .int .i64 nd, .int .i64 b, .int .i64 y', .any, .any, .any, .any, .any, .any, .any, .any, .any, .any, .any, .any, .any, .any, .any, .any, .any, .any, .any, .any, .any, .any, .any, .any, .any, .any, .any, .any, .any, .any, .any, .any, .any, .any, .any, .int .i64 ↑n, .int .i64 (↑(k + 1) : Int), .any, .any, .any, .any, .any, .any, .any, .any, .any, .any, .any, .any, .any, .any, .any, .any, .any, .any, .any, .any, .any, .any, .any, .any, .any, .any, .any, .any, .any, .any, .any, .any, .any, .any, .any, .any, .any, .any, .any, .any, .any, .any, .any, .any, .any, .any, .any, .any, .any, .any, .any, .any, .any, .any, .any, .any, .any, .any, .any, .any, .any, .any, .any, .any, .any, .any, .any, .any, .any, .any] [(.o 0, Sy.B.flat [.int .i64 (SCfg.nodes c), .int .i64 (SCfg.clients c), .int .i64 (SCfg.window c), .int .i64 (SCfg.buckets c), .int .i64 (SCfg.cap c), .int .i64 (SCfg.slots c), .int .i64 (SCfg.requests c), .int .i64 (SCfg.timeout c), .int .i64 (SCfg.penalty c), .int .i64 (SCfg.last c)])] 1 [], [decide ((↑k : Int) < (↑n : Int)) = true] ++ (pcRo_c c e m L nd b n k y y' B o 0 ++ (pcRo_c c e m L nd b n k y y' B o 1 ++ (pcRo_c c e m L nd b n k y y' B o 2 ++ (pcRo_c c e m L nd b n k y y' B o 3 ++ [decide (o = nd) = false, q false, InR IntKind.i64 ((↑k : Int) + (1 : Int)), q (SCfg.nodes c), q (SCfg.clients c), q (SCfg.window c), q (SCfg.buckets c), q (SCfg.cap c), q (SCfg.slots c), q (SCfg.requests c), q (SCfg.timeout c), q (SCfg.penalty c), q (SCfg.last c), q e, q m, ∀ (k : Nat), k < m → [V.ros (1 : Nat) (List.length (L k)) (li (L k)) false] = [V.ros (1 : Nat) (List.length (L k)) (li (L k)) false], false = true → false = true, q0, q0, q0, q nd, q b, y = y', q (↑n : Int), (↑k : Int) + (1 : Int) = (↑(k + (1 : Nat)) : Int)]))))) : Option (Exit × St × List Prop)) := by kernel_rfl

theorem pcRo_p1111000 (c : SCfg) (e : Int) (m : Nat) (L : Nat → List Int) (nd : Int) (b : Int) (n : Nat) (k : Nat) (y : Int) (y' : Int) (B : List Int) (o : Int) :
 alongPc Try.prog (pcRo c e m L nd b n k y y' B o) [true, true, true, true, false, false, false] = (some (.normal, St.mk [.any, .int .i64 e, .any, .any, .ros 1 m (fun i => [.ros 1 (List.length (L i)) (li (L i)) false]) false, .ptr (.o 0) 0 0 0 0, .any, .any, .any, .any, .any, .int .i64 nd, .int .i64 b, .int .i64 y', .any, .any, .any, .any, .any, .any, .any, .any, .any, .any, .any, .any, .any, .any, .any, .any, .any, .any, .any, .any, .any, .any, .any, .any, .any, .any, .any, .any, .any, .any, .any, .any, .any, .any, .any, .int .i64 ↑n, .int .i64 (↑(k + 1) : Int), .any, .any, .any, .any, .any, .any, .any, .any, .any, .any, .any, .any, .any, .any, .any, .any, .any, .any, .any, .any, .any, .any, .any, .any, .any, .any, .any, .any, .any, .any, .any, .any, .any, .any, .any, .any, .any, .any, .any, .any, .any, .any, .any, .any, .any, .any, .any, .any, .any, .any, .any, .any, .any, .any, .any, .any, .any, .any, .any, .any, .any, .any, .any, .any, .any, .any, .any, .any, .any, .any] [(.o 0, Sy.B.flat [.int .i64 (SCfg.nodes c), .int .i64 (SCfg.clients c), .int .i64 (SCfg.window c), .int .i64 (SCfg.buckets c), .int .i64 (SCfg.cap c), .int .i64 (SCfg.slots c), .int .i64 (SCfg.requests c), .int .i64 (SCfg.timeout c), .int .i64 (SCfg.penalty c), .int .i64 (SCfg.last c)])] 1 [], [decide ((↑k : Int) < (↑n : Int)) = true] ++ (pcRo_c c e m L nd b n k y y' B o 0 ++ (pcRo_c c e m L nd b n k y y' B o 1 ++ (pcRo_c c e m L nd b n k y y' B o 2 ++ [decide (List.getD B (nat_lit 0) (0 : Int) = b) = false, q false, q false, InR IntKind.i64 ((↑k : Int) + (1 : Int)), q (SCfg.nodes c), q (SCfg.clients c), q (SCfg.window c), q (SCfg.buckets c), q (SCfg.cap c), q (SCfg.slots c), q (SCfg.requests c), q (SCfg.timeout c), q (SCfg.penalty c), q (SCfg.last c), q e, q m, ∀ (k : Nat), k < m → [V.ros (1 : Nat) (List.length (L k)) (li (L k)) false] = [V.ros (1 : Nat) (List.length (L k)) (li (L k)) false], false = true → false = true, q0, q0, q0, q nd, q b, y = y', q (↑n : Int), (↑k : Int) + (1 : Int) = (↑(k + (1 : Nat)) : Int)])))) : Option (Exit × St × List Prop)) := by kernel_rfl

theorem pcRo_p1110000 (c : SCfg) (e : Int) (m : Nat) (L : Nat → List Int) (nd : Int) (b : Int) (n : Nat) (k : Nat) (y : Int) (y' : Int) (B : List Int) (o : Int) :
 alongPc Try.prog (pcRo c e m L nd b n k y y' B o) [true, true, true, false, false, false, false] = (some (.normal, St.mk [.any, .int .i64 e, .any, .any, .ros 1 m (fun i => [.ros 1 (List.length (L i)) (li (L i)) false]) false, .ptr (.o 0) 0 0 0 0, .any, .any, .any, .any, .any, .int .i64 nd, .int .i64 b, .int .i64 y', .any, .any, .any, .any, .any, .any, .any, .any, .any, .any, .any, .any, .any, .any, .any, .any, .any, .any, .any, .any, .any, .any, .any, .any, .any, .any, .any, .any, .any, .any, .any, .any, .any, .any, .any, .int .i64 ↑n, .int .i64 (↑(k + 1) : Int), .any, .any, .any, .any, .any, .any, .any, .any, .any, .any, .any, .any, .any, .any, .any, .any, .any, .any, .any, .any, .any, .any, .any, .any, .any, .any, .any, .any, .any, .any, .any, .any, .any, .any, .any, .any, .any, .any, .any, .any, .any, .any, .any, .any, .any, .any, .any, .any, .any, .any, .any, .any, .any, .any, .any, .any, .any, .any, .any, .any, .any, .any, .any, .any, .any, .any, .any, .any, .any, .any] [(.o 0, Sy.B.flat [.int .i64 (SCfg.nodes c), .int .i64 (SCfg.clients c), .int .i64 (SCfg.window c), .int .i64 (SCfg.buckets c), .int .i64 (SCfg.cap c), .int .i64 (SCfg.slots c), .int .i64 (SCfg.requests c), .int .i64 (SCfg.timeout c), .int .i64 (SCfg.penalty c), .int .i64 (SCfg.last c)])] 1 [], [decide ((↑k : Int) < (↑n : Int)) = true] ++ (pcRo_c c e m L nd b n k y y' B o 0 ++ (pcRo_c c e m L nd b n k y y' B o 1 ++ [decide ((0 : Int) < (↑(List.length B) : Int)) = false, q false, q false, q false, InR IntKind.i64 ((↑k : Int) + (1 : Int)), q (SCfg.nodes c), q (SCfg.clients c), q (SCfg.window c), q (SCfg.buckets c), q (SCfg.cap c), q (SCfg.slots c), q (SCfg.requests c), q (SCfg.timeout c), q (SCfg.penalty c), q (SCfg.last c), q e, q m, ∀ (k : Nat), k < m → [V.ros (1 : Nat) (List.length (L k)) (li (L k)) false] = [V.ros (1 : Nat) (List.length (L k)) (li (L k)) false], false = true → false = true, q0, q0, q0, q nd, q b, y = y', q (↑n : Int), (↑k : Int) + (1 : Int) = (↑(k + (1 : Nat)) : Int)]))) : Option (Exit × St × List Prop)) := by kernel_rfl

theorem pcRo_p1101111 (c : SCfg) (e : Int) (m : Nat) (L : Nat → List Int) (nd : Int) (b : Int) (n : Nat) (k : Nat) (y : Int) (y' : Int) (B : List Int) (o : Int) :
 alongPc Try.prog (pcRo c e m L nd b n k y y' B o) [true, true, false, true, true, true, true] = (some (.normal, St.mk [.any, .int .i64 e, .any, .any, .ros 1 m (fun i => [.ros 1 (List.length (L i)) (li (L i)) false]) false, .ptr (.o 0) 0 0 0 0, .any, .any, .any, .any, .any, .int .i64 nd, .int .i64 b, .int .i64 y', .any, .any, .any, .any, .any, .any, .any, .any, .any, .any, .any, .any, .any, .any, .any, .any, .any, .any, .any, .any, .any, .any, .any, .any, .any, .any, .any, .any, .any, .any, .any, .any, .any, .any, .any, .int .i64 ↑n, .int .i64 (↑(k + 1) : Int), .any, .any, .any, .any, .any, .any, .any, .any, .any, .any, .any, .any, .any, .any, .any, .any, .any, .any, .any, .any, .any, .any, .any, .any, .any, .any, .any, .any, .any, .any, .any, .any, .any, .any, .any, .any, .any, .any, .any, .any, .any, .any, .any, .any, .any, .any, .any, .any, .any, .any, .any, .any, .any, .any, .any, .any, .any, .any, .any, .any, .any, .any, .any, .any, .any, .any, .any, .any, .any, .any] [(.o 0, Sy.B.flat [.int .i64 (SCfg.nodes c), .int .i64 (SCfg.clients c), .int .i64 (SCfg.window c), .int .i64 (SCfg.buckets c), .int .i64 (SCfg.cap c), .int .i64 (SCfg.slots c), .int .i64 (SCfg.requests c), .int .i64 (SCfg.timeout c), .int .i64 (SCfg.penalty c), .int .i64 (SCfg.last c)])] 1 [], [decide ((↑k : Int) < (↑n : Int)) = true] ++ (pcRo_c c e m L nd b n k y y' B o 0 ++ (pcRo_c c e m L nd b n k y y' B o 5 ++ (pcRo_c c e m L nd b n k y y' B o 6 ++ (pcRo_c c e m L nd b n k y y' B o 7 ++ (pcRo_c c e m L nd b n k y y' B o 8 ++ [decide ((b + e + (↑k : Int)) % SCfg.nodes c = nd) = true, InR IntKind.i64 (y + (1 : Int)), InR IntKind.i64 ((↑k : Int) + (1 : Int)), q (SCfg.nodes c), q (SCfg.clients c), q (SCfg.window c), q (SCfg.buckets c), q (SCfg.cap c), q (SCfg.slots c), q (SCfg.requests c), q (SCfg.timeout c), q (SCfg.penalty c), q (SCfg.last c), q e, q m, ∀ (k : Nat), k < m → [V.ros (1 : Nat) (List.length (L k)) (li (L k)) false] = [V.ros (1 : Nat) (List.length (L k)) (li (L k)) false], false = true → false = true, q0, q0, q0, q nd, q b, y + (1 : Int) = y', q (↑n : Int), (↑k : Int) + (1 : Int) = (↑(k + (1 : Nat)) : Int)])))))) : Option (Exit × St × List Prop)) := by kernel_rfl

theorem pcRo_p1101110 (c : SCfg) (e : Int) (m : Nat) (L : Nat → List Int) (nd : Int) (b : Int) (n : Nat) (k : Nat) (y : Int) (y' : Int) (B : List Int) (o : Int) :
 alongPc Try.prog (pcRo c e m L nd b n k y y' B o) [true, true, false, true, true, true, false] = (some (.normal, St.mk [.any, .int .i64 e, .any, .any, .ros 1 m (fun i => [.ros 1 (List.length (L i)) (li (L i)) false]) false, .ptr (.o 0) 0 0 0 0, .any, .any, .any, .any, .any, .int .i64 nd, .int .i64 b, .int .i64 y', .any, .any, .any, .any, .any, .any, .any, .any, .any, .any, .any, .any, .any, .any, .any, .any, .any, .any, .any, .any, .any, .any, .any, .any, .any, .any, .any, .any, .any, .any, .any, .any, .any, .any, .any, .int .i64 ↑n, .int .i64 (↑(k + 1) : Int), .any, .any, .any, .any, .any, .any, .any, .any, .any, .any, .any, .any, .any, .any, .any, .any, .any, .any, .any, .any, .any, .any, .any, .any, .any, .any, .any, .any, .any, .any, .any, .any, .any, .any, .any, .any, .any, .any, .any, .any, .any, .any, .any, .any, .any, .any, .any, .any, .any, .any, .any, .any, .any, .any, .any, .any, .any, .any, .any, .any, .any, .any, .any, .any, .any, .any, .any, .any, .any, .any] [(.o 0, Sy.B.flat [.int .i64 (SCfg.nodes c), .int .i64 (SCfg.clients c), .int .i64 (SCfg.window c), .int .i64 (SCfg.buckets c), .int .i64 (SCfg.cap c), .int .i64 (SCfg.slots c), .int .i64 (SCfg.requests c), .int .i64 (SCfg.timeout c), .int .i64 (SCfg.penalty c), .int .i64 (SCfg.last c)])] 1 [], [decide ((↑k : Int) < (↑n : Int)) = true] ++ (pcRo_c c e m L nd b n k y y' B o 0 ++ (pcRo_c c e m L nd b n k y y' B o 5 ++ (pcRo_c c e m L nd b n k y y' B o 6 ++ (pcRo_c c e m L nd b n k y y' B o 7 ++ (pcRo_c c e m L nd b n k y y' B o 8 ++ [decide ((b + e + (↑k : Int)) % SCfg.nodes c = nd) = false, InR IntKind.i64 ((↑k : Int) + (1 : Int)), q (SCfg.nodes c), q (SCfg.clients c), q (SCfg.window c), q (SCfg.buckets c), q (SCfg.cap c), q (SCfg.slots c), q (SCfg.requests c), q (SCfg.timeout c), q (SCfg.penalty c), q (SCfg.last c), q e, q m, ∀ (k : Nat), k < m → [V.ros (1 : Nat) (List.length (L k)) (li (L k)) false] = [V.ros (1 : Nat) (List.length (L k)) (li (L k)) false], false = true → false = true, q0, q0, q0, q nd, q b, y = y', q (↑n : Int), (↑k : Int) + (1 : Int) = (↑(k + (1 : Nat)) : Int)])))))) : Option (Exit × St × List Prop)) := by kernel_rfl

theorem pcRo_p1101100 (c : SCfg) (e : Int) (m : Nat) (L : Nat → List Int) (nd : Int) (b : Int) (n : Nat) (k : Nat) (y : Int) (y' : Int) (B : List Int) (o : Int) :
 alongPc Try.prog (pcRo c e m L nd b n k y y' B o) [true, true, false, true, true, false, false] = (some (.normal, St.mk [.any, .int .i64 e, .any, .any, .ros 1 m (fun i => [.ros 1 (List.length (L i)) (li (L i)) false]) false, .ptr (.o 0) 0 0 0 0, .any, .any, .any, .any, .any, .int .i64 nd, .int .i64 b, .int .i64 y', .any, .any, .any, .any, .any, .any, .any, .any, .any, .any, .any, .any, .any, .any, .any, .any, .any, .any, .any, .any, .any, .any, .any, .any, .any, .any, .any, .any, .any, .any, .any, .any, .any, .any, .any, .int .i64 ↑n, .int .i64 (↑(k + 1) : Int), .any, .any, .any, .any, .any, .any, .any, .any, .any, .any, .any, .any, .any, .any, .any, .any, .any, .any, .any, .any, .any, .any, .any, .any, .any, .any, .any, .any, .any, .any, .any, .any, .any, .any, .any, .any, .any, .any, .any, .any, .any, .any, .any, .any, .any, .any, .any, .any, .any, .any, .any, .any, .any, .any, .any, .any, .any, .any, .any, .any, .any, .any, .any, .any, .any, .any, .any, .any, .any, .any] [(.o 0, Sy.B.flat [.int .i64 (SCfg.nodes c), .int .i64 (SCfg.clients c), .int .i64 (SCfg.window c), .int .i64 (SCfg.buckets c), .int .i64 (SCfg.cap c), .int .i64 (SCfg.slots c), .int .i64 (SCfg.requests c), .int .i64 (SCfg.timeout c), .int .i64 (SCfg.penalty c), .int .i64 (SCfg.last c)])] 1 [], [decide ((↑k : Int) < (↑n : Int)) = true] ++ (pcRo_c c e m L nd b n k y y' B o 0 ++ (pcRo_c c e m L nd b n k y y' B o 5 ++ (pcRo_c c e m L nd b n k y y' B o 6 ++ (pcRo_c c e m L nd b n k y y' B o 7 ++ [decide (o = nd) = false, q false, InR IntKind.i64 ((↑k : Int) + (1 : Int)), q (SCfg.nodes c), q (SCfg.clients c), q (SCfg.window c), q (SCfg.buckets c), q (SCfg.cap c), q (SCfg.slots c), q (SCfg.requests c), q (SCfg.timeout c), q (SCfg.penalty c), q (SCfg.last c), q e, q m, ∀ (k : Nat), k < m → [V.ros (1 : Nat) (List.length (L k)) (li (L k)) false] = [V.ros (1 : Nat) (List.length (L k)) (li (L k)) false], false = true → false = true, q0, q0, q0, q nd, q b, y = y', q (↑n : Int), (↑k : Int) + (1 : Int) = (↑(k + (1 : Nat)) : Int)]))))) : Option (Exit × St × List Prop)) := by kernel_rfl

theorem pcRo_p1101000 (c : SCfg) (e : Int) (m : Nat) (L : Nat → List Int) (nd : Int) (b : Int) (n : Nat) (k : Nat) (y : Int) (y' : Int) (B : List Int) (o : Int) :
 alongPc Try.prog (pcRo c e m L nd b n k y y' B o) [true, true, false, true, false, false, false] = (some (.normal, St.mk [.any, .int .i64 e, .any, .any, .ros 1 m (fun i => [.ros 1 (List.length (L i)) (li (L i)) false]) false, .ptr (.o 0) 0 0 0 0, .any, .any, .any, .any, .any, .int .i64 nd, .int .i64 b, .int .i64 y', .any, .any, .any, .any, .any, .any, .any, .any, .any, .any, .any, .any, .any, .any, .any, .any, .any, .any, .any, .any, .any, .any, .any, .any, .any, .any, .any, .any, .any, .any, .any, .any, .any, .any, .any, .int .i64 ↑n, .int .i64 (↑(k + 1) : Int), .any, .any, .any, .any, .any, .any, .any, .any, .any, .any, .any, .any, .any, .any, .any, .any, .any, .any, .any, .any, .any, .any, .any, .any, .any, .any, .any, .any, .any, .any, .any, .any, .any, .any, .any, .any, .any, .any, .any, .any, .any, .any, .any, .any, .any, .any, .any, .any, .any, .any, .any, .any, .any, .any, .any, .any, .any, .any, .any, .any, .any, .any, .any, .any, .any, .any, .any, .any, .any, .any] [(.o 0, Sy.B.flat [.int .i64 (SCfg.nodes c), .int .i64 (SCfg.clients c), .int .i64 (SCfg.window c), .int .i64 (SCfg.buckets c), .int .i64 (SCfg.cap c), .int .i64 (SCfg.slots c), .int .i64 (SCfg.requests c), .int .i64 (SCfg.timeout c), .int .i64 (SCfg.penalty c), .int .i64 (SCfg.last c)])] 1 [], [decide ((↑k : Int) < (↑n : Int)) = true] ++ (pcRo_c c e m L nd b n k y y' B o 0 ++ (pcRo_c c e m L nd b n k y y' B o 5 ++ (pcRo_c c e m L nd b n k y y' B o 6 ++ [decide (List.getD B (nat_lit 0) (0 : Int) = b) = false, q false, q false, InR IntKind.i64 ((↑k : Int) + (1 : Int)), q (SCfg.nodes c), q (SCfg.clients c), q (SCfg.window c), q (SCfg.buckets c), q (SCfg.cap c), q (SCfg.slots c), q (SCfg.requests c), q (SCfg.timeout c), q (SCfg.penalty c), q (SCfg.last c), q e, q m, ∀ (k : Nat), k < m → [V.ros (1 : Nat) (List.length (L k)) (li (L k)) false] = [V.ros (1 : Nat) (List.length (L k)) (li (L k)) false], false = true → false = true, q0, q0, q0, q nd, q b, y = y', q (↑n : Int), (↑k : Int) + (1 : Int) = (↑(k + (1 : Nat)) : Int)])))) : Option (Exit × St × List Prop)) := by kernel_rfl

theorem pcRo_p1100000 (c : SCfg) (e : Int) (m : Nat) (L : Nat → List Int) (nd : Int) (b : Int) (n : Nat) (k : Nat) (y : Int) (y' : Int) (B : List Int) (o : Int) :
 alongPc Try.prog (pcRo c e m L nd b n k y y' B o) [true, true, false, false, false, false, false] = (some (.normal, St.mk [.any, .int .i64 e, .any, .any, .ros 1 m (fun i => [.ros 1 (List.length (L i)) (li (L i)) false]) false, .ptr (.o 0) 0 0 0 0, .any, .any, .any, .any, .any, .int .i64 nd, .int .i64 b, .int .i64 y', .any, .any, .any, .any, .any, .any, .any, .any, .any, .any, .any, .any, .any, .any, .any, .any, .any, .any, .any, .any, .any, .any, .any, .any, .any, .any, .any, .any, .any, .any, .any, .any, .any, .any, .any, .int .i64 ↑n, .int .i64 (↑(k + 1) : Int), .any, .any, .any, .any, .any, .any, .any, .any, .any, .any, .any, .any, .any, .any, .any, .any, .any, .any, .any, .any, .any, .any, .any, .any, .any, .any, .any, .any, .any, .any, .any, .any, .any, .any, .any, .any, .any, .any, .any, .any, .any, .any, .any, .any, .any, .any, .any, .any, .any, .any, .any, .any, .any, .any, .any, .any, .any, .any, .any, .any, .any, .any, .any, .any, .any, .any, .any, .any, .any, .any] [(.o 0, Sy.B.flat [.int .i64 (SCfg.nodes c), .int .i64 (SCfg.clients c), .int .i64 (SCfg.window c), .int .i64 (SCfg.buckets c), .int .i64 (SCfg.cap c), .int .i64 (SCfg.slots c), .int .i64 (SCfg.requests c), .int .i64 (SCfg.timeout c), .int .i64 (SCfg.penalty c), .int .i64 (SCfg.last c)])] 1 [], [decide ((↑k : Int) < (↑n : Int)) = true] ++ (pcRo_c c e m L nd b n k y y' B o 0 ++ (pcRo_c c e m L nd b n k y y' B o 5 ++ [decide ((0 : Int) < (↑(List.length B) : Int)) = false, q false, q false, q false, InR IntKind.i64 ((↑k : Int) + (1 : Int)), q (SCfg.nodes c), q (SCfg.clients c), q (SCfg.window c), q (SCfg.buckets c), q (SCfg.cap c), q (SCfg.slots c), q (SCfg.requests c), q (SCfg.timeout c), q (SCfg.penalty c), q (SCfg.last c), q e, q m, ∀ (k : Nat), k < m → [V.ros (1 : Nat) (List.length (L k)) (li (L k)) false] = [V.ros (1 : Nat) (List.length (L k)) (li (L k)) false], false = true → false = true, q0, q0, q0, q nd, q b, y = y', q (↑n : Int), (↑k : Int) + (1 : Int) = (↑(k + (1 : Nat)) : Int)]))) : Option (Exit × St × List Prop)) := by kernel_rfl

theorem pcRo_p1001111 (c : SCfg) (e : Int) (m : Nat) (L : Nat → List Int) (nd : Int) (b : Int) (n : Nat) (k : Nat) (y : Int) (y' : Int) (B : List Int) (o : Int) :
 alongPc Try.prog (pcRo c e m L nd b n k y y' B o) [true, false, false, true, true, true, true] = (some (.normal, St.mk [.any, .int .i64 e, .any, .any, .ros 1 m (fun i => [.ros 1 (List.length (L i)) (li (L i)) false]) false, .ptr (.o 0) 0 0 0 0, .any, .any, .any, .any, .any, .int .i64 nd, .int .i64 b, .int .i64 y', .any, .any, .any, .any, .any, .any, .any, .any, .any, .any, .any, .any, .any, .any, .any, .any, .any, .any, .any, .any, .any, .any, .any, .any, .any, .any, .any, .any, .any, .any, .any, .any, .any, .any, .any, .int .i64 ↑n, .int .i64 (↑(k + 1) : Int), .any, .any, .any, .any, .any, .any, .any, .any, .any, .any, .any, .any, .any, .any, .any, .any, .any, .any, .any, .any, .any, .any, .any, .any, .any, .any, .any, .any, .any, .any, .any, .any, .any, .any, .any, .any, .any, .any, .any, .any, .any, .any, .any, .any, .any, .any, .any, .any, .any, .any, .any, .any, .any, .any, .any, .any, .any, .any, .any, .any, .any, .any, .any, .any, .any, .any, .any, .any, .any, .any] [(.o 0, Sy.B.flat [.int .i64 (SCfg.nodes c), .int .i64 (SCfg.clients c), .int .i64 (SCfg.window c), .int .i64 (SCfg.buckets c), .int .i64 (SCfg.cap c), .int .i64 (SCfg.slots c), .int .i64 (SCfg.requests c), .int .i64 (SCfg.timeout c), .int .i64 (SCfg.penalty c), .int .i64 (SCfg.last c)])] 1 [], [decide ((↑k : Int) < (↑n : Int)) = true] ++ (pcRo_c c e m L nd b n k y y' B o 9 ++ (pcRo_c c e m L nd b n k y y' B o 10 ++ (pcRo_c c e m L nd b n k y y' B o 11 ++ (pcRo_c c e m L nd b n k y y' B o 12 ++ [decide ((b + e + (↑k : Int)) % SCfg.nodes c = nd) = true, InR IntKind.i64 (y + (1 : Int)), InR IntKind.i64 ((↑k : Int) + (1 : Int)), q (SCfg.nodes c), q (SCfg.clients c), q (SCfg.window c), q (SCfg.buckets c), q (SCfg.cap c), q (SCfg.slots c), q (SCfg.requests c), q (SCfg.timeout c), q (SCfg.penalty c), q (SCfg.last c), q e, q m, ∀ (k : Nat), k < m → [V.ros (1 : Nat) (List.length (L k)) (li (L k)) false] = [V.ros (1 : Nat) (List.length (L k)) (li (L k)) false], false = true → false = true, q0, q0, q0, q nd, q b, y + (1 : Int) = y', q (↑n : Int), (↑k : Int) + (1 : Int) = (↑(k + (1 : Nat)) : Int)]))))) : Option (Exit × St × List Prop)) := by kernel_rfl

theorem pcRo_p1001110 (c : SCfg) (e : Int) (m : Nat) (L : Nat → List Int) (nd : Int) (b : Int) (n : Nat) (k : Nat) (y : Int) (y' : Int) (B : List Int) (o : Int) :
 alongPc Try.prog (pcRo c e m L nd b n k y y' B o) [true, false, false, true, true, true, false] = (some (.normal, St.mk [.any, .int .i64 e, .any, .any, .ros 1 m (fun i => [.ros 1 (List.length (L i)) (li (L i)) false]) false, .ptr (.o 0) 0 0 0 0, .any, .any, .any, .any, .any, .int .i64 nd, .int .i64 b, .int .i64 y', .any, .any, .any, .any, .any, .any, .any, .any, .any, .any, .any, .any, .any, .any, .any, .any, .any, .any, .any, .any, .any, .any, .any, .any, .any, .any, .any, .any, .any, .any, .any, .any, .any, .any, .any, .int .i64 ↑n, .int .i64 (↑(k + 1) : Int), .any, .any, .any, .any, .any, .any, .any, .any, .any, .any, .any, .any, .any, .any, .any, .any, .any, .any, .any, .any, .any, .any, .any, .any, .any, .any, .any, .any, .any, .any, .any, .any, .any, .any, .any, .any, .any, .any, .any, .any, .any, .any, .any, .any, .any, .any, .any, .any, .any, .any, .any, .any, .any, .any, .any, .any, .any, .any, .any, .any, .any, .any, .any, .any, .any, .any, .any, .any, .any, .any] [(.o 0, Sy.B.flat [.int .i64 (SCfg.nodes c), .int .i64 (SCfg.clients c), .int .i64 (SCfg.window c), .int .i64 (SCfg.buckets c), .int .i64 (SCfg.cap c), .int .i64 (SCfg.slots c), .int .i64 (SCfg.requests c), .int .i64 (SCfg.timeout c), .int .i64 (SCfg.penalty c), .int .i64 (SCfg.last c)])] 1 [], [decide ((↑k : Int) < (↑n : Int)) = true] ++ (pcRo_c c e m L nd b n k y y' B o 9 ++ (pcRo_c c e m L nd b n k y y' B o 10 ++ (pcRo_c c e m L nd b n k y y' B o 11 ++ (pcRo_c c e m L nd b n k y y' B o 12 ++ [decide ((b + e + (↑k : Int)) % SCfg.nodes c = nd) = false, InR IntKind.i64 ((↑k : Int) + (1 : Int)), q (SCfg.nodes c), q (SCfg.clients c), q (SCfg.window c), q (SCfg.buckets c), q (SCfg.cap c), q (SCfg.slots c), q (SCfg.requests c), q (SCfg.timeout c), q (SCfg.penalty c), q (SCfg.last c), q e, q m, ∀ (k : Nat), k < m → [V.ros (1 : Nat) (List.length (L k)) (li (L k)) false] = [V.ros (1 : Nat) (List.length (L k)) (li (L k)) false], false = true → false = true, q0, q0, q0, q nd, q b, y = y', q (↑n : Int), (↑k : Int) + (1 : Int) = (↑(k + (1 : Nat)) : Int)]))))) : Option (Exit × St × List Prop)) := by kernel_rfl

theorem pcRo_p1001100 (c : SCfg) (e : Int) (m : Nat) (L : Nat → List Int) (nd : Int) (b : Int) (n : Nat) (k : Nat) (y : Int) (y' : Int) (B : List Int) (o : Int) :
 alongPc Try.prog (pcRo c e m L nd b n k y y' B o) [true, false, false, true, true, false, false] = (some (.normal, St.mk [.any, .int .i64 e, .any, .any, .ros 1 m (fun i => [.ros 1 (List.length (L i)) (li (L i)) false]) false, .ptr (.o 0) 0 0 0 0, .any, .any, .any, .any, .any, .int .i64 nd, .int .i64 b, .int .i64 y', .any, .any, .any, .any, .any, .any, .any, .any, .any, .any, .any, .any, .any, .any, .any, .any, .any, .any, .any, .any, .any, .any, .any, .any, .any, .any, .any, .any, .any, .any, .any, .any, .any, .any, .any, .int .i64 ↑n, .int .i64 (↑(k + 1) : Int), .any, .any, .any, .any, .any, .any, .any, .any, .any, .any, .any, .any, .any, .any, .any, .any, .any, .any, .any, .any, .any, .any, .any, .any, .any, .any, .any, .any, .any, .any, .any, .any, .any, .any, .any, .any, .any, .any, .any, .any, .any, .any, .any, .any, .any, .any, .any, .any, .any, .any, .any, .any, .any, .any, .any, .any, .any, .any, .any, .any, .any, .any, .any, .any, .any, .any, .any, .any, .any, .any] [(.o 0, Sy.B.flat [.int .i64 (SCfg.nodes c), .int .i64 (SCfg.clients c), .int .i64 (SCfg.window c), .int .i64 (SCfg.buckets c), .int .i64 (SCfg.cap c), .int .i64 (SCfg.slots c), .int .i64 (SCfg.requests c), .int .i64 (SCfg.timeout c), .int .i64 (SCfg.penalty c), .int .i64 (SCfg.last c)])] 1 [], [decide ((↑k : Int) < (↑n : Int)) = true] ++ (pcRo_c c e m L nd b n k y y' B o 9 ++ (pcRo_c c e m L nd b n k y y' B o 10 ++ (pcRo_c c e m L nd b n k y y' B o 11 ++ [decide (o = nd) = false, q false, InR IntKind.i64 ((↑k : Int) + (1 : Int)), q (SCfg.nodes c), q (SCfg.clients c), q (SCfg.window c), q (SCfg.buckets c), q (SCfg.cap c), q (SCfg.slots c), q (SCfg.requests c), q (SCfg.timeout c), q (SCfg.penalty c), q (SCfg.last c), q e, q m, ∀ (k : Nat), k < m → [V.ros (1 : Nat) (List.length (L k)) (li (L k)) false] = [V.ros (1 : Nat) (List.length (L k)) (li (L k)) false], false = true → false = true, q0, q0, q0, q nd, q b, y = y', q (↑n : Int), (↑k : Int) + (1 : Int) = (↑(k + (1 : Nat)) : Int)])))) : Option (Exit × St × List Prop)) := by kernel_rfl

theorem pcRo_p1001000 (c : SCfg) (e : Int) (m : Nat) (L : Nat → List Int) (nd : Int) (b : Int) (n : Nat) (k : Nat) (y : Int) (y' : Int) (B : List Int) (o : Int) :
 alongPc Try.prog (pcRo c e m L nd b n k y y' B o) [true, false, false, true, false, false, false] = (some (.normal, St.mk [.any, .int .i64 e, .any, .any, .ros 1 m (fun i => [.ros 1 (List.length (L i)) (li (L i)) false]) false, .ptr (.o 0) 0 0 0 0, .any, .any, .any, .any, .any, .int .i64 nd, .int .i64 b, .int .i64 y', .any, .any, .any, .any, .any, .any, .any, .any, .any, .any, .any, .any, .any, .any, .any, .any, .any, .any, .any, .any, .any, .any, .any, .any, .any, .any, .any, .any, .any, .any, .any, .any, .any, .any, .any, .int .i64 ↑n, .int .i64 (↑(k + 1) : Int), .any, .any, .any, .any, .any, .any, .any, .any, .any, .any, .any, .any, .any, .any, .any, .any, .any, .any, .any, .any, .any, .any, .any, .any, .any, .any, .any, .any, .any, .any, .any, .any, .any, .any, .any, .any, .any, .any, .any, .any, .any, .any, .any, .any, .any, .any, .any, .any, .any, .any, .any, .any, .any, .any, .any, .any, .any, .any, .any, .any, .any, .any, .any, .any, .any, .any, .any, .any, .any, .any] [(.o 0, Sy.B.flat [.int .i64 (SCfg.nodes c), .int .i64 (SCfg.clients c), .int .i64 (SCfg.window c), .int .i64 (SCfg.buckets c), .int .i64 (SCfg.cap c), .int .i64 (SCfg.slots c), .int .i64 (SCfg.requests c), .int .i64 (SCfg.timeout c), .int .i64 (SCfg.penalty c), .int .i64 (SCfg.last c)])] 1 [], [decide ((↑k : Int) < (↑n : Int)) = true] ++ (pcRo_c c e m L nd b n k y y' B o 9 ++ (pcRo_c c e m L nd b n k y y' B o 10 ++ [decide (List.getD B (nat_lit 0) (0 : Int) = b) = false, q false, q false, InR IntKind.i64 ((↑k : Int) + (1 : Int)), q (SCfg.nodes c), q (SCfg.clients c), q (SCfg.window c), q (SCfg.buckets c), q (SCfg.cap c), q (SCfg.slots c), q (SCfg.requests c), q (SCfg.timeout c), q (SCfg.penalty c), q (SCfg.last c), q e, q m, ∀ (k : Nat), k < m → [V.ros (1 : Nat) (List.length (L k)) (li (L k)) false] = [V.ros (1 : Nat) (List.length (L k)) (li (L k)) false], false = true → false = true, q0, q0, q0, q nd, q b, y = y', q (↑n : Int), (↑k : Int) + (1 : Int) = (↑(k + (1 : Nat)) : Int)]))) : Option (Exit × St × List Prop)) := by kernel_rfl

theorem pcRo_p1000000 (c : SCfg) (e : Int) (m : Nat) (L : Nat → List Int) (nd : Int) (b : Int) (n : Nat) (k : Nat) (y : Int) (y' : Int) (B : List Int) (o : Int) :
 alongPc Try.prog (pcRo c e m L nd b n k y y' B o) [true, false, false, false, false, false, false] = (some (.normal, St.mk [.any, .int .i64 e, .any, .any, .ros 1 m (fun i => [.ros 1 (List.length (L i)) (li (L i)) false]) false, .ptr (.o 0) 0 0 0 0, .any, .any, .any, .any, .any, .int .i64 nd, .int .i64 b, .int .i64 y', .any, .any, .any, .any, .any, .any, .any, .any, .any, .any, .any, .any, .any, .any, .any, .any, .any, .any, .any, .any, .any, .any, .any, .any, .any, .any, .any, .any, .any, .any, .any, .any, .any, .any, .any, .int .i64 ↑n, .int .i64 (↑(k + 1) : Int), .any, .any, .any, .any, .any, .any, .any, .any, .any, .any, .any, .any, .any, .any, .any, .any, .any, .any, .any, .any, .any, .any, .any, .any, .any, .any, .any, .any, .any, .any, .any, .any, .any, .any, .any, .any, .any, .any, .any, .any, .any, .any, .any, .any, .any, .any, .any, .any, .any, .any, .any, .any, .any, .any, .any, .any, .any, .any, .any, .any, .any, .any, .any, .any, .any, .any, .any, .any, .any, .any] [(.o 0, Sy.B.flat [.int .i64 (SCfg.nodes c), .int .i64 (SCfg.clients c), .int .i64 (SCfg.window c), .int .i64 (SCfg.buckets c), .int .i64 (SCfg.cap c), .int .i64 (SCfg.slots c), .int .i64 (SCfg.requests c), .int .i64 (SCfg.timeout c), .int .i64 (SCfg.penalty c), .int .i64 (SCfg.last c)])] 1 [], [decide ((↑k : Int) < (↑n : Int)) = true] ++ (pcRo_c c e m L nd b n k y y' B o 9 ++ [decide ((0 : Int) < (↑(List.length B) : Int)) = false, q false, q false, q false, InR IntKind.i64 ((↑k : Int) + (1 : Int)), q (SCfg.nodes c), q (SCfg.clients c), q (SCfg.window c), q (SCfg.buckets c), q (SCfg.cap c), q (SCfg.slots c), q (SCfg.requests c), q (SCfg.timeout c), q (SCfg.penalty c), q (SCfg.last c), q e, q m, ∀ (k : Nat), k < m → [V.ros (1 : Nat) (List.length (L k)) (li (L k)) false] = [V.ros (1 : Nat) (List.length (L k)) (li (L k)) false], false = true → false = true, q0, q0, q0, q nd, q b, y = y', q (↑n : Int), (↑k : Int) + (1 : Int) = (↑(k + (1 : Nat)) : Int)])) : Option (Exit × St × List Prop)) := by kernel_rfl

theorem pcRo_p0 (c : SCfg) (e : Int) (m : Nat) (L : Nat → List Int) (nd : Int) (b : Int) (n : Nat) (k : Nat) (y : Int) (y' : Int) (B : List Int) (o : Int) :
 alongPc Try.prog (pcRo c e m L nd b n k y y' B o) [false] = (some (.exit 0, St.mk [.any, .int .i64 e, .any, .any, .ros 1 m (fun i => [.ros 1 (List.length (L i)) (li (L i)) false]) false, .ptr (.o 0) 0 0 0 0, .any, .any, .any, .any, .any, .int .i64 nd, .int .i64 b, .int .i64 y, .any, .any, .any, .any, .any, .any, .any, .any, .any, .any, .any, .any, .any, .any, .any, .any, .any, .any, .any, .any, .any, .any, .any, .any, .any, .any, .any, .any, .any, .any, .any, .any, .any, .any, .any, .int .i64 ↑n, .int .i64 ↑k, .any, .any, .any, .any, .any, .any, .any, .any, .any, .any, .any, .any, .any, .any, .any, .any, .any, .any, .any, .any, .any, .any, .any, .any, .any, .any, .any, .any, .any, .any, .any, .any, .any, .any, .any, .any, .any, .any, .any, .any, .any, .any, .any, .any, .any, .any, .any, .any, .any, .any, .any, .any, .any, .any, .any, .any, .any, .any, .any, .any, .any, .any, .any, .any, .any, .any, .any, .any, .any, .any] [(.o 0, Sy.B.flat [.int .i64 (SCfg.nodes c), .int .i64 (SCfg.clients c), .int .i64 (SCfg.window c), .int .i64 (SCfg.buckets c), .int .i64 (SCfg.cap c), .int .i64 (SCfg.slots c), .int .i64 (SCfg.requests c), .int .i64 (SCfg.timeout c), .int .i64 (SCfg.penalty c), .int .i64 (SCfg.last c)])] 1 [], [decide ((↑k : Int) < (↑n : Int)) = false, q (SCfg.nodes c), q (SCfg.clients c), q (SCfg.window c), q (SCfg.buckets c), q (SCfg.cap c), q (SCfg.slots c), q (SCfg.requests c), q (SCfg.timeout c), q (SCfg.penalty c), q (SCfg.last c), q e, q m, ∀ (k : Nat), k < m → [V.ros (1 : Nat) (List.length (L k)) (li (L k)) false] = [V.ros (1 : Nat) (List.length (L k)) (li (L k)) false], false = true → false = true, q0, q0, q0, q nd, q b, q y, q (↑n : Int), q (↑k : Int)]) : Option (Exit × St × List Prop)) := by kernel_rfl

set_option maxHeartbeats 1000000
theorem ownS_self {l : List Int} {f nd : Int} {n : Nat} (hn : 0 < n) (h : f % (n : Int) = nd) (hl : nd ∈ l) : ownS l f n = nd := by
 obtain ⟨j, rfl⟩ : ∃ j, n = j + 1 := ⟨n - 1, by omega⟩
 have e0 : (f + ((0 : Nat) : Int)) % ((j + 1 : Nat) : Int) = nd := by rw [show f + ((0 : Nat) : Int) = f by omega]; exact h
 have : (List.range (j + 1)).find? (fun k => decide ((f + (k : Nat)) % ((j + 1 : Nat) : Int) ∈ l)) = some 0 := by
  rw [List.range_succ_eq_map, List.find?_cons_of_pos]
  rw [decide_eq_true_eq, e0]; exact hl
 rw [ownS, this]; exact e0
theorem own_uniq {c : SCfg} {e nd x y : Int} (hx : ownB c e nd x = true) (hy : ownB c e nd y = true) (x0 : 0 ≤ x) (x1 : x < c.nodes) (y0 : 0 ≤ y) (y1 : y < c.nodes) : x = y := by
 simp only [ownB, decide_eq_true_eq] at hx hy
 have key : ∀ x y : Int, (x + e) % c.nodes = nd → (y + e) % c.nodes = nd → 0 ≤ x → y < c.nodes → x < y → False := fun x y g1 g2 h0 h1 hxy => by
  have e3 : (y + e - (x + e)) % c.nodes = 0 := Int.emod_eq_emod_iff_emod_sub_eq_zero.1 (by rw [g1, g2])
  rw [show y + e - (x + e) = y - x by omega, Int.emod_eq_of_lt (by omega) (by omega)] at e3
  omega
 rcases Int.lt_trichotomy x y with h | h | h
 ·exact (key x y hx hy x0 y1 h).elim
 ·exact h
 ·exact (key y x hy hx y0 x1 h).elim
theorem bucS_first {c : SCfg} {e : Int} {l : List Int} {nd b : Int} (hm : mayS c e = true) (b0 : 0 ≤ b) (b1 : b < c.buckets) (hl : nd ∈ l) (h : (b + e) % c.nodes = nd) : ownerS c e l b = nd ∧ ∃ r, bucS c e l nd = b :: r := by
 obtain ⟨m1, m2, m3⟩ := mayS_iff.1 hm
 obtain ⟨g1, g2, g3⟩ := nodesB m1
 have gb := (goodC_iff.1 m1).2.2.2.1
 have ho : ownerS c e l b = nd := by
  rw [ownerS, if_pos ⟨hm, b0, b1⟩]
  exact ownS_self (by omega) (by rw [Int.toNat_of_nonneg (by omega)]; exact h) hl
 refine ⟨ho, ?_⟩
 have hob : ownB c e nd b = true := by rw [ownB, decide_eq_true_eq]; exact h
 have hmem : b ∈ bkQ c e l nd c.buckets.toNat := (filS_mem _ _ _).2 ⟨b.toNat, by omega, by omega, by rw [decide_eq_true_eq, Int.toNat_of_nonneg b0]; exact ho⟩
 have hf : b ∈ (bkQ c e l nd c.buckets.toNat).filter (fun x => ownB c e nd x) := List.mem_filter.2 ⟨hmem, hob⟩
 rw [bucS, ownL]
 cases hx : (bkQ c e l nd c.buckets.toNat).filter (fun x => ownB c e nd x) with
 | nil => rw [hx] at hf; cases hf
 | cons x r =>
  have hxm : x ∈ (bkQ c e l nd c.buckets.toNat).filter (fun x => ownB c e nd x) := by rw [hx]; exact List.mem_cons_self
  obtain ⟨h1, h2⟩ := List.mem_filter.1 hxm
  obtain ⟨i, i1, i2, _⟩ := (filS_mem _ _ _).1 h1
  have : x = b := own_uniq h2 hob (by omega) (by omega) b0 (by omega)
  exact ⟨_, by rw [this]; rfl⟩
def roS (nd : Int) (l : List Int) : B := .rows 1 (1 + l.length) (catF 1 (getL [[.int .i64 nd]]) (li l)) true
theorem cat_li (nd : Int) (l : List Int) : ∀ j, j < 1 + l.length → catF 1 (getL [[V.int .i64 nd]]) (li l) j = li (nd :: l) j := by
 intro j hj
 cases j with
 | zero => rfl
 | succ i =>
  show li l (i + 1 - 1) = _
  rw [Nat.add_sub_cancel]; rfl
theorem T_bkA {c : SCfg} {e : Int} (l : List Int) {nd : Int} (hm : mayS c e = true) (hl : l.length < 200) (hnd : 0 ≤ nd) : T Try.prog 15 [.agg c.c, .int .i64 e, .sl (.o 1473) 1 0 0 0 (1 + l.length) none, .int .i64 nd] [(.o 1473, roS nd l)] (ls 1985 (bucS c e (nd :: l) nd)) [(.o 1985, lb (bucS c e (nd :: l) nd)), (.o 1473, roS nd l)] := by
 have h7 := T_bk (c := c) (e := e) (l := nd :: l) (nd := nd) hm (by simp; omega) hnd 1985
 unfold roS
 exact T.lendG h7 rfl (by
  simp only [All, All_append, bdRo_c, pcRo_c]; and_intros <;> first | rfl | trivial | omega | (intro j hj; rw [Nat.zero_add]; exact cat_li nd l j hj) | (simp only [List.length_cons]; omega) | (intro h; cases h; done) | (intro h; exact h)) (FreeV.sl _ _ _ _ _ _ _) (fun x hx => by rw [List.mem_singleton] at hx; subst hx; exact FreeB.ints) (fun n hn => by obtain ⟨b, hb⟩ := hn; rw [List.mem_singleton] at hb; cases hb; rintro ⟨b, hb⟩; rw [List.mem_singleton] at hb; cases hb)
theorem T_owA {c : SCfg} {e : Int} (l : List Int) {nd b : Int} (hl : l.length < 200) : T Try.prog 16 [.agg c.c, .int .i64 e, .sl (.o 1473) 1 0 0 0 (1 + l.length) none, .int .i64 b] [(.o 1473, roS nd l)] (.int .i64 (ownerS c e (nd :: l) b)) [(.o 1473, roS nd l)] := by
 have h7 := T_ow c (e := e) (l := nd :: l) (b := b) (by simp; omega)
 unfold roS
 exact T.lendG h7 rfl (by
  simp only [All, All_append, bdRo_c, pcRo_c]; and_intros <;> first | rfl | trivial | omega | (intro j hj; rw [Nat.zero_add]; exact cat_li nd l j hj) | (simp only [List.length_cons]; omega) | (intro h; cases h; done) | (intro h; exact h)) (FreeV.int _ _) (fun x hx => absurd hx List.not_mem_nil) (fun n hn => by obtain ⟨b, hb⟩ := hn; exact absurd hb List.not_mem_nil)
theorem get_li (nd : Int) : ∀ j, j < 1 → getL [[V.int .i64 nd]] j = li [nd] j := fun j hj => by
 obtain rfl : j = 0 := by omega
 rfl
def roZ (nd : Int) : B := .rows 1 1 (getL [[.int .i64 nd]]) false
theorem T_bkB {c : SCfg} {e : Int} {nd : Int} (hm : mayS c e = true) (hnd : 0 ≤ nd) : T Try.prog 15 [.agg c.c, .int .i64 e, .sl (.o 257) 1 0 0 0 1 (some 1), .int .i64 nd] [(.o 257, roZ nd)] (ls 1537 (bucS c e [nd] nd)) [(.o 1537, lb (bucS c e [nd] nd)), (.o 257, roZ nd)] := by
 have h7 := T_bk (c := c) (e := e) (l := [nd]) (nd := nd) hm (by simp) hnd 1537
 unfold roZ
 exact T.lendG h7 rfl (by
  simp only [All, All_append, bdRo_c, pcRo_c]; and_intros <;> first | rfl | trivial | omega | (intro j hj; rw [Nat.zero_add]; exact get_li nd j hj) | (intro h; cases h; done) | (intro h; exact h)) (FreeV.sl _ _ _ _ _ _ _) (fun x hx => by rw [List.mem_singleton] at hx; subst hx; exact FreeB.ints) (fun n hn => by obtain ⟨b, hb⟩ := hn; rw [List.mem_singleton] at hb; cases hb; rintro ⟨b, hb⟩; rw [List.mem_singleton] at hb; cases hb)
theorem T_owB {c : SCfg} {e : Int} {nd b : Int} : T Try.prog 16 [.agg c.c, .int .i64 e, .sl (.o 257) 1 0 0 0 1 (some 1), .int .i64 b] [(.o 257, roZ nd)] (.int .i64 (ownerS c e [nd] b)) [(.o 257, roZ nd)] := by
 have h7 := T_ow c (e := e) (l := [nd]) (b := b) (by simp)
 unfold roZ
 exact T.lendG h7 rfl (by
  simp only [All, All_append, bdRo_c, pcRo_c]; and_intros <;> first | rfl | trivial | omega | (intro j hj; rw [Nat.zero_add]; exact get_li nd j hj) | (intro h; cases h; done) | (intro h; exact h)) (FreeV.int _ _) (fun x hx => absurd hx List.not_mem_nil) (fun n hn => by obtain ⟨b, hb⟩ := hn; exact absurd hb List.not_mem_nil)
theorem T_ro (c : SCfg) (e x z : Int) (m : Nat) (L : Nat → List Int) : T Try.prog 4 [.agg c.c, .int .i64 e, .int .i64 x, .int .i64 z, lrr m L] [] (.bool true) [] := by
 have hL := T_lv
 have hG := T_cg c
 by_cases g1 : goodE c = 0
 rotate_left
 ·have g1 := goodE_ne g1
  refine T_al (bdRo_p1111 c e x z m L (goodE c) 0 0 0 0) Try.func4 ?_
  simp only [All, All_append, bdRo_c, pcRo_c]; and_intros
  all_goals first
   | exact hL
   | exact hG
   | exact g1
   | (rw [decide_eq_true_eq]; omega)
   | (rw [decide_eq_false_iff_not]; omega)
   | omega
   | with_reducible rfl
   | (intro _ _; rfl)
   | (intro _ _; trivial)
   | (intro h; exact h)
   | exact .inl rfl
   | (simp only [IntKind.min, IntKind.max, IntKind.signed, IntKind.bits, if_true]; omega)
   | rfl
   | trivial
 have hm1 := goodE_zero.1 g1
 have g1 := goodE_eq g1
 by_cases g2 : e < 1
 ·skip
  refine T_al (bdRo_p0111 c e x z m L (goodE c) 0 0 0 0) Try.func4 ?_
  simp only [All, All_append, bdRo_c, pcRo_c]; and_intros
  all_goals first
   | exact hL
   | exact hG
   | exact g1
   | (rw [decide_eq_true_eq]; omega)
   | (rw [decide_eq_false_iff_not]; omega)
   | omega
   | with_reducible rfl
   | (intro _ _; rfl)
   | (intro _ _; trivial)
   | (intro h; exact h)
   | exact .inl rfl
   | (simp only [IntKind.min, IntKind.max, IntKind.signed, IntKind.bits, if_true]; omega)
   | rfl
   | trivial
 by_cases g3 : 1048512 < e
 ·skip
  refine T_al (bdRo_p0011 c e x z m L (goodE c) 0 0 0 0) Try.func4 ?_
  simp only [All, All_append, bdRo_c, pcRo_c]; and_intros
  all_goals first
   | exact hL
   | exact hG
   | exact g1
   | (rw [decide_eq_true_eq]; omega)
   | (rw [decide_eq_false_iff_not]; omega)
   | omega
   | with_reducible rfl
   | (intro _ _; rfl)
   | (intro _ _; trivial)
   | (intro h; exact h)
   | exact .inl rfl
   | (simp only [IntKind.min, IntKind.max, IntKind.signed, IntKind.bits, if_true]; omega)
   | rfl
   | trivial
 by_cases g4 : 100 < m
 ·skip
  refine T_al (bdRo_p0001 c e x z m L (goodE c) 0 0 0 0) Try.func4 ?_
  simp only [All, All_append, bdRo_c, pcRo_c]; and_intros
  all_goals first
   | exact hL
   | exact hG
   | exact g1
   | (rw [decide_eq_true_eq]; omega)
   | (rw [decide_eq_false_iff_not]; omega)
   | omega
   | with_reducible rfl
   | (intro _ _; rfl)
   | (intro _ _; trivial)
   | (intro h; exact h)
   | exact .inl rfl
   | (simp only [IntKind.min, IntKind.max, IntKind.signed, IntKind.bits, if_true]; omega)
   | rfl
   | trivial
 obtain ⟨n1, n2, n3⟩ := nodesB hm1
 have gb := (goodC_iff.1 hm1).2.2.2.1
 obtain ⟨n, hn⟩ : ∃ n, n = c.nodes.toNat := ⟨_, rfl⟩
 have hn' : (n : Int) = c.nodes := by omega
 have w1 : IntKind.wrap IntKind.u64 c.nodes = c.nodes := by simp only [IntKind.wrap, IntKind.signed, IntKind.bits]; simp; omega
 have w2 : IntKind.wrap IntKind.u64 c.buckets = c.buckets := by simp only [IntKind.wrap, IntKind.signed, IntKind.bits]; simp; omega
 have x0 : 0 ≤ IntKind.wrap IntKind.u64 x := by simp only [IntKind.wrap, IntKind.signed, IntKind.bits]; simp; omega
 have z0 : 0 ≤ IntKind.wrap IntKind.u64 z := by simp only [IntKind.wrap, IntKind.signed, IntKind.bits]; simp; omega
 obtain ⟨nd, hnd⟩ : ∃ nd, nd = IntKind.wrap IntKind.u64 x % c.nodes := ⟨_, rfl⟩
 obtain ⟨b, hb⟩ : ∃ b, b = IntKind.wrap IntKind.u64 z % c.buckets := ⟨_, rfl⟩
 have nd0 : 0 ≤ nd := by rw [hnd]; exact Int.emod_nonneg _ (by omega)
 have nd1 : nd < c.nodes := by rw [hnd]; exact Int.emod_lt_of_pos _ (by omega)
 have b0 : 0 ≤ b := by rw [hb]; exact Int.emod_nonneg _ (by omega)
 have b1 : b < c.buckets := by rw [hb]; exact Int.emod_lt_of_pos _ (by omega)
 obtain ⟨r, hr⟩ : ∃ r, r = (nd - (b + e)) % c.nodes := ⟨_, rfl⟩
 have r0 : 0 ≤ r := by rw [hr]; exact Int.emod_nonneg _ (by omega)
 have r1 : r < c.nodes := by rw [hr]; exact Int.emod_lt_of_pos _ (by omega)
 have hrk : ∀ k : Nat, k < n → ((b + e + k) % c.nodes = nd ↔ (k : Int) = r) := fun k hk => by
  constructor
  ·intro h
   have e1 : (nd - (b + e)) % c.nodes = (k : Int) % c.nodes := by
    rw [Int.emod_eq_emod_iff_emod_sub_eq_zero, ← h, show (b + e + (k : Int)) % c.nodes - (b + e) - k = (b + e + k) % c.nodes - (b + e + k) by omega]
    rw [Int.sub_emod, Int.emod_emod, Int.sub_self, Int.zero_emod]
   rw [hr, e1, Int.emod_eq_of_lt (by omega) (by omega)]
  ·intro h
   rw [h, hr, Int.add_emod, Int.emod_emod, ← Int.add_emod, show b + e + (nd - (b + e)) = nd by omega, Int.emod_eq_of_lt nd0 nd1]
 obtain ⟨y, hy⟩ : ∃ y : Nat → Int, y = (fun k : Nat => if r < (k : Int) then (1 : Int) else 0) := ⟨_, rfl⟩
 have yv : ∀ k, 0 ≤ y k ∧ y k ≤ 1 := fun k => by rw [hy]; simp only; split <;> omega
 have yn : ∀ k : Nat, (k : Int) ≠ r → y k = y (k + 1) := fun k h => by rw [hy]; simp only; split <;> split <;> omega
 have yr : ∀ k : Nat, (k : Int) = r → y k + 1 = y (k + 1) := fun k h => by rw [hy]; simp only; split <;> split <;> omega
 have step : ∀ k, k < n → R Try.prog none 0 roC (roI c e m L nd b n k (y k)) .normal (roI c e m L nd b n (k + 1) (y (k + 1))) := fun k hk => by
  have hm : mayS c (e + k) = true := mayS_iff.2 ⟨hm1, by omega, by omega⟩
  have yk := yv k
  have fst : ∀ l : List Int, nd ∈ l → (b + e + k) % c.nodes = nd → ownerS c (e + k) l b = nd ∧ ∃ r, bucS c (e + k) l nd = b :: r := fun l h1 h2 => bucS_first hm b0 b1 h1 (by rw [show b + (e + (k : Int)) = b + e + k by omega]; exact h2)
  have blen : ∀ l : List Int, (bucS c (e + k) l nd).length ≤ 64 := fun l => by
   rw [bucS, ownL_len]; have := filS_len (fun i => decide (ownerS c (e + k) l i = nd)) c.buckets.toNat
   unfold bkQ; omega
  by_cases h1 : k < m
  ·by_cases h2 : (L k).length < 200
   ·skip
    have hB := T_bkA (e := e + k) (L k) hm h2 nd0
    have hO := T_owA (c := c) (e := e + k) (L k) (nd := nd) (b := b) h2
    have hf := fst (nd :: L k) (by simp)
    have hl := blen (nd :: L k)
    obtain ⟨B, hBB⟩ : ∃ B, B = bucS c (e + k) (nd :: L k) nd := ⟨_, rfl⟩
    obtain ⟨o, hoo⟩ : ∃ o, o = ownerS c (e + k) (nd :: L k) b := ⟨_, rfl⟩
    rw [← hBB] at hB hf hl
    rw [← hoo] at hO hf
    by_cases c4 : (b + e + (k : Int)) % c.nodes = nd
    ·obtain ⟨h3, t, h4⟩ := hf c4
     have hpos : 0 < B.length := by rw [h4]; simp
     have h5 : B.getD 0 0 = b := by rw [h4]; rfl
     have yq := yr k ((hrk k hk).1 c4)
     refine R_alongPc NG MO _ (pcRo_p1111111 c e m L nd b n k (y k) (y (k + 1)) B o) ?_ (by show 0 ≤ 1; decide)
     simp only [All, All_append, bdRo_c, pcRo_c, Int.toNat_natCast]; and_intros
     all_goals first
      | exact hB
      | exact hO
      | (rw [decide_eq_false_iff_not]; exact c4)
      | (rw [decide_eq_true_eq]; exact c4)
      | (rw [decide_eq_true_eq]; omega)
      | (rw [decide_eq_false_iff_not]; omega)
      | omega
      | with_reducible rfl
      | (intro _ _; rfl)
      | (intro _ _; trivial)
      | (intro h; exact h)
      | exact .inl rfl
      | (simp only [IntKind.min, IntKind.max, IntKind.signed, IntKind.bits, if_true]; omega)
      | rfl
      | trivial
    ·have yq := yn k fun g => c4 ((hrk k hk).2 g)
     by_cases c1 : 0 < B.length
     rotate_left
     ·skip
      refine R_alongPc NG MO _ (pcRo_p1110000 c e m L nd b n k (y k) (y (k + 1)) B o) ?_ (by show 0 ≤ 1; decide)
      simp only [All, All_append, bdRo_c, pcRo_c, Int.toNat_natCast]; and_intros
      all_goals first
       | exact hB
       | (rw [decide_eq_true_eq]; omega)
       | (rw [decide_eq_false_iff_not]; omega)
       | omega
       | with_reducible rfl
       | (intro _ _; rfl)
       | (intro _ _; trivial)
       | (intro h; exact h)
       | exact .inl rfl
       | (simp only [IntKind.min, IntKind.max, IntKind.signed, IntKind.bits, if_true]; omega)
       | rfl
       | trivial
     by_cases c2 : B.getD 0 0 = b
     rotate_left
     ·skip
      refine R_alongPc NG MO _ (pcRo_p1111000 c e m L nd b n k (y k) (y (k + 1)) B o) ?_ (by show 0 ≤ 1; decide)
      simp only [All, All_append, bdRo_c, pcRo_c, Int.toNat_natCast]; and_intros
      all_goals first
       | exact hB
       | (rw [decide_eq_true_eq]; omega)
       | (rw [decide_eq_false_iff_not]; omega)
       | omega
       | with_reducible rfl
       | (intro _ _; rfl)
       | (intro _ _; trivial)
       | (intro h; exact h)
       | exact .inl rfl
       | (simp only [IntKind.min, IntKind.max, IntKind.signed, IntKind.bits, if_true]; omega)
       | rfl
       | trivial
     by_cases c3 : o = nd
     rotate_left
     ·skip
      refine R_alongPc NG MO _ (pcRo_p1111100 c e m L nd b n k (y k) (y (k + 1)) B o) ?_ (by show 0 ≤ 1; decide)
      simp only [All, All_append, bdRo_c, pcRo_c, Int.toNat_natCast]; and_intros
      all_goals first
       | exact hB
       | exact hO
       | (rw [decide_eq_true_eq]; omega)
       | (rw [decide_eq_false_iff_not]; omega)
       | omega
       | with_reducible rfl
       | (intro _ _; rfl)
       | (intro _ _; trivial)
       | (intro h; exact h)
       | exact .inl rfl
       | (simp only [IntKind.min, IntKind.max, IntKind.signed, IntKind.bits, if_true]; omega)
       | rfl
       | trivial
     refine R_alongPc NG MO _ (pcRo_p1111110 c e m L nd b n k (y k) (y (k + 1)) B o) ?_ (by show 0 ≤ 1; decide)
     simp only [All, All_append, bdRo_c, pcRo_c, Int.toNat_natCast]; and_intros
     all_goals first
      | exact hB
      | exact hO
      | (rw [decide_eq_false_iff_not]; exact c4)
      | (rw [decide_eq_true_eq]; omega)
      | (rw [decide_eq_false_iff_not]; omega)
      | omega
      | with_reducible rfl
      | (intro _ _; rfl)
      | (intro _ _; trivial)
      | (intro h; exact h)
      | exact .inl rfl
      | (simp only [IntKind.min, IntKind.max, IntKind.signed, IntKind.bits, if_true]; omega)
      | rfl
      | trivial
   ·skip
    have hB := T_bkB (e := e + k) hm nd0
    have hO := T_owB (c := c) (e := e + k) (nd := nd) (b := b)
    have hf := fst ([nd]) (by simp)
    have hl := blen ([nd])
    obtain ⟨B, hBB⟩ : ∃ B, B = bucS c (e + k) ([nd]) nd := ⟨_, rfl⟩
    obtain ⟨o, hoo⟩ : ∃ o, o = ownerS c (e + k) ([nd]) b := ⟨_, rfl⟩
    rw [← hBB] at hB hf hl
    rw [← hoo] at hO hf
    by_cases c4 : (b + e + (k : Int)) % c.nodes = nd
    ·obtain ⟨h3, t, h4⟩ := hf c4
     have hpos : 0 < B.length := by rw [h4]; simp
     have h5 : B.getD 0 0 = b := by rw [h4]; rfl
     have yq := yr k ((hrk k hk).1 c4)
     refine R_alongPc NG MO _ (pcRo_p1101111 c e m L nd b n k (y k) (y (k + 1)) B o) ?_ (by show 0 ≤ 1; decide)
     simp only [All, All_append, bdRo_c, pcRo_c, Int.toNat_natCast]; and_intros
     all_goals first
      | exact hB
      | exact hO
      | (rw [decide_eq_false_iff_not]; exact c4)
      | (rw [decide_eq_true_eq]; exact c4)
      | (rw [decide_eq_true_eq]; omega)
      | (rw [decide_eq_false_iff_not]; omega)
      | omega
      | with_reducible rfl
      | (intro _ _; rfl)
      | (intro _ _; trivial)
      | (intro h; exact h)
      | exact .inl rfl
      | (simp only [IntKind.min, IntKind.max, IntKind.signed, IntKind.bits, if_true]; omega)
      | rfl
      | trivial
    ·have yq := yn k fun g => c4 ((hrk k hk).2 g)
     by_cases c1 : 0 < B.length
     rotate_left
     ·skip
      refine R_alongPc NG MO _ (pcRo_p1100000 c e m L nd b n k (y k) (y (k + 1)) B o) ?_ (by show 0 ≤ 1; decide)
      simp only [All, All_append, bdRo_c, pcRo_c, Int.toNat_natCast]; and_intros
      all_goals first
       | exact hB
       | (rw [decide_eq_true_eq]; omega)
       | (rw [decide_eq_false_iff_not]; omega)
       | omega
       | with_reducible rfl
       | (intro _ _; rfl)
       | (intro _ _; trivial)
       | (intro h; exact h)
       | exact .inl rfl
       | (simp only [IntKind.min, IntKind.max, IntKind.signed, IntKind.bits, if_true]; omega)
       | rfl
       | trivial
     by_cases c2 : B.getD 0 0 = b
     rotate_left
     ·skip
      refine R_alongPc NG MO _ (pcRo_p1101000 c e m L nd b n k (y k) (y (k + 1)) B o) ?_ (by show 0 ≤ 1; decide)
      simp only [All, All_append, bdRo_c, pcRo_c, Int.toNat_natCast]; and_intros
      all_goals first
       | exact hB
       | (rw [decide_eq_true_eq]; omega)
       | (rw [decide_eq_false_iff_not]; omega)
       | omega
       | with_reducible rfl
       | (intro _ _; rfl)
       | (intro _ _; trivial)
       | (intro h; exact h)
       | exact .inl rfl
       | (simp only [IntKind.min, IntKind.max, IntKind.signed, IntKind.bits, if_true]; omega)
       | rfl
       | trivial
     by_cases c3 : o = nd
     rotate_left
     ·skip
      refine R_alongPc NG MO _ (pcRo_p1101100 c e m L nd b n k (y k) (y (k + 1)) B o) ?_ (by show 0 ≤ 1; decide)
      simp only [All, All_append, bdRo_c, pcRo_c, Int.toNat_natCast]; and_intros
      all_goals first
       | exact hB
       | exact hO
       | (rw [decide_eq_true_eq]; omega)
       | (rw [decide_eq_false_iff_not]; omega)
       | omega
       | with_reducible rfl
       | (intro _ _; rfl)
       | (intro _ _; trivial)
       | (intro h; exact h)
       | exact .inl rfl
       | (simp only [IntKind.min, IntKind.max, IntKind.signed, IntKind.bits, if_true]; omega)
       | rfl
       | trivial
     refine R_alongPc NG MO _ (pcRo_p1101110 c e m L nd b n k (y k) (y (k + 1)) B o) ?_ (by show 0 ≤ 1; decide)
     simp only [All, All_append, bdRo_c, pcRo_c, Int.toNat_natCast]; and_intros
     all_goals first
      | exact hB
      | exact hO
      | (rw [decide_eq_false_iff_not]; exact c4)
      | (rw [decide_eq_true_eq]; omega)
      | (rw [decide_eq_false_iff_not]; omega)
      | omega
      | with_reducible rfl
      | (intro _ _; rfl)
      | (intro _ _; trivial)
      | (intro h; exact h)
      | exact .inl rfl
      | (simp only [IntKind.min, IntKind.max, IntKind.signed, IntKind.bits, if_true]; omega)
      | rfl
      | trivial
  ·skip
   have hB := T_bkB (e := e + k) hm nd0
   have hO := T_owB (c := c) (e := e + k) (nd := nd) (b := b)
   have hf := fst ([nd]) (by simp)
   have hl := blen ([nd])
   obtain ⟨B, hBB⟩ : ∃ B, B = bucS c (e + k) ([nd]) nd := ⟨_, rfl⟩
   obtain ⟨o, hoo⟩ : ∃ o, o = ownerS c (e + k) ([nd]) b := ⟨_, rfl⟩
   rw [← hBB] at hB hf hl
   rw [← hoo] at hO hf
   by_cases c4 : (b + e + (k : Int)) % c.nodes = nd
   ·obtain ⟨h3, t, h4⟩ := hf c4
    have hpos : 0 < B.length := by rw [h4]; simp
    have h5 : B.getD 0 0 = b := by rw [h4]; rfl
    have yq := yr k ((hrk k hk).1 c4)
    refine R_alongPc NG MO _ (pcRo_p1001111 c e m L nd b n k (y k) (y (k + 1)) B o) ?_ (by show 0 ≤ 1; decide)
    simp only [All, All_append, bdRo_c, pcRo_c, Int.toNat_natCast]; and_intros
    all_goals first
     | exact hB
     | exact hO
     | (rw [decide_eq_false_iff_not]; exact c4)
     | (rw [decide_eq_true_eq]; exact c4)
     | (rw [decide_eq_true_eq]; omega)
     | (rw [decide_eq_false_iff_not]; omega)
     | omega
     | with_reducible rfl
     | (intro _ _; rfl)
     | (intro _ _; trivial)
     | (intro h; exact h)
     | exact .inl rfl
     | (simp only [IntKind.min, IntKind.max, IntKind.signed, IntKind.bits, if_true]; omega)
     | rfl
     | trivial
   ·have yq := yn k fun g => c4 ((hrk k hk).2 g)
    by_cases c1 : 0 < B.length
    rotate_left
    ·skip
     refine R_alongPc NG MO _ (pcRo_p1000000 c e m L nd b n k (y k) (y (k + 1)) B o) ?_ (by show 0 ≤ 1; decide)
     simp only [All, All_append, bdRo_c, pcRo_c, Int.toNat_natCast]; and_intros
     all_goals first
      | exact hB
      | (rw [decide_eq_true_eq]; omega)
      | (rw [decide_eq_false_iff_not]; omega)
      | omega
      | with_reducible rfl
      | (intro _ _; rfl)
      | (intro _ _; trivial)
      | (intro h; exact h)
      | exact .inl rfl
      | (simp only [IntKind.min, IntKind.max, IntKind.signed, IntKind.bits, if_true]; omega)
      | rfl
      | trivial
    by_cases c2 : B.getD 0 0 = b
    rotate_left
    ·skip
     refine R_alongPc NG MO _ (pcRo_p1001000 c e m L nd b n k (y k) (y (k + 1)) B o) ?_ (by show 0 ≤ 1; decide)
     simp only [All, All_append, bdRo_c, pcRo_c, Int.toNat_natCast]; and_intros
     all_goals first
      | exact hB
      | (rw [decide_eq_true_eq]; omega)
      | (rw [decide_eq_false_iff_not]; omega)
      | omega
      | with_reducible rfl
      | (intro _ _; rfl)
      | (intro _ _; trivial)
      | (intro h; exact h)
      | exact .inl rfl
      | (simp only [IntKind.min, IntKind.max, IntKind.signed, IntKind.bits, if_true]; omega)
      | rfl
      | trivial
    by_cases c3 : o = nd
    rotate_left
    ·skip
     refine R_alongPc NG MO _ (pcRo_p1001100 c e m L nd b n k (y k) (y (k + 1)) B o) ?_ (by show 0 ≤ 1; decide)
     simp only [All, All_append, bdRo_c, pcRo_c, Int.toNat_natCast]; and_intros
     all_goals first
      | exact hB
      | exact hO
      | (rw [decide_eq_true_eq]; omega)
      | (rw [decide_eq_false_iff_not]; omega)
      | omega
      | with_reducible rfl
      | (intro _ _; rfl)
      | (intro _ _; trivial)
      | (intro h; exact h)
      | exact .inl rfl
      | (simp only [IntKind.min, IntKind.max, IntKind.signed, IntKind.bits, if_true]; omega)
      | rfl
      | trivial
    refine R_alongPc NG MO _ (pcRo_p1001110 c e m L nd b n k (y k) (y (k + 1)) B o) ?_ (by show 0 ≤ 1; decide)
    simp only [All, All_append, bdRo_c, pcRo_c, Int.toNat_natCast]; and_intros
    all_goals first
     | exact hB
     | exact hO
     | (rw [decide_eq_false_iff_not]; exact c4)
     | (rw [decide_eq_true_eq]; omega)
     | (rw [decide_eq_false_iff_not]; omega)
     | omega
     | with_reducible rfl
     | (intro _ _; rfl)
     | (intro _ _; trivial)
     | (intro h; exact h)
     | exact .inl rfl
     | (simp only [IntKind.min, IntKind.max, IntKind.signed, IntKind.bits, if_true]; omega)
     | rfl
     | trivial
 have out : R Try.prog none 0 roC (roI c e m L nd b n n (y n)) (.exit 0) (roI c e m L nd b n n (y n)) := by
  refine R_alongPc NG MO _ (pcRo_p0 c e m L nd b n n (y n) 0 [] 0) ?_ (by show 0 ≤ 1; decide)
  simp only [All, All_append, bdRo_c, pcRo_c, Int.toNat_natCast]; and_intros
  all_goals first
   | (rw [decide_eq_true_eq]; omega)
   | (rw [decide_eq_false_iff_not]; omega)
   | omega
   | with_reducible rfl
   | (intro _ _; rfl)
   | (intro _ _; trivial)
   | (intro h; exact h)
   | exact .inl rfl
   | (simp only [IntKind.min, IntKind.max, IntKind.signed, IntKind.bits, if_true]; omega)
   | rfl
   | trivial
 have hL0 := RLoop.inv (fun k => roI c e m L nd b n k (y k)) n step out (by simp)
 rw [show y 0 = 0 by rw [hy]; exact if_neg (by omega), show y n = 1 by rw [hy]; exact if_pos (by omega)] at hL0
 have q1 : IntKind.wrap IntKind.u64 x % IntKind.wrap IntKind.u64 c.nodes = nd := by rw [w1, hnd]
 have q2 : IntKind.wrap IntKind.u64 z % IntKind.wrap IntKind.u64 c.buckets = b := by rw [w2, hb]
 refine T_al (bdRo_p00001 c e x z m L (goodE c) nd b n 1) Try.func4 ?_
 simp only [All, All_append, bdRo_c, pcRo_c, q1, q2, w1, w2]; and_intros
 all_goals first
  | exact hL
  | exact hG
  | exact g1
  | exact hL0
  | (rw [decide_eq_true_eq]; omega)
  | (rw [decide_eq_false_iff_not]; omega)
  | omega
  | with_reducible rfl
  | (intro _ _; rfl)
  | (intro _ _; trivial)
  | (intro h; exact h)
  | exact .inl rfl
  | (simp only [IntKind.min, IntKind.max, IntKind.signed, IntKind.bits, if_true]; omega)
  | rfl
  | trivial
end Go.Proofs.Ythifjamdfpjilaa
namespace Go.Proofs.Ythifjamdfpjilaa
open Go Sy Go.Proofs
def onR (F : Nat → Int) (m : Nat) : B := .rows 1 m (fun i => [.int .i64 (F i)]) false
def onI (c : SCfg) (e : Int) (l : List Int) (m k : Nat) (F : Nat → Int) : St := ⟨mkT 96 [(1, .int .i64 e), (3, .ptr (.o 0) 0 0 0 0), (7, lr l), (8, .sl (.o 1) 1 0 0 0 m (some m)), (45, lr l), (46, .int .i64 (l.length : Nat)), (47, .int .i64 k)], [(.o 0, .flat c.c), (.o 1, onR F m)], 2, []⟩
def onJ (c : SCfg) (e : Int) (l : List Int) (m k : Nat) (nd : Int) (B : List Int) (j : Nat) (F : Nat → Int) : St := ⟨mkT 96 [(1, .int .i64 e), (3, .ptr (.o 0) 0 0 0 0), (7, lr l), (8, .sl (.o 1) 1 0 0 0 m (some m)), (10, .int .i64 nd), (45, lr l), (46, .int .i64 (l.length : Nat)), (47, .int .i64 k), (55, lr B), (56, .int .i64 (B.length : Nat)), (57, .int .i64 j)], [(.o 0, .flat c.c), (.o 1, onR F m)], 2, []⟩
def onK (c : SCfg) (m k : Nat) (F : Nat → Int) : St := ⟨mkT 96 [(3, .ptr (.o 0) 0 0 0 0), (86, .sl (.o 1) 1 0 0 0 m (some m)), (87, .int .i64 m), (88, .int .i64 k)], [(.o 0, .flat c.c), (.o 1, onR F m)], 2, []⟩
noncomputable def bdOn1 (c : SCfg) (e : Int) (pen : List Int) (g s : Int) (l : List Int) (m : Nat) (F : Nat → Int) : Bd := { f := Try.f3, args := [.agg c.c, .int .i64 e, lr pen], kb := { db := dbQ [(11, cVal (.int .i64 g)), (12, cVal (.bool true)), (13, cVal (lr l)), (14, cVal (.int .i64 s))], lp := fun id t => bif Nat.beq id 0 then [(True, .loop (l.length + 1) (wToS [(.o 0, nmV (getV t.tmps 3)), (.o 1, nmV (getV t.tmps 8))] (onI c e l m 0 (fun _ => 0))) (.exit 0) (onI c e l m l.length F))] else [(True, .loop (m + 1) (wToS [(.o 0, nmV (getV t.tmps 3)), (.o 1, nmV (getV t.tmps 86))] (onK c m 0 F)) (.exit 4) (onK c m m F))] } }
noncomputable def onC0 : Code := cB (cB (cR (cL (cR (cR (cR (cR (cR (bodyOf Try.f3)))))))))
noncomputable def onC4 : Code := cB (cB (cR (cL (cR (cR (cR (cR (cR (cR (bodyOf Try.f3))))))))))
def onBk (B : List Int) : List V → Heap → Nat → List Cl := fun _ _ lo => [{ val := ls lo B, post := [(.o lo, lb B)] }]
noncomputable def pcOi (c : SCfg) (e : Int) (l : List Int) (m k : Nat) (nd : Int) (B : List Int) (F F' G : Nat → Int) : Pc := { c := onC0, st := onI c e l m k F, p := 0, kb := { db := dbQ [(15, onBk B)], lp := fun _ t => [(True, .loop (B.length + 1) (wToS [(.o 0, nmV (getV t.tmps 3)), (.o 1, nmV (getV t.tmps 8))] (onJ c e l m k nd B 0 F)) (.exit 2) (onJ c e l m k nd B B.length F'))] }, k := fun x_ _ => match x_ with
 | .normal => some (wTo (onI c e l m (k + 1) G))
 | _ => some (wTo (onI c e l m k F)) }
noncomputable def onC2 : Code := cB (cB (cR (cR (cB (cL (cR (cR onC0)))))))
noncomputable def pcOj (c : SCfg) (e : Int) (l : List Int) (m k : Nat) (nd : Int) (B : List Int) (j : Nat) (F F' : Nat → Int) (o : Int) : Pc := { c := onC2, st := onJ c e l m k nd B j F, p := 0, kb := { db := dbQ [(16, cVal (.int .i64 o))] }, k := fun x_ _ => match x_ with
 | .normal => some (wTo (onJ c e l m k nd B (j + 1) F'))
 | _ => some (wTo (onJ c e l m k nd B j F)) }
noncomputable def pcOk (c : SCfg) (m k : Nat) (F : Nat → Int) : Pc := { c := onC4, st := onK c m k F, p := 0, kb := kb0, k := fun x_ _ => match x_ with
 | .normal => some (wTo (onK c m (k + 1) F))
 | _ => some (wTo (onK c m k F)) }
end Go.Proofs.Ythifjamdfpjilaa
