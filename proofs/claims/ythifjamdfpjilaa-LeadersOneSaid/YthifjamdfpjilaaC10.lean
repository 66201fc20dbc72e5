/-
  Contracts and laws that the claim's theorem leans on, joined out of the texts Lc3 (own work of this seat): Contract: the law LeadersOne.
-/
import Derived.Test.YthifjamdfpjilaaC09
set_option linter.unusedVariables false
set_option linter.unusedSimpArgs false
set_option maxHeartbeats 1000000
namespace Go.Proofs.Ythifjamdfpjilaa
open Go Sy Go.Proofs
noncomputable def bdOn1_c (c : SCfg) (e : Int) (pen : List Int) (g : Int) (s : Int) (l : List Int) (m : Nat) (F : Nat → Int) : Nat → List Prop
 | 0 => [decide ((200 : Int) < (↑(List.length pen) : Int)) = false, T Try.prog 11 [.agg [.int .i64 (SCfg.nodes c), .int .i64 (SCfg.clients c), .int .i64 (SCfg.window c), .int .i64 (SCfg.buckets c), .int .i64 (SCfg.cap c), .int .i64 (SCfg.slots c), .int .i64 (SCfg.requests c), .int .i64 (SCfg.timeout c), .int .i64 (SCfg.penalty c), .int .i64 (SCfg.last c)]] [] (.int .i64 g) []]
 | _ => []
theorem bdOn1_p1111 (c : SCfg) (e : Int) (pen : List Int) (g : Int) (s : Int) (l : List Int) (m : Nat) (F : Nat → Int) :
 along Try.prog (bdOn1 c e pen g s l m F) [true, true, true, true] = (some (.bool true, [], [decide ((200 : Int) < (↑(List.length pen) : Int)) = true, q2, q2, q2, T Try.prog 12 [] [] (.bool true) []]) : Option (V × Heap × List Prop)) := by kernel_rfl

theorem bdOn1_p0111 (c : SCfg) (e : Int) (pen : List Int) (g : Int) (s : Int) (l : List Int) (m : Nat) (F : Nat → Int) :
 along Try.prog (bdOn1 c e pen g s l m F) [false, true, true, true] = (some (.bool true, [], bdOn1_c c e pen g s l m F 0 ++ [(!decide (g = (0 : Int))) = true, q2, q2, T Try.prog 12 [] [] (.bool true) []]) : Option (V × Heap × List Prop)) := by kernel_rfl

theorem bdOn1_p0011 (c : SCfg) (e : Int) (pen : List Int) (g : Int) (s : Int) (l : List Int) (m : Nat) (F : Nat → Int) :
 along Try.prog (bdOn1 c e pen g s l m F) [false, false, true, true] = (some (.bool true, [], bdOn1_c c e pen g s l m F 0 ++ [(!decide (g = (0 : Int))) = false, decide (e < (1 : Int)) = true, q2, T Try.prog 12 [] [] (.bool true) []]) : Option (V × Heap × List Prop)) := by kernel_rfl

theorem bdOn1_p0001 (c : SCfg) (e : Int) (pen : List Int) (g : Int) (s : Int) (l : List Int) (m : Nat) (F : Nat → Int) :
 along Try.prog (bdOn1 c e pen g s l m F) [false, false, false, true] = (some (.bool true, [], bdOn1_c c e pen g s l m F 0 ++ [(!decide (g = (0 : Int))) = false, decide (e < (1 : Int)) = false, decide ((1048576 : Int) < e) = true, T Try.prog 12 [] [] (.bool true) []]) : Option (V × Heap × List Prop)) := by kernel_rfl

theorem bdOn1_p00000 (c : SCfg) (e : Int) (pen : List Int) (g : Int) (s : Int) (l : List Int) (m : Nat) (F : Nat → Int) :
  along Try.prog (bdOn1 c e pen g s l m F) [false, false, false, false, false] = some (V.bool true, [], [decide ((200 : Int) < (↑(List.length pen) : Int)) = false, T Try.prog (11 : Nat) [V.agg [V.int IntKind.i64 (SCfg.nodes c), V.int IntKind.i64 (SCfg.clients c), V.int IntKind.i64 (SCfg.window c), V.int IntKind.i64 (SCfg.buckets c), V.int IntKind.i64 (SCfg.cap c), V.int IntKind.i64 (SCfg.slots c), V.int IntKind.i64 (SCfg.requests c), V.int IntKind.i64 (SCfg.timeout c), V.int IntKind.i64 (SCfg.penalty c), V.int IntKind.i64 (SCfg.last c)]] [] (V.int IntKind.i64 g) [], (!decide (g = (0 : Int))) = false, decide (e < (1 : Int)) = false, decide ((1048576 : Int) < e) = false, T Try.prog (13 : Nat) [V.agg [V.int IntKind.i64 (SCfg.nodes c), V.int IntKind.i64 (SCfg.clients c), V.int IntKind.i64 (SCfg.window c), V.int IntKind.i64 (SCfg.buckets c), V.int IntKind.i64 (SCfg.cap c), V.int IntKind.i64 (SCfg.slots c), V.int IntKind.i64 (SCfg.requests c), V.int IntKind.i64 (SCfg.timeout c), V.int IntKind.i64 (SCfg.penalty c), V.int IntKind.i64 (SCfg.last c)], V.int IntKind.i64 e, V.ros (1 : Nat) (List.length pen) (li pen) false] [] (V.ros (1 : Nat) (List.length l) (li l) false) [], T Try.prog (14 : Nat) [V.int IntKind.i64 (SCfg.nodes c)] [] (V.int IntKind.i64 s) [], decide ((↑(List.length l) : Int) < s) = false, (0 : Int) ≤ SCfg.buckets c ∧ SCfg.buckets c ≤ SCfg.buckets c, (8 : Int) * SCfg.buckets c ≤ (281474976710656 : Int), SCfg.buckets c ≤ (281474976710656 : Int), RLoop Try.prog none (0 : Nat) (cB (cB (cR (cL (cR (cR (cR (cR (cR (bodyOf (Bd.f (bdOn1 c e pen g s l m F)))))))))))) (List.length l + (1 : Nat)) (St.mk [V.any, V.int IntKind.i64 e, V.any, V.ptr (Nm.o (0 : Nat)) (0 : Nat) (0 : Nat) (0 : Nat) (0 : Nat), V.any, V.any, V.any, V.ros (1 : Nat) (List.length l) (li l) false, V.sl (Nm.o (1 : Nat)) (1 : Nat) (0 : Nat) (0 : Nat) (0 : Nat) m (some m), V.any, V.any, V.any, V.any, V.any, V.any, V.any, V.any, V.any, V.any, V.any, V.any, V.any, V.any, V.any, V.any, V.any, V.any, V.any, V.any, V.any, V.any, V.any, V.any, V.any, V.any, V.any, V.any, V.any, V.any, V.any, V.any, V.any, V.any, V.any, V.any, V.ros (1 : Nat) (List.length l) (li l) false, V.int IntKind.i64 (↑(List.length l) : Int), V.int IntKind.i64 (0 : Int), V.any, V.any, V.any, V.any, V.any, V.any, V.any, V.any, V.any, V.any, V.any, V.any, V.any, V.any, V.any, V.any, V.any, V.any, V.any, V.any, V.any, V.any, V.any, V.any, V.any, V.any, V.any, V.any, V.any, V.any, V.any, V.any, V.any, V.any, V.any, V.any, V.any, V.any, V.any, V.any, V.any, V.any, V.any, V.any, V.any, V.any, V.any, V.any] [(Nm.o (0 : Nat), B.flat [V.int IntKind.i64 (SCfg.nodes c), V.int IntKind.i64 (SCfg.clients c), V.int IntKind.i64 (SCfg.window c), V.int IntKind.i64 (SCfg.buckets c), V.int IntKind.i64 (SCfg.cap c), V.int IntKind.i64 (SCfg.slots c), V.int IntKind.i64 (SCfg.requests c), V.int IntKind.i64 (SCfg.timeout c), V.int IntKind.i64 (SCfg.penalty c), V.int IntKind.i64 (SCfg.last c)]), (Nm.o (1 : Nat), B.rows (1 : Nat) m (fun i => [V.int IntKind.i64 (0 : Int)]) false)] (2 : Nat) []) (Exit.exit (0 : Nat)) (St.mk [V.any, V.int IntKind.i64 e, V.any, V.ptr (Nm.o (0 : Nat)) (0 : Nat) (0 : Nat) (0 : Nat) (0 : Nat), V.any, V.any, V.any, V.ros (1 : Nat) (List.length l) (li l) false, V.sl (Nm.o (1 : Nat)) (1 : Nat) (0 : Nat) (0 : Nat) (0 : Nat) m (some m), V.any, V.any, V.any, V.any, V.any, V.any, V.any, V.any, V.any, V.any, V.any, V.any, V.any, V.any, V.any, V.any, V.any, V.any, V.any, V.any, V.any, V.any, V.any, V.any, V.any, V.any, V.any, V.any, V.any, V.any, V.any, V.any, V.any, V.any, V.any, V.any, V.ros (1 : Nat) (List.length l) (li l) false, V.int IntKind.i64 (↑(List.length l) : Int), V.int IntKind.i64 (↑(List.length l) : Int), V.any, V.any, V.any, V.any, V.any, V.any, V.any, V.any, V.any, V.any, V.any, V.any, V.any, V.any, V.any, V.any, V.any, V.any, V.any, V.any, V.any, V.any, V.any, V.any, V.any, V.any, V.any, V.any, V.any, V.any, V.any, V.any, V.any, V.any, V.any, V.any, V.any, V.any, V.any, V.any, V.any, V.any, V.any, V.any, V.any, V.any, V.any, V.any] [(Nm.o (0 : Nat), B.flat [V.int IntKind.i64 (SCfg.nodes c), V.int IntKind.i64 (SCfg.clients c), V.int IntKind.i64 (SCfg.window c), V.int IntKind.i64 (SCfg.buckets c), V.int IntKind.i64 (SCfg.cap c), V.int IntKind.i64 (SCfg.slots c), V.int IntKind.i64 (SCfg.requests c), V.int IntKind.i64 (SCfg.timeout c), V.int IntKind.i64 (SCfg.penalty c), V.int IntKind.i64 (SCfg.last c)]), (Nm.o (1 : Nat), B.rows (1 : Nat) m (fun i => [V.int IntKind.i64 (F i)]) false)] (2 : Nat) []), SCfg.nodes c = SCfg.nodes c, SCfg.clients c = SCfg.clients c, SCfg.window c = SCfg.window c, SCfg.buckets c = SCfg.buckets c, SCfg.cap c = SCfg.cap c, SCfg.slots c = SCfg.slots c, SCfg.requests c = SCfg.requests c, SCfg.timeout c = SCfg.timeout c, SCfg.penalty c = SCfg.penalty c, SCfg.last c = SCfg.last c, Int.toNat (SCfg.buckets c) = m, ∀ (k : Nat), k < Int.toNat (SCfg.buckets c) → [V.int IntKind.i64 (0 : Int)] = [V.int IntKind.i64 (0 : Int)], false = false → false = false, e = e, (0 : Nat) = (0 : Nat), (0 : Nat) = (0 : Nat), (0 : Nat) = (0 : Nat), List.length l = List.length l, ∀ (k : Nat), k < List.length l → [V.int IntKind.i64 (List.getD l k (0 : Int))] = [V.int IntKind.i64 (List.getD l k (0 : Int))], false = true → false = true, (0 : Nat) = (0 : Nat), (0 : Nat) = (0 : Nat), (0 : Nat) = (0 : Nat), Int.toNat (SCfg.buckets c) = m, some m = none ∨ some m = some (Int.toNat (SCfg.buckets c)), List.length l = List.length l, ∀ (k : Nat), k < List.length l → [V.int IntKind.i64 (List.getD l k (0 : Int))] = [V.int IntKind.i64 (List.getD l k (0 : Int))], false = true → false = true, (↑(List.length l) : Int) = (↑(List.length l) : Int), (0 : Int) = (0 : Int), RLoop Try.prog none (0 : Nat) (cB (cB (cR (cL (cR (cR (cR (cR (cR (cR (bodyOf (Bd.f (bdOn1 c e pen g s l m F))))))))))))) (m + (1 : Nat)) (St.mk [V.any, V.any, V.any, V.ptr (Nm.o (0 : Nat)) (0 : Nat) (0 : Nat) (0 : Nat) (0 : Nat), V.any, V.any, V.any, V.any, V.any, V.any, V.any, V.any, V.any, V.any, V.any, V.any, V.any, V.any, V.any, V.any, V.any, V.any, V.any, V.any, V.any, V.any, V.any, V.any, V.any, V.any, V.any, V.any, V.any, V.any, V.any, V.any, V.any, V.any, V.any, V.any, V.any, V.any, V.any, V.any, V.any, V.any, V.any, V.any, V.any, V.any, V.any, V.any, V.any, V.any, V.any, V.any, V.any, V.any, V.any, V.any, V.any, V.any, V.any, V.any, V.any, V.any, V.any, V.any, V.any, V.any, V.any, V.any, V.any, V.any, V.any, V.any, V.any, V.any, V.any, V.any, V.any, V.any, V.any, V.any, V.any, V.any, V.sl (Nm.o (1 : Nat)) (1 : Nat) (0 : Nat) (0 : Nat) (0 : Nat) m (some m), V.int IntKind.i64 (↑m : Int), V.int IntKind.i64 (0 : Int), V.any, V.any, V.any, V.any, V.any, V.any, V.any] [(Nm.o (0 : Nat), B.flat [V.int IntKind.i64 (SCfg.nodes c), V.int IntKind.i64 (SCfg.clients c), V.int IntKind.i64 (SCfg.window c), V.int IntKind.i64 (SCfg.buckets c), V.int IntKind.i64 (SCfg.cap c), V.int IntKind.i64 (SCfg.slots c), V.int IntKind.i64 (SCfg.requests c), V.int IntKind.i64 (SCfg.timeout c), V.int IntKind.i64 (SCfg.penalty c), V.int IntKind.i64 (SCfg.last c)]), (Nm.o (1 : Nat), B.rows (1 : Nat) m (fun i => [V.int IntKind.i64 (F i)]) false)] (2 : Nat) []) (Exit.exit (4 : Nat)) (St.mk [V.any, V.any, V.any, V.ptr (Nm.o (0 : Nat)) (0 : Nat) (0 : Nat) (0 : Nat) (0 : Nat), V.any, V.any, V.any, V.any, V.any, V.any, V.any, V.any, V.any, V.any, V.any, V.any, V.any, V.any, V.any, V.any, V.any, V.any, V.any, V.any, V.any, V.any, V.any, V.any, V.any, V.any, V.any, V.any, V.any, V.any, V.any, V.any, V.any, V.any, V.any, V.any, V.any, V.any, V.any, V.any, V.any, V.any, V.any, V.any, V.any, V.any, V.any, V.any, V.any, V.any, V.any, V.any, V.any, V.any, V.any, V.any, V.any, V.any, V.any, V.any, V.any, V.any, V.any, V.any, V.any, V.any, V.any, V.any, V.any, V.any, V.any, V.any, V.any, V.any, V.any, V.any, V.any, V.any, V.any, V.any, V.any, V.any, V.sl (Nm.o (1 : Nat)) (1 : Nat) (0 : Nat) (0 : Nat) (0 : Nat) m (some m), V.int IntKind.i64 (↑m : Int), V.int IntKind.i64 (↑m : Int), V.any, V.any, V.any, V.any, V.any, V.any, V.any] [(Nm.o (0 : Nat), B.flat [V.int IntKind.i64 (SCfg.nodes c), V.int IntKind.i64 (SCfg.clients c), V.int IntKind.i64 (SCfg.window c), V.int IntKind.i64 (SCfg.buckets c), V.int IntKind.i64 (SCfg.cap c), V.int IntKind.i64 (SCfg.slots c), V.int IntKind.i64 (SCfg.requests c), V.int IntKind.i64 (SCfg.timeout c), V.int IntKind.i64 (SCfg.penalty c), V.int IntKind.i64 (SCfg.last c)]), (Nm.o (1 : Nat), B.rows (1 : Nat) m (fun i => [V.int IntKind.i64 (F i)]) false)] (2 : Nat) []), SCfg.nodes c = SCfg.nodes c, SCfg.clients c = SCfg.clients c, SCfg.window c = SCfg.window c, SCfg.buckets c = SCfg.buckets c, SCfg.cap c = SCfg.cap c, SCfg.slots c = SCfg.slots c, SCfg.requests c = SCfg.requests c, SCfg.timeout c = SCfg.timeout c, SCfg.penalty c = SCfg.penalty c, SCfg.last c = SCfg.last c, m = m, ∀ (k : Nat), k < m → [V.int IntKind.i64 (F k)] = [V.int IntKind.i64 (F k)], false = false → false = false, (0 : Nat) = (0 : Nat), (0 : Nat) = (0 : Nat), (0 : Nat) = (0 : Nat), (0 : Nat) = (0 : Nat), (0 : Nat) = (0 : Nat), (0 : Nat) = (0 : Nat), m = m, some m = none ∨ some m = some m, (↑m : Int) = (↑m : Int), (0 : Int) = (0 : Int), T Try.prog (12 : Nat) [] [] (V.bool true) []]) := by kernel_rfl

theorem pcOi_p1 (c : SCfg) (e : Int) (l : List Int) (m : Nat) (k : Nat) (nd : Int) (B : List Int) (F : Nat → Int) (F' : Nat → Int) (G : Nat → Int) :
  alongPc Try.prog (pcOi c e l m k nd B F F' G) [true] = some (Exit.normal, St.mk [V.any, V.int IntKind.i64 e, V.any, V.ptr (Nm.o (0 : Nat)) (0 : Nat) (0 : Nat) (0 : Nat) (0 : Nat), V.any, V.any, V.any, V.ros (1 : Nat) (List.length l) (li l) false, V.sl (Nm.o (1 : Nat)) (1 : Nat) (0 : Nat) (0 : Nat) (0 : Nat) m (some m), V.any, V.any, V.any, V.any, V.any, V.any, V.any, V.any, V.any, V.any, V.any, V.any, V.any, V.any, V.any, V.any, V.any, V.any, V.any, V.any, V.any, V.any, V.any, V.any, V.any, V.any, V.any, V.any, V.any, V.any, V.any, V.any, V.any, V.any, V.any, V.any, V.ros (1 : Nat) (List.length l) (li l) false, V.int IntKind.i64 (↑(List.length l) : Int), V.int IntKind.i64 (↑(k + (1 : Nat)) : Int), V.any, V.any, V.any, V.any, V.any, V.any, V.any, V.any, V.any, V.any, V.any, V.any, V.any, V.any, V.any, V.any, V.any, V.any, V.any, V.any, V.any, V.any, V.any, V.any, V.any, V.any, V.any, V.any, V.any, V.any, V.any, V.any, V.any, V.any, V.any, V.any, V.any, V.any, V.any, V.any, V.any, V.any, V.any, V.any, V.any, V.any, V.any, V.any] [(Nm.o (0 : Nat), Sy.B.flat [V.int IntKind.i64 (SCfg.nodes c), V.int IntKind.i64 (SCfg.clients c), V.int IntKind.i64 (SCfg.window c), V.int IntKind.i64 (SCfg.buckets c), V.int IntKind.i64 (SCfg.cap c), V.int IntKind.i64 (SCfg.slots c), V.int IntKind.i64 (SCfg.requests c), V.int IntKind.i64 (SCfg.timeout c), V.int IntKind.i64 (SCfg.penalty c), V.int IntKind.i64 (SCfg.last c)]), (Nm.o (1 : Nat), Sy.B.rows (1 : Nat) m (fun i => [V.int IntKind.i64 (G i)]) false)] (2 : Nat) [], [decide ((↑k : Int) < (↑(List.length l) : Int)) = true, (0 : Int) ≤ (↑k : Int) ∧ (↑k : Int) < (↑(List.length l) : Int), T Try.prog (15 : Nat) [V.agg [V.int IntKind.i64 (SCfg.nodes c), V.int IntKind.i64 (SCfg.clients c), V.int IntKind.i64 (SCfg.window c), V.int IntKind.i64 (SCfg.buckets c), V.int IntKind.i64 (SCfg.cap c), V.int IntKind.i64 (SCfg.slots c), V.int IntKind.i64 (SCfg.requests c), V.int IntKind.i64 (SCfg.timeout c), V.int IntKind.i64 (SCfg.penalty c), V.int IntKind.i64 (SCfg.last c)], V.int IntKind.i64 e, V.ros (1 : Nat) (List.length l) (li l) false, V.int IntKind.i64 (List.getD l (Int.toNat (↑k : Int)) (0 : Int))] [] (V.sl (Nm.o (nat_lit 514)) (1 : Nat) (0 : Nat) (0 : Nat) (0 : Nat) (List.length B) none) [(Nm.o (nat_lit 514), Sy.B.rows (1 : Nat) (List.length B) (li B) true)], RLoop Try.prog none (0 : Nat) (cB (cB (cR (cR (cB (cL (cR (cR (Pc.c (pcOi c e l m k nd B F F' G)))))))))) (List.length B + (1 : Nat)) (St.mk [V.any, V.int IntKind.i64 e, V.any, V.ptr (Nm.o (0 : Nat)) (0 : Nat) (0 : Nat) (0 : Nat) (0 : Nat), V.any, V.any, V.any, V.ros (1 : Nat) (List.length l) (li l) false, V.sl (Nm.o (1 : Nat)) (1 : Nat) (0 : Nat) (0 : Nat) (0 : Nat) m (some m), V.any, V.int IntKind.i64 nd, V.any, V.any, V.any, V.any, V.any, V.any, V.any, V.any, V.any, V.any, V.any, V.any, V.any, V.any, V.any, V.any, V.any, V.any, V.any, V.any, V.any, V.any, V.any, V.any, V.any, V.any, V.any, V.any, V.any, V.any, V.any, V.any, V.any, V.any, V.ros (1 : Nat) (List.length l) (li l) false, V.int IntKind.i64 (↑(List.length l) : Int), V.int IntKind.i64 (↑k : Int), V.any, V.any, V.any, V.any, V.any, V.any, V.any, V.ros (1 : Nat) (List.length B) (li B) false, V.int IntKind.i64 (↑(List.length B) : Int), V.int IntKind.i64 (0 : Int), V.any, V.any, V.any, V.any, V.any, V.any, V.any, V.any, V.any, V.any, V.any, V.any, V.any, V.any, V.any, V.any, V.any, V.any, V.any, V.any, V.any, V.any, V.any, V.any, V.any, V.any, V.any, V.any, V.any, V.any, V.any, V.any, V.any, V.any, V.any, V.any, V.any, V.any] [(Nm.o (0 : Nat), Sy.B.flat [V.int IntKind.i64 (SCfg.nodes c), V.int IntKind.i64 (SCfg.clients c), V.int IntKind.i64 (SCfg.window c), V.int IntKind.i64 (SCfg.buckets c), V.int IntKind.i64 (SCfg.cap c), V.int IntKind.i64 (SCfg.slots c), V.int IntKind.i64 (SCfg.requests c), V.int IntKind.i64 (SCfg.timeout c), V.int IntKind.i64 (SCfg.penalty c), V.int IntKind.i64 (SCfg.last c)]), (Nm.o (1 : Nat), Sy.B.rows (1 : Nat) m (fun i => [V.int IntKind.i64 (F i)]) false)] (2 : Nat) []) (Exit.exit (2 : Nat)) (St.mk [V.any, V.int IntKind.i64 e, V.any, V.ptr (Nm.o (0 : Nat)) (0 : Nat) (0 : Nat) (0 : Nat) (0 : Nat), V.any, V.any, V.any, V.ros (1 : Nat) (List.length l) (li l) false, V.sl (Nm.o (1 : Nat)) (1 : Nat) (0 : Nat) (0 : Nat) (0 : Nat) m (some m), V.any, V.int IntKind.i64 nd, V.any, V.any, V.any, V.any, V.any, V.any, V.any, V.any, V.any, V.any, V.any, V.any, V.any, V.any, V.any, V.any, V.any, V.any, V.any, V.any, V.any, V.any, V.any, V.any, V.any, V.any, V.any, V.any, V.any, V.any, V.any, V.any, V.any, V.any, V.ros (1 : Nat) (List.length l) (li l) false, V.int IntKind.i64 (↑(List.length l) : Int), V.int IntKind.i64 (↑k : Int), V.any, V.any, V.any, V.any, V.any, V.any, V.any, V.ros (1 : Nat) (List.length B) (li B) false, V.int IntKind.i64 (↑(List.length B) : Int), V.int IntKind.i64 (↑(List.length B) : Int), V.any, V.any, V.any, V.any, V.any, V.any, V.any, V.any, V.any, V.any, V.any, V.any, V.any, V.any, V.any, V.any, V.any, V.any, V.any, V.any, V.any, V.any, V.any, V.any, V.any, V.any, V.any, V.any, V.any, V.any, V.any, V.any, V.any, V.any, V.any, V.any, V.any, V.any] [(Nm.o (0 : Nat), Sy.B.flat [V.int IntKind.i64 (SCfg.nodes c), V.int IntKind.i64 (SCfg.clients c), V.int IntKind.i64 (SCfg.window c), V.int IntKind.i64 (SCfg.buckets c), V.int IntKind.i64 (SCfg.cap c), V.int IntKind.i64 (SCfg.slots c), V.int IntKind.i64 (SCfg.requests c), V.int IntKind.i64 (SCfg.timeout c), V.int IntKind.i64 (SCfg.penalty c), V.int IntKind.i64 (SCfg.last c)]), (Nm.o (1 : Nat), Sy.B.rows (1 : Nat) m (fun i => [V.int IntKind.i64 (F' i)]) false)] (2 : Nat) []), SCfg.nodes c = SCfg.nodes c, SCfg.clients c = SCfg.clients c, SCfg.window c = SCfg.window c, SCfg.buckets c = SCfg.buckets c, SCfg.cap c = SCfg.cap c, SCfg.slots c = SCfg.slots c, SCfg.requests c = SCfg.requests c, SCfg.timeout c = SCfg.timeout c, SCfg.penalty c = SCfg.penalty c, SCfg.last c = SCfg.last c, m = m, ∀ (k : Nat), k < m → [V.int IntKind.i64 (F k)] = [V.int IntKind.i64 (F k)], false = false → false = false, e = e, (0 : Nat) = (0 : Nat), (0 : Nat) = (0 : Nat), (0 : Nat) = (0 : Nat), List.length l = List.length l, ∀ (k : Nat), k < List.length l → [V.int IntKind.i64 (List.getD l k (0 : Int))] = [V.int IntKind.i64 (List.getD l k (0 : Int))], false = true → false = true, (0 : Nat) = (0 : Nat), (0 : Nat) = (0 : Nat), (0 : Nat) = (0 : Nat), m = m, some m = none ∨ some m = some m, List.getD l (Int.toNat (↑k : Int)) (0 : Int) = nd, List.length l = List.length l, ∀ (k : Nat), k < List.length l → [V.int IntKind.i64 (List.getD l k (0 : Int))] = [V.int IntKind.i64 (List.getD l k (0 : Int))], false = true → false = true, (↑(List.length l) : Int) = (↑(List.length l) : Int), (↑k : Int) = (↑k : Int), List.length B = List.length B, (0 : Nat) + List.length B ≤ List.length B, ∀ (k : Nat), k < List.length B → [V.int IntKind.i64 (List.getD B ((0 : Nat) + k) (0 : Int))] = [V.int IntKind.i64 (List.getD B k (0 : Int))], false = true → none = some (List.length B), (↑(List.length B) : Int) = (↑(List.length B) : Int), (0 : Int) = (0 : Int), InR IntKind.i64 ((↑k : Int) + (1 : Int)), SCfg.nodes c = SCfg.nodes c, SCfg.clients c = SCfg.clients c, SCfg.window c = SCfg.window c, SCfg.buckets c = SCfg.buckets c, SCfg.cap c = SCfg.cap c, SCfg.slots c = SCfg.slots c, SCfg.requests c = SCfg.requests c, SCfg.timeout c = SCfg.timeout c, SCfg.penalty c = SCfg.penalty c, SCfg.last c = SCfg.last c, m = m, ∀ (k : Nat), k < m → [V.int IntKind.i64 (F' k)] = [V.int IntKind.i64 (G k)], false = false → false = false, e = e, (0 : Nat) = (0 : Nat), (0 : Nat) = (0 : Nat), (0 : Nat) = (0 : Nat), List.length l = List.length l, ∀ (k : Nat), k < List.length l → [V.int IntKind.i64 (List.getD l k (0 : Int))] = [V.int IntKind.i64 (List.getD l k (0 : Int))], false = true → false = true, (0 : Nat) = (0 : Nat), (0 : Nat) = (0 : Nat), (0 : Nat) = (0 : Nat), m = m, some m = none ∨ some m = some m, List.length l = List.length l, ∀ (k : Nat), k < List.length l → [V.int IntKind.i64 (List.getD l k (0 : Int))] = [V.int IntKind.i64 (List.getD l k (0 : Int))], false = true → false = true, (↑(List.length l) : Int) = (↑(List.length l) : Int), (↑k : Int) + (1 : Int) = (↑(k + (1 : Nat)) : Int)]) := by kernel_rfl

theorem pcOi_p0 (c : SCfg) (e : Int) (l : List Int) (m : Nat) (k : Nat) (nd : Int) (B : List Int) (F : Nat → Int) (F' : Nat → Int) (G : Nat → Int) :
  alongPc Try.prog (pcOi c e l m k nd B F F' G) [false] = (some (.exit 0, St.mk [.any, .int .i64 e, .any, .ptr (.o 0) 0 0 0 0, .any, .any, .any, .ros 1 (List.length l) (li l) false, .sl (.o 1) 1 0 0 0 m (some m), .any, .any, .any, .any, .any, .any, .any, .any, .any, .any, .any, .any, .any, .any, .any, .any, .any, .any, .any, .any, .any, .any, .any, .any, .any, .any, .any, .any, .any, .any, .any, .any, .any, .any, .any, .any, .ros 1 (List.length l) (li l) false, .int .i64 (↑(List.length l) : Int), .int .i64 ↑k, .any, .any, .any, .any, .any, .any, .any, .any, .any, .any, .any, .any, .any, .any, .any, .any, .any, .any, .any, .any, .any, .any, .any, .any, .any, .any, .any, .any, .any, .any, .any, .any, .any, .any, .any, .any, .any, .any, .any, .any, .any, .any, .any, .any, .any, .any, .any, .any] [(.o 0, Sy.B.flat [.int .i64 (SCfg.nodes c), .int .i64 (SCfg.clients c), .int .i64 (SCfg.window c), .int .i64 (SCfg.buckets c), .int .i64 (SCfg.cap c), .int .i64 (SCfg.slots c), .int .i64 (SCfg.requests c), .int .i64 (SCfg.timeout c), .int .i64 (SCfg.penalty c), .int .i64 (SCfg.last c)]), (.o 1, Sy.B.rows 1 m (fun i => [.int .i64 (F i)]) false)] 2 [], [decide ((↑k : Int) < (↑(List.length l) : Int)) = false, q (SCfg.nodes c), q (SCfg.clients c), q (SCfg.window c), q (SCfg.buckets c), q (SCfg.cap c), q (SCfg.slots c), q (SCfg.requests c), q (SCfg.timeout c), q (SCfg.penalty c), q (SCfg.last c), q m, ∀ (k : Nat), k < m → [V.int IntKind.i64 (F k)] = [V.int IntKind.i64 (F k)], false = false → false = false, q e, q0, q0, q0, q (List.length l), ∀ (k : Nat), k < List.length l → [V.int IntKind.i64 (List.getD l k (0 : Int))] = [V.int IntKind.i64 (List.getD l k (0 : Int))], false = true → false = true, q0, q0, q0, q m, some m = none ∨ some m = some m, q (List.length l), ∀ (k : Nat), k < List.length l → [V.int IntKind.i64 (List.getD l k (0 : Int))] = [V.int IntKind.i64 (List.getD l k (0 : Int))], false = true → false = true, q (↑(List.length l) : Int), q (↑k : Int)]) : Option (Exit × St × List Prop)) := by kernel_rfl

theorem pcOk_p10 (c : SCfg) (m : Nat) (k : Nat) (F : Nat → Int) :
  alongPc Try.prog (pcOk c m k F) [true, false] = (some (.normal, St.mk [.any, .any, .any, .ptr (.o 0) 0 0 0 0, .any, .any, .any, .any, .any, .any, .any, .any, .any, .any, .any, .any, .any, .any, .any, .any, .any, .any, .any, .any, .any, .any, .any, .any, .any, .any, .any, .any, .any, .any, .any, .any, .any, .any, .any, .any, .any, .any, .any, .any, .any, .any, .any, .any, .any, .any, .any, .any, .any, .any, .any, .any, .any, .any, .any, .any, .any, .any, .any, .any, .any, .any, .any, .any, .any, .any, .any, .any, .any, .any, .any, .any, .any, .any, .any, .any, .any, .any, .any, .any, .any, .any, .sl (.o 1) 1 0 0 0 m (some m), .int .i64 ↑m, .int .i64 (↑(k + 1) : Int), .any, .any, .any, .any, .any, .any, .any] [(.o 0, .flat [.int .i64 (SCfg.nodes c), .int .i64 (SCfg.clients c), .int .i64 (SCfg.window c), .int .i64 (SCfg.buckets c), .int .i64 (SCfg.cap c), .int .i64 (SCfg.slots c), .int .i64 (SCfg.requests c), .int .i64 (SCfg.timeout c), .int .i64 (SCfg.penalty c), .int .i64 (SCfg.last c)]), (.o 1, .rows 1 m (fun i => [.int .i64 (F i)]) false)] 2 [], [decide ((↑k : Int) < (↑m : Int)) = true, (0 : Int) ≤ (↑k : Int) ∧ (↑k : Int) < (↑m : Int), (0 : Nat) + Int.toNat (↑k : Int) < m, (!decide (F ((0 : Nat) + Int.toNat (↑k : Int)) = (1 : Int))) = false, InR IntKind.i64 ((↑k : Int) + (1 : Int)), q (SCfg.nodes c), q (SCfg.clients c), q (SCfg.window c), q (SCfg.buckets c), q (SCfg.cap c), q (SCfg.slots c), q (SCfg.requests c), q (SCfg.timeout c), q (SCfg.penalty c), q (SCfg.last c), q m, ∀ (k : Nat), k < m → [V.int IntKind.i64 (F k)] = [V.int IntKind.i64 (F k)], false = false → false = false, q0, q0, q0, q0, q0, q0, q m, some m = none ∨ some m = some m, q (↑m : Int), (↑k : Int) + (1 : Int) = (↑(k + (1 : Nat)) : Int)]) : Option (Exit × St × List Prop)) := by kernel_rfl

theorem pcOk_p0 (c : SCfg) (m : Nat) (k : Nat) (F : Nat → Int) :
  alongPc Try.prog (pcOk c m k F) [false] = (some (.exit 4, St.mk [.any, .any, .any, .ptr (.o 0) 0 0 0 0, .any, .any, .any, .any, .any, .any, .any, .any, .any, .any, .any, .any, .any, .any, .any, .any, .any, .any, .any, .any, .any, .any, .any, .any, .any, .any, .any, .any, .any, .any, .any, .any, .any, .any, .any, .any, .any, .any, .any, .any, .any, .any, .any, .any, .any, .any, .any, .any, .any, .any, .any, .any, .any, .any, .any, .any, .any, .any, .any, .any, .any, .any, .any, .any, .any, .any, .any, .any, .any, .any, .any, .any, .any, .any, .any, .any, .any, .any, .any, .any, .any, .any, .sl (.o 1) 1 0 0 0 m (some m), .int .i64 ↑m, .int .i64 ↑k, .any, .any, .any, .any, .any, .any, .any] [(.o 0, .flat [.int .i64 (SCfg.nodes c), .int .i64 (SCfg.clients c), .int .i64 (SCfg.window c), .int .i64 (SCfg.buckets c), .int .i64 (SCfg.cap c), .int .i64 (SCfg.slots c), .int .i64 (SCfg.requests c), .int .i64 (SCfg.timeout c), .int .i64 (SCfg.penalty c), .int .i64 (SCfg.last c)]), (.o 1, .rows 1 m (fun i => [.int .i64 (F i)]) false)] 2 [], [decide ((↑k : Int) < (↑m : Int)) = false, q (SCfg.nodes c), q (SCfg.clients c), q (SCfg.window c), q (SCfg.buckets c), q (SCfg.cap c), q (SCfg.slots c), q (SCfg.requests c), q (SCfg.timeout c), q (SCfg.penalty c), q (SCfg.last c), q m, ∀ (k : Nat), k < m → [V.int IntKind.i64 (F k)] = [V.int IntKind.i64 (F k)], false = false → false = false, q0, q0, q0, q0, q0, q0, q m, some m = none ∨ some m = some m, q (↑m : Int), q (↑k : Int)]) : Option (Exit × St × List Prop)) := by kernel_rfl

theorem pcOj_p1000 (c : SCfg) (e : Int) (l : List Int) (m : Nat) (k : Nat) (nd : Int) (B : List Int) (j : Nat) (F : Nat → Int) (F' : Nat → Int) (o : Int) :
  alongPc Try.prog (pcOj c e l m k nd B j F F' o) [true, false, false, false] = (some (.normal, St.mk [.any, .int .i64 e, .any, .ptr (.o 0) 0 0 0 0, .any, .any, .any, .ros 1 (List.length l) (li l) false, .sl (.o 1) 1 0 0 0 m (some m), .any, .int .i64 nd, .any, .any, .any, .any, .any, .any, .any, .any, .any, .any, .any, .any, .any, .any, .any, .any, .any, .any, .any, .any, .any, .any, .any, .any, .any, .any, .any, .any, .any, .any, .any, .any, .any, .any, .ros 1 (List.length l) (li l) false, .int .i64 (↑(List.length l) : Int), .int .i64 ↑k, .any, .any, .any, .any, .any, .any, .any, .ros 1 (List.length B) (li B) false, .int .i64 (↑(List.length B) : Int), .int .i64 (↑(j + 1) : Int), .any, .any, .any, .any, .any, .any, .any, .any, .any, .any, .any, .any, .any, .any, .any, .any, .any, .any, .any, .any, .any, .any, .any, .any, .any, .any, .any, .any, .any, .any, .any, .any, .any, .any, .any, .any, .any, .any] [(.o 0, Sy.B.flat [.int .i64 (SCfg.nodes c), .int .i64 (SCfg.clients c), .int .i64 (SCfg.window c), .int .i64 (SCfg.buckets c), .int .i64 (SCfg.cap c), .int .i64 (SCfg.slots c), .int .i64 (SCfg.requests c), .int .i64 (SCfg.timeout c), .int .i64 (SCfg.penalty c), .int .i64 (SCfg.last c)]), (.o 1, Sy.B.rows 1 m (fun i => [.int .i64 (F' i)]) false)] 2 [], [decide ((↑j : Int) < (↑(List.length B) : Int)) = true, (0 : Int) ≤ (↑j : Int) ∧ (↑j : Int) < (↑(List.length B) : Int), decide (List.getD B (Int.toNat (↑j : Int)) (0 : Int) < (0 : Int)) = false, decide (SCfg.buckets c ≤ List.getD B (Int.toNat (↑j : Int)) (0 : Int)) = false, T Try.prog 16 [.agg [.int .i64 (SCfg.nodes c), .int .i64 (SCfg.clients c), .int .i64 (SCfg.window c), .int .i64 (SCfg.buckets c), .int .i64 (SCfg.cap c), .int .i64 (SCfg.slots c), .int .i64 (SCfg.requests c), .int .i64 (SCfg.timeout c), .int .i64 (SCfg.penalty c), .int .i64 (SCfg.last c)], .int .i64 e, .ros 1 (List.length l) (li l) false, .int .i64 (List.getD B (Int.toNat (↑j : Int)) (0 : Int))] [] (.int .i64 o) [], (!decide (o = nd)) = false, (0 : Int) ≤ List.getD B (Int.toNat (↑j : Int)) (0 : Int) ∧ List.getD B (Int.toNat (↑j : Int)) (0 : Int) < (↑m : Int), (0 : Nat) + Int.toNat (List.getD B (Int.toNat (↑j : Int)) (0 : Int)) < m, InR IntKind.i64 (F ((0 : Nat) + Int.toNat (List.getD B (Int.toNat (↑j : Int)) (0 : Int))) + (1 : Int)), (0 : Int) ≤ List.getD B (Int.toNat (↑j : Int)) (0 : Int) ∧ List.getD B (Int.toNat (↑j : Int)) (0 : Int) < (↑m : Int), (0 : Nat) + Int.toNat (List.getD B (Int.toNat (↑j : Int)) (0 : Int)) < m, InR IntKind.i64 ((↑j : Int) + (1 : Int)), q (SCfg.nodes c), q (SCfg.clients c), q (SCfg.window c), q (SCfg.buckets c), q (SCfg.cap c), q (SCfg.slots c), q (SCfg.requests c), q (SCfg.timeout c), q (SCfg.penalty c), q (SCfg.last c), q m, ∀ (k : Nat), k < m → Bool.rec [V.int IntKind.i64 (F k)] [V.int IntKind.i64 (F ((0 : Nat) + Int.toNat (List.getD B (Int.toNat (↑j : Int)) (0 : Int))) + (1 : Int))] (Nat.beq k ((0 : Nat) + Int.toNat (List.getD B (Int.toNat (↑j : Int)) (0 : Int)))) = [V.int IntKind.i64 (F' k)], false = false → false = false, q e, q0, q0, q0, q (List.length l), ∀ (k : Nat), k < List.length l → [V.int IntKind.i64 (List.getD l k (0 : Int))] = [V.int IntKind.i64 (List.getD l k (0 : Int))], false = true → false = true, q0, q0, q0, q m, some m = none ∨ some m = some m, q nd, q (List.length l), ∀ (k : Nat), k < List.length l → [V.int IntKind.i64 (List.getD l k (0 : Int))] = [V.int IntKind.i64 (List.getD l k (0 : Int))], false = true → false = true, q (↑(List.length l) : Int), q (↑k : Int), q (List.length B), ∀ (k : Nat), k < List.length B → [V.int IntKind.i64 (List.getD B k (0 : Int))] = [V.int IntKind.i64 (List.getD B k (0 : Int))], false = true → false = true, q (↑(List.length B) : Int), (↑j : Int) + (1 : Int) = (↑(j + (1 : Nat)) : Int)]) : Option (Exit × St × List Prop)) := by kernel_rfl

theorem pcOj_p0 (c : SCfg) (e : Int) (l : List Int) (m : Nat) (k : Nat) (nd : Int) (B : List Int) (j : Nat) (F : Nat → Int) (F' : Nat → Int) (o : Int) :
  alongPc Try.prog (pcOj c e l m k nd B j F F' o) [false] = (some (.exit 2, St.mk [.any, .int .i64 e, .any, .ptr (.o 0) 0 0 0 0, .any, .any, .any, .ros 1 (List.length l) (li l) false, .sl (.o 1) 1 0 0 0 m (some m), .any, .int .i64 nd, .any, .any, .any, .any, .any, .any, .any, .any, .any, .any, .any, .any, .any, .any, .any, .any, .any, .any, .any, .any, .any, .any, .any, .any, .any, .any, .any, .any, .any, .any, .any, .any, .any, .any, .ros 1 (List.length l) (li l) false, .int .i64 (↑(List.length l) : Int), .int .i64 ↑k, .any, .any, .any, .any, .any, .any, .any, .ros 1 (List.length B) (li B) false, .int .i64 (↑(List.length B) : Int), .int .i64 ↑j, .any, .any, .any, .any, .any, .any, .any, .any, .any, .any, .any, .any, .any, .any, .any, .any, .any, .any, .any, .any, .any, .any, .any, .any, .any, .any, .any, .any, .any, .any, .any, .any, .any, .any, .any, .any, .any, .any] [(.o 0, Sy.B.flat [.int .i64 (SCfg.nodes c), .int .i64 (SCfg.clients c), .int .i64 (SCfg.window c), .int .i64 (SCfg.buckets c), .int .i64 (SCfg.cap c), .int .i64 (SCfg.slots c), .int .i64 (SCfg.requests c), .int .i64 (SCfg.timeout c), .int .i64 (SCfg.penalty c), .int .i64 (SCfg.last c)]), (.o 1, Sy.B.rows 1 m (fun i => [.int .i64 (F i)]) false)] 2 [], [decide ((↑j : Int) < (↑(List.length B) : Int)) = false, q (SCfg.nodes c), q (SCfg.clients c), q (SCfg.window c), q (SCfg.buckets c), q (SCfg.cap c), q (SCfg.slots c), q (SCfg.requests c), q (SCfg.timeout c), q (SCfg.penalty c), q (SCfg.last c), q m, ∀ (k : Nat), k < m → [V.int IntKind.i64 (F k)] = [V.int IntKind.i64 (F k)], false = false → false = false, q e, q0, q0, q0, q (List.length l), ∀ (k : Nat), k < List.length l → [V.int IntKind.i64 (List.getD l k (0 : Int))] = [V.int IntKind.i64 (List.getD l k (0 : Int))], false = true → false = true, q0, q0, q0, q m, some m = none ∨ some m = some m, q nd, q (List.length l), ∀ (k : Nat), k < List.length l → [V.int IntKind.i64 (List.getD l k (0 : Int))] = [V.int IntKind.i64 (List.getD l k (0 : Int))], false = true → false = true, q (↑(List.length l) : Int), q (↑k : Int), q (List.length B), ∀ (k : Nat), k < List.length B → [V.int IntKind.i64 (List.getD B k (0 : Int))] = [V.int IntKind.i64 (List.getD B k (0 : Int))], false = true → false = true, q (↑(List.length B) : Int), q (↑j : Int)]) : Option (Exit × St × List Prop)) := by kernel_rfl

set_option maxHeartbeats 1000000
theorem ownL_count (c : SCfg) (e nd x : Int) : ∀ L : List Int, (ownL c e nd L).count x = L.count x
 | [] => rfl
 | y :: L => by
  have ih := ownL_count c e nd x L
  unfold ownL at ih ⊢
  rw [List.count_append] at ih ⊢
  rw [List.count_cons]
  cases h : ownB c e nd y with
  | true => rw [List.filter_cons_of_pos (by exact h), List.filter_cons_of_neg (by simp [h]), List.count_cons]; omega
  | false => rw [List.filter_cons_of_neg (by simp [h]), List.filter_cons_of_pos (by simp [h]), List.count_cons]; omega
theorem filS_count (q : Nat → Bool) (i : Nat) : ∀ n, (filS q n).count (i : Int) = if i < n ∧ q i = true then 1 else 0
 | 0 => by simp [filS]
 | n + 1 => by
  have ih := filS_count q i n
  rw [filS]
  by_cases h : q n = true
  ·rw [if_pos h, List.count_append, ih, List.count_singleton]
   by_cases g : n = i
   ·subst g; rw [if_neg (by omega), if_pos (by simp), if_pos ⟨by omega, h⟩]
   ·have hc : (if ((n : Int) == (i : Int)) = true then 1 else 0 : Nat) = 0 := if_neg (by simp; omega)
    rw [hc]
    by_cases g2 : i < n ∧ q i = true
    ·rw [if_pos g2, if_pos ⟨by omega, g2.2⟩]
    ·rw [if_neg g2, if_neg (fun g3 => g2 ⟨by omega, g3.2⟩)]
  ·rw [if_neg h, ih]
   by_cases g2 : i < n ∧ q i = true
   ·rw [if_pos g2, if_pos ⟨by omega, g2.2⟩]
   ·rw [if_neg g2, if_neg (fun g3 => g2 ⟨by
     by_cases g : i = n
     ·subst g; exact absurd g3.2 h
     ·omega, g3.2⟩)]
theorem bucS_count (c : SCfg) (e : Int) (l : List Int) (nd : Int) {i : Nat} (h : i < c.buckets.toNat) : (bucS c e l nd).count (i : Int) = if ownerS c e l i = nd then 1 else 0 := by
 rw [bucS, ownL_count, bkQ, filS_count]
 by_cases g : ownerS c e l i = nd
 ·rw [if_pos ⟨h, by simp [g]⟩, if_pos g]
 ·rw [if_neg (fun g2 => g (by simpa using g2.2)), if_neg g]
theorem bucS_mem {c : SCfg} {e : Int} {l : List Int} {nd x : Int} (h : x ∈ bucS c e l nd) : ∃ i : Nat, i < c.buckets.toNat ∧ x = i ∧ ownerS c e l x = nd := by
 have h2 : x ∈ bkQ c e l nd c.buckets.toNat := by
  rw [bucS, ownL, List.mem_append, List.mem_filter, List.mem_filter] at h
  rcases h with h | h
  ·exact h.1
  ·exact h.1
 obtain ⟨i, i1, i2, i3⟩ := (filS_mem _ _ _).1 h2
 exact ⟨i, i1, i2, by rw [i2]; simpa using i3⟩
theorem ownS_mem {l : List Int} {f : Int} {n : Nat} {x : Int} (hx : x ∈ l) (x0 : 0 ≤ x) (x1 : x < n) : ownS l f n ∈ l := by
 have hk : ∃ k ∈ List.range n, decide ((f + ((k : Nat) : Int)) % (n : Int) ∈ l) = true := by
  refine ⟨((x - f) % (n : Int)).toNat, ?_, ?_⟩
  ·rw [List.mem_range]
   have := Int.emod_nonneg (x - f) (b := (n : Int)) (by omega)
   have := Int.emod_lt_of_pos (x - f) (b := (n : Int)) (by omega)
   omega
  ·have h0 := Int.emod_nonneg (x - f) (b := (n : Int)) (by omega)
   rw [decide_eq_true_eq, Int.toNat_of_nonneg h0, Int.add_emod, Int.emod_emod, ← Int.add_emod, show f + (x - f) = x by omega, Int.emod_eq_of_lt x0 x1]
   exact hx
 rw [ownS]
 cases hf : (List.range n).find? (fun k => decide ((f + (k : Nat)) % (n : Int) ∈ l)) with
 | none =>
  obtain ⟨k, k1, k2⟩ := hk
  rw [List.find?_eq_none] at hf
  exact absurd k2 (hf k k1)
 | some k =>
  have := List.find?_some hf
  simpa using this
theorem count_take {l : List Int} {k : Nat} (hk : k < l.length) (x : Int) : (l.take (k + 1)).count x = (l.take k).count x + if l.getD k 0 = x then 1 else 0 := by
 rw [List.take_add_one, List.count_append, List.getElem?_eq_getElem hk, List.getD_eq_getElem?_getD, List.getElem?_eq_getElem hk]
 simp [List.count_singleton]
theorem getD_mem {l : List Int} {k : Nat} (hk : k < l.length) : l.getD k 0 ∈ l := by
 rw [List.getD_eq_getElem?_getD, List.getElem?_eq_getElem hk]; exact List.getElem_mem hk
theorem T_o1 (c : SCfg) (e : Int) (pen : List Int) : T Try.prog 3 [.agg c.c, .int .i64 e, lr pen] [] (.bool true) [] := by
 have hL := T_lv
 have hG := T_cg c
 by_cases g4 : 200 < pen.length
 ·skip
  refine T_al (bdOn1_p1111 c e pen (goodE c) 0 [] 0 (fun _ => 0)) Try.func3 ?_
  simp only [All, All_append, bdOn1_c]; and_intros
  all_goals first
   | exact hL
   | exact hG
   | (rw [decide_eq_true_eq]; omega)
   | (rw [decide_eq_false_iff_not]; omega)
   | omega
   | with_reducible rfl
   | (intro _ _; rfl)
   | (intro _ _; trivial)
   | (intro h; exact h)
   | exact .inl rfl
   | exact .inr rfl
   | exact .inr trivial
   | (simp only [IntKind.min, IntKind.max, IntKind.signed, IntKind.bits, if_true]; omega)
   | rfl
   | trivial
 by_cases g1 : goodE c = 0
 rotate_left
 ·have g1 := goodE_ne g1
  refine T_al (bdOn1_p0111 c e pen (goodE c) 0 [] 0 (fun _ => 0)) Try.func3 ?_
  simp only [All, All_append, bdOn1_c]; and_intros
  all_goals first
   | exact hL
   | exact hG
   | exact g1
   | (rw [decide_eq_true_eq]; omega)
   | (rw [decide_eq_false_iff_not]; omega)
   | omega
   | with_reducible rfl
   | (intro _ _; rfl)
   | (intro _ _; trivial)
   | (intro h; exact h)
   | exact .inl rfl
   | exact .inr rfl
   | exact .inr trivial
   | (simp only [IntKind.min, IntKind.max, IntKind.signed, IntKind.bits, if_true]; omega)
   | rfl
   | trivial
 have hm1 := goodE_zero.1 g1
 have g1 := goodE_eq g1
 by_cases g2 : e < 1
 ·skip
  refine T_al (bdOn1_p0011 c e pen (goodE c) 0 [] 0 (fun _ => 0)) Try.func3 ?_
  simp only [All, All_append, bdOn1_c]; and_intros
  all_goals first
   | exact hL
   | exact hG
   | exact g1
   | (rw [decide_eq_true_eq]; omega)
   | (rw [decide_eq_false_iff_not]; omega)
   | omega
   | with_reducible rfl
   | (intro _ _; rfl)
   | (intro _ _; trivial)
   | (intro h; exact h)
   | exact .inl rfl
   | exact .inr rfl
   | exact .inr trivial
   | (simp only [IntKind.min, IntKind.max, IntKind.signed, IntKind.bits, if_true]; omega)
   | rfl
   | trivial
 by_cases g3 : 1048576 < e
 ·skip
  refine T_al (bdOn1_p0001 c e pen (goodE c) 0 [] 0 (fun _ => 0)) Try.func3 ?_
  simp only [All, All_append, bdOn1_c]; and_intros
  all_goals first
   | exact hL
   | exact hG
   | exact g1
   | (rw [decide_eq_true_eq]; omega)
   | (rw [decide_eq_false_iff_not]; omega)
   | omega
   | with_reducible rfl
   | (intro _ _; rfl)
   | (intro _ _; trivial)
   | (intro h; exact h)
   | exact .inl rfl
   | exact .inr rfl
   | exact .inr trivial
   | (simp only [IntKind.min, IntKind.max, IntKind.signed, IntKind.bits, if_true]; omega)
   | rfl
   | trivial
 have hm : mayS c e = true := mayS_iff.2 ⟨hm1, by omega, by omega⟩
 obtain ⟨n1, n2, n3⟩ := nodesB hm1
 have gb := (goodC_iff.1 hm1).2.2.2.1
 obtain ⟨l, hl⟩ : ∃ l, l = listS c e pen := ⟨_, rfl⟩
 have hLs := T_ls c e pen
 rw [← hl] at hLs
 have hS := T_sm c.nodes
 -- the list: numbers below, each once, as many as some
 obtain ⟨fq, hfq, hsome⟩ : ∃ fq : Nat → Bool, l = filS fq c.nodes.toNat ∧ ¬ (l.length : Int) < someS c.nodes := by
  rw [hl, listS, if_pos hm]
  split
  ·rename_i h
   refine ⟨_, rfl, ?_⟩
   have hall : ∀ k, (filS (fun _ => true) k).length = k := fun k => by
    induction k with
    | zero => rfl
    | succ k ih => rw [filS, if_pos rfl]; simp [ih]
   rw [hall, someS, shareS]
   split <;> omega
  ·rename_i h
   exact ⟨_, rfl, h⟩
 have hs1 : 1 ≤ someS c.nodes := by
  rw [someS, shareS, if_pos (goodC_iff.1 hm1).1]; omega
 have hlen : l.length ≤ c.nodes.toNat := by rw [hfq]; exact filS_len _ _
 have hmem : ∀ x ∈ l, ∃ i : Nat, i < c.nodes.toNat ∧ x = i := fun x hx => by
  rw [hfq] at hx
  obtain ⟨i, i1, i2, _⟩ := (filS_mem _ _ _).1 hx
  exact ⟨i, i1, i2⟩
 obtain ⟨m, hmm⟩ : ∃ m, m = c.buckets.toNat := ⟨_, rfl⟩
 have how : ∀ i : Nat, i < m → ownerS c e l i ∈ l := fun i hi => by
  rw [ownerS, if_pos ⟨hm, by omega, by omega⟩]
  have h0 := getD_mem (l := l) (k := 0) (by omega)
  obtain ⟨j, j1, j2⟩ := hmem _ h0
  exact ownS_mem h0 (by omega) (by omega)
 have hcnt : ∀ i : Nat, i < m → l.count (ownerS c e l i) = 1 := fun i hi => by
  have h1 := how i hi
  rw [hfq] at h1
  obtain ⟨j, j1, j2, j3⟩ := (filS_mem _ _ _).1 h1
  rw [hfq, j2, filS_count, if_pos ⟨j1, j3⟩]
 obtain ⟨F, hF⟩ : ∃ F : Nat → Nat → Int, F = fun (k i : Nat) => ((l.take k).count (ownerS c e l i) : Int) := ⟨_, rfl⟩
 have F0 : F 0 = fun _ => 0 := by rw [hF]; funext i; simp
 have step : ∀ k, k < l.length → R Try.prog none 0 onC0 (onI c e l m k (F k)) .normal (onI c e l m (k + 1) (F (k + 1))) := fun k hk => by
  obtain ⟨nd, hnd⟩ : ∃ nd, nd = l.getD k 0 := ⟨_, rfl⟩
  obtain ⟨jn, jn1, jn2⟩ := hmem _ (getD_mem hk)
  obtain ⟨B, hB⟩ : ∃ B, B = bucS c e l nd := ⟨_, rfl⟩
  have hBk := T_bk (c := c) (e := e) (l := l) (nd := nd) hm (by omega) (by omega)
  rw [← hB] at hBk
  have hBl : B.length ≤ 64 := by
   rw [hB, bucS, ownL_len]; have := filS_len (fun i => decide (ownerS c e l i = nd)) c.buckets.toNat
   unfold bkQ; omega
  obtain ⟨Fj, hFj⟩ : ∃ Fj : Nat → Nat → Int, Fj = fun (j i : Nat) => F k i + ((B.take j).count (i : Int) : Int) := ⟨_, rfl⟩
  have Fj0 : Fj 0 = F k := by rw [hFj]; funext i; simp
  have Fb : ∀ j i, 0 ≤ Fj j i ∧ Fj j i ≤ 1000 := fun j i => by
   have h1 := List.count_le_length (a := ownerS c e l i) (l := l.take k)
   have h2 := List.count_le_length (a := (i : Int)) (l := B.take j)
   rw [List.length_take] at h1 h2
   rw [hFj, hF]; simp only; omega
  have stepj : ∀ j, j < B.length → R Try.prog none 0 onC2 (onJ c e l m k nd B j (Fj j)) .normal (onJ c e l m k nd B (j + 1) (Fj (j + 1))) := fun j hj => by
   have hx := getD_mem hj
   obtain ⟨x, hxx⟩ : ∃ x, x = B.getD j 0 := ⟨_, rfl⟩
   rw [← hxx] at hx
   rw [hB] at hx
   obtain ⟨i, i1, i2, i3⟩ := bucS_mem hx
   have hO := T_ow c (e := e) (l := l) (b := x) (by omega)
   rw [i3] at hO
   have fb := Fb j x.toNat
   have hnx : (!decide (nd = nd)) = false := by simp
   have hst : ∀ y, y < m → Bool.rec [V.int IntKind.i64 (Fj j y)] [V.int IntKind.i64 (Fj j x.toNat + 1)] (Nat.beq y x.toNat) = [V.int IntKind.i64 (Fj (j + 1) y)] := fun y hy => by
    have ec := count_take hj (y : Int)
    rw [← hxx] at ec
    by_cases g : y = x.toNat
    ·rw [show Nat.beq y x.toNat = true by rw [Nat.beq_eq]; exact g]
     show [V.int IntKind.i64 (Fj j x.toNat + 1)] = _
     rw [if_pos (by omega)] at ec
     rw [hFj]; simp only [ec, ← g]
     congr 2; omega
    ·rw [show Nat.beq y x.toNat = false from Bool.eq_false_iff.mpr fun h => g (Nat.eq_of_beq_eq_true h)]
     show [V.int IntKind.i64 (Fj j y)] = _
     rw [if_neg (by omega)] at ec
     rw [hFj]; simp only [ec]; rfl
   refine R_alongPc NG MO _ (pcOj_p1000 c e l m k nd B j (Fj j) (Fj (j + 1)) nd) ?_ (by show 0 ≤ 2; decide)
   simp only [All, All_append, bdOn1_c, Int.toNat_natCast, Nat.zero_add, ← hxx]; and_intros
   all_goals first
    | exact hO
    | exact hst
    | exact hnx
    | (rw [decide_eq_false_iff_not, Int.toNat_natCast, ← hxx]; omega)
    | (rw [decide_eq_true_eq]; omega)
    | (rw [decide_eq_false_iff_not]; omega)
    | omega
    | with_reducible rfl
    | (intro _ _; rfl)
    | (intro _ _; trivial)
    | (intro h; exact h)
    | exact .inl rfl
    | exact .inr rfl
    | exact .inr trivial
    | (simp only [IntKind.min, IntKind.max, IntKind.signed, IntKind.bits, if_true]; omega)
    | rfl
    | trivial
  have outj : R Try.prog none 0 onC2 (onJ c e l m k nd B B.length (Fj B.length)) (.exit 2) (onJ c e l m k nd B B.length (Fj B.length)) := by
   refine R_alongPc NG MO _ (pcOj_p0 c e l m k nd B B.length (Fj B.length) (fun _ => 0) 0) ?_ (by show 0 ≤ 2; decide)
   simp only [All, All_append, bdOn1_c, Int.toNat_natCast, Nat.zero_add]; and_intros
   all_goals first
    | (rw [decide_eq_true_eq]; omega)
    | (rw [decide_eq_false_iff_not]; omega)
    | omega
    | with_reducible rfl
    | (intro _ _; rfl)
    | (intro _ _; trivial)
    | (intro h; exact h)
    | exact .inl rfl
    | exact .inr rfl
    | exact .inr trivial
    | (simp only [IntKind.min, IntKind.max, IntKind.signed, IntKind.bits, if_true]; omega)
    | rfl
    | trivial
  have hLj := RLoop.inv (fun j => onJ c e l m k nd B j (Fj j)) B.length stepj outj (by simp)
  rw [Fj0] at hLj
  have hFn : ∀ i, i < m → Fj B.length i = F (k + 1) i := fun i hi => by
   have h1 := count_take hk (ownerS c e l i)
   have h2 := bucS_count c e l nd (i := i) (by omega)
   rw [hFj, hF]; simp only [List.take_length]
   rw [h1, hB, h2, ← hnd]
   by_cases g : ownerS c e l i = nd
   ·rw [if_pos g, if_pos g.symm]; omega
   ·rw [if_neg g, if_neg (fun h => g h.symm)]; omega
  have hnd' := hnd.symm
  have hBk2 := hBk
  rw [hnd] at hBk2
  refine R_alongPc NG MO _ (pcOi_p1 c e l m k nd B (F k) (Fj B.length) (F (k + 1))) ?_ (by show 0 ≤ 2; decide)
  simp only [All, All_append, bdOn1_c, Int.toNat_natCast, Nat.zero_add]; and_intros
  all_goals first
   | exact hBk2 _
   | exact hLj
   | (intro h; cases h; done)
   | exact hnd'
   | (intro i hi; rw [hFn i hi])
   | (rw [decide_eq_true_eq]; omega)
   | (rw [decide_eq_false_iff_not]; omega)
   | omega
   | with_reducible rfl
   | (intro _ _; rfl)
   | (intro _ _; trivial)
   | (intro h; exact h)
   | exact .inl rfl
   | exact .inr rfl
   | exact .inr trivial
   | (simp only [IntKind.min, IntKind.max, IntKind.signed, IntKind.bits, if_true]; omega)
   | rfl
   | trivial
 have out : R Try.prog none 0 onC0 (onI c e l m l.length (F l.length)) (.exit 0) (onI c e l m l.length (F l.length)) := by
  refine R_alongPc NG MO _ (pcOi_p0 c e l m l.length 0 [] (F l.length) (fun _ => 0) (fun _ => 0)) ?_ (by show 0 ≤ 2; decide)
  simp only [All, All_append, bdOn1_c, Int.toNat_natCast, Nat.zero_add]; and_intros
  all_goals first
   | (rw [decide_eq_true_eq]; omega)
   | (rw [decide_eq_false_iff_not]; omega)
   | omega
   | with_reducible rfl
   | (intro _ _; rfl)
   | (intro _ _; trivial)
   | (intro h; exact h)
   | exact .inl rfl
   | exact .inr rfl
   | exact .inr trivial
   | (simp only [IntKind.min, IntKind.max, IntKind.signed, IntKind.bits, if_true]; omega)
   | rfl
   | trivial
 have hL0 := RLoop.inv (fun k => onI c e l m k (F k)) l.length step out (by simp)
 rw [F0] at hL0
 have hone : ∀ i, i < m → F l.length i = 1 := fun i hi => by
  rw [hF]; simp only [List.take_length]; rw [hcnt i hi]; rfl
 have stepk : ∀ k, k < m → R Try.prog none 0 onC4 (onK c m k (F l.length)) .normal (onK c m (k + 1) (F l.length)) := fun k hk => by
  have h1 : (!decide (F l.length k = 1)) = false := by rw [hone k hk]; rfl
  refine R_alongPc NG MO _ (pcOk_p10 c m k (F l.length)) ?_ (by show 0 ≤ 2; decide)
  simp only [All, All_append, bdOn1_c, Int.toNat_natCast, Nat.zero_add]; and_intros
  all_goals first
   | exact h1
   | (rw [decide_eq_true_eq]; omega)
   | (rw [decide_eq_false_iff_not]; omega)
   | omega
   | with_reducible rfl
   | (intro _ _; rfl)
   | (intro _ _; trivial)
   | (intro h; exact h)
   | exact .inl rfl
   | exact .inr rfl
   | exact .inr trivial
   | (simp only [IntKind.min, IntKind.max, IntKind.signed, IntKind.bits, if_true]; omega)
   | rfl
   | trivial
 have outk : R Try.prog none 0 onC4 (onK c m m (F l.length)) (.exit 4) (onK c m m (F l.length)) := by
  refine R_alongPc NG MO _ (pcOk_p0 c m m (F l.length)) ?_ (by show 0 ≤ 2; decide)
  simp only [All, All_append, bdOn1_c, Int.toNat_natCast, Nat.zero_add]; and_intros
  all_goals first
   | (rw [decide_eq_true_eq]; omega)
   | (rw [decide_eq_false_iff_not]; omega)
   | omega
   | with_reducible rfl
   | (intro _ _; rfl)
   | (intro _ _; trivial)
   | (intro h; exact h)
   | exact .inl rfl
   | exact .inr rfl
   | exact .inr trivial
   | (simp only [IntKind.min, IntKind.max, IntKind.signed, IntKind.bits, if_true]; omega)
   | rfl
   | trivial
 have hL4 := RLoop.inv (fun k => onK c m k (F l.length)) m stepk outk (by simp)
 refine T_al (bdOn1_p00000 c e pen (goodE c) (someS c.nodes) l m (F l.length)) Try.func3 ?_
 simp only [All, All_append, bdOn1_c]; and_intros
 all_goals first
  | exact hL
  | exact hG
  | exact g1
  | exact hLs
  | exact hS
  | exact hL0
  | exact hL4
  | (rw [hmm]; exact .inr rfl)
  | (rw [decide_eq_true_eq]; omega)
  | (rw [decide_eq_false_iff_not]; omega)
  | omega
  | with_reducible rfl
  | (intro _ _; rfl)
  | (intro _ _; trivial)
  | (intro h; exact h)
  | exact .inl rfl
  | exact .inr rfl
  | exact .inr trivial
  | (simp only [IntKind.min, IntKind.max, IntKind.signed, IntKind.bits, if_true]; omega)
  | rfl
  | trivial
end Go.Proofs.Ythifjamdfpjilaa
