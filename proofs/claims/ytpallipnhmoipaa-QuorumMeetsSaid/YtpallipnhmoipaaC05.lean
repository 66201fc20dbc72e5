/-
  Contracts and laws that the claim's theorem leans on, joined out of the texts Ma2 Ma3D Ma3 SyCho Ma4D Ma4 Ma5D Ma5 Mg0 (own work of this seat): Contracts: the i-th greatest; Contracts: the document's i-th greatest; that the law lives; QuorumCounts, QuorumNths; Contracts: the document's i-th greatest; that the law lives; QuorumCounts, QuorumNths; How many hold; nodes chosen by raw numbers until there are enough; Contracts: as many nodes as a quorum has; Contracts: as many nodes as a quorum has; Contracts: QuorumMeets; Contracts: QuorumMeets; The shape of a list of numbers that is handed in.
-/
import Derived.Test.YtpallipnhmoipaaC04
set_option linter.unusedVariables false
set_option linter.unusedSimpArgs false
set_option maxHeartbeats 1000000
namespace Go.Proofs.Ytpallipnhmoipaa
open Go Sy Go.Proofs
theorem bdNt_p11 (l : List Int) (i : Int) :
  along Try.prog (bdNt l i) [true, true] = (some (.int .i64 0, [], [decide (i < (1 : Int)) = true, q2]) : Option (V × Heap × List Prop)) := by kernel_rfl
theorem bdNt_p01 (l : List Int) (i : Int) :
  along Try.prog (bdNt l i) [false, true] = (some (.int .i64 0, [], [decide (i < (1 : Int)) = false, decide ((↑(List.length l) : Int) < i) = true]) : Option (V × Heap × List Prop)) := by kernel_rfl
theorem bdNt_p00 (l : List Int) (i : Int) :
  along Try.prog (bdNt l i) [false, false] = (some (.int .i64 (List.getD (srtD l) (0 + Int.toNat (i - (1 : Int))) (0 : Int)), [], [decide (i < (1 : Int)) = false, decide ((↑(List.length l) : Int) < i) = false, q0, ∀ (k : Nat), k < List.length l → true = true, ((0 : Nat) + List.length l) * (8 : Nat) ≤ (140737488355328 : Nat), T Try.prog 45 [.ifc 25 (.sl (.o 704) 1 0 0 0 (0 + List.length l) none), .fn (.func 46) [] [.ptr (.o 768) 0 0 0 0]] [(.o 704, .rows 1 (0 + List.length l) (catF 0 (getL []) (li l)) true), (.o 768, .flat [.sl (.o 704) 1 0 0 0 (0 + List.length l) none])] (.tup []) [(.o 704, .rows 1 (List.length l) (li (srtD l)) true), (.o 768, .flat [.sl (.o 704) 1 0 0 0 (List.length l) none])], InR IntKind.i64 (i - (1 : Int)), (0 : Int) ≤ i - (1 : Int) ∧ i - (1 : Int) < (↑(List.length l) : Int), (0 : Nat) + Int.toNat (i - (1 : Int)) < List.length l]) : Option (V × Heap × List Prop)) := by kernel_rfl

theorem bdRn_p1 (l : List Int) (i : Int) (m : Nat) (v : Int) :
  along Try.prog (bdRn l i m v) [true] = (some (.int .i64 0, [], [RLoop Try.prog none 0 (cB (cB (cR (cL (cR (bodyOf (Bd.f (bdRn l i m v)))))))) (List.length l + 1) (St.mk [.ros 1 (List.length l) (li l) false, .int .i64 i, .any, .any, .any, .int .i64 0, .any, .any, .any, .any, .any, .any, .any, .any, .any, .any, .any, .any, .any, .any, .any, .any, .any, .any, .any, .any, .any, .any, .any, .any, .any, .any, .any, .any, .any, .any, .any, .any, .any, .any, .any, .any, .any, .any, .any, .any, .any, .any, .any, .any, .any, .any, .any, .any, .any, .any, .any] [] 0 []) (.exit 0) (St.mk [.ros 1 (List.length l) (li l) false, .int .i64 i, .any, .any, .any, .int .i64 (↑(List.length l) : Int), .any, .any, .any, .any, .any, .any, .any, .any, .any, .any, .any, .any, .any, .any, .any, .any, .any, .any, .any, .any, .any, .any, .any, .any, .any, .any, .any, .any, .any, .any, .any, .any, .any, .any, .any, .any, .any, .any, .any, .any, .any, .any, .any, .any, .any, .any, .any, .any, .any, .any, .any] [] 0 []), q (List.length l), ∀ (k : Nat), k < List.length l → [V.int IntKind.i64 (List.getD l k (0 : Int))] = [V.int IntKind.i64 (List.getD l k (0 : Int))], false = true → false = true, q i, q1]) : Option (V × Heap × List Prop)) := by kernel_rfl
theorem bdRn_p0 (l : List Int) (i : Int) (m : Nat) (v : Int) :
  along Try.prog (bdRn l i m v) [false] = (some (.int .i64 v, [], [RLoop Try.prog none 0 (cB (cB (cR (cL (cR (bodyOf (Bd.f (bdRn l i m v)))))))) (m + 1) (St.mk [.ros 1 (List.length l) (li l) false, .int .i64 i, .any, .any, .any, .int .i64 0, .any, .any, .any, .any, .any, .any, .any, .any, .any, .any, .any, .any, .any, .any, .any, .any, .any, .any, .any, .any, .any, .any, .any, .any, .any, .any, .any, .any, .any, .any, .any, .any, .any, .any, .any, .any, .any, .any, .any, .any, .any, .any, .any, .any, .any, .any, .any, .any, .any, .any, .any] [] 0 []) .ret (St.mk [.any, .any, .any, .any, .int .i64 v, .any, .any, .any, .any, .any, .any, .any, .any, .any, .any, .any, .any, .any, .any, .any, .any, .any, .any, .any, .any, .any, .any, .any, .any, .any, .any, .any, .any, .any, .any, .any, .any, .any, .any, .any, .any, .any, .any, .any, .any, .any, .any, .any, .any, .any, .any, .any, .any, .any, .any, .any, .any] [] 0 []), q (List.length l), ∀ (k : Nat), k < List.length l → [V.int IntKind.i64 (List.getD l k (0 : Int))] = [V.int IntKind.i64 (List.getD l k (0 : Int))], false = true → false = true, q i, q1]) : Option (V × Heap × List Prop)) := by kernel_rfl

noncomputable def pcRn_c (l : List Int) (i : Int) (k : Nat) (a : Int) (s : Int) (v : Int) : Nat → List Prop
 | 0 => [decide ((↑k : Int) < (↑(List.length l) : Int)) = true, RLoop Try.prog none 0 (cB (cB (cR (cL (cR (cR (cB (cL (cR (Pc.c (pcRn l i k a s v))))))))))) (List.length l + 1) (St.mk [.ros 1 (List.length l) (li l) false, .int .i64 i, .any, .any, .any, .int .i64 ↑k, .int .i64 0, .int .i64 0, .int .i64 0, .any, .any, .any, .any, .any, .any, .any, .any, .any, .any, .any, .any, .any, .any, .any, .any, .any, .any, .any, .any, .any, .any, .any, .any, .any, .any, .any, .any, .any, .any, .any, .any, .any, .any, .any, .any, .any, .any, .any, .any, .any, .any, .any, .any, .any, .any, .any, .any] [] 0 []) (.exit 2) (St.mk [.ros 1 (List.length l) (li l) false, .int .i64 i, .any, .any, .any, .int .i64 ↑k, .int .i64 a, .int .i64 s, .int .i64 (↑(List.length l) : Int), .any, .any, .any, .any, .any, .any, .any, .any, .any, .any, .any, .any, .any, .any, .any, .any, .any, .any, .any, .any, .any, .any, .any, .any, .any, .any, .any, .any, .any, .any, .any, .any, .any, .any, .any, .any, .any, .any, .any, .any, .any, .any, .any, .any, .any, .any, .any, .any] [] 0 []), q (List.length l), ∀ (k : Nat), k < List.length l → [V.int IntKind.i64 (List.getD l k (0 : Int))] = [V.int IntKind.i64 (List.getD l k (0 : Int))], false = true → false = true, q i, q (↑k : Int), q1, q1, q1]
 | _ => []
theorem pcRn_p111 (l : List Int) (i : Int) (k : Nat) (a : Int) (s : Int) (v : Int) :
 alongPc Try.prog (pcRn l i k a s v) [true, true, true] = (some (.ret, St.mk [.any, .any, .any, .any, .int .i64 v, .any, .any, .any, .any, .any, .any, .any, .any, .any, .any, .any, .any, .any, .any, .any, .any, .any, .any, .any, .any, .any, .any, .any, .any, .any, .any, .any, .any, .any, .any, .any, .any, .any, .any, .any, .any, .any, .any, .any, .any, .any, .any, .any, .any, .any, .any, .any, .any, .any, .any, .any, .any] [] 0 [], pcRn_c l i k a s v 0 ++ [decide (a < i) = true, InR IntKind.i64 (a + s), decide (i ≤ a + s) = true, (0 : Int) ≤ (↑k : Int) ∧ (↑k : Int) < (↑(List.length l) : Int), List.getD l (Int.toNat (↑k : Int)) (0 : Int) = v]) : Option (Exit × St × List Prop)) := by kernel_rfl
theorem pcRn_p110 (l : List Int) (i : Int) (k : Nat) (a : Int) (s : Int) (v : Int) :
 alongPc Try.prog (pcRn l i k a s v) [true, true, false] = (some (.normal, St.mk [.ros 1 (List.length l) (li l) false, .int .i64 i, .any, .any, .any, .int .i64 (↑(k + 1) : Int), .any, .any, .any, .any, .any, .any, .any, .any, .any, .any, .any, .any, .any, .any, .any, .any, .any, .any, .any, .any, .any, .any, .any, .any, .any, .any, .any, .any, .any, .any, .any, .any, .any, .any, .any, .any, .any, .any, .any, .any, .any, .any, .any, .any, .any, .any, .any, .any, .any, .any, .any] [] 0 [], pcRn_c l i k a s v 0 ++ [decide (a < i) = true, InR IntKind.i64 (a + s), decide (i ≤ a + s) = false, InR IntKind.i64 ((↑k : Int) + (1 : Int)), q (List.length l), ∀ (k : Nat), k < List.length l → [V.int IntKind.i64 (List.getD l k (0 : Int))] = [V.int IntKind.i64 (List.getD l k (0 : Int))], false = true → false = true, q i, (↑k : Int) + (1 : Int) = (↑(k + (1 : Nat)) : Int)]) : Option (Exit × St × List Prop)) := by kernel_rfl
theorem pcRn_p100 (l : List Int) (i : Int) (k : Nat) (a : Int) (s : Int) (v : Int) :
 alongPc Try.prog (pcRn l i k a s v) [true, false, false] = (some (.normal, St.mk [.ros 1 (List.length l) (li l) false, .int .i64 i, .any, .any, .any, .int .i64 (↑(k + 1) : Int), .any, .any, .any, .any, .any, .any, .any, .any, .any, .any, .any, .any, .any, .any, .any, .any, .any, .any, .any, .any, .any, .any, .any, .any, .any, .any, .any, .any, .any, .any, .any, .any, .any, .any, .any, .any, .any, .any, .any, .any, .any, .any, .any, .any, .any, .any, .any, .any, .any, .any, .any] [] 0 [], pcRn_c l i k a s v 0 ++ [decide (a < i) = false, q false, InR IntKind.i64 ((↑k : Int) + (1 : Int)), q (List.length l), ∀ (k : Nat), k < List.length l → [V.int IntKind.i64 (List.getD l k (0 : Int))] = [V.int IntKind.i64 (List.getD l k (0 : Int))], false = true → false = true, q i, (↑k : Int) + (1 : Int) = (↑(k + (1 : Nat)) : Int)]) : Option (Exit × St × List Prop)) := by kernel_rfl
theorem pcRn_p0 (l : List Int) (i : Int) (k : Nat) (a : Int) (s : Int) (v : Int) :
 alongPc Try.prog (pcRn l i k a s v) [false] = (some (.exit 0, St.mk [.ros 1 (List.length l) (li l) false, .int .i64 i, .any, .any, .any, .int .i64 (↑(List.length l) : Int), .any, .any, .any, .any, .any, .any, .any, .any, .any, .any, .any, .any, .any, .any, .any, .any, .any, .any, .any, .any, .any, .any, .any, .any, .any, .any, .any, .any, .any, .any, .any, .any, .any, .any, .any, .any, .any, .any, .any, .any, .any, .any, .any, .any, .any, .any, .any, .any, .any, .any, .any] [] 0 [], [decide ((↑k : Int) < (↑(List.length l) : Int)) = false, q (List.length l), ∀ (k : Nat), k < List.length l → [V.int IntKind.i64 (List.getD l k (0 : Int))] = [V.int IntKind.i64 (List.getD l k (0 : Int))], false = true → false = true, q i, (↑k : Int) = (↑(List.length l) : Int)]) : Option (Exit × St × List Prop)) := by kernel_rfl

noncomputable def pcRj_c (l : List Int) (i : Int) (k : Nat) (a : Int) (s : Int) (a2 : Int) (s2 : Int) (j : Nat) : Nat → List Prop
 | 0 => [decide ((↑j : Int) < (↑(List.length l) : Int)) = true, (0 : Int) ≤ (↑j : Int) ∧ (↑j : Int) < (↑(List.length l) : Int), (0 : Int) ≤ (↑k : Int) ∧ (↑k : Int) < (↑(List.length l) : Int)]
 | 1 => [decide (List.getD l (Int.toNat (↑k : Int)) (0 : Int) < List.getD l (Int.toNat (↑j : Int)) (0 : Int)) = true, InR IntKind.i64 (a + (1 : Int)), (0 : Int) ≤ (↑j : Int) ∧ (↑j : Int) < (↑(List.length l) : Int), (0 : Int) ≤ (↑k : Int) ∧ (↑k : Int) < (↑(List.length l) : Int)]
 | 2 => [decide (List.getD l (Int.toNat (↑k : Int)) (0 : Int) < List.getD l (Int.toNat (↑j : Int)) (0 : Int)) = false, (0 : Int) ≤ (↑j : Int) ∧ (↑j : Int) < (↑(List.length l) : Int), (0 : Int) ≤ (↑k : Int) ∧ (↑k : Int) < (↑(List.length l) : Int)]
 | _ => []
theorem pcRj_p111 (l : List Int) (i : Int) (k : Nat) (a : Int) (s : Int) (a2 : Int) (s2 : Int) (j : Nat) :
 alongPc Try.prog (pcRj l i k a s a2 s2 j) [true, true, true] = (some (.normal, St.mk [.ros 1 (List.length l) (li l) false, .int .i64 i, .any, .any, .any, .int .i64 ↑k, .int .i64 a2, .int .i64 s2, .int .i64 (↑(j + 1) : Int), .any, .any, .any, .any, .any, .any, .any, .any, .any, .any, .any, .any, .any, .any, .any, .any, .any, .any, .any, .any, .any, .any, .any, .any, .any, .any, .any, .any, .any, .any, .any, .any, .any, .any, .any, .any, .any, .any, .any, .any, .any, .any, .any, .any, .any, .any, .any, .any] [] 0 [], pcRj_c l i k a s a2 s2 j 0 ++ (pcRj_c l i k a s a2 s2 j 1 ++ [decide (List.getD l (Int.toNat (↑j : Int)) (0 : Int) = List.getD l (Int.toNat (↑k : Int)) (0 : Int)) = true, InR IntKind.i64 (s + (1 : Int)), InR IntKind.i64 ((↑j : Int) + (1 : Int)), q (List.length l), ∀ (k : Nat), k < List.length l → [V.int IntKind.i64 (List.getD l k (0 : Int))] = [V.int IntKind.i64 (List.getD l k (0 : Int))], false = true → false = true, q i, q (↑k : Int), a + (1 : Int) = a2, s + (1 : Int) = s2, (↑j : Int) + (1 : Int) = (↑(j + (1 : Nat)) : Int)])) : Option (Exit × St × List Prop)) := by kernel_rfl
theorem pcRj_p110 (l : List Int) (i : Int) (k : Nat) (a : Int) (s : Int) (a2 : Int) (s2 : Int) (j : Nat) :
 alongPc Try.prog (pcRj l i k a s a2 s2 j) [true, true, false] = (some (.normal, St.mk [.ros 1 (List.length l) (li l) false, .int .i64 i, .any, .any, .any, .int .i64 ↑k, .int .i64 a2, .int .i64 s2, .int .i64 (↑(j + 1) : Int), .any, .any, .any, .any, .any, .any, .any, .any, .any, .any, .any, .any, .any, .any, .any, .any, .any, .any, .any, .any, .any, .any, .any, .any, .any, .any, .any, .any, .any, .any, .any, .any, .any, .any, .any, .any, .any, .any, .any, .any, .any, .any, .any, .any, .any, .any, .any, .any] [] 0 [], pcRj_c l i k a s a2 s2 j 0 ++ (pcRj_c l i k a s a2 s2 j 1 ++ [decide (List.getD l (Int.toNat (↑j : Int)) (0 : Int) = List.getD l (Int.toNat (↑k : Int)) (0 : Int)) = false, InR IntKind.i64 ((↑j : Int) + (1 : Int)), q (List.length l), ∀ (k : Nat), k < List.length l → [V.int IntKind.i64 (List.getD l k (0 : Int))] = [V.int IntKind.i64 (List.getD l k (0 : Int))], false = true → false = true, q i, q (↑k : Int), a + (1 : Int) = a2, s = s2, (↑j : Int) + (1 : Int) = (↑(j + (1 : Nat)) : Int)])) : Option (Exit × St × List Prop)) := by kernel_rfl
theorem pcRj_p101 (l : List Int) (i : Int) (k : Nat) (a : Int) (s : Int) (a2 : Int) (s2 : Int) (j : Nat) :
 alongPc Try.prog (pcRj l i k a s a2 s2 j) [true, false, true] = (some (.normal, St.mk [.ros 1 (List.length l) (li l) false, .int .i64 i, .any, .any, .any, .int .i64 ↑k, .int .i64 a2, .int .i64 s2, .int .i64 (↑(j + 1) : Int), .any, .any, .any, .any, .any, .any, .any, .any, .any, .any, .any, .any, .any, .any, .any, .any, .any, .any, .any, .any, .any, .any, .any, .any, .any, .any, .any, .any, .any, .any, .any, .any, .any, .any, .any, .any, .any, .any, .any, .any, .any, .any, .any, .any, .any, .any, .any, .any] [] 0 [], pcRj_c l i k a s a2 s2 j 0 ++ (pcRj_c l i k a s a2 s2 j 2 ++ [decide (List.getD l (Int.toNat (↑j : Int)) (0 : Int) = List.getD l (Int.toNat (↑k : Int)) (0 : Int)) = true, InR IntKind.i64 (s + (1 : Int)), InR IntKind.i64 ((↑j : Int) + (1 : Int)), q (List.length l), ∀ (k : Nat), k < List.length l → [V.int IntKind.i64 (List.getD l k (0 : Int))] = [V.int IntKind.i64 (List.getD l k (0 : Int))], false = true → false = true, q i, q (↑k : Int), a = a2, s + (1 : Int) = s2, (↑j : Int) + (1 : Int) = (↑(j + (1 : Nat)) : Int)])) : Option (Exit × St × List Prop)) := by kernel_rfl
theorem pcRj_p100 (l : List Int) (i : Int) (k : Nat) (a : Int) (s : Int) (a2 : Int) (s2 : Int) (j : Nat) :
 alongPc Try.prog (pcRj l i k a s a2 s2 j) [true, false, false] = (some (.normal, St.mk [.ros 1 (List.length l) (li l) false, .int .i64 i, .any, .any, .any, .int .i64 ↑k, .int .i64 a2, .int .i64 s2, .int .i64 (↑(j + 1) : Int), .any, .any, .any, .any, .any, .any, .any, .any, .any, .any, .any, .any, .any, .any, .any, .any, .any, .any, .any, .any, .any, .any, .any, .any, .any, .any, .any, .any, .any, .any, .any, .any, .any, .any, .any, .any, .any, .any, .any, .any, .any, .any, .any, .any, .any, .any, .any, .any] [] 0 [], pcRj_c l i k a s a2 s2 j 0 ++ (pcRj_c l i k a s a2 s2 j 2 ++ [decide (List.getD l (Int.toNat (↑j : Int)) (0 : Int) = List.getD l (Int.toNat (↑k : Int)) (0 : Int)) = false, InR IntKind.i64 ((↑j : Int) + (1 : Int)), q (List.length l), ∀ (k : Nat), k < List.length l → [V.int IntKind.i64 (List.getD l k (0 : Int))] = [V.int IntKind.i64 (List.getD l k (0 : Int))], false = true → false = true, q i, q (↑k : Int), a = a2, s = s2, (↑j : Int) + (1 : Int) = (↑(j + (1 : Nat)) : Int)])) : Option (Exit × St × List Prop)) := by kernel_rfl
theorem pcRj_p0 (l : List Int) (i : Int) (k : Nat) (a : Int) (s : Int) (a2 : Int) (s2 : Int) (j : Nat) :
 alongPc Try.prog (pcRj l i k a s a2 s2 j) [false] = (some (.exit 2, St.mk [.ros 1 (List.length l) (li l) false, .int .i64 i, .any, .any, .any, .int .i64 ↑k, .int .i64 a, .int .i64 s, .int .i64 (↑(List.length l) : Int), .any, .any, .any, .any, .any, .any, .any, .any, .any, .any, .any, .any, .any, .any, .any, .any, .any, .any, .any, .any, .any, .any, .any, .any, .any, .any, .any, .any, .any, .any, .any, .any, .any, .any, .any, .any, .any, .any, .any, .any, .any, .any, .any, .any, .any, .any, .any, .any] [] 0 [], [decide ((↑j : Int) < (↑(List.length l) : Int)) = false, q (List.length l), ∀ (k : Nat), k < List.length l → [V.int IntKind.i64 (List.getD l k (0 : Int))] = [V.int IntKind.i64 (List.getD l k (0 : Int))], false = true → false = true, q i, q (↑k : Int), q a, q s, (↑j : Int) = (↑(List.length l) : Int)]) : Option (Exit × St × List Prop)) := by kernel_rfl

theorem T_nt {l : List Int} (hl : l.length ≤ 1000000) (i : Int) : T Try.prog 21 [lr l, .int .i64 i] [] (.int .i64 (nthV l i)) [] := by
 by_cases h1 : i < 1
 ·exact T.val (T_al (bdNt_p11 l i) Try.func21 ⟨decide_eq_true h1, rfl, trivial⟩) (by rw [nthV, if_neg (by omega)])
 ·by_cases h2 : (l.length : Int) < i
  ·exact T.val (T_al (bdNt_p01 l i) Try.func21 ⟨decide_eq_false h1, decide_eq_true h2, trivial⟩) (by rw [nthV, if_neg (by omega)])
  ·have hS := T_sl (q := 704) (b := 768) (es := 0) (cap := none) (cap' := none) (l := l) (by omega) hl
   have ec : catF 0 (getL []) (li l) = li l := by funext k; rfl
   refine T.val (T_al (bdNt_p00 l i) Try.func21 ?_) (by rw [nthV, if_pos (by omega), Nat.zero_add])
   simp only [All, All_append, pcRn_c, pcRj_c, Nat.zero_add, ec]; and_intros
   all_goals first
    | exact hS
    | exact decide_eq_false h1
    | exact decide_eq_false h2
    | trivial
    | (intro _ _; rfl)
    | (intro _ _; trivial)
    | (simp only [IntKind.min, IntKind.max, IntKind.signed, IntKind.bits, if_true]; omega)
    | omega
/-- How many of the first are greater, or alike. -/
def aF (l : List Int) (v : Int) (j : Nat) : Int := (cntG (l.take j) v : Int)
def sF (l : List Int) (v : Int) (j : Nat) : Int := (cntS (l.take j) v : Int)
theorem take_one {l : List Int} {j : Nat} (h : j < l.length) : l.take (j + 1) = l.take j ++ [l.getD j 0] := by
 rw [List.take_add_one, List.getD_eq_getElem?_getD, List.getElem?_eq_getElem h]; rfl
theorem aF_succ {l : List Int} {v : Int} {j : Nat} (h : j < l.length) : aF l v (j + 1) = if v < l.getD j 0 then aF l v j + 1 else aF l v j := by
 unfold aF cntG
 rw [take_one h, List.countP_append, List.countP_singleton]
 by_cases h1 : v < l.getD j 0
 ·rw [if_pos h1, if_pos (decide_eq_true h1)]; omega
 ·rw [if_neg h1, if_neg (by rw [decide_eq_true_eq]; exact h1)]; omega
theorem sF_succ {l : List Int} {v : Int} {j : Nat} (h : j < l.length) : sF l v (j + 1) = if l.getD j 0 = v then sF l v j + 1 else sF l v j := by
 unfold sF cntS
 rw [take_one h, List.countP_append, List.countP_singleton]
 by_cases h1 : l.getD j 0 = v
 ·rw [if_pos h1, if_pos (decide_eq_true h1)]; omega
 ·rw [if_neg h1, if_neg (by rw [decide_eq_true_eq]; exact h1)]; omega
theorem aF_le (l : List Int) (v : Int) (j : Nat) : 0 ≤ aF l v j ∧ aF l v j ≤ l.length := by
 unfold aF cntG
 have := List.countP_le_length (p := fun x => decide (v < x)) (l := l.take j)
 rw [List.length_take] at this
 omega
theorem sF_le (l : List Int) (v : Int) (j : Nat) : 0 ≤ sF l v j ∧ sF l v j ≤ l.length := by
 unfold sF cntS
 have := List.countP_le_length (p := fun x => decide (x = v)) (l := l.take j)
 rw [List.length_take] at this
 omega
theorem rnL {l : List Int} (hl : l.length ≤ 1000000) (i : Int) {k : Nat} (hk : k < l.length) :
  RLoop Try.prog none 0 (cB (cB (cR (cL (cR (cR (cB (cL (cR (cB (cB (cR (cL (cR (bodyOf Try.f22))))))))))))))) (l.length + 1) (rnJ l i k 0 0 0) (.exit 2) (rnJ l i k (aF l (l.getD k 0) l.length) (sF l (l.getD k 0) l.length) l.length) := by
 have hstep : ∀ j, j < l.length → R Try.prog none 0 (cB (cB (cR (cL (cR (cR (cB (cL (cR (cB (cB (cR (cL (cR (bodyOf Try.f22))))))))))))))) (rnJ l i k (aF l (l.getD k 0) j) (sF l (l.getD k 0) j) j) .normal (rnJ l i k (aF l (l.getD k 0) (j + 1)) (sF l (l.getD k 0) (j + 1)) (j + 1)) := by
  intro j hj
  have ha := aF_le l (l.getD k 0) j
  have hs := sF_le l (l.getD k 0) j
  have ea := aF_succ (v := l.getD k 0) hj
  have es := sF_succ (v := l.getD k 0) hj
  by_cases h1 : l.getD k 0 < l.getD j 0
  ·rw [if_pos h1] at ea
   rw [if_neg (by omega)] at es
   refine R_alongPc NG MO _ (pcRj_p110 l i k _ _ _ _ j) ?_ (Nat.zero_le _)
   simp only [All, All_append, pcRn_c, pcRj_c, Int.toNat_natCast, Nat.zero_add]; and_intros
   all_goals first
    | (rw [decide_eq_true_eq]; omega)
    | (rw [decide_eq_false_iff_not]; omega)
    | with_reducible rfl
    | (intro _ _; with_reducible rfl)
    | (intro _ _; trivial)
    | (simp only [IntKind.min, IntKind.max, IntKind.signed, IntKind.bits, if_true]; omega)
    | omega
    | (intro h; exact h)
    | trivial
  ·rw [if_neg h1] at ea
   by_cases h2 : l.getD j 0 = l.getD k 0
   ·rw [if_pos h2] at es
    refine R_alongPc NG MO _ (pcRj_p101 l i k _ _ _ _ j) ?_ (Nat.zero_le _)
    simp only [All, All_append, pcRn_c, pcRj_c, Int.toNat_natCast, Nat.zero_add]; and_intros
    all_goals first
     | (rw [decide_eq_true_eq]; omega)
     | (rw [decide_eq_false_iff_not]; omega)
     | with_reducible rfl
     | (intro _ _; with_reducible rfl)
     | (intro _ _; trivial)
     | (simp only [IntKind.min, IntKind.max, IntKind.signed, IntKind.bits, if_true]; omega)
     | omega
     | (intro h; exact h)
     | trivial
   ·rw [if_neg h2] at es
    refine R_alongPc NG MO _ (pcRj_p100 l i k _ _ _ _ j) ?_ (Nat.zero_le _)
    simp only [All, All_append, pcRn_c, pcRj_c, Int.toNat_natCast, Nat.zero_add]; and_intros
    all_goals first
     | (rw [decide_eq_true_eq]; omega)
     | (rw [decide_eq_false_iff_not]; omega)
     | with_reducible rfl
     | (intro _ _; with_reducible rfl)
     | (intro _ _; trivial)
     | (simp only [IntKind.min, IntKind.max, IntKind.signed, IntKind.bits, if_true]; omega)
     | omega
     | (intro h; exact h)
     | trivial
 have hend : R Try.prog none 0 (cB (cB (cR (cL (cR (cR (cB (cL (cR (cB (cB (cR (cL (cR (bodyOf Try.f22))))))))))))))) (rnJ l i k (aF l (l.getD k 0) l.length) (sF l (l.getD k 0) l.length) l.length) (.exit 2) (rnJ l i k (aF l (l.getD k 0) l.length) (sF l (l.getD k 0) l.length) l.length) := by
  refine R_alongPc NG MO _ (pcRj_p0 l i k _ _ 0 0 l.length) ?_ (Nat.zero_le _)
  simp only [All, All_append, pcRn_c, pcRj_c, Int.toNat_natCast, Nat.zero_add]; and_intros
  all_goals first
   | (rw [decide_eq_true_eq]; omega)
   | (rw [decide_eq_false_iff_not]; omega)
   | with_reducible rfl
   | (intro _ _; with_reducible rfl)
   | (intro _ _; trivial)
   | (simp only [IntKind.min, IntKind.max, IntKind.signed, IntKind.bits, if_true]; omega)
   | omega
   | (intro h; exact h)
   | trivial
 exact RLoop.inv (fun j => rnJ l i k (aF l (l.getD k 0) j) (sF l (l.getD k 0) j) j) l.length hstep hend (by simp)
end Go.Proofs.Ytpallipnhmoipaa
namespace Go.Proofs.Ytpallipnhmoipaa
open Go Sy Go.Proofs
def ntDb (v : Int) : List V → Heap → Nat → List Cl := fun a _ _ => match a with
 | [.sl s _ _ _ _ _ _, _] => [{ rd := [s], val := .int .i64 v }]
 | _ => []
def ieDb : List V → Heap → Nat → List Cl := fun a _ _ => match a with
 | [.sl s _ _ _ _ _ _, _] => [{ rd := [s], val := .bool true }]
 | _ => []
noncomputable def bdLv : Bd := { f := Try.f20, args := [], kb := { db := dbQ [(12, cVal (.bool true)), (14, cVal (.int .i64 2)), (16, cVal (.int .i64 3)), (18, cVal (.int .i64 5)), (21, ntDb 5)] } }
noncomputable def bdQC (n : Int) (g : Bool) (f s m : Int) : Bd := { f := Try.f3, args := [.int .i64 n], kb := { db := dbQ [(12, cVal (.bool g)), (13, cVal (.bool g)), (14, cVal (.int .i64 f)), (15, cVal (.int .i64 f)), (16, cVal (.int .i64 s)), (17, cVal (.int .i64 s)), (18, cVal (.int .i64 m)), (19, cVal (.int .i64 m)), (20, cVal (.bool true))] } }
noncomputable def bdQN (l : List Int) (i v : Int) : Bd := { f := Try.f4, args := [lr l, .int .i64 i], kb := { db := dbQ [(21, ntDb v), (22, cVal (.int .i64 v)), (23, ieDb), (20, cVal (.bool true))] } }
end Go.Proofs.Ytpallipnhmoipaa
namespace Go.Proofs.Ytpallipnhmoipaa
open Go Sy Go.Proofs
theorem bdLv_p1111 :
  along Try.prog (bdLv) [true, true, true, true] = (some (.bool true, [], [T Try.prog 12 [.int .i64 7] [] (.bool true) [], q2, T Try.prog 14 [.int .i64 7] [] (.int .i64 2) [], q2, T Try.prog 16 [.int .i64 7] [] (.int .i64 3) [], q2, T Try.prog 18 [.int .i64 7] [] (.int .i64 5) [], q2, T Try.prog 21 [.sl (.o 960) 1 0 0 0 3 (some 3), .int .i64 2] [(.o 960, .rows 1 3 (getL [[.int .i64 3], [.int .i64 9], [.int .i64 5]]) false)] (.int .i64 5) [(.o 960, .rows 1 3 (getL [[.int .i64 3], [.int .i64 9], [.int .i64 5]]) false)]]) : Option (V × Heap × List Prop)) := by kernel_rfl

noncomputable def bdQC_c (n : Int) (g : Bool) (f : Int) (s : Int) (m : Int) : Nat → List Prop
 | 0 => [T Try.prog 12 [.int .i64 n] [] (.bool g) [], T Try.prog 13 [.int .i64 n] [] (.bool g) []]
 | 1 => [(g == g) = true, T Try.prog 14 [.int .i64 n] [] (.int .i64 f) [], T Try.prog 15 [.int .i64 n] [] (.int .i64 f) []]
 | 2 => [decide (f = f) = true, T Try.prog 16 [.int .i64 n] [] (.int .i64 s) [], T Try.prog 17 [.int .i64 n] [] (.int .i64 s) []]
 | _ => []
theorem bdQC_p1111 (n : Int) (g : Bool) (f : Int) (s : Int) (m : Int) :
 along Try.prog (bdQC n g f s m) [true, true, true, true] = (some (.bool true, [], bdQC_c n g f s m 0 ++ (bdQC_c n g f s m 1 ++ (bdQC_c n g f s m 2 ++ [decide (s = s) = true, T Try.prog 18 [.int .i64 n] [] (.int .i64 m) [], T Try.prog 19 [.int .i64 n] [] (.int .i64 m) [], decide (m = m) = true, T Try.prog 20 [] [] (.bool true) []]))) : Option (V × Heap × List Prop)) := by kernel_rfl
theorem bdQC_p1110 (n : Int) (g : Bool) (f : Int) (s : Int) (m : Int) :
 along Try.prog (bdQC n g f s m) [true, true, true, false] = (some (.bool false, [], bdQC_c n g f s m 0 ++ (bdQC_c n g f s m 1 ++ (bdQC_c n g f s m 2 ++ [decide (s = s) = true, T Try.prog 18 [.int .i64 n] [] (.int .i64 m) [], T Try.prog 19 [.int .i64 n] [] (.int .i64 m) [], decide (m = m) = false]))) : Option (V × Heap × List Prop)) := by kernel_rfl
theorem bdQC_p1100 (n : Int) (g : Bool) (f : Int) (s : Int) (m : Int) :
 along Try.prog (bdQC n g f s m) [true, true, false, false] = (some (.bool false, [], bdQC_c n g f s m 0 ++ (bdQC_c n g f s m 1 ++ (bdQC_c n g f s m 2 ++ [decide (s = s) = false, q false]))) : Option (V × Heap × List Prop)) := by kernel_rfl
theorem bdQC_p1000 (n : Int) (g : Bool) (f : Int) (s : Int) (m : Int) :
 along Try.prog (bdQC n g f s m) [true, false, false, false] = (some (.bool false, [], bdQC_c n g f s m 0 ++ (bdQC_c n g f s m 1 ++ [decide (f = f) = false, q false, q false])) : Option (V × Heap × List Prop)) := by kernel_rfl
theorem bdQC_p0000 (n : Int) (g : Bool) (f : Int) (s : Int) (m : Int) :
 along Try.prog (bdQC n g f s m) [false, false, false, false] = (some (.bool false, [], bdQC_c n g f s m 0 ++ [(g == g) = false, q false, q false, q false]) : Option (V × Heap × List Prop)) := by kernel_rfl

theorem bdQN_p1 (l : List Int) (i : Int) (v : Int) :
  along Try.prog (bdQN l i v) [true] = (some (.bool true, [], [decide ((200 : Int) < (↑(List.length l) : Int)) = true, T Try.prog 20 [] [] (.bool true) []]) : Option (V × Heap × List Prop)) := by kernel_rfl
theorem bdQN_p011 (l : List Int) (i : Int) (v : Int) :
  along Try.prog (bdQN l i v) [false, true, true] = (some (.bool true, [], [decide ((200 : Int) < (↑(List.length l) : Int)) = false, q0, ∀ (k : Nat), k < List.length l → true = true, ((0 : Nat) + List.length l) * (8 : Nat) ≤ (140737488355328 : Nat), T Try.prog 21 [.sl (.o 384) 1 0 0 0 (0 + List.length l) none, .int .i64 i] [(.o 384, .rows 1 (0 + List.length l) (catF 0 (getL []) (li l)) true)] (.int .i64 v) [(.o 384, .rows 1 (0 + List.length l) (catF 0 (getL []) (li l)) true)], T Try.prog 22 [.ros 1 (List.length l) (li l) false, .int .i64 i] [] (.int .i64 v) [], decide (v = v) = true, T Try.prog 23 [.sl (.o 384) 1 0 0 0 (0 + List.length l) none, .ros 1 (List.length l) (li l) false] [(.o 384, .rows 1 (0 + List.length l) (catF 0 (getL []) (li l)) true)] (.bool true) [(.o 384, .rows 1 (0 + List.length l) (catF 0 (getL []) (li l)) true)], q2, T Try.prog 20 [] [] (.bool true) []]) : Option (V × Heap × List Prop)) := by kernel_rfl
theorem bdQN_p000 (l : List Int) (i : Int) (v : Int) :
  along Try.prog (bdQN l i v) [false, false, false] = (some (.bool false, [], [decide ((200 : Int) < (↑(List.length l) : Int)) = false, q0, ∀ (k : Nat), k < List.length l → true = true, ((0 : Nat) + List.length l) * (8 : Nat) ≤ (140737488355328 : Nat), T Try.prog 21 [.sl (.o 384) 1 0 0 0 (0 + List.length l) none, .int .i64 i] [(.o 384, .rows 1 (0 + List.length l) (catF 0 (getL []) (li l)) true)] (.int .i64 v) [(.o 384, .rows 1 (0 + List.length l) (catF 0 (getL []) (li l)) true)], T Try.prog 22 [.ros 1 (List.length l) (li l) false, .int .i64 i] [] (.int .i64 v) [], decide (v = v) = false, q false]) : Option (V × Heap × List Prop)) := by kernel_rfl

theorem aF_all (l : List Int) (v : Int) : aF l v l.length = cntG l v := by rw [aF, List.take_length]
theorem sF_all (l : List Int) (v : Int) : aF l v l.length + sF l v l.length = cntE l v := by rw [aF_all, sF, List.take_length, cntE_eq]; omega
theorem T_rn {l : List Int} (hl : l.length ≤ 1000000) (i : Int) : T Try.prog 22 [lr l, .int .i64 i] [] (.int .i64 (nthV l i)) [] := by
 have fin : ∀ k, k < l.length → ((aF l (l.getD k 0) l.length < i ∧ i ≤ aF l (l.getD k 0) l.length + sF l (l.getD k 0) l.length) ↔ ((cntG l (l.getD k 0) : Int) < i ∧ i ≤ cntE l (l.getD k 0))) := fun k _ => by rw [sF_all, aF_all]
 rcases loop_all (P := Try.prog) (ro := none) (p := 0) (c := (cB (cB (cR (cL (cR (bodyOf Try.f22))))))) (I := rnI l i) (F := fun m => rnF (l.getD m 0)) (e := fun _ => .ret) (q := fun k => ¬ (aF l (l.getD k 0) l.length < i ∧ i ≤ aF l (l.getD k 0) l.length + sF l (l.getD k 0) l.length)) (n := l.length)
   (fun k hk hq => by
    have hL := rnL hl i hk
    have ha := aF_le l (l.getD k 0) l.length
    have hs := sF_le l (l.getD k 0) l.length
    by_cases h1 : aF l (l.getD k 0) l.length < i
    ·refine R_alongPc NG MO _ (pcRn_p110 l i k (aF l (l.getD k 0) l.length) (sF l (l.getD k 0) l.length) 0) ?_ (Nat.zero_le _)
     refine ⟨by rw [decide_eq_true_eq]; omega, hL, ?_⟩
     simp only [All, All_append, bdQC_c, Int.toNat_natCast, Nat.zero_add]; and_intros
     all_goals first
      | (rw [decide_eq_true_eq]; omega)
      | (rw [decide_eq_false_iff_not]; omega)
      | with_reducible rfl
      | (intro _ _; with_reducible rfl)
      | (intro _ _; trivial)
      | (simp only [IntKind.min, IntKind.max, IntKind.signed, IntKind.bits, if_true]; omega)
      | omega
      | (intro h; exact h)
      | trivial
    ·refine R_alongPc NG MO _ (pcRn_p100 l i k (aF l (l.getD k 0) l.length) (sF l (l.getD k 0) l.length) 0) ?_ (Nat.zero_le _)
     refine ⟨by rw [decide_eq_true_eq]; omega, hL, ?_⟩
     simp only [All, All_append, bdQC_c, Int.toNat_natCast, Nat.zero_add]; and_intros
     (all_goals first
      | (rw [decide_eq_true_eq]; omega)
      | (rw [decide_eq_false_iff_not]; omega)
      | with_reducible rfl
      | (intro _ _; with_reducible rfl)
      | (intro _ _; trivial)
      | (simp only [IntKind.min, IntKind.max, IntKind.signed, IntKind.bits, if_true]; omega)
      | omega
      | (intro h; exact h)
      | trivial))
   (fun k hk hq => by
    have hq := Classical.not_not.1 hq
    have hL := rnL hl i hk
    have ha := aF_le l (l.getD k 0) l.length
    have hs := sF_le l (l.getD k 0) l.length
    refine R_alongPc NG MO _ (pcRn_p111 l i k (aF l (l.getD k 0) l.length) (sF l (l.getD k 0) l.length) (l.getD k 0)) ?_ (Nat.zero_le _)
    refine ⟨by rw [decide_eq_true_eq]; omega, hL, ?_⟩
    simp only [All, All_append, bdQC_c, Int.toNat_natCast, Nat.zero_add]; and_intros
    (all_goals first
     | (rw [decide_eq_true_eq]; omega)
     | (rw [decide_eq_false_iff_not]; omega)
     | with_reducible rfl
     | (intro _ _; with_reducible rfl)
     | (intro _ _; trivial)
     | (simp only [IntKind.min, IntKind.max, IntKind.signed, IntKind.bits, if_true]; omega)
     | omega
     | (intro h; exact h)
     | trivial))
   (by simp) (R_alongPc NG MO _ (pcRn_p0 l i l.length 0 0 0) (by
    simp only [All, All_append, bdQC_c, Int.toNat_natCast, Nat.zero_add]; and_intros
    (all_goals first
     | (rw [decide_eq_true_eq]; omega)
     | (rw [decide_eq_false_iff_not]; omega)
     | with_reducible rfl
     | (intro _ _; with_reducible rfl)
     | (intro _ _; trivial)
     | (simp only [IntKind.min, IntKind.max, IntKind.signed, IntKind.bits, if_true]; omega)
     | omega
     | (intro h; exact h)
     | trivial)) (Nat.zero_le _)) (by simp) with ⟨h, hL⟩ | ⟨m, hm, _, hq, hL⟩
 ·refine T.val (T_al (bdRn_p1 l i 0 0) Try.func22 ?_) (by
   rw [nth_none fun k hk hc => h k hk ((fin k hk).2 hc)])
  refine ⟨hL, ?_⟩
  simp only [All, All_append, bdQC_c]; and_intros
  all_goals first
   | (rw [decide_eq_true_eq]; omega)
   | (rw [decide_eq_false_iff_not]; omega)
   | with_reducible rfl
   | (intro _ _; with_reducible rfl)
   | (intro _ _; trivial)
   | (simp only [IntKind.min, IntKind.max, IntKind.signed, IntKind.bits, if_true]; omega)
   | omega
   | (intro h; exact h)
   | trivial
 ·have hq := Classical.not_not.1 hq
  refine T.val (T_al (bdRn_p0 l i m (l.getD m 0)) Try.func22 ?_) (by
   rw [nth_found ((fin m hm).1 hq)])
  refine ⟨hL, ?_⟩
  simp only [All, All_append, bdQC_c]; and_intros
  all_goals first
   | (rw [decide_eq_true_eq]; omega)
   | (rw [decide_eq_false_iff_not]; omega)
   | with_reducible rfl
   | (intro _ _; with_reducible rfl)
   | (intro _ _; trivial)
   | (simp only [IntKind.min, IntKind.max, IntKind.signed, IntKind.bits, if_true]; omega)
   | omega
   | (intro h; exact h)
   | trivial
theorem T_lv : T Try.prog 20 [] [] (.bool true) [] := by
 have h1 := T_gn 7
 have h2 := T_fa 7
 have h3 := T_sm 7
 have h4 := T_mo 7
 have h5 := T_nt (l := [3, 9, 5]) (by decide) 2
 rw [show goodN 7 = true by decide] at h1
 rw [show fauS 7 = 2 by decide] at h2
 rw [show someS 7 = 3 by decide] at h3
 rw [show mostS 7 = 5 by decide] at h4
 rw [show nthV [3, 9, 5] 2 = 5 from (nth_found (by decide)).symm] at h5
 refine T_al bdLv_p1111 Try.func20 ?_
 simp only [All, All_append, bdQC_c]; and_intros
 all_goals first
  | exact h1
  | exact h2
  | exact h3
  | exact h4
  | rfl
  | trivial
  | (refine T.lendG h5 rfl ?_ (FreeV.int _ _) (by simp) (by rintro n ⟨b, hb⟩; cases hb); simp only [All, All_append, bdQC_c]; and_intros <;> first | rfl | trivial | omega | (intro h; exact h) | (intro k hk; rcases k with _ | _ | _ | _ | k <;> first | rfl | omega))
/-- QuorumCounts. -/
theorem T_qc (n : Int) : T Try.prog 3 [.int .i64 n] [] (.bool true) [] := by
 have h1 := T_gn n
 have h2 := T_rgn n
 have h3 := T_fa n
 have h4 := T_rfa n
 have h5 := T_sm n
 have h6 := T_rsm n
 have h7 := T_mo n
 have h8 := T_rmo n
 have h9 := T_lv
 refine T_al (bdQC_p1111 n (goodN n) (fauS n) (someS n) (mostS n)) Try.func3 ?_
 simp only [All, All_append, bdQC_c]; and_intros
 all_goals first
  | assumption
  | rfl
  | trivial
  | simp
/-- QuorumNths. -/
theorem T_qn {l : List Int} (hl : l.length ≤ 9223372036854775807) (i : Int) : T Try.prog 4 [lr l, .int .i64 i] [] (.bool true) [] := by
 have h9 := T_lv
 by_cases h : (200 : Int) < l.length
 ·refine T_al (bdQN_p1 l i 0) Try.func4 ?_
  simp only [All, All_append, bdQC_c]; and_intros
  all_goals first
   | assumption
   | (rw [decide_eq_true_eq]; omega)
   | trivial
 ·have h1 := T_nt (l := l) (by omega) i
  have h2 := T_rn (l := l) (by omega) i
  have h3 := T_ie (a := l) (b := l) (by omega)
  rw [decide_eq_true rfl] at h3
  have ec : catF 0 (getL []) (li l) = li l := by funext k; rfl
  refine T_al (bdQN_p011 l i (nthV l i)) Try.func4 ?_
  simp only [All, All_append, bdQC_c, Nat.zero_add, ec]; and_intros
  all_goals first
   | assumption
   | (rw [decide_eq_false_iff_not]; omega)
   | (refine T.lendG h1 rfl ?_ (FreeV.int _ _) (by simp) (by rintro n ⟨b, hb⟩; cases hb); simp only [All, All_append, bdQC_c]; and_intros <;> first | rfl | trivial | omega | (intro h; exact h) | (intro h; cases h; done) | (intro k hk; rw [Nat.zero_add]))
   | (refine T.lend h3 rfl ?_; simp only [All, All_append, bdQC_c]; and_intros <;> first | rfl | trivial | (intro _ _; rfl) | (intro _ _; trivial) | omega | (intro h; exact h) | (intro h; cases h; done) | (intro k hk; rw [Nat.zero_add]))
   | (simp; done)
   | omega
   | (intro _ _; trivial)
   | rfl
   | trivial
end Go.Proofs.Ytpallipnhmoipaa
namespace Sy
open Go
def cntX (N : Nat) (X : Nat → Bool) : Nat := (List.range N).countP X
theorem cntX_succ (N : Nat) (X : Nat → Bool) : cntX (N + 1) X = cntX N X + (if X N = true then 1 else 0) := by
 rw [cntX, List.range_succ, List.countP_append, List.countP_singleton]; rfl
theorem cntX_le (N : Nat) (X : Nat → Bool) : cntX N X ≤ N := by
 have := List.countP_le_length (p := X) (l := List.range N)
 rwa [List.length_range] at this
theorem cntX_congr {N : Nat} {X Y : Nat → Bool} (h : ∀ q, q < N → X q = Y q) : cntX N X = cntX N Y := by
 induction N with
 | zero => rfl
 | succ n ih => rw [cntX_succ, cntX_succ, ih fun q hq => h q (by omega), h n (by omega)]
theorem cntX_none {N : Nat} : cntX N (fun _ => false) = 0 := by
 induction N with
 | zero => rfl
 | succ n ih => rw [cntX_succ, ih]; rfl
theorem cntX_all {N : Nat} {X : Nat → Bool} (h : ∀ q, q < N → X q = true) : cntX N X = N := by
 induction N with
 | zero => rfl
 | succ n ih => rw [cntX_succ, ih fun q hq => h q (by omega), h n (by omega)]; rfl
theorem cntX_far {N a : Nat} {X : Nat → Bool} (h : N ≤ a) : cntX N (fun q => X q || decide (q = a)) = cntX N X :=
 cntX_congr fun q hq => by rw [decide_eq_false (by omega), Bool.or_false]
theorem cntX_set {N a : Nat} {X : Nat → Bool} (h : a < N) (hx : X a = false) : cntX N (fun q => X q || decide (q = a)) = cntX N X + 1 := by
 induction N with
 | zero => omega
 | succ n ih =>
  rw [cntX_succ, cntX_succ]
  rcases Nat.lt_or_ge a n with h1 | h1
  ·rw [ih h1, decide_eq_false (by omega), Bool.or_false]; omega
  ·obtain rfl : a = n := by omega
   rw [cntX_far (Nat.le_refl _), hx]; simp
theorem cntX_and (N : Nat) (X Y : Nat → Bool) : cntX N X + cntX N Y ≤ N + cntX N (fun q => X q && Y q) := by
 induction N with
 | zero => exact Nat.le_refl _
 | succ n ih =>
  rw [cntX_succ, cntX_succ, cntX_succ]
  cases X n <;> cases Y n <;> simp <;> omega
/-- The node that comes at a place. -/
def atN (N : Nat) (l : List Int) (i : Nat) : Nat := if i < l.length then (IntKind.wrap .u64 (l.getD i 0) % (N : Int)).toNat else ((i : Int) % (N : Int)).toNat
def chX (N : Nat) (l : List Int) : Nat → Nat → Bool
 | 0 => fun _ => false
 | i + 1 => fun q => chX N l i q || decide (q = atN N l i)
theorem chX_succ (N : Nat) (l : List Int) (i q : Nat) : chX N l (i + 1) q = (chX N l i q || decide (q = atN N l i)) := rfl
theorem atN_lt {N : Nat} (h : 0 < N) (l : List Int) (i : Nat) : atN N l i < N := by
 unfold atN
 have h1 := Int.emod_lt_of_pos (IntKind.wrap .u64 (l.getD i 0)) (b := (N : Int)) (by omega)
 have h2 := Int.emod_nonneg (IntKind.wrap .u64 (l.getD i 0)) (b := (N : Int)) (by omega)
 have h3 := Int.emod_lt_of_pos (i : Int) (b := (N : Int)) (by omega)
 have h4 := Int.emod_nonneg (i : Int) (b := (N : Int)) (by omega)
 split <;> omega
theorem chX_old {N : Nat} {l : List Int} {i : Nat} (h : chX N l i (atN N l i) = true) (q : Nat) : chX N l (i + 1) q = chX N l i q := by
 rw [chX_succ]
 by_cases hq : q = atN N l i
 ·subst hq; rw [h]; rfl
 ·rw [decide_eq_false hq, Bool.or_false]
theorem chX_cnt_old {N : Nat} {l : List Int} {i : Nat} (h : chX N l i (atN N l i) = true) : cntX N (chX N l (i + 1)) = cntX N (chX N l i) := cntX_congr fun q _ => chX_old h q
theorem chX_cnt_new {N : Nat} (h0 : 0 < N) {l : List Int} {i : Nat} (h : chX N l i (atN N l i) = false) : cntX N (chX N l (i + 1)) = cntX N (chX N l i) + 1 := cntX_set (atN_lt h0 l i) h
theorem chX_mono {N : Nat} {l : List Int} {i j q : Nat} (h : i ≤ j) (hx : chX N l i q = true) : chX N l j q = true := by
 induction j with
 | zero =>
  obtain rfl : i = 0 := by omega
  exact hx
 | succ j ih =>
  rcases Nat.lt_or_ge i (j + 1) with h1 | h1
  ·rw [chX_succ, ih (by omega)]; rfl
  ·obtain rfl : i = j + 1 := by omega
   exact hx
theorem chX_full {N : Nat} (h0 : 0 < N) (l : List Int) : cntX N (chX N l (l.length + N)) = N := by
 refine cntX_all fun q hq => ?_
 obtain ⟨i, h1, h2, h3⟩ : ∃ i, l.length ≤ i ∧ i < l.length + N ∧ i % N = q := by
  refine ⟨l.length + (q + N - l.length % N) % N, by omega, ?_, ?_⟩
  ·have := Nat.mod_lt (q + N - l.length % N) h0; omega
  ·have h1 := Nat.mod_lt l.length h0
   rw [Nat.add_mod_mod, show l.length + (q + N - l.length % N) = q + N + N * (l.length / N) by have := Nat.div_add_mod l.length N; omega, Nat.add_mul_mod_self_left, Nat.add_mod_right, Nat.mod_eq_of_lt hq]
 refine chX_mono (i := i + 1) (by omega) ?_
 have : atN N l i = q := by
  rw [atN, if_neg (by omega), ← h3]
  exact Int.toNat_natCast (i % N)
 rw [chX_succ, this, decide_eq_true rfl, Bool.or_true]
theorem chX_stop {N M : Nat} (h0 : 0 < M) (h1 : M ≤ N) (l : List Int) : ∃ m, m ≤ l.length + N ∧ (∀ k, k < m → cntX N (chX N l k) < M) ∧ cntX N (chX N l m) = M := by
 rcases first_bad (fun k => cntX N (chX N l k) < M) (l.length + N + 1) with h | ⟨m, h2, h3, h4⟩
 ·have := h (l.length + N) (by omega)
  rw [chX_full (by omega) l] at this
  omega
 ·refine ⟨m, by omega, h3, ?_⟩
  cases m with
  | zero =>
   have : cntX N (chX N l 0) = 0 := cntX_none
   omega
  | succ m =>
   have h5 := h3 m (by omega)
   cases hc : chX N l m (atN N l m) with
   | true => rw [chX_cnt_old hc] at h4; omega
   | false => rw [chX_cnt_new (by omega) hc] at h4 ⊢; omega
end Sy
namespace Go.Proofs.Ytpallipnhmoipaa
open Go Sy Go.Proofs
def bX (X : Nat → Bool) : Nat → List V := fun q => [.bool (X q)]
def sX (m N : Nat) : V := .sl (.o m) 1 0 0 0 N none
def bB (N : Nat) (X : Nat → Bool) : B := .rows 1 N (bX X) true
def chI (N : Nat) (l : List Int) (i k : Nat) (X : Nat → Bool) : St := ⟨mkT 44 [(0, .int .i64 N), (1, lr l), (5, sX 0 N), (6, .int .i64 k), (7, .int .i64 i)], [(.o 0, bB N X)], 1, []⟩
noncomputable def bdCh (N : Nat) (l : List Int) (m k : Nat) (X : Nat → Bool) : Bd := { f := Try.f24, args := [.int .i64 N, lr l], kb := { db := fun _ _ _ _ => [], lp := fun _ t => match getV t.tmps 5 with | .sl a _ _ _ _ _ _ => [(True, .loop (m + 1) (wToS [(.o 0, a)] (chI N l 0 0 (fun _ => false))) (.exit 0) (chI N l m k X))] | _ => [] }, names := fun _ => [.o 0] }
noncomputable def pcCh (N : Nat) (l : List Int) (i k : Nat) (X : Nat → Bool) (k2 : Nat) (X2 : Nat → Bool) (most : Int) : Pc := { c := (cB (cB (cR (cL (cR (cR (cR (bodyOf Try.f24)))))))), st := chI N l i k X, kb := { db := dbQ [(18, cVal (.int .i64 most))] }, k := fun e _ => match e with
 | .normal => some (wTo (chI N l (i + 1) k2 X2))
 | _ => some (wTo (chI N l i k X)) }
end Go.Proofs.Ytpallipnhmoipaa
namespace Go.Proofs.Ytpallipnhmoipaa
open Go Sy Go.Proofs
theorem bdCh_p (N : Nat) (l : List Int) (m : Nat) (k : Nat) (X : Nat → Bool) :
  along Try.prog (bdCh N l m k X) [] = some (V.sl (Nm.o (0 : Nat)) (1 : Nat) (0 : Nat) (0 : Nat) (0 : Nat) N none, [(Nm.o (0 : Nat), B.rows (1 : Nat) N (bX X) true)], [(0 : Int) ≤ (↑N : Int) ∧ (↑N : Int) ≤ (↑N : Int), (1 : Int) * (↑N : Int) ≤ (281474976710656 : Int), (↑N : Int) ≤ (281474976710656 : Int), RLoop Try.prog none (0 : Nat) (cB (cB (cR (cL (cR (cR (cR (bodyOf (Bd.f (bdCh N l m k X)))))))))) (m + (1 : Nat)) (St.mk [V.int IntKind.i64 (↑N : Int), V.ros (1 : Nat) (List.length l) (li l) false, V.any, V.any, V.any, V.sl (Nm.o (0 : Nat)) (1 : Nat) (0 : Nat) (0 : Nat) (0 : Nat) N none, V.int IntKind.i64 (0 : Int), V.int IntKind.i64 (0 : Int), V.any, V.any, V.any, V.any, V.any, V.any, V.any, V.any, V.any, V.any, V.any, V.any, V.any, V.any, V.any, V.any, V.any, V.any, V.any, V.any, V.any, V.any, V.any, V.any, V.any, V.any, V.any, V.any, V.any, V.any, V.any, V.any, V.any, V.any, V.any, V.any] [(Nm.o (0 : Nat), B.rows (1 : Nat) N (bX fun x => false) true)] (1 : Nat) []) (Exit.exit (0 : Nat)) (St.mk [V.int IntKind.i64 (↑N : Int), V.ros (1 : Nat) (List.length l) (li l) false, V.any, V.any, V.any, V.sl (Nm.o (0 : Nat)) (1 : Nat) (0 : Nat) (0 : Nat) (0 : Nat) N none, V.int IntKind.i64 (↑k : Int), V.int IntKind.i64 (↑m : Int), V.any, V.any, V.any, V.any, V.any, V.any, V.any, V.any, V.any, V.any, V.any, V.any, V.any, V.any, V.any, V.any, V.any, V.any, V.any, V.any, V.any, V.any, V.any, V.any, V.any, V.any, V.any, V.any, V.any, V.any, V.any, V.any, V.any, V.any, V.any, V.any] [(Nm.o (0 : Nat), B.rows (1 : Nat) N (bX X) true)] (1 : Nat) []), Int.toNat (↑N : Int) = N, ∀ (k : Nat), k < Int.toNat (↑N : Int) → [V.bool false] = [V.bool false], true = false → false = false, (↑N : Int) = (↑N : Int), List.length l = List.length l, ∀ (k : Nat), k < List.length l → [V.int IntKind.i64 (List.getD l k (0 : Int))] = [V.int IntKind.i64 (List.getD l k (0 : Int))], false = true → false = true, (0 : Nat) = (0 : Nat), (0 : Nat) = (0 : Nat), (0 : Nat) = (0 : Nat), Int.toNat (↑N : Int) = N, (none : Option Nat) = none ∨ none = some (Int.toNat (↑N : Int)), (0 : Int) = (0 : Int), (0 : Int) = (0 : Int)]) := by kernel_rfl

noncomputable def pcCh_c (N : Nat) (l : List Int) (i : Nat) (k : Nat) (X : Nat → Bool) (k2 : Nat) (X2 : Nat → Bool) (most : Int) : Nat → List Prop
 | 0 => [decide ((↑k : Int) < most) = true, (0 : Int) ≤ (↑i : Int) ∧ (0 : Int) < (↑N : Int)]
 | 1 => [decide ((↑i : Int) < (↑(List.length l) : Int)) = true, (0 : Int) ≤ (↑i : Int) ∧ (↑i : Int) < (↑(List.length l) : Int), (0 : Int) ≤ IntKind.wrap IntKind.u64 (List.getD l (Int.toNat (↑i : Int)) (0 : Int)) ∧ (0 : Int) < IntKind.wrap IntKind.u64 (↑N : Int), InR IntKind.i64 (IntKind.wrap IntKind.u64 (List.getD l (Int.toNat (↑i : Int)) (0 : Int)) % IntKind.wrap IntKind.u64 (↑N : Int)), (0 : Int) ≤ IntKind.wrap IntKind.u64 (List.getD l (Int.toNat (↑i : Int)) (0 : Int)) % IntKind.wrap IntKind.u64 (↑N : Int) ∧ IntKind.wrap IntKind.u64 (List.getD l (Int.toNat (↑i : Int)) (0 : Int)) % IntKind.wrap IntKind.u64 (↑N : Int) < (↑N : Int), (0 : Nat) + Int.toNat (IntKind.wrap IntKind.u64 (List.getD l (Int.toNat (↑i : Int)) (0 : Int)) % IntKind.wrap IntKind.u64 (↑N : Int)) < N]
 | 2 => [decide ((↑i : Int) < (↑(List.length l) : Int)) = false, (0 : Int) ≤ (↑i : Int) % (↑N : Int) ∧ (↑i : Int) % (↑N : Int) < (↑N : Int), (0 : Nat) + Int.toNat ((↑i : Int) % (↑N : Int)) < N]
 | _ => []
theorem pcCh_p111 (N : Nat) (l : List Int) (i : Nat) (k : Nat) (X : Nat → Bool) (k2 : Nat) (X2 : Nat → Bool) (most : Int) :
 alongPc Try.prog (pcCh N l i k X k2 X2 most) [true, true, true] = (some (.normal, St.mk [.int .i64 ↑N, .ros 1 (List.length l) (li l) false, .any, .any, .any, .sl (.o 0) 1 0 0 0 N none, .int .i64 ↑k2, .int .i64 (↑(i + 1) : Int), .any, .any, .any, .any, .any, .any, .any, .any, .any, .any, .any, .any, .any, .any, .any, .any, .any, .any, .any, .any, .any, .any, .any, .any, .any, .any, .any, .any, .any, .any, .any, .any, .any, .any, .any, .any] [(.o 0, .rows 1 N (bX X2) true)] 1 [], [T Try.prog 18 [.int .i64 ↑N] [] (.int .i64 most) []] ++ (pcCh_c N l i k X k2 X2 most 0 ++ (pcCh_c N l i k X k2 X2 most 1 ++ [(!X ((0 : Nat) + Int.toNat (IntKind.wrap IntKind.u64 (List.getD l (Int.toNat (↑i : Int)) (0 : Int)) % IntKind.wrap IntKind.u64 (↑N : Int)))) = true, (0 : Int) ≤ IntKind.wrap IntKind.u64 (List.getD l (Int.toNat (↑i : Int)) (0 : Int)) % IntKind.wrap IntKind.u64 (↑N : Int) ∧ IntKind.wrap IntKind.u64 (List.getD l (Int.toNat (↑i : Int)) (0 : Int)) % IntKind.wrap IntKind.u64 (↑N : Int) < (↑N : Int), (0 : Nat) + Int.toNat (IntKind.wrap IntKind.u64 (List.getD l (Int.toNat (↑i : Int)) (0 : Int)) % IntKind.wrap IntKind.u64 (↑N : Int)) < N, InR IntKind.i64 ((↑k : Int) + (1 : Int)), InR IntKind.i64 ((↑i : Int) + (1 : Int)), q N, ∀ (k : Nat), k < N → Bool.rec [V.bool (X k)] [V.bool true] (Nat.beq k ((0 : Nat) + Int.toNat (IntKind.wrap IntKind.u64 (List.getD l (Int.toNat (↑i : Int)) (0 : Int)) % IntKind.wrap IntKind.u64 (↑N : Int)))) = [V.bool (X2 k)], true = false → true = false, q (↑N : Int), q (List.length l), ∀ (k : Nat), k < List.length l → [V.int IntKind.i64 (List.getD l k (0 : Int))] = [V.int IntKind.i64 (List.getD l k (0 : Int))], false = true → false = true, q0, q0, q0, q N, (none : Option Nat) = none ∨ (none : Option Nat) = none, (↑k : Int) + (1 : Int) = (↑k2 : Int), (↑i : Int) + (1 : Int) = (↑(i + (1 : Nat)) : Int)]))) : Option (Exit × St × List Prop)) := by kernel_rfl
theorem pcCh_p110 (N : Nat) (l : List Int) (i : Nat) (k : Nat) (X : Nat → Bool) (k2 : Nat) (X2 : Nat → Bool) (most : Int) :
 alongPc Try.prog (pcCh N l i k X k2 X2 most) [true, true, false] = (some (.normal, St.mk [.int .i64 ↑N, .ros 1 (List.length l) (li l) false, .any, .any, .any, .sl (.o 0) 1 0 0 0 N none, .int .i64 ↑k2, .int .i64 (↑(i + 1) : Int), .any, .any, .any, .any, .any, .any, .any, .any, .any, .any, .any, .any, .any, .any, .any, .any, .any, .any, .any, .any, .any, .any, .any, .any, .any, .any, .any, .any, .any, .any, .any, .any, .any, .any, .any, .any] [(.o 0, .rows 1 N (bX X2) true)] 1 [], [T Try.prog 18 [.int .i64 ↑N] [] (.int .i64 most) []] ++ (pcCh_c N l i k X k2 X2 most 0 ++ (pcCh_c N l i k X k2 X2 most 1 ++ [(!X ((0 : Nat) + Int.toNat (IntKind.wrap IntKind.u64 (List.getD l (Int.toNat (↑i : Int)) (0 : Int)) % IntKind.wrap IntKind.u64 (↑N : Int)))) = false, InR IntKind.i64 ((↑i : Int) + (1 : Int)), q N, ∀ (k : Nat), k < N → [V.bool (X k)] = [V.bool (X2 k)], true = false → true = false, q (↑N : Int), q (List.length l), ∀ (k : Nat), k < List.length l → [V.int IntKind.i64 (List.getD l k (0 : Int))] = [V.int IntKind.i64 (List.getD l k (0 : Int))], false = true → false = true, q0, q0, q0, q N, (none : Option Nat) = none ∨ (none : Option Nat) = none, (↑k : Int) = (↑k2 : Int), (↑i : Int) + (1 : Int) = (↑(i + (1 : Nat)) : Int)]))) : Option (Exit × St × List Prop)) := by kernel_rfl
theorem pcCh_p101 (N : Nat) (l : List Int) (i : Nat) (k : Nat) (X : Nat → Bool) (k2 : Nat) (X2 : Nat → Bool) (most : Int) :
 alongPc Try.prog (pcCh N l i k X k2 X2 most) [true, false, true] = (some (.normal, St.mk [.int .i64 ↑N, .ros 1 (List.length l) (li l) false, .any, .any, .any, .sl (.o 0) 1 0 0 0 N none, .int .i64 ↑k2, .int .i64 (↑(i + 1) : Int), .any, .any, .any, .any, .any, .any, .any, .any, .any, .any, .any, .any, .any, .any, .any, .any, .any, .any, .any, .any, .any, .any, .any, .any, .any, .any, .any, .any, .any, .any, .any, .any, .any, .any, .any, .any] [(.o 0, .rows 1 N (bX X2) true)] 1 [], [T Try.prog 18 [.int .i64 ↑N] [] (.int .i64 most) []] ++ (pcCh_c N l i k X k2 X2 most 0 ++ (pcCh_c N l i k X k2 X2 most 2 ++ [(!X ((0 : Nat) + Int.toNat ((↑i : Int) % (↑N : Int)))) = true, (0 : Int) ≤ (↑i : Int) % (↑N : Int) ∧ (↑i : Int) % (↑N : Int) < (↑N : Int), (0 : Nat) + Int.toNat ((↑i : Int) % (↑N : Int)) < N, InR IntKind.i64 ((↑k : Int) + (1 : Int)), InR IntKind.i64 ((↑i : Int) + (1 : Int)), q N, ∀ (k : Nat), k < N → Bool.rec [V.bool (X k)] [V.bool true] (Nat.beq k ((0 : Nat) + Int.toNat ((↑i : Int) % (↑N : Int)))) = [V.bool (X2 k)], true = false → true = false, q (↑N : Int), q (List.length l), ∀ (k : Nat), k < List.length l → [V.int IntKind.i64 (List.getD l k (0 : Int))] = [V.int IntKind.i64 (List.getD l k (0 : Int))], false = true → false = true, q0, q0, q0, q N, (none : Option Nat) = none ∨ (none : Option Nat) = none, (↑k : Int) + (1 : Int) = (↑k2 : Int), (↑i : Int) + (1 : Int) = (↑(i + (1 : Nat)) : Int)]))) : Option (Exit × St × List Prop)) := by kernel_rfl
theorem pcCh_p100 (N : Nat) (l : List Int) (i : Nat) (k : Nat) (X : Nat → Bool) (k2 : Nat) (X2 : Nat → Bool) (most : Int) :
 alongPc Try.prog (pcCh N l i k X k2 X2 most) [true, false, false] = (some (.normal, St.mk [.int .i64 ↑N, .ros 1 (List.length l) (li l) false, .any, .any, .any, .sl (.o 0) 1 0 0 0 N none, .int .i64 ↑k2, .int .i64 (↑(i + 1) : Int), .any, .any, .any, .any, .any, .any, .any, .any, .any, .any, .any, .any, .any, .any, .any, .any, .any, .any, .any, .any, .any, .any, .any, .any, .any, .any, .any, .any, .any, .any, .any, .any, .any, .any, .any, .any] [(.o 0, .rows 1 N (bX X2) true)] 1 [], [T Try.prog 18 [.int .i64 ↑N] [] (.int .i64 most) []] ++ (pcCh_c N l i k X k2 X2 most 0 ++ (pcCh_c N l i k X k2 X2 most 2 ++ [(!X ((0 : Nat) + Int.toNat ((↑i : Int) % (↑N : Int)))) = false, InR IntKind.i64 ((↑i : Int) + (1 : Int)), q N, ∀ (k : Nat), k < N → [V.bool (X k)] = [V.bool (X2 k)], true = false → true = false, q (↑N : Int), q (List.length l), ∀ (k : Nat), k < List.length l → [V.int IntKind.i64 (List.getD l k (0 : Int))] = [V.int IntKind.i64 (List.getD l k (0 : Int))], false = true → false = true, q0, q0, q0, q N, (none : Option Nat) = none ∨ (none : Option Nat) = none, (↑k : Int) = (↑k2 : Int), (↑i : Int) + (1 : Int) = (↑(i + (1 : Nat)) : Int)]))) : Option (Exit × St × List Prop)) := by kernel_rfl
theorem pcCh_p0 (N : Nat) (l : List Int) (i : Nat) (k : Nat) (X : Nat → Bool) (k2 : Nat) (X2 : Nat → Bool) (most : Int) :
 alongPc Try.prog (pcCh N l i k X k2 X2 most) [false] = (some (.exit 0, St.mk [.int .i64 ↑N, .ros 1 (List.length l) (li l) false, .any, .any, .any, .sl (.o 0) 1 0 0 0 N none, .int .i64 ↑k, .int .i64 ↑i, .any, .any, .any, .any, .any, .any, .any, .any, .any, .any, .any, .any, .any, .any, .any, .any, .any, .any, .any, .any, .any, .any, .any, .any, .any, .any, .any, .any, .any, .any, .any, .any, .any, .any, .any, .any] [(.o 0, .rows 1 N (bX X) true)] 1 [], [T Try.prog 18 [.int .i64 ↑N] [] (.int .i64 most) [], decide ((↑k : Int) < most) = false, q N, ∀ (k : Nat), k < N → [V.bool (X k)] = [V.bool (X k)], true = false → true = false, q (↑N : Int), q (List.length l), ∀ (k : Nat), k < List.length l → [V.int IntKind.i64 (List.getD l k (0 : Int))] = [V.int IntKind.i64 (List.getD l k (0 : Int))], false = true → false = true, q0, q0, q0, q N, (none : Option Nat) = none ∨ (none : Option Nat) = none, q (↑k : Int), q (↑i : Int)]) : Option (Exit × St × List Prop)) := by kernel_rfl

theorem wrapN {N : Nat} (h : N ≤ 64) : IntKind.wrap .u64 (N : Int) = N := by
 simp [IntKind.wrap, IntKind.signed, IntKind.bits]; omega
theorem wrap0 (x : Int) : 0 ≤ IntKind.wrap .u64 x ∧ IntKind.wrap .u64 x < 18446744073709551616 := by
 simp [IntKind.wrap, IntKind.signed, IntKind.bits]; omega
theorem bset {N : Nat} {l : List Int} {i : Nat} (k : Nat) : (Bool.rec [V.bool (chX N l i k)] [V.bool true] (Nat.beq k (atN N l i)) : List V) = [V.bool (chX N l (i + 1) k)] := by
 rw [chX_succ]
 cases hb : Nat.beq k (atN N l i) with
 | true => rw [decide_eq_true (Nat.eq_of_beq_eq_true hb), Bool.or_true]
 | false => rw [decide_eq_false (fun h => by rw [h, Nat.beq_refl] at hb; cases hb), Bool.or_false]
theorem T_ch {N : Nat} (hN : 4 ≤ N ∧ N ≤ 64) {l : List Int} (hl : l.length ≤ 1000000) {M : Nat} (h0M : 0 < M) (hMN : M ≤ N) (hmo : mostS N = M) :
  ∃ X, cntX N X = M ∧ T Try.prog 24 [.int .i64 N, lr l] [] (sX 0 N) [(.o 0, bB N X)] := by
 obtain ⟨m, hm1, hlt, hcm⟩ := chX_stop h0M hMN l
 refine ⟨chX N l m, hcm, ?_⟩
 have hM := T_mo N
 rw [hmo] at hM
 have hw := wrapN hN.2
 have hstep : ∀ i, i < m → R Try.prog none 0 (cB (cB (cR (cL (cR (cR (cR (bodyOf Try.f24)))))))) (chI N l i (cntX N (chX N l i)) (chX N l i)) .normal (chI N l (i + 1) (cntX N (chX N l (i + 1))) (chX N l (i + 1))) := by
  intro i hi
  have hc := hlt i hi
  have hat := atN_lt (N := N) (by omega) l i
  have hle := cntX_le N (chX N l i)
  by_cases h2 : i < l.length
  ·have ha : atN N l i = (IntKind.wrap .u64 (l.getD i 0) % (N : Int)).toNat := if_pos h2
   have h0 := Int.emod_nonneg (IntKind.wrap .u64 (l.getD i 0)) (b := (N : Int)) (by omega)
   have h1 := Int.emod_lt_of_pos (IntKind.wrap .u64 (l.getD i 0)) (b := (N : Int)) (by omega)
   have h3 := wrap0 (l.getD i 0)
   cases hx : chX N l i (atN N l i) with
   | true =>
    have hX : (!chX N l i (atN N l i)) = false := by rw [hx]; rfl
    have he := chX_cnt_old hx
    refine R_alongPc NG MO _ (pcCh_p110 N l i _ (chX N l i) (cntX N (chX N l (i + 1))) (chX N l (i + 1)) M) ?_ (Nat.zero_le _)
    simp only [All, All_append, pcCh_c, Int.toNat_natCast, Nat.zero_add, hw, ← ha]; and_intros
    all_goals first
     | exact hM
     | exact hm
     | (rw [decide_eq_true_eq]; omega)
     | (rw [decide_eq_false_iff_not]; omega)
     | exact hX
     | exact ⟨h0, h1⟩
     | (intro k _; exact bset k)
     | (intro k _; rw [chX_old hx])
     | with_reducible rfl
     | (intro _ _; with_reducible rfl)
     | (intro _ _; trivial)
     | (simp only [IntKind.min, IntKind.max, IntKind.signed, IntKind.bits, if_true]; omega)
     | omega
     | (intro h; exact h)
     | exact .inl rfl
     | exact .inl trivial
     | trivial
   | false =>
    have hX : (!chX N l i (atN N l i)) = true := by rw [hx]; rfl
    have he := chX_cnt_new (by omega) hx
    refine R_alongPc NG MO _ (pcCh_p111 N l i _ (chX N l i) (cntX N (chX N l (i + 1))) (chX N l (i + 1)) M) ?_ (Nat.zero_le _)
    simp only [All, All_append, pcCh_c, Int.toNat_natCast, Nat.zero_add, hw, ← ha]; and_intros
    all_goals first
     | exact hM
     | exact hm
     | (rw [decide_eq_true_eq]; omega)
     | (rw [decide_eq_false_iff_not]; omega)
     | exact hX
     | exact ⟨h0, h1⟩
     | (intro k _; exact bset k)
     | (intro k _; rw [chX_old hx])
     | with_reducible rfl
     | (intro _ _; with_reducible rfl)
     | (intro _ _; trivial)
     | (simp only [IntKind.min, IntKind.max, IntKind.signed, IntKind.bits, if_true]; omega)
     | omega
     | (intro h; exact h)
     | exact .inl rfl
     | exact .inl trivial
     | trivial
  ·have ha : atN N l i = ((i : Int) % (N : Int)).toNat := if_neg h2
   have h0 := Int.emod_nonneg (i : Int) (b := (N : Int)) (by omega)
   have h1 := Int.emod_lt_of_pos (i : Int) (b := (N : Int)) (by omega)
   cases hx : chX N l i (atN N l i) with
   | true =>
    have hX : (!chX N l i (atN N l i)) = false := by rw [hx]; rfl
    have he := chX_cnt_old hx
    refine R_alongPc NG MO _ (pcCh_p100 N l i _ (chX N l i) (cntX N (chX N l (i + 1))) (chX N l (i + 1)) M) ?_ (Nat.zero_le _)
    simp only [All, All_append, pcCh_c, Int.toNat_natCast, Nat.zero_add, hw, ← ha]; and_intros
    all_goals first
     | exact hM
     | exact hm
     | (rw [decide_eq_true_eq]; omega)
     | (rw [decide_eq_false_iff_not]; omega)
     | exact hX
     | exact ⟨h0, h1⟩
     | (intro k _; exact bset k)
     | (intro k _; rw [chX_old hx])
     | with_reducible rfl
     | (intro _ _; with_reducible rfl)
     | (intro _ _; trivial)
     | (simp only [IntKind.min, IntKind.max, IntKind.signed, IntKind.bits, if_true]; omega)
     | omega
     | (intro h; exact h)
     | exact .inl rfl
     | exact .inl trivial
     | trivial
   | false =>
    have hX : (!chX N l i (atN N l i)) = true := by rw [hx]; rfl
    have he := chX_cnt_new (by omega) hx
    refine R_alongPc NG MO _ (pcCh_p101 N l i _ (chX N l i) (cntX N (chX N l (i + 1))) (chX N l (i + 1)) M) ?_ (Nat.zero_le _)
    simp only [All, All_append, pcCh_c, Int.toNat_natCast, Nat.zero_add, hw, ← ha]; and_intros
    all_goals first
     | exact hM
     | exact hm
     | (rw [decide_eq_true_eq]; omega)
     | (rw [decide_eq_false_iff_not]; omega)
     | exact hX
     | exact ⟨h0, h1⟩
     | (intro k _; exact bset k)
     | (intro k _; rw [chX_old hx])
     | with_reducible rfl
     | (intro _ _; with_reducible rfl)
     | (intro _ _; trivial)
     | (simp only [IntKind.min, IntKind.max, IntKind.signed, IntKind.bits, if_true]; omega)
     | omega
     | (intro h; exact h)
     | exact .inl rfl
     | exact .inl trivial
     | trivial
 have hend : R Try.prog none 0 (cB (cB (cR (cL (cR (cR (cR (bodyOf Try.f24)))))))) (chI N l m (cntX N (chX N l m)) (chX N l m)) (.exit 0) (chI N l m M (chX N l m)) := by
  rw [hcm]
  refine R_alongPc NG MO _ (pcCh_p0 N l m M (chX N l m) 0 (chX N l m) M) ?_ (Nat.zero_le _)
  simp only [All, All_append, pcCh_c, Int.toNat_natCast, Nat.zero_add]; and_intros
  all_goals first
   | exact hM
   | exact hm
   | (rw [decide_eq_true_eq]; omega)
   | (rw [decide_eq_false_iff_not]; omega)
   | exact hX
   | exact ⟨h0, h1⟩
   | (intro k _; exact bset k)
   | (intro k _; rw [chX_old hx])
   | with_reducible rfl
   | (intro _ _; with_reducible rfl)
   | (intro _ _; trivial)
   | (simp only [IntKind.min, IntKind.max, IntKind.signed, IntKind.bits, if_true]; omega)
   | omega
   | (intro h; exact h)
   | exact .inl rfl
   | exact .inl trivial
   | trivial
 have hL := RLoop.inv (fun i => chI N l i (cntX N (chX N l i)) (chX N l i)) m hstep hend (by simp)
 have e0 : cntX N (chX N l 0) = 0 := cntX_none
 simp only [e0] at hL
 refine T_al (bdCh_p N l m M (chX N l m)) Try.func24 ?_
 refine ⟨by omega, by omega, by omega, hL, ?_⟩
 simp only [All, All_append, pcCh_c, Int.toNat_natCast, Nat.zero_add]; and_intros
 all_goals first
  | exact hM
  | exact hm
  | (rw [decide_eq_true_eq]; omega)
  | (rw [decide_eq_false_iff_not]; omega)
  | exact hX
  | exact ⟨h0, h1⟩
  | (intro k _; exact bset k)
  | (intro k _; rw [chX_old hx])
  | with_reducible rfl
  | (intro _ _; with_reducible rfl)
  | (intro _ _; trivial)
  | (simp only [IntKind.min, IntKind.max, IntKind.signed, IntKind.bits, if_true]; omega)
  | omega
  | (intro h; exact h)
  | exact .inl rfl
  | exact .inl trivial
  | trivial
end Go.Proofs.Ytpallipnhmoipaa
namespace Go.Proofs.Ytpallipnhmoipaa
open Go Sy Go.Proofs
def nQ (f : Int) : Int := 4 + 3 * (IntKind.wrap .u64 f % 21)
noncomputable def chDb (N : Nat) (X Y : Nat → Bool) : List V → Heap → Nat → List Cl := fun _ _ lo => [{ val := sX lo N, post := [(.o lo, bB N (bif Nat.beq lo 1472 then X else Y))] }]
def mtI (f : Int) (N : Nat) (X Y : Nat → Bool) (c : Nat) (k : Nat) : St := ⟨mkT 75 [(7, .int .i64 (nQ f)), (8, sX 0 N), (9, sX 1 N), (10, .int .i64 c), (43, .int .i64 N), (44, .int .i64 k)], [(.o 0, bB N X), (.o 1, bB N Y)], 2, []⟩
noncomputable def bdQM (f : Int) (a b : List Int) (N : Nat) (X Y : Nat → Bool) (g : Bool) (s u : Int) (c : Nat) : Bd := { f := Try.f5, args := [.int .i64 f, lr a, lr b], kb := { db := dbQ [(12, cVal (.bool g)), (24, chDb N X Y), (16, cVal (.int .i64 s)), (14, cVal (.int .i64 u)), (20, cVal (.bool true))], lp := fun _ t => [(True, .loop (N + 1) (wToS [(.o 0, nmV (getV t.tmps 8)), (.o 1, nmV (getV t.tmps 9))] (mtI f N X Y 0 0)) (.exit 0) (mtI f N X Y c N))] } }
noncomputable def pcQM (f : Int) (N : Nat) (X Y : Nat → Bool) (c k c2 : Nat) : Pc := { c := (cB (cB (cR (cL (cR (cR (cR (cR (cR (bodyOf Try.f5)))))))))), st := mtI f N X Y c k, kb := kb0, k := fun e _ => match e with
 | .normal => some (wTo (mtI f N X Y c2 (k + 1)))
 | _ => some (wTo (mtI f N X Y c N)) }
end Go.Proofs.Ytpallipnhmoipaa
namespace Go.Proofs.Ytpallipnhmoipaa
open Go Sy Go.Proofs
noncomputable def bdQM_c (f : Int) (a : List Int) (b : List Int) (N : Nat) (X : Nat → Bool) (Y : Nat → Bool) (g : Bool) (s : Int) (u : Int) (c : Nat) : Nat → List Prop
 | 0 => [(0 : Int) ≤ IntKind.wrap IntKind.u64 f ∧ (0 : Int) < (21 : Int), InR IntKind.i64 (IntKind.wrap IntKind.u64 f % (21 : Int)), InR IntKind.i64 ((3 : Int) * (IntKind.wrap IntKind.u64 f % (21 : Int))), InR IntKind.i64 ((4 : Int) + (3 : Int) * (IntKind.wrap IntKind.u64 f % (21 : Int))), T Try.prog 12 [.int .i64 ((4 : Int) + (3 : Int) * (IntKind.wrap .u64 f % (21 : Int)))] [] (.bool g) []]
 | 1 => [(!g) = true, q2, q2, T Try.prog 12 [.int .i64 ((4 : Int) + (3 : Int) * (IntKind.wrap .u64 f % (21 : Int)))] [] (.bool g) []]
 | 2 => [decide ((500 : Int) < (↑(List.length a) : Int)) = true, q2, T Try.prog 12 [.int .i64 ((4 : Int) + (3 : Int) * (IntKind.wrap .u64 f % (21 : Int)))] [] (.bool g) []]
 | 3 => [decide ((500 : Int) < (↑(List.length b) : Int)) = true, T Try.prog 12 [.int .i64 ((4 : Int) + (3 : Int) * (IntKind.wrap .u64 f % (21 : Int)))] [] (.bool g) []]
 | 4 => [decide ((500 : Int) < (↑(List.length b) : Int)) = false, T Try.prog 24 [.int .i64 ((4 : Int) + (3 : Int) * (IntKind.wrap .u64 f % (21 : Int))), .ros 1 (List.length a) (li a) false] [] (.sl (.o 1472) 1 0 0 0 N none) [(.o 1472, .rows 1 N (bX X) true)], T Try.prog 24 [.int .i64 ((4 : Int) + (3 : Int) * (IntKind.wrap .u64 f % (21 : Int))), .ros 1 (List.length b) (li b) false] [] (.sl (.o 1664) 1 0 0 0 N none) [(.o 1664, .rows 1 N (bX Y) true)], RLoop Try.prog none 0 (cB (cB (cR (cL (cR (cR (cR (cR (cR (bodyOf (Bd.f (bdQM f a b N X Y g s u c)))))))))))) (N + 1) (St.mk [.any, .any, .any, .any, .any, .any, .any, .int .i64 (nQ f), .sl (.o 0) 1 0 0 0 N none, .sl (.o 1) 1 0 0 0 N none, .int .i64 0, .any, .any, .any, .any, .any, .any, .any, .any, .any, .any, .any, .any, .any, .any, .any, .any, .any, .any, .any, .any, .any, .any, .any, .any, .any, .any, .any, .any, .any, .any, .any, .any, .int .i64 ↑N, .int .i64 0, .any, .any, .any, .any, .any, .any, .any, .any, .any, .any, .any, .any, .any, .any, .any, .any, .any, .any, .any, .any, .any, .any, .any, .any, .any, .any, .any, .any, .any, .any] [(.o 0, .rows 1 N (bX X) true), (.o 1, .rows 1 N (bX Y) true)] 2 []) (.exit 0) (St.mk [.any, .any, .any, .any, .any, .any, .any, .int .i64 (nQ f), .sl (.o 0) 1 0 0 0 N none, .sl (.o 1) 1 0 0 0 N none, .int .i64 ↑c, .any, .any, .any, .any, .any, .any, .any, .any, .any, .any, .any, .any, .any, .any, .any, .any, .any, .any, .any, .any, .any, .any, .any, .any, .any, .any, .any, .any, .any, .any, .any, .any, .int .i64 ↑N, .int .i64 ↑N, .any, .any, .any, .any, .any, .any, .any, .any, .any, .any, .any, .any, .any, .any, .any, .any, .any, .any, .any, .any, .any, .any, .any, .any, .any, .any, .any, .any, .any, .any] [(.o 0, .rows 1 N (bX X) true), (.o 1, .rows 1 N (bX Y) true)] 2 []), q N, ∀ (k : Nat), k < N → [V.bool (X k)] = [V.bool (X k)], true = false → true = false, q N, ∀ (k : Nat), k < N → [V.bool (Y k)] = [V.bool (Y k)], true = false → true = false, (4 : Int) + (3 : Int) * (IntKind.wrap IntKind.u64 f % (21 : Int)) = nQ f, q0, q0, q0, q N, (none : Option Nat) = none ∨ (none : Option Nat) = none, q0, q0, q0, q N, (none : Option Nat) = none ∨ (none : Option Nat) = none, q1, q (↑N : Int), q1, T Try.prog 16 [.int .i64 (nQ f)] [] (.int .i64 s) []]
 | 5 => [decide (s ≤ (↑c : Int)) = true, T Try.prog 16 [.int .i64 (nQ f)] [] (.int .i64 s) [], T Try.prog 14 [.int .i64 (nQ f)] [] (.int .i64 u) [], InR IntKind.i64 (u + (1 : Int))]
 | _ => []
theorem bdQM_p1111 (f : Int) (a : List Int) (b : List Int) (N : Nat) (X : Nat → Bool) (Y : Nat → Bool) (g : Bool) (s : Int) (u : Int) (c : Nat) :
 along Try.prog (bdQM f a b N X Y g s u c) [true, true, true, true] = (some (.bool true, [], bdQM_c f a b N X Y g s u c 0 ++ (bdQM_c f a b N X Y g s u c 1 ++ [g = true, T Try.prog 20 [] [] (.bool true) []])) : Option (V × Heap × List Prop)) := by kernel_rfl
theorem bdQM_p1110 (f : Int) (a : List Int) (b : List Int) (N : Nat) (X : Nat → Bool) (Y : Nat → Bool) (g : Bool) (s : Int) (u : Int) (c : Nat) :
 along Try.prog (bdQM f a b N X Y g s u c) [true, true, true, false] = (some (.bool false, [], bdQM_c f a b N X Y g s u c 0 ++ (bdQM_c f a b N X Y g s u c 1 ++ [g = false])) : Option (V × Heap × List Prop)) := by kernel_rfl
theorem bdQM_p0111 (f : Int) (a : List Int) (b : List Int) (N : Nat) (X : Nat → Bool) (Y : Nat → Bool) (g : Bool) (s : Int) (u : Int) (c : Nat) :
 along Try.prog (bdQM f a b N X Y g s u c) [false, true, true, true] = (some (.bool true, [], bdQM_c f a b N X Y g s u c 0 ++ ([(!g) = false] ++ (bdQM_c f a b N X Y g s u c 2 ++ [g = true, T Try.prog 20 [] [] (.bool true) []]))) : Option (V × Heap × List Prop)) := by kernel_rfl
theorem bdQM_p0110 (f : Int) (a : List Int) (b : List Int) (N : Nat) (X : Nat → Bool) (Y : Nat → Bool) (g : Bool) (s : Int) (u : Int) (c : Nat) :
 along Try.prog (bdQM f a b N X Y g s u c) [false, true, true, false] = (some (.bool false, [], bdQM_c f a b N X Y g s u c 0 ++ ([(!g) = false] ++ (bdQM_c f a b N X Y g s u c 2 ++ [g = false]))) : Option (V × Heap × List Prop)) := by kernel_rfl
theorem bdQM_p0011 (f : Int) (a : List Int) (b : List Int) (N : Nat) (X : Nat → Bool) (Y : Nat → Bool) (g : Bool) (s : Int) (u : Int) (c : Nat) :
 along Try.prog (bdQM f a b N X Y g s u c) [false, false, true, true] = (some (.bool true, [], bdQM_c f a b N X Y g s u c 0 ++ ([(!g) = false, decide ((500 : Int) < (↑(List.length a) : Int)) = false] ++ (bdQM_c f a b N X Y g s u c 3 ++ [g = true, T Try.prog 20 [] [] (.bool true) []]))) : Option (V × Heap × List Prop)) := by kernel_rfl
theorem bdQM_p0010 (f : Int) (a : List Int) (b : List Int) (N : Nat) (X : Nat → Bool) (Y : Nat → Bool) (g : Bool) (s : Int) (u : Int) (c : Nat) :
 along Try.prog (bdQM f a b N X Y g s u c) [false, false, true, false] = (some (.bool false, [], bdQM_c f a b N X Y g s u c 0 ++ ([(!g) = false, decide ((500 : Int) < (↑(List.length a) : Int)) = false] ++ (bdQM_c f a b N X Y g s u c 3 ++ [g = false]))) : Option (V × Heap × List Prop)) := by kernel_rfl
theorem bdQM_p00011 (f : Int) (a : List Int) (b : List Int) (N : Nat) (X : Nat → Bool) (Y : Nat → Bool) (g : Bool) (s : Int) (u : Int) (c : Nat) :
 along Try.prog (bdQM f a b N X Y g s u c) [false, false, false, true, true] = (some (.bool true, [], bdQM_c f a b N X Y g s u c 0 ++ ([(!g) = false, decide ((500 : Int) < (↑(List.length a) : Int)) = false] ++ (bdQM_c f a b N X Y g s u c 4 ++ (bdQM_c f a b N X Y g s u c 5 ++ [decide (s = u + (1 : Int)) = true, T Try.prog 20 [] [] (.bool true) []])))) : Option (V × Heap × List Prop)) := by kernel_rfl
theorem bdQM_p00010 (f : Int) (a : List Int) (b : List Int) (N : Nat) (X : Nat → Bool) (Y : Nat → Bool) (g : Bool) (s : Int) (u : Int) (c : Nat) :
 along Try.prog (bdQM f a b N X Y g s u c) [false, false, false, true, false] = (some (.bool false, [], bdQM_c f a b N X Y g s u c 0 ++ ([(!g) = false, decide ((500 : Int) < (↑(List.length a) : Int)) = false] ++ (bdQM_c f a b N X Y g s u c 4 ++ (bdQM_c f a b N X Y g s u c 5 ++ [decide (s = u + (1 : Int)) = false])))) : Option (V × Heap × List Prop)) := by kernel_rfl
theorem bdQM_p00000 (f : Int) (a : List Int) (b : List Int) (N : Nat) (X : Nat → Bool) (Y : Nat → Bool) (g : Bool) (s : Int) (u : Int) (c : Nat) :
 along Try.prog (bdQM f a b N X Y g s u c) [false, false, false, false, false] = (some (.bool false, [], bdQM_c f a b N X Y g s u c 0 ++ ([(!g) = false, decide ((500 : Int) < (↑(List.length a) : Int)) = false] ++ (bdQM_c f a b N X Y g s u c 4 ++ [decide (s ≤ (↑c : Int)) = false, q false]))) : Option (V × Heap × List Prop)) := by kernel_rfl

theorem pcQM_p111 (f : Int) (N : Nat) (X : Nat → Bool) (Y : Nat → Bool) (c : Nat) (k : Nat) (c2 : Nat) :
  alongPc Try.prog (pcQM f N X Y c k c2) [true, true, true] = (some (.normal, St.mk [.any, .any, .any, .any, .any, .any, .any, .int .i64 (nQ f), .sl (.o 0) 1 0 0 0 N none, .sl (.o 1) 1 0 0 0 N none, .int .i64 ↑c2, .any, .any, .any, .any, .any, .any, .any, .any, .any, .any, .any, .any, .any, .any, .any, .any, .any, .any, .any, .any, .any, .any, .any, .any, .any, .any, .any, .any, .any, .any, .any, .any, .int .i64 ↑N, .int .i64 (↑(k + 1) : Int), .any, .any, .any, .any, .any, .any, .any, .any, .any, .any, .any, .any, .any, .any, .any, .any, .any, .any, .any, .any, .any, .any, .any, .any, .any, .any, .any, .any, .any, .any] [(.o 0, .rows 1 N (bX X) true), (.o 1, .rows 1 N (bX Y) true)] 2 [], [decide ((↑k : Int) < (↑N : Int)) = true, (0 : Int) ≤ (↑k : Int) ∧ (↑k : Int) < (↑N : Int), (0 : Nat) + Int.toNat (↑k : Int) < N, X ((0 : Nat) + Int.toNat (↑k : Int)) = true, (0 : Int) ≤ (↑k : Int) ∧ (↑k : Int) < (↑N : Int), (0 : Nat) + Int.toNat (↑k : Int) < N, Y ((0 : Nat) + Int.toNat (↑k : Int)) = true, InR IntKind.i64 ((↑c : Int) + (1 : Int)), InR IntKind.i64 ((↑k : Int) + (1 : Int)), q N, ∀ (k : Nat), k < N → [V.bool (X k)] = [V.bool (X k)], true = false → true = false, q N, ∀ (k : Nat), k < N → [V.bool (Y k)] = [V.bool (Y k)], true = false → true = false, q (nQ f), q0, q0, q0, q N, (none : Option Nat) = none ∨ (none : Option Nat) = none, q0, q0, q0, q N, (none : Option Nat) = none ∨ (none : Option Nat) = none, (↑c : Int) + (1 : Int) = (↑c2 : Int), q (↑N : Int), (↑k : Int) + (1 : Int) = (↑(k + (1 : Nat)) : Int)]) : Option (Exit × St × List Prop)) := by kernel_rfl
theorem pcQM_p110 (f : Int) (N : Nat) (X : Nat → Bool) (Y : Nat → Bool) (c : Nat) (k : Nat) (c2 : Nat) :
  alongPc Try.prog (pcQM f N X Y c k c2) [true, true, false] = (some (.normal, St.mk [.any, .any, .any, .any, .any, .any, .any, .int .i64 (nQ f), .sl (.o 0) 1 0 0 0 N none, .sl (.o 1) 1 0 0 0 N none, .int .i64 ↑c2, .any, .any, .any, .any, .any, .any, .any, .any, .any, .any, .any, .any, .any, .any, .any, .any, .any, .any, .any, .any, .any, .any, .any, .any, .any, .any, .any, .any, .any, .any, .any, .any, .int .i64 ↑N, .int .i64 (↑(k + 1) : Int), .any, .any, .any, .any, .any, .any, .any, .any, .any, .any, .any, .any, .any, .any, .any, .any, .any, .any, .any, .any, .any, .any, .any, .any, .any, .any, .any, .any, .any, .any] [(.o 0, .rows 1 N (bX X) true), (.o 1, .rows 1 N (bX Y) true)] 2 [], [decide ((↑k : Int) < (↑N : Int)) = true, (0 : Int) ≤ (↑k : Int) ∧ (↑k : Int) < (↑N : Int), (0 : Nat) + Int.toNat (↑k : Int) < N, X ((0 : Nat) + Int.toNat (↑k : Int)) = true, (0 : Int) ≤ (↑k : Int) ∧ (↑k : Int) < (↑N : Int), (0 : Nat) + Int.toNat (↑k : Int) < N, Y ((0 : Nat) + Int.toNat (↑k : Int)) = false, InR IntKind.i64 ((↑k : Int) + (1 : Int)), q N, ∀ (k : Nat), k < N → [V.bool (X k)] = [V.bool (X k)], true = false → true = false, q N, ∀ (k : Nat), k < N → [V.bool (Y k)] = [V.bool (Y k)], true = false → true = false, q (nQ f), q0, q0, q0, q N, (none : Option Nat) = none ∨ (none : Option Nat) = none, q0, q0, q0, q N, (none : Option Nat) = none ∨ (none : Option Nat) = none, (↑c : Int) = (↑c2 : Int), q (↑N : Int), (↑k : Int) + (1 : Int) = (↑(k + (1 : Nat)) : Int)]) : Option (Exit × St × List Prop)) := by kernel_rfl
theorem pcQM_p100 (f : Int) (N : Nat) (X : Nat → Bool) (Y : Nat → Bool) (c : Nat) (k : Nat) (c2 : Nat) :
  alongPc Try.prog (pcQM f N X Y c k c2) [true, false, false] = (some (.normal, St.mk [.any, .any, .any, .any, .any, .any, .any, .int .i64 (nQ f), .sl (.o 0) 1 0 0 0 N none, .sl (.o 1) 1 0 0 0 N none, .int .i64 ↑c2, .any, .any, .any, .any, .any, .any, .any, .any, .any, .any, .any, .any, .any, .any, .any, .any, .any, .any, .any, .any, .any, .any, .any, .any, .any, .any, .any, .any, .any, .any, .any, .any, .int .i64 ↑N, .int .i64 (↑(k + 1) : Int), .any, .any, .any, .any, .any, .any, .any, .any, .any, .any, .any, .any, .any, .any, .any, .any, .any, .any, .any, .any, .any, .any, .any, .any, .any, .any, .any, .any, .any, .any] [(.o 0, .rows 1 N (bX X) true), (.o 1, .rows 1 N (bX Y) true)] 2 [], [decide ((↑k : Int) < (↑N : Int)) = true, (0 : Int) ≤ (↑k : Int) ∧ (↑k : Int) < (↑N : Int), (0 : Nat) + Int.toNat (↑k : Int) < N, X ((0 : Nat) + Int.toNat (↑k : Int)) = false, q false, InR IntKind.i64 ((↑k : Int) + (1 : Int)), q N, ∀ (k : Nat), k < N → [V.bool (X k)] = [V.bool (X k)], true = false → true = false, q N, ∀ (k : Nat), k < N → [V.bool (Y k)] = [V.bool (Y k)], true = false → true = false, q (nQ f), q0, q0, q0, q N, (none : Option Nat) = none ∨ (none : Option Nat) = none, q0, q0, q0, q N, (none : Option Nat) = none ∨ (none : Option Nat) = none, (↑c : Int) = (↑c2 : Int), q (↑N : Int), (↑k : Int) + (1 : Int) = (↑(k + (1 : Nat)) : Int)]) : Option (Exit × St × List Prop)) := by kernel_rfl
theorem pcQM_p0 (f : Int) (N : Nat) (X : Nat → Bool) (Y : Nat → Bool) (c : Nat) (k : Nat) (c2 : Nat) :
  alongPc Try.prog (pcQM f N X Y c k c2) [false] = (some (.exit 0, St.mk [.any, .any, .any, .any, .any, .any, .any, .int .i64 (nQ f), .sl (.o 0) 1 0 0 0 N none, .sl (.o 1) 1 0 0 0 N none, .int .i64 ↑c, .any, .any, .any, .any, .any, .any, .any, .any, .any, .any, .any, .any, .any, .any, .any, .any, .any, .any, .any, .any, .any, .any, .any, .any, .any, .any, .any, .any, .any, .any, .any, .any, .int .i64 ↑N, .int .i64 ↑N, .any, .any, .any, .any, .any, .any, .any, .any, .any, .any, .any, .any, .any, .any, .any, .any, .any, .any, .any, .any, .any, .any, .any, .any, .any, .any, .any, .any, .any, .any] [(.o 0, .rows 1 N (bX X) true), (.o 1, .rows 1 N (bX Y) true)] 2 [], [decide ((↑k : Int) < (↑N : Int)) = false, q N, ∀ (k : Nat), k < N → [V.bool (X k)] = [V.bool (X k)], true = false → true = false, q N, ∀ (k : Nat), k < N → [V.bool (Y k)] = [V.bool (Y k)], true = false → true = false, q (nQ f), q0, q0, q0, q N, (none : Option Nat) = none ∨ (none : Option Nat) = none, q0, q0, q0, q N, (none : Option Nat) = none ∨ (none : Option Nat) = none, q (↑c : Int), q (↑N : Int), (↑k : Int) = (↑N : Int)]) : Option (Exit × St × List Prop)) := by kernel_rfl

theorem T_chA {N : Nat} (hN : 4 ≤ N ∧ N ≤ 64) {l : List Int} (hl : l.length ≤ 1000000) {M : Nat} (h0M : 0 < M) (hMN : M ≤ N) (hmo : mostS N = M) (a : Nat) :
  ∃ X, cntX N X = M ∧ T Try.prog 24 [.int .i64 N, lr l] [] (sX a N) [(.o a, bB N X)] := by
 obtain ⟨X, hX, hT⟩ := T_ch hN hl h0M hMN hmo
 refine ⟨X, hX, ?_⟩
 obtain ⟨σ, hσ, h1⟩ := T.at hT [.o 0] [.o a] (by decide) (by simp) rfl
 simp only [List.map_cons, List.map_nil, List.cons.injEq, and_true] at hσ
 simpa [V.rens, V.ren, Heap.ren, B.ren, lr, sX, bB, hσ] using h1
theorem nQ_at (f : Int) : ∃ N : Nat, nQ f = N ∧ 4 ≤ N ∧ N ≤ 64 ∧ N % 3 = 1 := by
 have h1 := wrap0 f
 refine ⟨(nQ f).toNat, ?_, ?_, ?_, ?_⟩ <;> unfold nQ <;> omega
theorem meetL {f : Int} {N : Nat} (hN : N ≤ 64) (X Y : Nat → Bool) :
  RLoop Try.prog none 0 (cB (cB (cR (cL (cR (cR (cR (cR (cR (bodyOf Try.f5)))))))))) (N + 1) (mtI f N X Y 0 0) (.exit 0) (mtI f N X Y (cntX N fun q => X q && Y q) N) := by
 have hstep : ∀ k, k < N → R Try.prog none 0 (cB (cB (cR (cL (cR (cR (cR (cR (cR (bodyOf Try.f5)))))))))) (mtI f N X Y (cntX k fun q => X q && Y q) k) .normal (mtI f N X Y (cntX (k + 1) fun q => X q && Y q) (k + 1)) := by
  intro k hk
  have hs := cntX_succ k fun q => X q && Y q
  have hle := cntX_le k fun q => X q && Y q
  cases hx : X k with
  | true =>
   cases hy : Y k with
   | true =>
    simp only [hx, hy, Bool.and_self, if_true] at hs
    refine R_alongPc NG MO _ (pcQM_p111 f N X Y (cntX k fun q => X q && Y q) k (cntX (k + 1) fun q => X q && Y q)) ?_ (Nat.zero_le _)
    simp only [All, All_append, bdQM_c, Int.toNat_natCast, Nat.zero_add]; and_intros
    all_goals first
     | (with_reducible assumption)
     | (rw [decide_eq_true_eq]; omega)
     | (rw [decide_eq_false_iff_not]; omega)
     | exact hx
     | exact hy
     | (intro k _; rfl)
     | with_reducible rfl
     | (intro _ _; trivial)
     | (simp only [IntKind.min, IntKind.max, IntKind.signed, IntKind.bits, if_true]; omega)
     | omega
     | (intro h; exact h)
     | exact .inl rfl
     | exact .inl trivial
     | trivial
   | false =>
    simp only [hx, hy, Bool.and_false, Bool.false_eq_true, if_false] at hs
    refine R_alongPc NG MO _ (pcQM_p110 f N X Y (cntX k fun q => X q && Y q) k (cntX (k + 1) fun q => X q && Y q)) ?_ (Nat.zero_le _)
    simp only [All, All_append, bdQM_c, Int.toNat_natCast, Nat.zero_add]; and_intros
    all_goals first
     | (with_reducible assumption)
     | (rw [decide_eq_true_eq]; omega)
     | (rw [decide_eq_false_iff_not]; omega)
     | exact hx
     | exact hy
     | (intro k _; rfl)
     | with_reducible rfl
     | (intro _ _; trivial)
     | (simp only [IntKind.min, IntKind.max, IntKind.signed, IntKind.bits, if_true]; omega)
     | omega
     | (intro h; exact h)
     | exact .inl rfl
     | exact .inl trivial
     | trivial
  | false =>
   simp only [hx, Bool.false_and, Bool.false_eq_true, if_false] at hs
   refine R_alongPc NG MO _ (pcQM_p100 f N X Y (cntX k fun q => X q && Y q) k (cntX (k + 1) fun q => X q && Y q)) ?_ (Nat.zero_le _)
   simp only [All, All_append, bdQM_c, Int.toNat_natCast, Nat.zero_add]; and_intros
   all_goals first
    | exact hG
    | exact h9
    | (with_reducible assumption)
    | (rw [decide_eq_true_eq]; omega)
    | (rw [decide_eq_false_iff_not]; omega)
    | exact hx
    | exact hy
    | (intro k _; rfl)
    | with_reducible rfl
    | (intro _ _; trivial)
    | (simp only [IntKind.min, IntKind.max, IntKind.signed, IntKind.bits, if_true]; omega)
    | omega
    | (intro h; exact h)
    | exact .inl rfl
    | exact .inl trivial
    | trivial
 have hend : R Try.prog none 0 (cB (cB (cR (cL (cR (cR (cR (cR (cR (bodyOf Try.f5)))))))))) (mtI f N X Y (cntX N fun q => X q && Y q) N) (.exit 0) (mtI f N X Y (cntX N fun q => X q && Y q) N) := by
  refine R_alongPc NG MO _ (pcQM_p0 f N X Y (cntX N fun q => X q && Y q) N 0) ?_ (Nat.zero_le _)
  simp only [All, All_append, bdQM_c, Int.toNat_natCast, Nat.zero_add]; and_intros
  all_goals first
   | exact hG
   | exact h9
   | (with_reducible assumption)
   | (rw [decide_eq_true_eq]; omega)
   | (rw [decide_eq_false_iff_not]; omega)
   | exact hx
   | exact hy
   | (intro k _; rfl)
   | with_reducible rfl
   | (intro _ _; trivial)
   | (simp only [IntKind.min, IntKind.max, IntKind.signed, IntKind.bits, if_true]; omega)
   | omega
   | (intro h; exact h)
   | exact .inl rfl
   | exact .inl trivial
   | trivial
 exact RLoop.inv (fun k => mtI f N X Y (cntX k fun q => X q && Y q) k) N hstep hend (by simp)
/-- QuorumMeets. -/
theorem T_qm (f : Int) {a b : List Int} (ha : a.length ≤ 9223372036854775807) (hb : b.length ≤ 9223372036854775807) : T Try.prog 5 [.int .i64 f, lr a, lr b] [] (.bool true) [] := by
 have h9 := T_lv
 obtain ⟨N, hq, h4, h64, h3⟩ := nQ_at f
 have hG := T_gn (nQ f)
 have hg : goodN (nQ f) = true := goodN_iff.2 (by omega)
 rw [hg] at hG
 have hw := wrap0 f
 have hS := T_sm (nQ f)
 have hF := T_fa (nQ f)
 have hmo : mostS (N : Int) = ((2 * (N / 3) + 1 : Nat) : Int) := by rw [← hq, mostS, shareS, if_pos hg, hq]; omega
 have hso : someS (nQ f) = ((N / 3 + 1 : Nat) : Int) := by rw [someS, shareS, if_pos hg, hq]; omega
 have hfo : fauS (nQ f) = ((N / 3 : Nat) : Int) := by rw [fauS, if_pos hg, hq]; omega
 rw [hso] at hS
 rw [hfo] at hF
 by_cases h1 : (500 : Int) < a.length
 ·refine T_al (bdQM_p0111 f a b N (fun _ => false) (fun _ => false) true 0 0 0) Try.func5 ?_
  simp only [All, All_append, bdQM_c]; and_intros
  all_goals first
   | exact hG
   | exact h9
   | (with_reducible assumption)
   | (rw [decide_eq_true_eq]; omega)
   | (rw [decide_eq_false_iff_not]; omega)
   | exact hx
   | exact hy
   | (intro k _; rfl)
   | with_reducible rfl
   | (intro _ _; trivial)
   | (simp only [IntKind.min, IntKind.max, IntKind.signed, IntKind.bits, if_true]; omega)
   | omega
   | (intro h; exact h)
   | exact .inl rfl
   | exact .inl trivial
   | trivial
 ·by_cases h2 : (500 : Int) < b.length
  ·refine T_al (bdQM_p0011 f a b N (fun _ => false) (fun _ => false) true 0 0 0) Try.func5 ?_
   simp only [All, All_append, bdQM_c]; and_intros
   all_goals first
    | exact hG
    | exact h9
    | (with_reducible assumption)
    | (rw [decide_eq_true_eq]; omega)
    | (rw [decide_eq_false_iff_not]; omega)
    | exact hx
    | exact hy
    | (intro k _; rfl)
    | with_reducible rfl
    | (intro _ _; trivial)
    | (simp only [IntKind.min, IntKind.max, IntKind.signed, IntKind.bits, if_true]; omega)
    | omega
    | (intro h; exact h)
    | exact .inl rfl
    | exact .inl trivial
    | trivial
  ·obtain ⟨X, hX, hT⟩ := T_chA ⟨h4, h64⟩ (l := a) (by omega) (by omega : 0 < 2 * (N / 3) + 1) (by omega) hmo 1472
   obtain ⟨Y, hY, hU⟩ := T_chA ⟨h4, h64⟩ (l := b) (by omega) (by omega : 0 < 2 * (N / 3) + 1) (by omega) hmo 1664
   have hL := meetL (f := f) h64 X Y
   have hc := cntX_and N X Y
   rw [← hq] at hT hU
   refine T_al (bdQM_p00011 f a b N X Y true ((N / 3 + 1 : Nat) : Int) ((N / 3 : Nat) : Int) (cntX N fun q => X q && Y q)) Try.func5 ?_
   simp only [All, All_append, bdQM_c, Int.toNat_natCast, Nat.zero_add]; and_intros
   all_goals first
    | exact hT
    | exact hU
    | exact hL
    | exact hG
    | exact hS
    | exact hF
    | exact h9
    | (with_reducible assumption)
    | (rw [decide_eq_true_eq]; omega)
    | (rw [decide_eq_false_iff_not]; omega)
    | exact hx
    | exact hy
    | (intro k _; rfl)
    | with_reducible rfl
    | (intro _ _; trivial)
    | (simp only [IntKind.min, IntKind.max, IntKind.signed, IntKind.bits, if_true]; omega)
    | omega
    | (intro h; exact h)
    | exact .inl rfl
    | exact .inl trivial
    | trivial
end Go.Proofs.Ytpallipnhmoipaa
namespace Go.Proofs.Ytpallipnhmoipaa
open Go Sy Go.Proofs
def tab (f : Nat → Int) (n : Nat) : List Int := (List.range n).map f
theorem tab_len (f : Nat → Int) (n : Nat) : (tab f n).length = n := by simp [tab]
theorem tab_get {f : Nat → Int} {n i : Nat} (h : i < n) : (tab f n).getD i 0 = f i := by
 rw [tab, List.getD_eq_getElem?_getD, List.getElem?_map, List.getElem?_range h]; rfl
theorem cellsInt : Try.prog.cellsOf 3 = 1 := by kernel_rfl
theorem sg_ints (U : Imm) {d : Nat} {cs : List V} (h : ShC Try.prog d 25 cs) : ∃ l : List Int, CsLe U cs [lr l] ∧ l.length ≤ 9223372036854775807 := by
 obtain ⟨d, len, f, rfl, hl, hf⟩ := sh_slice h Try.underlying25
 obtain ⟨s, hs⟩ := choose_fn (α := Int) (n := len) (p := fun i n => f i = [.int .i64 n]) fun i hi => by
  obtain ⟨n, h1, _⟩ := sh_int (hf i hi) Try.underlying3
  exact ⟨n, h1⟩
 refine ⟨tab s len, ?_, by rw [tab_len]; exact hl⟩
 rw [cellsInt, lr, tab_len]
 exact CsLe.ros fun i hi => by
  rw [hs i hi, li, tab_get hi]; exact CsLe.refl _ _
end Go.Proofs.Ytpallipnhmoipaa
