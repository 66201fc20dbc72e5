/-
  Contracts and laws that the claim's theorem leans on, joined out of the texts Ma2 Ma3D Ma3 Mg0 (own work of this seat): Contracts: the i-th greatest; Contracts: the document's i-th greatest; that the law lives; QuorumCounts, QuorumNths; Contracts: the document's i-th greatest; that the law lives; QuorumCounts, QuorumNths; The shape of a list of numbers that is handed in.
-/
import Derived.Test.YtpallipnhmoipaaC04
set_option linter.unusedVariables false
set_option linter.unusedSimpArgs false
set_option maxHeartbeats 1000000
namespace Go.Proofs.Ytpallipnhmoipaa
open Go Sy Go.Proofs
theorem bdNt_p11 (l : List Int) (i : Int) :
  along Try.prog (bdNt l i) [true, true] = (some (.int .i64 0, [], [decide (i < (1 : Int)) = true, q2]) : Option (V × Heap × List Prop)) := by kernel_rfl
theorem bdNt_p01 (l : List Int) (i : Int) :
  along Try.prog (bdNt l i) [false, true] = (some (.int .i64 0, [], [decide (i < (1 : Int)) = false, decide ((↑(List.length l) : Int) < i) = true]) : Option (V × Heap × List Prop)) := by kernel_rfl
theorem bdNt_p00 (l : List Int) (i : Int) :
  along Try.prog (bdNt l i) [false, false] = (some (.int .i64 (List.getD (srtD l) (0 + Int.toNat (i - (1 : Int))) (0 : Int)), [], [decide (i < (1 : Int)) = false, decide ((↑(List.length l) : Int) < i) = false, q0, ∀ (k : Nat), k < List.length l → true = true, ((0 : Nat) + List.length l) * (8 : Nat) ≤ (140737488355328 : Nat), T Try.prog 45 [.ifc 25 (.sl (.o 704) 1 0 0 0 (0 + List.length l) none), .fn (.func 46) [] [.ptr (.o 768) 0 0 0 0]] [(.o 704, .rows 1 (0 + List.length l) (catF 0 (getL []) (li l)) true), (.o 768, .flat [.sl (.o 704) 1 0 0 0 (0 + List.length l) none])] (.tup []) [(.o 704, .rows 1 (List.length l) (li (srtD l)) true), (.o 768, .flat [.sl (.o 704) 1 0 0 0 (List.length l) none])], InR IntKind.i64 (i - (1 : Int)), (0 : Int) ≤ i - (1 : Int) ∧ i - (1 : Int) < (↑(List.length l) : Int), (0 : Nat) + Int.toNat (i - (1 : Int)) < List.length l]) : Option (V × Heap × List Prop)) := by kernel_rfl

theorem bdRn_p1 (l : List Int) (i : Int) (m : Nat) (v : Int) :
  along Try.prog (bdRn l i m v) [true] = (some (.int .i64 0, [], [RLoop Try.prog none 0 (cB (cB (cR (cL (cR (bodyOf (Bd.f (bdRn l i m v)))))))) (List.length l + 1) (St.mk [.ros 1 (List.length l) (li l) false, .int .i64 i, .any, .any, .any, .int .i64 0, .any, .any, .any, .any, .any, .any, .any, .any, .any, .any, .any, .any, .any, .any, .any, .any, .any, .any, .any, .any, .any, .any, .any, .any, .any, .any, .any, .any, .any, .any, .any, .any, .any, .any, .any, .any, .any, .any, .any, .any, .any, .any, .any, .any, .any, .any, .any, .any, .any, .any, .any] [] 0 []) (.exit 0) (St.mk [.ros 1 (List.length l) (li l) false, .int .i64 i, .any, .any, .any, .int .i64 (↑(List.length l) : Int), .any, .any, .any, .any, .any, .any, .any, .any, .any, .any, .any, .any, .any, .any, .any, .any, .any, .any, .any, .any, .any, .any, .any, .any, .any, .any, .any, .any, .any, .any, .any, .any, .any, .any, .any, .any, .any, .any, .any, .any, .any, .any, .any, .any, .any, .any, .any, .any, .any, .any, .any] [] 0 []), q (List.length l), ∀ (k : Nat), k < List.length l → [V.int IntKind.i64 (List.getD l k (0 : Int))] = [V.int IntKind.i64 (List.getD l k (0 : Int))], false = true → false = true, q i, q1]) : Option (V × Heap × List Prop)) := by kernel_rfl
theorem bdRn_p0 (l : List Int) (i : Int) (m : Nat) (v : Int) :
  along Try.prog (bdRn l i m v) [false] = (some (.int .i64 v, [], [RLoop Try.prog none 0 (cB (cB (cR (cL (cR (bodyOf (Bd.f (bdRn l i m v)))))))) (m + 1) (St.mk [.ros 1 (List.length l) (li l) false, .int .i64 i, .any, .any, .any, .int .i64 0, .any, .any, .any, .any, .any, .any, .any, .any, .any, .any, .any, .any, .any, .any, .any, .any, .any, .any, .any, .any, .any, .any, .any, .any, .any, .any, .any, .any, .any, .any, .any, .any, .any, .any, .any, .any, .any, .any, .any, .any, .any, .any, .any, .any, .any, .any, .any, .any, .any, .any, .any] [] 0 []) .ret (St.mk [.any, .any, .any, .any, .int .i64 v, .any, .any, .any, .any, .any, .any, .any, .any, .any, .any, .any, .any, .any, .any, .any, .any, .any, .any, .any, .any, .any, .any, .any, .any, .any, .any, .any, .any, .any, .any, .any, .any, .any, .any, .any, .any, .any, .any, .any, .any, .any, .any, .any, .any, .any, .any, .any, .any, .any, .any, .any, .any] [] 0 []), q (List.length l), ∀ (k : Nat), k < List.length l → [V.int IntKind.i64 (List.getD l k (0 : Int))] = [V.int IntKind.i64 (List.getD l k (0 : Int))], false = true → false = true, q i, q1]) : Option (V × Heap × List Prop)) := by kernel_rfl

noncomputable def pcRn_c (l : List Int) (i : Int) (k : Nat) (a : Int) (s : Int) (v : Int) : Nat → List Prop
 | 0 => [decide ((↑k : Int) < (↑(List.length l) : Int)) = true, RLoop Try.prog none 0 (cB (cB (cR (cL (cR (cR (cB (cL (cR (Pc.c (pcRn l i k a s v))))))))))) (List.length l + 1) (St.mk [.ros 1 (List.length l) (li l) false, .int .i64 i, .any, .any, .any, .int .i64 ↑k, .int .i64 0, .int .i64 0, .int .i64 0, .any, .any, .any, .any, .any, .any, .any, .any, .any, .any, .any, .any, .any, .any, .any, .any, .any, .any, .any, .any, .any, .any, .any, .any, .any, .any, .any, .any, .any, .any, .any, .any, .any, .any, .any, .any, .any, .any, .any, .any, .any, .any, .any, .any, .any, .any, .any, .any] [] 0 []) (.exit 2) (St.mk [.ros 1 (List.length l) (li l) false, .int .i64 i, .any, .any, .any, .int .i64 ↑k, .int .i64 a, .int .i64 s, .int .i64 (↑(List.length l) : Int), .any, .any, .any, .any, .any, .any, .any, .any, .any, .any, .any, .any, .any, .any, .any, .any, .any, .any, .any, .any, .any, .any, .any, .any, .any, .any, .any, .any, .any, .any, .any, .any, .any, .any, .any, .any, .any, .any, .any, .any, .any, .any, .any, .any, .any, .any, .any, .any] [] 0 []), q (List.length l), ∀ (k : Nat), k < List.length l → [V.int IntKind.i64 (List.getD l k (0 : Int))] = [V.int IntKind.i64 (List.getD l k (0 : Int))], false = true → false = true, q i, q (↑k : Int), q1, q1, q1]
 | _ => []
theorem pcRn_p111 (l : List Int) (i : Int) (k : Nat) (a : Int) (s : Int) (v : Int) :
 alongPc Try.prog (pcRn l i k a s v) [true, true, true] = (some (.ret, St.mk [.any, .any, .any, .any, .int .i64 v, .any, .any, .any, .any, .any, .any, .any, .any, .any, .any, .any, .any, .any, .any, .any, .any, .any, .any, .any, .any, .any, .any, .any, .any, .any, .any, .any, .any, .any, .any, .any, .any, .any, .any, .any, .any, .any, .any, .any, .any, .any, .any, .any, .any, .any, .any, .any, .any, .any, .any, .any, .any] [] 0 [], pcRn_c l i k a s v 0 ++ [decide (a < i) = true, InR IntKind.i64 (a + s), decide (i ≤ a + s) = true, (0 : Int) ≤ (↑k : Int) ∧ (↑k : Int) < (↑(List.length l) : Int), List.getD l (Int.toNat (↑k : Int)) (0 : Int) = v]) : Option (Exit × St × List Prop)) := by kernel_rfl
theorem pcRn_p110 (l : List Int) (i : Int) (k : Nat) (a : Int) (s : Int) (v : Int) :
 alongPc Try.prog (pcRn l i k a s v) [true, true, false] = (some (.normal, St.mk [.ros 1 (List.length l) (li l) false, .int .i64 i, .any, .any, .any, .int .i64 (↑(k + 1) : Int), .any, .any, .any, .any, .any, .any, .any, .any, .any, .any, .any, .any, .any, .any, .any, .any, .any, .any, .any, .any, .any, .any, .any, .any, .any, .any, .any, .any, .any, .any, .any, .any, .any, .any, .any, .any, .any, .any, .any, .any, .any, .any, .any, .any, .any, .any, .any, .any, .any, .any, .any] [] 0 [], pcRn_c l i k a s v 0 ++ [decide (a < i) = true, InR IntKind.i64 (a + s), decide (i ≤ a + s) = false, InR IntKind.i64 ((↑k : Int) + (1 : Int)), q (List.length l), ∀ (k : Nat), k < List.length l → [V.int IntKind.i64 (List.getD l k (0 : Int))] = [V.int IntKind.i64 (List.getD l k (0 : Int))], false = true → false = true, q i, (↑k : Int) + (1 : Int) = (↑(k + (1 : Nat)) : Int)]) : Option (Exit × St × List Prop)) := by kernel_rfl
theorem pcRn_p100 (l : List Int) (i : Int) (k : Nat) (a : Int) (s : Int) (v : Int) :
 alongPc Try.prog (pcRn l i k a s v) [true, false, false] = (some (.normal, St.mk [.ros 1 (List.length l) (li l) false, .int .i64 i, .any, .any, .any, .int .i64 (↑(k + 1) : Int), .any, .any, .any, .any, .any, .any, .any, .any, .any, .any, .any, .any, .any, .any, .any, .any, .any, .any, .any, .any, .any, .any, .any, .any, .any, .any, .any, .any, .any, .any, .any, .any, .any, .any, .any, .any, .any, .any, .any, .any, .any, .any, .any, .any, .any, .any, .any, .any, .any, .any, .any] [] 0 [], pcRn_c l i k a s v 0 ++ [decide (a < i) = false, q false, InR IntKind.i64 ((↑k : Int) + (1 : Int)), q (List.length l), ∀ (k : Nat), k < List.length l → [V.int IntKind.i64 (List.getD l k (0 : Int))] = [V.int IntKind.i64 (List.getD l k (0 : Int))], false = true → false = true, q i, (↑k : Int) + (1 : Int) = (↑(k + (1 : Nat)) : Int)]) : Option (Exit × St × List Prop)) := by kernel_rfl
theorem pcRn_p0 (l : List Int) (i : Int) (k : Nat) (a : Int) (s : Int) (v : Int) :
 alongPc Try.prog (pcRn l i k a s v) [false] = (some (.exit 0, St.mk [.ros 1 (List.length l) (li l) false, .int .i64 i, .any, .any, .any, .int .i64 (↑(List.length l) : Int), .any, .any, .any, .any, .any, .any, .any, .any, .any, .any, .any, .any, .any, .any, .any, .any, .any, .any, .any, .any, .any, .any, .any, .any, .any, .any, .any, .any, .any, .any, .any, .any, .any, .any, .any, .any, .any, .any, .any, .any, .any, .any, .any, .any, .any, .any, .any, .any, .any, .any, .any] [] 0 [], [decide ((↑k : Int) < (↑(List.length l) : Int)) = false, q (List.length l), ∀ (k : Nat), k < List.length l → [V.int IntKind.i64 (List.getD l k (0 : Int))] = [V.int IntKind.i64 (List.getD l k (0 : Int))], false = true → false = true, q i, (↑k : Int) = (↑(List.length l) : Int)]) : Option (Exit × St × List Prop)) := by kernel_rfl

noncomputable def pcRj_c (l : List Int) (i : Int) (k : Nat) (a : Int) (s : Int) (a2 : Int) (s2 : Int) (j : Nat) : Nat → List Prop
 | 0 => [decide ((↑j : Int) < (↑(List.length l) : Int)) = true, (0 : Int) ≤ (↑j : Int) ∧ (↑j : Int) < (↑(List.length l) : Int), (0 : Int) ≤ (↑k : Int) ∧ (↑k : Int) < (↑(List.length l) : Int)]
 | 1 => [decide (List.getD l (Int.toNat (↑k : Int)) (0 : Int) < List.getD l (Int.toNat (↑j : Int)) (0 : Int)) = true, InR IntKind.i64 (a + (1 : Int)), (0 : Int) ≤ (↑j : Int) ∧ (↑j : Int) < (↑(List.length l) : Int), (0 : Int) ≤ (↑k : Int) ∧ (↑k : Int) < (↑(List.length l) : Int)]
 | 2 => [decide (List.getD l (Int.toNat (↑k : Int)) (0 : Int) < List.getD l (Int.toNat (↑j : Int)) (0 : Int)) = false, (0 : Int) ≤ (↑j : Int) ∧ (↑j : Int) < (↑(List.length l) : Int), (0 : Int) ≤ (↑k : Int) ∧ (↑k : Int) < (↑(List.length l) : Int)]
 | _ => []
theorem pcRj_p111 (l : List Int) (i : Int) (k : Nat) (a : Int) (s : Int) (a2 : Int) (s2 : Int) (j : Nat) :
 alongPc Try.prog (pcRj l i k a s a2 s2 j) [true, true, true] = (some (.normal, St.mk [.ros 1 (List.length l) (li l) false, .int .i64 i, .any, .any, .any, .int .i64 ↑k, .int .i64 a2, .int .i64 s2, .int .i64 (↑(j + 1) : Int), .any, .any, .any, .any, .any, .any, .any, .any, .any, .any, .any, .any, .any, .any, .any, .any, .any, .any, .any, .any, .any, .any, .any, .any, .any, .any, .any, .any, .any, .any, .any, .any, .any, .any, .any, .any, .any, .any, .any, .any, .any, .any, .any, .any, .any, .any, .any, .any] [] 0 [], pcRj_c l i k a s a2 s2 j 0 ++ (pcRj_c l i k a s a2 s2 j 1 ++ [decide (List.getD l (Int.toNat (↑j : Int)) (0 : Int) = List.getD l (Int.toNat (↑k : Int)) (0 : Int)) = true, InR IntKind.i64 (s + (1 : Int)), InR IntKind.i64 ((↑j : Int) + (1 : Int)), q (List.length l), ∀ (k : Nat), k < List.length l → [V.int IntKind.i64 (List.getD l k (0 : Int))] = [V.int IntKind.i64 (List.getD l k (0 : Int))], false = true → false = true, q i, q (↑k : Int), a + (1 : Int) = a2, s + (1 : Int) = s2, (↑j : Int) + (1 : Int) = (↑(j + (1 : Nat)) : Int)])) : Option (Exit × St × List Prop)) := by kernel_rfl
theorem pcRj_p110 (l : List Int) (i : Int) (k : Nat) (a : Int) (s : Int) (a2 : Int) (s2 : Int) (j : Nat) :
 alongPc Try.prog (pcRj l i k a s a2 s2 j) [true, true, false] = (some (.normal, St.mk [.ros 1 (List.length l) (li l) false, .int .i64 i, .any, .any, .any, .int .i64 ↑k, .int .i64 a2, .int .i64 s2, .int .i64 (↑(j + 1) : Int), .any, .any, .any, .any, .any, .any, .any, .any, .any, .any, .any, .any, .any, .any, .any, .any, .any, .any, .any, .any, .any, .any, .any, .any, .any, .any, .any, .any, .any, .any, .any, .any, .any, .any, .any, .any, .any, .any, .any, .any, .any, .any, .any, .any, .any, .any, .any, .any] [] 0 [], pcRj_c l i k a s a2 s2 j 0 ++ (pcRj_c l i k a s a2 s2 j 1 ++ [decide (List.getD l (Int.toNat (↑j : Int)) (0 : Int) = List.getD l (Int.toNat (↑k : Int)) (0 : Int)) = false, InR IntKind.i64 ((↑j : Int) + (1 : Int)), q (List.length l), ∀ (k : Nat), k < List.length l → [V.int IntKind.i64 (List.getD l k (0 : Int))] = [V.int IntKind.i64 (List.getD l k (0 : Int))], false = true → false = true, q i, q (↑k : Int), a + (1 : Int) = a2, s = s2, (↑j : Int) + (1 : Int) = (↑(j + (1 : Nat)) : Int)])) : Option (Exit × St × List Prop)) := by kernel_rfl
theorem pcRj_p101 (l : List Int) (i : Int) (k : Nat) (a : Int) (s : Int) (a2 : Int) (s2 : Int) (j : Nat) :
 alongPc Try.prog (pcRj l i k a s a2 s2 j) [true, false, true] = (some (.normal, St.mk [.ros 1 (List.length l) (li l) false, .int .i64 i, .any, .any, .any, .int .i64 ↑k, .int .i64 a2, .int .i64 s2, .int .i64 (↑(j + 1) : Int), .any, .any, .any, .any, .any, .any, .any, .any, .any, .any, .any, .any, .any, .any, .any, .any, .any, .any, .any, .any, .any, .any, .any, .any, .any, .any, .any, .any, .any, .any, .any, .any, .any, .any, .any, .any, .any, .any, .any, .any, .any, .any, .any, .any, .any, .any, .any, .any] [] 0 [], pcRj_c l i k a s a2 s2 j 0 ++ (pcRj_c l i k a s a2 s2 j 2 ++ [decide (List.getD l (Int.toNat (↑j : Int)) (0 : Int) = List.getD l (Int.toNat (↑k : Int)) (0 : Int)) = true, InR IntKind.i64 (s + (1 : Int)), InR IntKind.i64 ((↑j : Int) + (1 : Int)), q (List.length l), ∀ (k : Nat), k < List.length l → [V.int IntKind.i64 (List.getD l k (0 : Int))] = [V.int IntKind.i64 (List.getD l k (0 : Int))], false = true → false = true, q i, q (↑k : Int), a = a2, s + (1 : Int) = s2, (↑j : Int) + (1 : Int) = (↑(j + (1 : Nat)) : Int)])) : Option (Exit × St × List Prop)) := by kernel_rfl
theorem pcRj_p100 (l : List Int) (i : Int) (k : Nat) (a : Int) (s : Int) (a2 : Int) (s2 : Int) (j : Nat) :
 alongPc Try.prog (pcRj l i k a s a2 s2 j) [true, false, false] = (some (.normal, St.mk [.ros 1 (List.length l) (li l) false, .int .i64 i, .any, .any, .any, .int .i64 ↑k, .int .i64 a2, .int .i64 s2, .int .i64 (↑(j + 1) : Int), .any, .any, .any, .any, .any, .any, .any, .any, .any, .any, .any, .any, .any, .any, .any, .any, .any, .any, .any, .any, .any, .any, .any, .any, .any, .any, .any, .any, .any, .any, .any, .any, .any, .any, .any, .any, .any, .any, .any, .any, .any, .any, .any, .any, .any, .any, .any, .any] [] 0 [], pcRj_c l i k a s a2 s2 j 0 ++ (pcRj_c l i k a s a2 s2 j 2 ++ [decide (List.getD l (Int.toNat (↑j : Int)) (0 : Int) = List.getD l (Int.toNat (↑k : Int)) (0 : Int)) = false, InR IntKind.i64 ((↑j : Int) + (1 : Int)), q (List.length l), ∀ (k : Nat), k < List.length l → [V.int IntKind.i64 (List.getD l k (0 : Int))] = [V.int IntKind.i64 (List.getD l k (0 : Int))], false = true → false = true, q i, q (↑k : Int), a = a2, s = s2, (↑j : Int) + (1 : Int) = (↑(j + (1 : Nat)) : Int)])) : Option (Exit × St × List Prop)) := by kernel_rfl
theorem pcRj_p0 (l : List Int) (i : Int) (k : Nat) (a : Int) (s : Int) (a2 : Int) (s2 : Int) (j : Nat) :
 alongPc Try.prog (pcRj l i k a s a2 s2 j) [false] = (some (.exit 2, St.mk [.ros 1 (List.length l) (li l) false, .int .i64 i, .any, .any, .any, .int .i64 ↑k, .int .i64 a, .int .i64 s, .int .i64 (↑(List.length l) : Int), .any, .any, .any, .any, .any, .any, .any, .any, .any, .any, .any, .any, .any, .any, .any, .any, .any, .any, .any, .any, .any, .any, .any, .any, .any, .any, .any, .any, .any, .any, .any, .any, .any, .any, .any, .any, .any, .any, .any, .any, .any, .any, .any, .any, .any, .any, .any, .any] [] 0 [], [decide ((↑j : Int) < (↑(List.length l) : Int)) = false, q (List.length l), ∀ (k : Nat), k < List.length l → [V.int IntKind.i64 (List.getD l k (0 : Int))] = [V.int IntKind.i64 (List.getD l k (0 : Int))], false = true → false = true, q i, q (↑k : Int), q a, q s, (↑j : Int) = (↑(List.length l) : Int)]) : Option (Exit × St × List Prop)) := by kernel_rfl

theorem T_nt {l : List Int} (hl : l.length ≤ 1000000) (i : Int) : T Try.prog 21 [lr l, .int .i64 i] [] (.int .i64 (nthV l i)) [] := by
 by_cases h1 : i < 1
 ·exact T.val (T_al (bdNt_p11 l i) Try.func21 ⟨decide_eq_true h1, rfl, trivial⟩) (by rw [nthV, if_neg (by omega)])
 ·by_cases h2 : (l.length : Int) < i
  ·exact T.val (T_al (bdNt_p01 l i) Try.func21 ⟨decide_eq_false h1, decide_eq_true h2, trivial⟩) (by rw [nthV, if_neg (by omega)])
  ·have hS := T_sl (q := 704) (b := 768) (es := 0) (cap := none) (cap' := none) (l := l) (by omega) hl
   have ec : catF 0 (getL []) (li l) = li l := by funext k; rfl
   refine T.val (T_al (bdNt_p00 l i) Try.func21 ?_) (by rw [nthV, if_pos (by omega), Nat.zero_add])
   simp only [All, All_append, pcRn_c, pcRj_c, Nat.zero_add, ec]; and_intros
   all_goals first
    | exact hS
    | exact decide_eq_false h1
    | exact decide_eq_false h2
    | trivial
    | (intro _ _; rfl)
    | (intro _ _; trivial)
    | (simp only [IntKind.min, IntKind.max, IntKind.signed, IntKind.bits, if_true]; omega)
    | omega
/-- How many of the first are greater, or alike. -/
def aF (l : List Int) (v : Int) (j : Nat) : Int := (cntG (l.take j) v : Int)
def sF (l : List Int) (v : Int) (j : Nat) : Int := (cntS (l.take j) v : Int)
theorem take_one {l : List Int} {j : Nat} (h : j < l.length) : l.take (j + 1) = l.take j ++ [l.getD j 0] := by
 rw [List.take_add_one, List.getD_eq_getElem?_getD, List.getElem?_eq_getElem h]; rfl
theorem aF_succ {l : List Int} {v : Int} {j : Nat} (h : j < l.length) : aF l v (j + 1) = if v < l.getD j 0 then aF l v j + 1 else aF l v j := by
 unfold aF cntG
 rw [take_one h, List.countP_append, List.countP_singleton]
 by_cases h1 : v < l.getD j 0
 ·rw [if_pos h1, if_pos (decide_eq_true h1)]; omega
 ·rw [if_neg h1, if_neg (by rw [decide_eq_true_eq]; exact h1)]; omega
theorem sF_succ {l : List Int} {v : Int} {j : Nat} (h : j < l.length) : sF l v (j + 1) = if l.getD j 0 = v then sF l v j + 1 else sF l v j := by
 unfold sF cntS
 rw [take_one h, List.countP_append, List.countP_singleton]
 by_cases h1 : l.getD j 0 = v
 ·rw [if_pos h1, if_pos (decide_eq_true h1)]; omega
 ·rw [if_neg h1, if_neg (by rw [decide_eq_true_eq]; exact h1)]; omega
theorem aF_le (l : List Int) (v : Int) (j : Nat) : 0 ≤ aF l v j ∧ aF l v j ≤ l.length := by
 unfold aF cntG
 have := List.countP_le_length (p := fun x => decide (v < x)) (l := l.take j)
 rw [List.length_take] at this
 omega
theorem sF_le (l : List Int) (v : Int) (j : Nat) : 0 ≤ sF l v j ∧ sF l v j ≤ l.length := by
 unfold sF cntS
 have := List.countP_le_length (p := fun x => decide (x = v)) (l := l.take j)
 rw [List.length_take] at this
 omega
theorem rnL {l : List Int} (hl : l.length ≤ 1000000) (i : Int) {k : Nat} (hk : k < l.length) :
  RLoop Try.prog none 0 (cB (cB (cR (cL (cR (cR (cB (cL (cR (cB (cB (cR (cL (cR (bodyOf Try.f22))))))))))))))) (l.length + 1) (rnJ l i k 0 0 0) (.exit 2) (rnJ l i k (aF l (l.getD k 0) l.length) (sF l (l.getD k 0) l.length) l.length) := by
 have hstep : ∀ j, j < l.length → R Try.prog none 0 (cB (cB (cR (cL (cR (cR (cB (cL (cR (cB (cB (cR (cL (cR (bodyOf Try.f22))))))))))))))) (rnJ l i k (aF l (l.getD k 0) j) (sF l (l.getD k 0) j) j) .normal (rnJ l i k (aF l (l.getD k 0) (j + 1)) (sF l (l.getD k 0) (j + 1)) (j + 1)) := by
  intro j hj
  have ha := aF_le l (l.getD k 0) j
  have hs := sF_le l (l.getD k 0) j
  have ea := aF_succ (v := l.getD k 0) hj
  have es := sF_succ (v := l.getD k 0) hj
  by_cases h1 : l.getD k 0 < l.getD j 0
  ·rw [if_pos h1] at ea
   rw [if_neg (by omega)] at es
   refine R_alongPc NG MO _ (pcRj_p110 l i k _ _ _ _ j) ?_ (Nat.zero_le _)
   simp only [All, All_append, pcRn_c, pcRj_c, Int.toNat_natCast, Nat.zero_add]; and_intros
   all_goals first
    | (rw [decide_eq_true_eq]; omega)
    | (rw [decide_eq_false_iff_not]; omega)
    | with_reducible rfl
    | (intro _ _; with_reducible rfl)
    | (intro _ _; trivial)
    | (simp only [IntKind.min, IntKind.max, IntKind.signed, IntKind.bits, if_true]; omega)
    | omega
    | (intro h; exact h)
    | trivial
  ·rw [if_neg h1] at ea
   by_cases h2 : l.getD j 0 = l.getD k 0
   ·rw [if_pos h2] at es
    refine R_alongPc NG MO _ (pcRj_p101 l i k _ _ _ _ j) ?_ (Nat.zero_le _)
    simp only [All, All_append, pcRn_c, pcRj_c, Int.toNat_natCast, Nat.zero_add]; and_intros
    all_goals first
     | (rw [decide_eq_true_eq]; omega)
     | (rw [decide_eq_false_iff_not]; omega)
     | with_reducible rfl
     | (intro _ _; with_reducible rfl)
     | (intro _ _; trivial)
     | (simp only [IntKind.min, IntKind.max, IntKind.signed, IntKind.bits, if_true]; omega)
     | omega
     | (intro h; exact h)
     | trivial
   ·rw [if_neg h2] at es
    refine R_alongPc NG MO _ (pcRj_p100 l i k _ _ _ _ j) ?_ (Nat.zero_le _)
    simp only [All, All_append, pcRn_c, pcRj_c, Int.toNat_natCast, Nat.zero_add]; and_intros
    all_goals first
     | (rw [decide_eq_true_eq]; omega)
     | (rw [decide_eq_false_iff_not]; omega)
     | with_reducible rfl
     | (intro _ _; with_reducible rfl)
     | (intro _ _; trivial)
     | (simp only [IntKind.min, IntKind.max, IntKind.signed, IntKind.bits, if_true]; omega)
     | omega
     | (intro h; exact h)
     | trivial
 have hend : R Try.prog none 0 (cB (cB (cR (cL (cR (cR (cB (cL (cR (cB (cB (cR (cL (cR (bodyOf Try.f22))))))))))))))) (rnJ l i k (aF l (l.getD k 0) l.length) (sF l (l.getD k 0) l.length) l.length) (.exit 2) (rnJ l i k (aF l (l.getD k 0) l.length) (sF l (l.getD k 0) l.length) l.length) := by
  refine R_alongPc NG MO _ (pcRj_p0 l i k _ _ 0 0 l.length) ?_ (Nat.zero_le _)
  simp only [All, All_append, pcRn_c, pcRj_c, Int.toNat_natCast, Nat.zero_add]; and_intros
  all_goals first
   | (rw [decide_eq_true_eq]; omega)
   | (rw [decide_eq_false_iff_not]; omega)
   | with_reducible rfl
   | (intro _ _; with_reducible rfl)
   | (intro _ _; trivial)
   | (simp only [IntKind.min, IntKind.max, IntKind.signed, IntKind.bits, if_true]; omega)
   | omega
   | (intro h; exact h)
   | trivial
 exact RLoop.inv (fun j => rnJ l i k (aF l (l.getD k 0) j) (sF l (l.getD k 0) j) j) l.length hstep hend (by simp)
end Go.Proofs.Ytpallipnhmoipaa
namespace Go.Proofs.Ytpallipnhmoipaa
open Go Sy Go.Proofs
def ntDb (v : Int) : List V → Heap → Nat → List Cl := fun a _ _ => match a with
 | [.sl s _ _ _ _ _ _, _] => [{ rd := [s], val := .int .i64 v }]
 | _ => []
def ieDb : List V → Heap → Nat → List Cl := fun a _ _ => match a with
 | [.sl s _ _ _ _ _ _, _] => [{ rd := [s], val := .bool true }]
 | _ => []
noncomputable def bdLv : Bd := { f := Try.f20, args := [], kb := { db := dbQ [(12, cVal (.bool true)), (14, cVal (.int .i64 2)), (16, cVal (.int .i64 3)), (18, cVal (.int .i64 5)), (21, ntDb 5)] } }
noncomputable def bdQC (n : Int) (g : Bool) (f s m : Int) : Bd := { f := Try.f3, args := [.int .i64 n], kb := { db := dbQ [(12, cVal (.bool g)), (13, cVal (.bool g)), (14, cVal (.int .i64 f)), (15, cVal (.int .i64 f)), (16, cVal (.int .i64 s)), (17, cVal (.int .i64 s)), (18, cVal (.int .i64 m)), (19, cVal (.int .i64 m)), (20, cVal (.bool true))] } }
noncomputable def bdQN (l : List Int) (i v : Int) : Bd := { f := Try.f4, args := [lr l, .int .i64 i], kb := { db := dbQ [(21, ntDb v), (22, cVal (.int .i64 v)), (23, ieDb), (20, cVal (.bool true))] } }
end Go.Proofs.Ytpallipnhmoipaa
namespace Go.Proofs.Ytpallipnhmoipaa
open Go Sy Go.Proofs
theorem bdLv_p1111 :
  along Try.prog (bdLv) [true, true, true, true] = (some (.bool true, [], [T Try.prog 12 [.int .i64 7] [] (.bool true) [], q2, T Try.prog 14 [.int .i64 7] [] (.int .i64 2) [], q2, T Try.prog 16 [.int .i64 7] [] (.int .i64 3) [], q2, T Try.prog 18 [.int .i64 7] [] (.int .i64 5) [], q2, T Try.prog 21 [.sl (.o 960) 1 0 0 0 3 (some 3), .int .i64 2] [(.o 960, .rows 1 3 (getL [[.int .i64 3], [.int .i64 9], [.int .i64 5]]) false)] (.int .i64 5) [(.o 960, .rows 1 3 (getL [[.int .i64 3], [.int .i64 9], [.int .i64 5]]) false)]]) : Option (V × Heap × List Prop)) := by kernel_rfl

noncomputable def bdQC_c (n : Int) (g : Bool) (f : Int) (s : Int) (m : Int) : Nat → List Prop
 | 0 => [T Try.prog 12 [.int .i64 n] [] (.bool g) [], T Try.prog 13 [.int .i64 n] [] (.bool g) []]
 | 1 => [(g == g) = true, T Try.prog 14 [.int .i64 n] [] (.int .i64 f) [], T Try.prog 15 [.int .i64 n] [] (.int .i64 f) []]
 | 2 => [decide (f = f) = true, T Try.prog 16 [.int .i64 n] [] (.int .i64 s) [], T Try.prog 17 [.int .i64 n] [] (.int .i64 s) []]
 | _ => []
theorem bdQC_p1111 (n : Int) (g : Bool) (f : Int) (s : Int) (m : Int) :
 along Try.prog (bdQC n g f s m) [true, true, true, true] = (some (.bool true, [], bdQC_c n g f s m 0 ++ (bdQC_c n g f s m 1 ++ (bdQC_c n g f s m 2 ++ [decide (s = s) = true, T Try.prog 18 [.int .i64 n] [] (.int .i64 m) [], T Try.prog 19 [.int .i64 n] [] (.int .i64 m) [], decide (m = m) = true, T Try.prog 20 [] [] (.bool true) []]))) : Option (V × Heap × List Prop)) := by kernel_rfl
theorem bdQC_p1110 (n : Int) (g : Bool) (f : Int) (s : Int) (m : Int) :
 along Try.prog (bdQC n g f s m) [true, true, true, false] = (some (.bool false, [], bdQC_c n g f s m 0 ++ (bdQC_c n g f s m 1 ++ (bdQC_c n g f s m 2 ++ [decide (s = s) = true, T Try.prog 18 [.int .i64 n] [] (.int .i64 m) [], T Try.prog 19 [.int .i64 n] [] (.int .i64 m) [], decide (m = m) = false]))) : Option (V × Heap × List Prop)) := by kernel_rfl
theorem bdQC_p1100 (n : Int) (g : Bool) (f : Int) (s : Int) (m : Int) :
 along Try.prog (bdQC n g f s m) [true, true, false, false] = (some (.bool false, [], bdQC_c n g f s m 0 ++ (bdQC_c n g f s m 1 ++ (bdQC_c n g f s m 2 ++ [decide (s = s) = false, q false]))) : Option (V × Heap × List Prop)) := by kernel_rfl
theorem bdQC_p1000 (n : Int) (g : Bool) (f : Int) (s : Int) (m : Int) :
 along Try.prog (bdQC n g f s m) [true, false, false, false] = (some (.bool false, [], bdQC_c n g f s m 0 ++ (bdQC_c n g f s m 1 ++ [decide (f = f) = false, q false, q false])) : Option (V × Heap × List Prop)) := by kernel_rfl
theorem bdQC_p0000 (n : Int) (g : Bool) (f : Int) (s : Int) (m : Int) :
 along Try.prog (bdQC n g f s m) [false, false, false, false] = (some (.bool false, [], bdQC_c n g f s m 0 ++ [(g == g) = false, q false, q false, q false]) : Option (V × Heap × List Prop)) := by kernel_rfl

theorem bdQN_p1 (l : List Int) (i : Int) (v : Int) :
  along Try.prog (bdQN l i v) [true] = (some (.bool true, [], [decide ((200 : Int) < (↑(List.length l) : Int)) = true, T Try.prog 20 [] [] (.bool true) []]) : Option (V × Heap × List Prop)) := by kernel_rfl
theorem bdQN_p011 (l : List Int) (i : Int) (v : Int) :
  along Try.prog (bdQN l i v) [false, true, true] = (some (.bool true, [], [decide ((200 : Int) < (↑(List.length l) : Int)) = false, q0, ∀ (k : Nat), k < List.length l → true = true, ((0 : Nat) + List.length l) * (8 : Nat) ≤ (140737488355328 : Nat), T Try.prog 21 [.sl (.o 384) 1 0 0 0 (0 + List.length l) none, .int .i64 i] [(.o 384, .rows 1 (0 + List.length l) (catF 0 (getL []) (li l)) true)] (.int .i64 v) [(.o 384, .rows 1 (0 + List.length l) (catF 0 (getL []) (li l)) true)], T Try.prog 22 [.ros 1 (List.length l) (li l) false, .int .i64 i] [] (.int .i64 v) [], decide (v = v) = true, T Try.prog 23 [.sl (.o 384) 1 0 0 0 (0 + List.length l) none, .ros 1 (List.length l) (li l) false] [(.o 384, .rows 1 (0 + List.length l) (catF 0 (getL []) (li l)) true)] (.bool true) [(.o 384, .rows 1 (0 + List.length l) (catF 0 (getL []) (li l)) true)], q2, T Try.prog 20 [] [] (.bool true) []]) : Option (V × Heap × List Prop)) := by kernel_rfl
theorem bdQN_p000 (l : List Int) (i : Int) (v : Int) :
  along Try.prog (bdQN l i v) [false, false, false] = (some (.bool false, [], [decide ((200 : Int) < (↑(List.length l) : Int)) = false, q0, ∀ (k : Nat), k < List.length l → true = true, ((0 : Nat) + List.length l) * (8 : Nat) ≤ (140737488355328 : Nat), T Try.prog 21 [.sl (.o 384) 1 0 0 0 (0 + List.length l) none, .int .i64 i] [(.o 384, .rows 1 (0 + List.length l) (catF 0 (getL []) (li l)) true)] (.int .i64 v) [(.o 384, .rows 1 (0 + List.length l) (catF 0 (getL []) (li l)) true)], T Try.prog 22 [.ros 1 (List.length l) (li l) false, .int .i64 i] [] (.int .i64 v) [], decide (v = v) = false, q false]) : Option (V × Heap × List Prop)) := by kernel_rfl

theorem aF_all (l : List Int) (v : Int) : aF l v l.length = cntG l v := by rw [aF, List.take_length]
theorem sF_all (l : List Int) (v : Int) : aF l v l.length + sF l v l.length = cntE l v := by rw [aF_all, sF, List.take_length, cntE_eq]; omega
theorem T_rn {l : List Int} (hl : l.length ≤ 1000000) (i : Int) : T Try.prog 22 [lr l, .int .i64 i] [] (.int .i64 (nthV l i)) [] := by
 have fin : ∀ k, k < l.length → ((aF l (l.getD k 0) l.length < i ∧ i ≤ aF l (l.getD k 0) l.length + sF l (l.getD k 0) l.length) ↔ ((cntG l (l.getD k 0) : Int) < i ∧ i ≤ cntE l (l.getD k 0))) := fun k _ => by rw [sF_all, aF_all]
 rcases loop_all (P := Try.prog) (ro := none) (p := 0) (c := (cB (cB (cR (cL (cR (bodyOf Try.f22))))))) (I := rnI l i) (F := fun m => rnF (l.getD m 0)) (e := fun _ => .ret) (q := fun k => ¬ (aF l (l.getD k 0) l.length < i ∧ i ≤ aF l (l.getD k 0) l.length + sF l (l.getD k 0) l.length)) (n := l.length)
   (fun k hk hq => by
    have hL := rnL hl i hk
    have ha := aF_le l (l.getD k 0) l.length
    have hs := sF_le l (l.getD k 0) l.length
    by_cases h1 : aF l (l.getD k 0) l.length < i
    ·refine R_alongPc NG MO _ (pcRn_p110 l i k (aF l (l.getD k 0) l.length) (sF l (l.getD k 0) l.length) 0) ?_ (Nat.zero_le _)
     refine ⟨by rw [decide_eq_true_eq]; omega, hL, ?_⟩
     simp only [All, All_append, bdQC_c, Int.toNat_natCast, Nat.zero_add]; and_intros
     all_goals first
      | (rw [decide_eq_true_eq]; omega)
      | (rw [decide_eq_false_iff_not]; omega)
      | with_reducible rfl
      | (intro _ _; with_reducible rfl)
      | (intro _ _; trivial)
      | (simp only [IntKind.min, IntKind.max, IntKind.signed, IntKind.bits, if_true]; omega)
      | omega
      | (intro h; exact h)
      | trivial
    ·refine R_alongPc NG MO _ (pcRn_p100 l i k (aF l (l.getD k 0) l.length) (sF l (l.getD k 0) l.length) 0) ?_ (Nat.zero_le _)
     refine ⟨by rw [decide_eq_true_eq]; omega, hL, ?_⟩
     simp only [All, All_append, bdQC_c, Int.toNat_natCast, Nat.zero_add]; and_intros
     (all_goals first
      | (rw [decide_eq_true_eq]; omega)
      | (rw [decide_eq_false_iff_not]; omega)
      | with_reducible rfl
      | (intro _ _; with_reducible rfl)
      | (intro _ _; trivial)
      | (simp only [IntKind.min, IntKind.max, IntKind.signed, IntKind.bits, if_true]; omega)
      | omega
      | (intro h; exact h)
      | trivial))
   (fun k hk hq => by
    have hq := Classical.not_not.1 hq
    have hL := rnL hl i hk
    have ha := aF_le l (l.getD k 0) l.length
    have hs := sF_le l (l.getD k 0) l.length
    refine R_alongPc NG MO _ (pcRn_p111 l i k (aF l (l.getD k 0) l.length) (sF l (l.getD k 0) l.length) (l.getD k 0)) ?_ (Nat.zero_le _)
    refine ⟨by rw [decide_eq_true_eq]; omega, hL, ?_⟩
    simp only [All, All_append, bdQC_c, Int.toNat_natCast, Nat.zero_add]; and_intros
    (all_goals first
     | (rw [decide_eq_true_eq]; omega)
     | (rw [decide_eq_false_iff_not]; omega)
     | with_reducible rfl
     | (intro _ _; with_reducible rfl)
     | (intro _ _; trivial)
     | (simp only [IntKind.min, IntKind.max, IntKind.signed, IntKind.bits, if_true]; omega)
     | omega
     | (intro h; exact h)
     | trivial))
   (by simp) (R_alongPc NG MO _ (pcRn_p0 l i l.length 0 0 0) (by
    simp only [All, All_append, bdQC_c, Int.toNat_natCast, Nat.zero_add]; and_intros
    (all_goals first
     | (rw [decide_eq_true_eq]; omega)
     | (rw [decide_eq_false_iff_not]; omega)
     | with_reducible rfl
     | (intro _ _; with_reducible rfl)
     | (intro _ _; trivial)
     | (simp only [IntKind.min, IntKind.max, IntKind.signed, IntKind.bits, if_true]; omega)
     | omega
     | (intro h; exact h)
     | trivial)) (Nat.zero_le _)) (by simp) with ⟨h, hL⟩ | ⟨m, hm, _, hq, hL⟩
 ·refine T.val (T_al (bdRn_p1 l i 0 0) Try.func22 ?_) (by
   rw [nth_none fun k hk hc => h k hk ((fin k hk).2 hc)])
  refine ⟨hL, ?_⟩
  simp only [All, All_append, bdQC_c]; and_intros
  all_goals first
   | (rw [decide_eq_true_eq]; omega)
   | (rw [decide_eq_false_iff_not]; omega)
   | with_reducible rfl
   | (intro _ _; with_reducible rfl)
   | (intro _ _; trivial)
   | (simp only [IntKind.min, IntKind.max, IntKind.signed, IntKind.bits, if_true]; omega)
   | omega
   | (intro h; exact h)
   | trivial
 ·have hq := Classical.not_not.1 hq
  refine T.val (T_al (bdRn_p0 l i m (l.getD m 0)) Try.func22 ?_) (by
   rw [nth_found ((fin m hm).1 hq)])
  refine ⟨hL, ?_⟩
  simp only [All, All_append, bdQC_c]; and_intros
  all_goals first
   | (rw [decide_eq_true_eq]; omega)
   | (rw [decide_eq_false_iff_not]; omega)
   | with_reducible rfl
   | (intro _ _; with_reducible rfl)
   | (intro _ _; trivial)
   | (simp only [IntKind.min, IntKind.max, IntKind.signed, IntKind.bits, if_true]; omega)
   | omega
   | (intro h; exact h)
   | trivial
theorem T_lv : T Try.prog 20 [] [] (.bool true) [] := by
 have h1 := T_gn 7
 have h2 := T_fa 7
 have h3 := T_sm 7
 have h4 := T_mo 7
 have h5 := T_nt (l := [3, 9, 5]) (by decide) 2
 rw [show goodN 7 = true by decide] at h1
 rw [show fauS 7 = 2 by decide] at h2
 rw [show someS 7 = 3 by decide] at h3
 rw [show mostS 7 = 5 by decide] at h4
 rw [show nthV [3, 9, 5] 2 = 5 from (nth_found (by decide)).symm] at h5
 refine T_al bdLv_p1111 Try.func20 ?_
 simp only [All, All_append, bdQC_c]; and_intros
 all_goals first
  | exact h1
  | exact h2
  | exact h3
  | exact h4
  | rfl
  | trivial
  | (refine T.lendG h5 rfl ?_ (FreeV.int _ _) (by simp) (by rintro n ⟨b, hb⟩; cases hb); simp only [All, All_append, bdQC_c]; and_intros <;> first | rfl | trivial | omega | (intro h; exact h) | (intro k hk; rcases k with _ | _ | _ | _ | k <;> first | rfl | omega))
/-- QuorumCounts. -/
theorem T_qc (n : Int) : T Try.prog 3 [.int .i64 n] [] (.bool true) [] := by
 have h1 := T_gn n
 have h2 := T_rgn n
 have h3 := T_fa n
 have h4 := T_rfa n
 have h5 := T_sm n
 have h6 := T_rsm n
 have h7 := T_mo n
 have h8 := T_rmo n
 have h9 := T_lv
 refine T_al (bdQC_p1111 n (goodN n) (fauS n) (someS n) (mostS n)) Try.func3 ?_
 simp only [All, All_append, bdQC_c]; and_intros
 all_goals first
  | assumption
  | rfl
  | trivial
  | simp
/-- QuorumNths. -/
theorem T_qn {l : List Int} (hl : l.length ≤ 9223372036854775807) (i : Int) : T Try.prog 4 [lr l, .int .i64 i] [] (.bool true) [] := by
 have h9 := T_lv
 by_cases h : (200 : Int) < l.length
 ·refine T_al (bdQN_p1 l i 0) Try.func4 ?_
  simp only [All, All_append, bdQC_c]; and_intros
  all_goals first
   | assumption
   | (rw [decide_eq_true_eq]; omega)
   | trivial
 ·have h1 := T_nt (l := l) (by omega) i
  have h2 := T_rn (l := l) (by omega) i
  have h3 := T_ie (a := l) (b := l) (by omega)
  rw [decide_eq_true rfl] at h3
  have ec : catF 0 (getL []) (li l) = li l := by funext k; rfl
  refine T_al (bdQN_p011 l i (nthV l i)) Try.func4 ?_
  simp only [All, All_append, bdQC_c, Nat.zero_add, ec]; and_intros
  all_goals first
   | assumption
   | (rw [decide_eq_false_iff_not]; omega)
   | (refine T.lendG h1 rfl ?_ (FreeV.int _ _) (by simp) (by rintro n ⟨b, hb⟩; cases hb); simp only [All, All_append, bdQC_c]; and_intros <;> first | rfl | trivial | omega | (intro h; exact h) | (intro h; cases h; done) | (intro k hk; rw [Nat.zero_add]))
   | (refine T.lend h3 rfl ?_; simp only [All, All_append, bdQC_c]; and_intros <;> first | rfl | trivial | (intro _ _; rfl) | (intro _ _; trivial) | omega | (intro h; exact h) | (intro h; cases h; done) | (intro k hk; rw [Nat.zero_add]))
   | (simp; done)
   | omega
   | (intro _ _; trivial)
   | rfl
   | trivial
end Go.Proofs.Ytpallipnhmoipaa
namespace Go.Proofs.Ytpallipnhmoipaa
open Go Sy Go.Proofs
def tab (f : Nat → Int) (n : Nat) : List Int := (List.range n).map f
theorem tab_len (f : Nat → Int) (n : Nat) : (tab f n).length = n := by simp [tab]
theorem tab_get {f : Nat → Int} {n i : Nat} (h : i < n) : (tab f n).getD i 0 = f i := by
 rw [tab, List.getD_eq_getElem?_getD, List.getElem?_map, List.getElem?_range h]; rfl
theorem cellsInt : Try.prog.cellsOf 3 = 1 := by kernel_rfl
theorem sg_ints (U : Imm) {d : Nat} {cs : List V} (h : ShC Try.prog d 25 cs) : ∃ l : List Int, CsLe U cs [lr l] ∧ l.length ≤ 9223372036854775807 := by
 obtain ⟨d, len, f, rfl, hl, hf⟩ := sh_slice h Try.underlying25
 obtain ⟨s, hs⟩ := choose_fn (α := Int) (n := len) (p := fun i n => f i = [.int .i64 n]) fun i hi => by
  obtain ⟨n, h1, _⟩ := sh_int (hf i hi) Try.underlying3
  exact ⟨n, h1⟩
 refine ⟨tab s len, ?_, by rw [tab_len]; exact hl⟩
 rw [cellsInt, lr, tab_len]
 exact CsLe.ros fun i hi => by
  rw [hs i hi, li, tab_get hi]; exact CsLe.refl _ _
end Go.Proofs.Ytpallipnhmoipaa
