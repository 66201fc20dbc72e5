/-
  Contracts and laws that the claim's theorem leans on, joined out of the texts Ma2 Ma3D Ma3 SyPrim Mb0D Mb0 Mb1D Mb1 Mb2D (own work of this seat): Contracts: the i-th greatest; Contracts: the document's i-th greatest; that the law lives; QuorumCounts, QuorumNths; Contracts: the document's i-th greatest; that the law lives; QuorumCounts, QuorumNths; Contracts of operations: copying into, and appending within, an own row; Contracts: one more signer, by the program; Contracts: one more signer, by the program; Contracts: one more signer, by the document; signs that are alike; Contracts: one more signer, by the document; signs that are alike; Contracts: who signed: a range over a function.
-/
import Derived.Test.YtpallipnhmoipaaC04
set_option linter.unusedVariables false
set_option linter.unusedSimpArgs false
set_option maxHeartbeats 1000000
namespace Go.Proofs.Ytpallipnhmoipaa
open Go Sy Go.Proofs
theorem bdNt_p11 (l : List Int) (i : Int) :
  along Try.prog (bdNt l i) [true, true] = (some (.int .i64 0, [], [decide (i < (1 : Int)) = true, q2]) : Option (V × Heap × List Prop)) := by kernel_rfl
theorem bdNt_p01 (l : List Int) (i : Int) :
  along Try.prog (bdNt l i) [false, true] = (some (.int .i64 0, [], [decide (i < (1 : Int)) = false, decide ((↑(List.length l) : Int) < i) = true]) : Option (V × Heap × List Prop)) := by kernel_rfl
theorem bdNt_p00 (l : List Int) (i : Int) :
  along Try.prog (bdNt l i) [false, false] = (some (.int .i64 (List.getD (srtD l) (0 + Int.toNat (i - (1 : Int))) (0 : Int)), [], [decide (i < (1 : Int)) = false, decide ((↑(List.length l) : Int) < i) = false, q0, ∀ (k : Nat), k < List.length l → true = true, ((0 : Nat) + List.length l) * (8 : Nat) ≤ (140737488355328 : Nat), T Try.prog 45 [.ifc 25 (.sl (.o 704) 1 0 0 0 (0 + List.length l) none), .fn (.func 46) [] [.ptr (.o 768) 0 0 0 0]] [(.o 704, .rows 1 (0 + List.length l) (catF 0 (getL []) (li l)) true), (.o 768, .flat [.sl (.o 704) 1 0 0 0 (0 + List.length l) none])] (.tup []) [(.o 704, .rows 1 (List.length l) (li (srtD l)) true), (.o 768, .flat [.sl (.o 704) 1 0 0 0 (List.length l) none])], InR IntKind.i64 (i - (1 : Int)), (0 : Int) ≤ i - (1 : Int) ∧ i - (1 : Int) < (↑(List.length l) : Int), (0 : Nat) + Int.toNat (i - (1 : Int)) < List.length l]) : Option (V × Heap × List Prop)) := by kernel_rfl

theorem bdRn_p1 (l : List Int) (i : Int) (m : Nat) (v : Int) :
  along Try.prog (bdRn l i m v) [true] = (some (.int .i64 0, [], [RLoop Try.prog none 0 (cB (cB (cR (cL (cR (bodyOf (Bd.f (bdRn l i m v)))))))) (List.length l + 1) (St.mk [.ros 1 (List.length l) (li l) false, .int .i64 i, .any, .any, .any, .int .i64 0, .any, .any, .any, .any, .any, .any, .any, .any, .any, .any, .any, .any, .any, .any, .any, .any, .any, .any, .any, .any, .any, .any, .any, .any, .any, .any, .any, .any, .any, .any, .any, .any, .any, .any, .any, .any, .any, .any, .any, .any, .any, .any, .any, .any, .any, .any, .any, .any, .any, .any, .any] [] 0 []) (.exit 0) (St.mk [.ros 1 (List.length l) (li l) false, .int .i64 i, .any, .any, .any, .int .i64 (↑(List.length l) : Int), .any, .any, .any, .any, .any, .any, .any, .any, .any, .any, .any, .any, .any, .any, .any, .any, .any, .any, .any, .any, .any, .any, .any, .any, .any, .any, .any, .any, .any, .any, .any, .any, .any, .any, .any, .any, .any, .any, .any, .any, .any, .any, .any, .any, .any, .any, .any, .any, .any, .any, .any] [] 0 []), q (List.length l), ∀ (k : Nat), k < List.length l → [V.int IntKind.i64 (List.getD l k (0 : Int))] = [V.int IntKind.i64 (List.getD l k (0 : Int))], false = true → false = true, q i, q1]) : Option (V × Heap × List Prop)) := by kernel_rfl
theorem bdRn_p0 (l : List Int) (i : Int) (m : Nat) (v : Int) :
  along Try.prog (bdRn l i m v) [false] = (some (.int .i64 v, [], [RLoop Try.prog none 0 (cB (cB (cR (cL (cR (bodyOf (Bd.f (bdRn l i m v)))))))) (m + 1) (St.mk [.ros 1 (List.length l) (li l) false, .int .i64 i, .any, .any, .any, .int .i64 0, .any, .any, .any, .any, .any, .any, .any, .any, .any, .any, .any, .any, .any, .any, .any, .any, .any, .any, .any, .any, .any, .any, .any, .any, .any, .any, .any, .any, .any, .any, .any, .any, .any, .any, .any, .any, .any, .any, .any, .any, .any, .any, .any, .any, .any, .any, .any, .any, .any, .any, .any] [] 0 []) .ret (St.mk [.any, .any, .any, .any, .int .i64 v, .any, .any, .any, .any, .any, .any, .any, .any, .any, .any, .any, .any, .any, .any, .any, .any, .any, .any, .any, .any, .any, .any, .any, .any, .any, .any, .any, .any, .any, .any, .any, .any, .any, .any, .any, .any, .any, .any, .any, .any, .any, .any, .any, .any, .any, .any, .any, .any, .any, .any, .any, .any] [] 0 []), q (List.length l), ∀ (k : Nat), k < List.length l → [V.int IntKind.i64 (List.getD l k (0 : Int))] = [V.int IntKind.i64 (List.getD l k (0 : Int))], false = true → false = true, q i, q1]) : Option (V × Heap × List Prop)) := by kernel_rfl

noncomputable def pcRn_c (l : List Int) (i : Int) (k : Nat) (a : Int) (s : Int) (v : Int) : Nat → List Prop
 | 0 => [decide ((↑k : Int) < (↑(List.length l) : Int)) = true, RLoop Try.prog none 0 (cB (cB (cR (cL (cR (cR (cB (cL (cR (Pc.c (pcRn l i k a s v))))))))))) (List.length l + 1) (St.mk [.ros 1 (List.length l) (li l) false, .int .i64 i, .any, .any, .any, .int .i64 ↑k, .int .i64 0, .int .i64 0, .int .i64 0, .any, .any, .any, .any, .any, .any, .any, .any, .any, .any, .any, .any, .any, .any, .any, .any, .any, .any, .any, .any, .any, .any, .any, .any, .any, .any, .any, .any, .any, .any, .any, .any, .any, .any, .any, .any, .any, .any, .any, .any, .any, .any, .any, .any, .any, .any, .any, .any] [] 0 []) (.exit 2) (St.mk [.ros 1 (List.length l) (li l) false, .int .i64 i, .any, .any, .any, .int .i64 ↑k, .int .i64 a, .int .i64 s, .int .i64 (↑(List.length l) : Int), .any, .any, .any, .any, .any, .any, .any, .any, .any, .any, .any, .any, .any, .any, .any, .any, .any, .any, .any, .any, .any, .any, .any, .any, .any, .any, .any, .any, .any, .any, .any, .any, .any, .any, .any, .any, .any, .any, .any, .any, .any, .any, .any, .any, .any, .any, .any, .any] [] 0 []), q (List.length l), ∀ (k : Nat), k < List.length l → [V.int IntKind.i64 (List.getD l k (0 : Int))] = [V.int IntKind.i64 (List.getD l k (0 : Int))], false = true → false = true, q i, q (↑k : Int), q1, q1, q1]
 | _ => []
theorem pcRn_p111 (l : List Int) (i : Int) (k : Nat) (a : Int) (s : Int) (v : Int) :
 alongPc Try.prog (pcRn l i k a s v) [true, true, true] = (some (.ret, St.mk [.any, .any, .any, .any, .int .i64 v, .any, .any, .any, .any, .any, .any, .any, .any, .any, .any, .any, .any, .any, .any, .any, .any, .any, .any, .any, .any, .any, .any, .any, .any, .any, .any, .any, .any, .any, .any, .any, .any, .any, .any, .any, .any, .any, .any, .any, .any, .any, .any, .any, .any, .any, .any, .any, .any, .any, .any, .any, .any] [] 0 [], pcRn_c l i k a s v 0 ++ [decide (a < i) = true, InR IntKind.i64 (a + s), decide (i ≤ a + s) = true, (0 : Int) ≤ (↑k : Int) ∧ (↑k : Int) < (↑(List.length l) : Int), List.getD l (Int.toNat (↑k : Int)) (0 : Int) = v]) : Option (Exit × St × List Prop)) := by kernel_rfl
theorem pcRn_p110 (l : List Int) (i : Int) (k : Nat) (a : Int) (s : Int) (v : Int) :
 alongPc Try.prog (pcRn l i k a s v) [true, true, false] = (some (.normal, St.mk [.ros 1 (List.length l) (li l) false, .int .i64 i, .any, .any, .any, .int .i64 (↑(k + 1) : Int), .any, .any, .any, .any, .any, .any, .any, .any, .any, .any, .any, .any, .any, .any, .any, .any, .any, .any, .any, .any, .any, .any, .any, .any, .any, .any, .any, .any, .any, .any, .any, .any, .any, .any, .any, .any, .any, .any, .any, .any, .any, .any, .any, .any, .any, .any, .any, .any, .any, .any, .any] [] 0 [], pcRn_c l i k a s v 0 ++ [decide (a < i) = true, InR IntKind.i64 (a + s), decide (i ≤ a + s) = false, InR IntKind.i64 ((↑k : Int) + (1 : Int)), q (List.length l), ∀ (k : Nat), k < List.length l → [V.int IntKind.i64 (List.getD l k (0 : Int))] = [V.int IntKind.i64 (List.getD l k (0 : Int))], false = true → false = true, q i, (↑k : Int) + (1 : Int) = (↑(k + (1 : Nat)) : Int)]) : Option (Exit × St × List Prop)) := by kernel_rfl
theorem pcRn_p100 (l : List Int) (i : Int) (k : Nat) (a : Int) (s : Int) (v : Int) :
 alongPc Try.prog (pcRn l i k a s v) [true, false, false] = (some (.normal, St.mk [.ros 1 (List.length l) (li l) false, .int .i64 i, .any, .any, .any, .int .i64 (↑(k + 1) : Int), .any, .any, .any, .any, .any, .any, .any, .any, .any, .any, .any, .any, .any, .any, .any, .any, .any, .any, .any, .any, .any, .any, .any, .any, .any, .any, .any, .any, .any, .any, .any, .any, .any, .any, .any, .any, .any, .any, .any, .any, .any, .any, .any, .any, .any, .any, .any, .any, .any, .any, .any] [] 0 [], pcRn_c l i k a s v 0 ++ [decide (a < i) = false, q false, InR IntKind.i64 ((↑k : Int) + (1 : Int)), q (List.length l), ∀ (k : Nat), k < List.length l → [V.int IntKind.i64 (List.getD l k (0 : Int))] = [V.int IntKind.i64 (List.getD l k (0 : Int))], false = true → false = true, q i, (↑k : Int) + (1 : Int) = (↑(k + (1 : Nat)) : Int)]) : Option (Exit × St × List Prop)) := by kernel_rfl
theorem pcRn_p0 (l : List Int) (i : Int) (k : Nat) (a : Int) (s : Int) (v : Int) :
 alongPc Try.prog (pcRn l i k a s v) [false] = (some (.exit 0, St.mk [.ros 1 (List.length l) (li l) false, .int .i64 i, .any, .any, .any, .int .i64 (↑(List.length l) : Int), .any, .any, .any, .any, .any, .any, .any, .any, .any, .any, .any, .any, .any, .any, .any, .any, .any, .any, .any, .any, .any, .any, .any, .any, .any, .any, .any, .any, .any, .any, .any, .any, .any, .any, .any, .any, .any, .any, .any, .any, .any, .any, .any, .any, .any, .any, .any, .any, .any, .any, .any] [] 0 [], [decide ((↑k : Int) < (↑(List.length l) : Int)) = false, q (List.length l), ∀ (k : Nat), k < List.length l → [V.int IntKind.i64 (List.getD l k (0 : Int))] = [V.int IntKind.i64 (List.getD l k (0 : Int))], false = true → false = true, q i, (↑k : Int) = (↑(List.length l) : Int)]) : Option (Exit × St × List Prop)) := by kernel_rfl

noncomputable def pcRj_c (l : List Int) (i : Int) (k : Nat) (a : Int) (s : Int) (a2 : Int) (s2 : Int) (j : Nat) : Nat → List Prop
 | 0 => [decide ((↑j : Int) < (↑(List.length l) : Int)) = true, (0 : Int) ≤ (↑j : Int) ∧ (↑j : Int) < (↑(List.length l) : Int), (0 : Int) ≤ (↑k : Int) ∧ (↑k : Int) < (↑(List.length l) : Int)]
 | 1 => [decide (List.getD l (Int.toNat (↑k : Int)) (0 : Int) < List.getD l (Int.toNat (↑j : Int)) (0 : Int)) = true, InR IntKind.i64 (a + (1 : Int)), (0 : Int) ≤ (↑j : Int) ∧ (↑j : Int) < (↑(List.length l) : Int), (0 : Int) ≤ (↑k : Int) ∧ (↑k : Int) < (↑(List.length l) : Int)]
 | 2 => [decide (List.getD l (Int.toNat (↑k : Int)) (0 : Int) < List.getD l (Int.toNat (↑j : Int)) (0 : Int)) = false, (0 : Int) ≤ (↑j : Int) ∧ (↑j : Int) < (↑(List.length l) : Int), (0 : Int) ≤ (↑k : Int) ∧ (↑k : Int) < (↑(List.length l) : Int)]
 | _ => []
theorem pcRj_p111 (l : List Int) (i : Int) (k : Nat) (a : Int) (s : Int) (a2 : Int) (s2 : Int) (j : Nat) :
 alongPc Try.prog (pcRj l i k a s a2 s2 j) [true, true, true] = (some (.normal, St.mk [.ros 1 (List.length l) (li l) false, .int .i64 i, .any, .any, .any, .int .i64 ↑k, .int .i64 a2, .int .i64 s2, .int .i64 (↑(j + 1) : Int), .any, .any, .any, .any, .any, .any, .any, .any, .any, .any, .any, .any, .any, .any, .any, .any, .any, .any, .any, .any, .any, .any, .any, .any, .any, .any, .any, .any, .any, .any, .any, .any, .any, .any, .any, .any, .any, .any, .any, .any, .any, .any, .any, .any, .any, .any, .any, .any] [] 0 [], pcRj_c l i k a s a2 s2 j 0 ++ (pcRj_c l i k a s a2 s2 j 1 ++ [decide (List.getD l (Int.toNat (↑j : Int)) (0 : Int) = List.getD l (Int.toNat (↑k : Int)) (0 : Int)) = true, InR IntKind.i64 (s + (1 : Int)), InR IntKind.i64 ((↑j : Int) + (1 : Int)), q (List.length l), ∀ (k : Nat), k < List.length l → [V.int IntKind.i64 (List.getD l k (0 : Int))] = [V.int IntKind.i64 (List.getD l k (0 : Int))], false = true → false = true, q i, q (↑k : Int), a + (1 : Int) = a2, s + (1 : Int) = s2, (↑j : Int) + (1 : Int) = (↑(j + (1 : Nat)) : Int)])) : Option (Exit × St × List Prop)) := by kernel_rfl
theorem pcRj_p110 (l : List Int) (i : Int) (k : Nat) (a : Int) (s : Int) (a2 : Int) (s2 : Int) (j : Nat) :
 alongPc Try.prog (pcRj l i k a s a2 s2 j) [true, true, false] = (some (.normal, St.mk [.ros 1 (List.length l) (li l) false, .int .i64 i, .any, .any, .any, .int .i64 ↑k, .int .i64 a2, .int .i64 s2, .int .i64 (↑(j + 1) : Int), .any, .any, .any, .any, .any, .any, .any, .any, .any, .any, .any, .any, .any, .any, .any, .any, .any, .any, .any, .any, .any, .any, .any, .any, .any, .any, .any, .any, .any, .any, .any, .any, .any, .any, .any, .any, .any, .any, .any, .any, .any, .any, .any, .any, .any, .any, .any, .any] [] 0 [], pcRj_c l i k a s a2 s2 j 0 ++ (pcRj_c l i k a s a2 s2 j 1 ++ [decide (List.getD l (Int.toNat (↑j : Int)) (0 : Int) = List.getD l (Int.toNat (↑k : Int)) (0 : Int)) = false, InR IntKind.i64 ((↑j : Int) + (1 : Int)), q (List.length l), ∀ (k : Nat), k < List.length l → [V.int IntKind.i64 (List.getD l k (0 : Int))] = [V.int IntKind.i64 (List.getD l k (0 : Int))], false = true → false = true, q i, q (↑k : Int), a + (1 : Int) = a2, s = s2, (↑j : Int) + (1 : Int) = (↑(j + (1 : Nat)) : Int)])) : Option (Exit × St × List Prop)) := by kernel_rfl
theorem pcRj_p101 (l : List Int) (i : Int) (k : Nat) (a : Int) (s : Int) (a2 : Int) (s2 : Int) (j : Nat) :
 alongPc Try.prog (pcRj l i k a s a2 s2 j) [true, false, true] = (some (.normal, St.mk [.ros 1 (List.length l) (li l) false, .int .i64 i, .any, .any, .any, .int .i64 ↑k, .int .i64 a2, .int .i64 s2, .int .i64 (↑(j + 1) : Int), .any, .any, .any, .any, .any, .any, .any, .any, .any, .any, .any, .any, .any, .any, .any, .any, .any, .any, .any, .any, .any, .any, .any, .any, .any, .any, .any, .any, .any, .any, .any, .any, .any, .any, .any, .any, .any, .any, .any, .any, .any, .any, .any, .any, .any, .any, .any, .any] [] 0 [], pcRj_c l i k a s a2 s2 j 0 ++ (pcRj_c l i k a s a2 s2 j 2 ++ [decide (List.getD l (Int.toNat (↑j : Int)) (0 : Int) = List.getD l (Int.toNat (↑k : Int)) (0 : Int)) = true, InR IntKind.i64 (s + (1 : Int)), InR IntKind.i64 ((↑j : Int) + (1 : Int)), q (List.length l), ∀ (k : Nat), k < List.length l → [V.int IntKind.i64 (List.getD l k (0 : Int))] = [V.int IntKind.i64 (List.getD l k (0 : Int))], false = true → false = true, q i, q (↑k : Int), a = a2, s + (1 : Int) = s2, (↑j : Int) + (1 : Int) = (↑(j + (1 : Nat)) : Int)])) : Option (Exit × St × List Prop)) := by kernel_rfl
theorem pcRj_p100 (l : List Int) (i : Int) (k : Nat) (a : Int) (s : Int) (a2 : Int) (s2 : Int) (j : Nat) :
 alongPc Try.prog (pcRj l i k a s a2 s2 j) [true, false, false] = (some (.normal, St.mk [.ros 1 (List.length l) (li l) false, .int .i64 i, .any, .any, .any, .int .i64 ↑k, .int .i64 a2, .int .i64 s2, .int .i64 (↑(j + 1) : Int), .any, .any, .any, .any, .any, .any, .any, .any, .any, .any, .any, .any, .any, .any, .any, .any, .any, .any, .any, .any, .any, .any, .any, .any, .any, .any, .any, .any, .any, .any, .any, .any, .any, .any, .any, .any, .any, .any, .any, .any, .any, .any, .any, .any, .any, .any, .any, .any] [] 0 [], pcRj_c l i k a s a2 s2 j 0 ++ (pcRj_c l i k a s a2 s2 j 2 ++ [decide (List.getD l (Int.toNat (↑j : Int)) (0 : Int) = List.getD l (Int.toNat (↑k : Int)) (0 : Int)) = false, InR IntKind.i64 ((↑j : Int) + (1 : Int)), q (List.length l), ∀ (k : Nat), k < List.length l → [V.int IntKind.i64 (List.getD l k (0 : Int))] = [V.int IntKind.i64 (List.getD l k (0 : Int))], false = true → false = true, q i, q (↑k : Int), a = a2, s = s2, (↑j : Int) + (1 : Int) = (↑(j + (1 : Nat)) : Int)])) : Option (Exit × St × List Prop)) := by kernel_rfl
theorem pcRj_p0 (l : List Int) (i : Int) (k : Nat) (a : Int) (s : Int) (a2 : Int) (s2 : Int) (j : Nat) :
 alongPc Try.prog (pcRj l i k a s a2 s2 j) [false] = (some (.exit 2, St.mk [.ros 1 (List.length l) (li l) false, .int .i64 i, .any, .any, .any, .int .i64 ↑k, .int .i64 a, .int .i64 s, .int .i64 (↑(List.length l) : Int), .any, .any, .any, .any, .any, .any, .any, .any, .any, .any, .any, .any, .any, .any, .any, .any, .any, .any, .any, .any, .any, .any, .any, .any, .any, .any, .any, .any, .any, .any, .any, .any, .any, .any, .any, .any, .any, .any, .any, .any, .any, .any, .any, .any, .any, .any, .any, .any] [] 0 [], [decide ((↑j : Int) < (↑(List.length l) : Int)) = false, q (List.length l), ∀ (k : Nat), k < List.length l → [V.int IntKind.i64 (List.getD l k (0 : Int))] = [V.int IntKind.i64 (List.getD l k (0 : Int))], false = true → false = true, q i, q (↑k : Int), q a, q s, (↑j : Int) = (↑(List.length l) : Int)]) : Option (Exit × St × List Prop)) := by kernel_rfl

theorem T_nt {l : List Int} (hl : l.length ≤ 1000000) (i : Int) : T Try.prog 21 [lr l, .int .i64 i] [] (.int .i64 (nthV l i)) [] := by
 by_cases h1 : i < 1
 ·exact T.val (T_al (bdNt_p11 l i) Try.func21 ⟨decide_eq_true h1, rfl, trivial⟩) (by rw [nthV, if_neg (by omega)])
 ·by_cases h2 : (l.length : Int) < i
  ·exact T.val (T_al (bdNt_p01 l i) Try.func21 ⟨decide_eq_false h1, decide_eq_true h2, trivial⟩) (by rw [nthV, if_neg (by omega)])
  ·have hS := T_sl (q := 704) (b := 768) (es := 0) (cap := none) (cap' := none) (l := l) (by omega) hl
   have ec : catF 0 (getL []) (li l) = li l := by funext k; rfl
   refine T.val (T_al (bdNt_p00 l i) Try.func21 ?_) (by rw [nthV, if_pos (by omega), Nat.zero_add])
   simp only [All, All_append, pcRn_c, pcRj_c, Nat.zero_add, ec]; and_intros
   all_goals first
    | exact hS
    | exact decide_eq_false h1
    | exact decide_eq_false h2
    | trivial
    | (intro _ _; rfl)
    | (intro _ _; trivial)
    | (simp only [IntKind.min, IntKind.max, IntKind.signed, IntKind.bits, if_true]; omega)
    | omega
/-- How many of the first are greater, or alike. -/
def aF (l : List Int) (v : Int) (j : Nat) : Int := (cntG (l.take j) v : Int)
def sF (l : List Int) (v : Int) (j : Nat) : Int := (cntS (l.take j) v : Int)
theorem take_one {l : List Int} {j : Nat} (h : j < l.length) : l.take (j + 1) = l.take j ++ [l.getD j 0] := by
 rw [List.take_add_one, List.getD_eq_getElem?_getD, List.getElem?_eq_getElem h]; rfl
theorem aF_succ {l : List Int} {v : Int} {j : Nat} (h : j < l.length) : aF l v (j + 1) = if v < l.getD j 0 then aF l v j + 1 else aF l v j := by
 unfold aF cntG
 rw [take_one h, List.countP_append, List.countP_singleton]
 by_cases h1 : v < l.getD j 0
 ·rw [if_pos h1, if_pos (decide_eq_true h1)]; omega
 ·rw [if_neg h1, if_neg (by rw [decide_eq_true_eq]; exact h1)]; omega
theorem sF_succ {l : List Int} {v : Int} {j : Nat} (h : j < l.length) : sF l v (j + 1) = if l.getD j 0 = v then sF l v j + 1 else sF l v j := by
 unfold sF cntS
 rw [take_one h, List.countP_append, List.countP_singleton]
 by_cases h1 : l.getD j 0 = v
 ·rw [if_pos h1, if_pos (decide_eq_true h1)]; omega
 ·rw [if_neg h1, if_neg (by rw [decide_eq_true_eq]; exact h1)]; omega
theorem aF_le (l : List Int) (v : Int) (j : Nat) : 0 ≤ aF l v j ∧ aF l v j ≤ l.length := by
 unfold aF cntG
 have := List.countP_le_length (p := fun x => decide (v < x)) (l := l.take j)
 rw [List.length_take] at this
 omega
theorem sF_le (l : List Int) (v : Int) (j : Nat) : 0 ≤ sF l v j ∧ sF l v j ≤ l.length := by
 unfold sF cntS
 have := List.countP_le_length (p := fun x => decide (x = v)) (l := l.take j)
 rw [List.length_take] at this
 omega
theorem rnL {l : List Int} (hl : l.length ≤ 1000000) (i : Int) {k : Nat} (hk : k < l.length) :
  RLoop Try.prog none 0 (cB (cB (cR (cL (cR (cR (cB (cL (cR (cB (cB (cR (cL (cR (bodyOf Try.f22))))))))))))))) (l.length + 1) (rnJ l i k 0 0 0) (.exit 2) (rnJ l i k (aF l (l.getD k 0) l.length) (sF l (l.getD k 0) l.length) l.length) := by
 have hstep : ∀ j, j < l.length → R Try.prog none 0 (cB (cB (cR (cL (cR (cR (cB (cL (cR (cB (cB (cR (cL (cR (bodyOf Try.f22))))))))))))))) (rnJ l i k (aF l (l.getD k 0) j) (sF l (l.getD k 0) j) j) .normal (rnJ l i k (aF l (l.getD k 0) (j + 1)) (sF l (l.getD k 0) (j + 1)) (j + 1)) := by
  intro j hj
  have ha := aF_le l (l.getD k 0) j
  have hs := sF_le l (l.getD k 0) j
  have ea := aF_succ (v := l.getD k 0) hj
  have es := sF_succ (v := l.getD k 0) hj
  by_cases h1 : l.getD k 0 < l.getD j 0
  ·rw [if_pos h1] at ea
   rw [if_neg (by omega)] at es
   refine R_alongPc NG MO _ (pcRj_p110 l i k _ _ _ _ j) ?_ (Nat.zero_le _)
   simp only [All, All_append, pcRn_c, pcRj_c, Int.toNat_natCast, Nat.zero_add]; and_intros
   all_goals first
    | (rw [decide_eq_true_eq]; omega)
    | (rw [decide_eq_false_iff_not]; omega)
    | with_reducible rfl
    | (intro _ _; with_reducible rfl)
    | (intro _ _; trivial)
    | (simp only [IntKind.min, IntKind.max, IntKind.signed, IntKind.bits, if_true]; omega)
    | omega
    | (intro h; exact h)
    | trivial
  ·rw [if_neg h1] at ea
   by_cases h2 : l.getD j 0 = l.getD k 0
   ·rw [if_pos h2] at es
    refine R_alongPc NG MO _ (pcRj_p101 l i k _ _ _ _ j) ?_ (Nat.zero_le _)
    simp only [All, All_append, pcRn_c, pcRj_c, Int.toNat_natCast, Nat.zero_add]; and_intros
    all_goals first
     | (rw [decide_eq_true_eq]; omega)
     | (rw [decide_eq_false_iff_not]; omega)
     | with_reducible rfl
     | (intro _ _; with_reducible rfl)
     | (intro _ _; trivial)
     | (simp only [IntKind.min, IntKind.max, IntKind.signed, IntKind.bits, if_true]; omega)
     | omega
     | (intro h; exact h)
     | trivial
   ·rw [if_neg h2] at es
    refine R_alongPc NG MO _ (pcRj_p100 l i k _ _ _ _ j) ?_ (Nat.zero_le _)
    simp only [All, All_append, pcRn_c, pcRj_c, Int.toNat_natCast, Nat.zero_add]; and_intros
    all_goals first
     | (rw [decide_eq_true_eq]; omega)
     | (rw [decide_eq_false_iff_not]; omega)
     | with_reducible rfl
     | (intro _ _; with_reducible rfl)
     | (intro _ _; trivial)
     | (simp only [IntKind.min, IntKind.max, IntKind.signed, IntKind.bits, if_true]; omega)
     | omega
     | (intro h; exact h)
     | trivial
 have hend : R Try.prog none 0 (cB (cB (cR (cL (cR (cR (cB (cL (cR (cB (cB (cR (cL (cR (bodyOf Try.f22))))))))))))))) (rnJ l i k (aF l (l.getD k 0) l.length) (sF l (l.getD k 0) l.length) l.length) (.exit 2) (rnJ l i k (aF l (l.getD k 0) l.length) (sF l (l.getD k 0) l.length) l.length) := by
  refine R_alongPc NG MO _ (pcRj_p0 l i k _ _ 0 0 l.length) ?_ (Nat.zero_le _)
  simp only [All, All_append, pcRn_c, pcRj_c, Int.toNat_natCast, Nat.zero_add]; and_intros
  all_goals first
   | (rw [decide_eq_true_eq]; omega)
   | (rw [decide_eq_false_iff_not]; omega)
   | with_reducible rfl
   | (intro _ _; with_reducible rfl)
   | (intro _ _; trivial)
   | (simp only [IntKind.min, IntKind.max, IntKind.signed, IntKind.bits, if_true]; omega)
   | omega
   | (intro h; exact h)
   | trivial
 exact RLoop.inv (fun j => rnJ l i k (aF l (l.getD k 0) j) (sF l (l.getD k 0) j) j) l.length hstep hend (by simp)
end Go.Proofs.Ytpallipnhmoipaa
namespace Go.Proofs.Ytpallipnhmoipaa
open Go Sy Go.Proofs
def ntDb (v : Int) : List V → Heap → Nat → List Cl := fun a _ _ => match a with
 | [.sl s _ _ _ _ _ _, _] => [{ rd := [s], val := .int .i64 v }]
 | _ => []
def ieDb : List V → Heap → Nat → List Cl := fun a _ _ => match a with
 | [.sl s _ _ _ _ _ _, _] => [{ rd := [s], val := .bool true }]
 | _ => []
noncomputable def bdLv : Bd := { f := Try.f20, args := [], kb := { db := dbQ [(12, cVal (.bool true)), (14, cVal (.int .i64 2)), (16, cVal (.int .i64 3)), (18, cVal (.int .i64 5)), (21, ntDb 5)] } }
noncomputable def bdQC (n : Int) (g : Bool) (f s m : Int) : Bd := { f := Try.f3, args := [.int .i64 n], kb := { db := dbQ [(12, cVal (.bool g)), (13, cVal (.bool g)), (14, cVal (.int .i64 f)), (15, cVal (.int .i64 f)), (16, cVal (.int .i64 s)), (17, cVal (.int .i64 s)), (18, cVal (.int .i64 m)), (19, cVal (.int .i64 m)), (20, cVal (.bool true))] } }
noncomputable def bdQN (l : List Int) (i v : Int) : Bd := { f := Try.f4, args := [lr l, .int .i64 i], kb := { db := dbQ [(21, ntDb v), (22, cVal (.int .i64 v)), (23, ieDb), (20, cVal (.bool true))] } }
end Go.Proofs.Ytpallipnhmoipaa
namespace Go.Proofs.Ytpallipnhmoipaa
open Go Sy Go.Proofs
theorem bdLv_p1111 :
  along Try.prog (bdLv) [true, true, true, true] = (some (.bool true, [], [T Try.prog 12 [.int .i64 7] [] (.bool true) [], q2, T Try.prog 14 [.int .i64 7] [] (.int .i64 2) [], q2, T Try.prog 16 [.int .i64 7] [] (.int .i64 3) [], q2, T Try.prog 18 [.int .i64 7] [] (.int .i64 5) [], q2, T Try.prog 21 [.sl (.o 960) 1 0 0 0 3 (some 3), .int .i64 2] [(.o 960, .rows 1 3 (getL [[.int .i64 3], [.int .i64 9], [.int .i64 5]]) false)] (.int .i64 5) [(.o 960, .rows 1 3 (getL [[.int .i64 3], [.int .i64 9], [.int .i64 5]]) false)]]) : Option (V × Heap × List Prop)) := by kernel_rfl

noncomputable def bdQC_c (n : Int) (g : Bool) (f : Int) (s : Int) (m : Int) : Nat → List Prop
 | 0 => [T Try.prog 12 [.int .i64 n] [] (.bool g) [], T Try.prog 13 [.int .i64 n] [] (.bool g) []]
 | 1 => [(g == g) = true, T Try.prog 14 [.int .i64 n] [] (.int .i64 f) [], T Try.prog 15 [.int .i64 n] [] (.int .i64 f) []]
 | 2 => [decide (f = f) = true, T Try.prog 16 [.int .i64 n] [] (.int .i64 s) [], T Try.prog 17 [.int .i64 n] [] (.int .i64 s) []]
 | _ => []
theorem bdQC_p1111 (n : Int) (g : Bool) (f : Int) (s : Int) (m : Int) :
 along Try.prog (bdQC n g f s m) [true, true, true, true] = (some (.bool true, [], bdQC_c n g f s m 0 ++ (bdQC_c n g f s m 1 ++ (bdQC_c n g f s m 2 ++ [decide (s = s) = true, T Try.prog 18 [.int .i64 n] [] (.int .i64 m) [], T Try.prog 19 [.int .i64 n] [] (.int .i64 m) [], decide (m = m) = true, T Try.prog 20 [] [] (.bool true) []]))) : Option (V × Heap × List Prop)) := by kernel_rfl
theorem bdQC_p1110 (n : Int) (g : Bool) (f : Int) (s : Int) (m : Int) :
 along Try.prog (bdQC n g f s m) [true, true, true, false] = (some (.bool false, [], bdQC_c n g f s m 0 ++ (bdQC_c n g f s m 1 ++ (bdQC_c n g f s m 2 ++ [decide (s = s) = true, T Try.prog 18 [.int .i64 n] [] (.int .i64 m) [], T Try.prog 19 [.int .i64 n] [] (.int .i64 m) [], decide (m = m) = false]))) : Option (V × Heap × List Prop)) := by kernel_rfl
theorem bdQC_p1100 (n : Int) (g : Bool) (f : Int) (s : Int) (m : Int) :
 along Try.prog (bdQC n g f s m) [true, true, false, false] = (some (.bool false, [], bdQC_c n g f s m 0 ++ (bdQC_c n g f s m 1 ++ (bdQC_c n g f s m 2 ++ [decide (s = s) = false, q false]))) : Option (V × Heap × List Prop)) := by kernel_rfl
theorem bdQC_p1000 (n : Int) (g : Bool) (f : Int) (s : Int) (m : Int) :
 along Try.prog (bdQC n g f s m) [true, false, false, false] = (some (.bool false, [], bdQC_c n g f s m 0 ++ (bdQC_c n g f s m 1 ++ [decide (f = f) = false, q false, q false])) : Option (V × Heap × List Prop)) := by kernel_rfl
theorem bdQC_p0000 (n : Int) (g : Bool) (f : Int) (s : Int) (m : Int) :
 along Try.prog (bdQC n g f s m) [false, false, false, false] = (some (.bool false, [], bdQC_c n g f s m 0 ++ [(g == g) = false, q false, q false, q false]) : Option (V × Heap × List Prop)) := by kernel_rfl

theorem bdQN_p1 (l : List Int) (i : Int) (v : Int) :
  along Try.prog (bdQN l i v) [true] = (some (.bool true, [], [decide ((200 : Int) < (↑(List.length l) : Int)) = true, T Try.prog 20 [] [] (.bool true) []]) : Option (V × Heap × List Prop)) := by kernel_rfl
theorem bdQN_p011 (l : List Int) (i : Int) (v : Int) :
  along Try.prog (bdQN l i v) [false, true, true] = (some (.bool true, [], [decide ((200 : Int) < (↑(List.length l) : Int)) = false, q0, ∀ (k : Nat), k < List.length l → true = true, ((0 : Nat) + List.length l) * (8 : Nat) ≤ (140737488355328 : Nat), T Try.prog 21 [.sl (.o 384) 1 0 0 0 (0 + List.length l) none, .int .i64 i] [(.o 384, .rows 1 (0 + List.length l) (catF 0 (getL []) (li l)) true)] (.int .i64 v) [(.o 384, .rows 1 (0 + List.length l) (catF 0 (getL []) (li l)) true)], T Try.prog 22 [.ros 1 (List.length l) (li l) false, .int .i64 i] [] (.int .i64 v) [], decide (v = v) = true, T Try.prog 23 [.sl (.o 384) 1 0 0 0 (0 + List.length l) none, .ros 1 (List.length l) (li l) false] [(.o 384, .rows 1 (0 + List.length l) (catF 0 (getL []) (li l)) true)] (.bool true) [(.o 384, .rows 1 (0 + List.length l) (catF 0 (getL []) (li l)) true)], q2, T Try.prog 20 [] [] (.bool true) []]) : Option (V × Heap × List Prop)) := by kernel_rfl
theorem bdQN_p000 (l : List Int) (i : Int) (v : Int) :
  along Try.prog (bdQN l i v) [false, false, false] = (some (.bool false, [], [decide ((200 : Int) < (↑(List.length l) : Int)) = false, q0, ∀ (k : Nat), k < List.length l → true = true, ((0 : Nat) + List.length l) * (8 : Nat) ≤ (140737488355328 : Nat), T Try.prog 21 [.sl (.o 384) 1 0 0 0 (0 + List.length l) none, .int .i64 i] [(.o 384, .rows 1 (0 + List.length l) (catF 0 (getL []) (li l)) true)] (.int .i64 v) [(.o 384, .rows 1 (0 + List.length l) (catF 0 (getL []) (li l)) true)], T Try.prog 22 [.ros 1 (List.length l) (li l) false, .int .i64 i] [] (.int .i64 v) [], decide (v = v) = false, q false]) : Option (V × Heap × List Prop)) := by kernel_rfl

theorem aF_all (l : List Int) (v : Int) : aF l v l.length = cntG l v := by rw [aF, List.take_length]
theorem sF_all (l : List Int) (v : Int) : aF l v l.length + sF l v l.length = cntE l v := by rw [aF_all, sF, List.take_length, cntE_eq]; omega
theorem T_rn {l : List Int} (hl : l.length ≤ 1000000) (i : Int) : T Try.prog 22 [lr l, .int .i64 i] [] (.int .i64 (nthV l i)) [] := by
 have fin : ∀ k, k < l.length → ((aF l (l.getD k 0) l.length < i ∧ i ≤ aF l (l.getD k 0) l.length + sF l (l.getD k 0) l.length) ↔ ((cntG l (l.getD k 0) : Int) < i ∧ i ≤ cntE l (l.getD k 0))) := fun k _ => by rw [sF_all, aF_all]
 rcases loop_all (P := Try.prog) (ro := none) (p := 0) (c := (cB (cB (cR (cL (cR (bodyOf Try.f22))))))) (I := rnI l i) (F := fun m => rnF (l.getD m 0)) (e := fun _ => .ret) (q := fun k => ¬ (aF l (l.getD k 0) l.length < i ∧ i ≤ aF l (l.getD k 0) l.length + sF l (l.getD k 0) l.length)) (n := l.length)
   (fun k hk hq => by
    have hL := rnL hl i hk
    have ha := aF_le l (l.getD k 0) l.length
    have hs := sF_le l (l.getD k 0) l.length
    by_cases h1 : aF l (l.getD k 0) l.length < i
    ·refine R_alongPc NG MO _ (pcRn_p110 l i k (aF l (l.getD k 0) l.length) (sF l (l.getD k 0) l.length) 0) ?_ (Nat.zero_le _)
     refine ⟨by rw [decide_eq_true_eq]; omega, hL, ?_⟩
     simp only [All, All_append, bdQC_c, Int.toNat_natCast, Nat.zero_add]; and_intros
     all_goals first
      | (rw [decide_eq_true_eq]; omega)
      | (rw [decide_eq_false_iff_not]; omega)
      | with_reducible rfl
      | (intro _ _; with_reducible rfl)
      | (intro _ _; trivial)
      | (simp only [IntKind.min, IntKind.max, IntKind.signed, IntKind.bits, if_true]; omega)
      | omega
      | (intro h; exact h)
      | trivial
    ·refine R_alongPc NG MO _ (pcRn_p100 l i k (aF l (l.getD k 0) l.length) (sF l (l.getD k 0) l.length) 0) ?_ (Nat.zero_le _)
     refine ⟨by rw [decide_eq_true_eq]; omega, hL, ?_⟩
     simp only [All, All_append, bdQC_c, Int.toNat_natCast, Nat.zero_add]; and_intros
     (all_goals first
      | (rw [decide_eq_true_eq]; omega)
      | (rw [decide_eq_false_iff_not]; omega)
      | with_reducible rfl
      | (intro _ _; with_reducible rfl)
      | (intro _ _; trivial)
      | (simp only [IntKind.min, IntKind.max, IntKind.signed, IntKind.bits, if_true]; omega)
      | omega
      | (intro h; exact h)
      | trivial))
   (fun k hk hq => by
    have hq := Classical.not_not.1 hq
    have hL := rnL hl i hk
    have ha := aF_le l (l.getD k 0) l.length
    have hs := sF_le l (l.getD k 0) l.length
    refine R_alongPc NG MO _ (pcRn_p111 l i k (aF l (l.getD k 0) l.length) (sF l (l.getD k 0) l.length) (l.getD k 0)) ?_ (Nat.zero_le _)
    refine ⟨by rw [decide_eq_true_eq]; omega, hL, ?_⟩
    simp only [All, All_append, bdQC_c, Int.toNat_natCast, Nat.zero_add]; and_intros
    (all_goals first
     | (rw [decide_eq_true_eq]; omega)
     | (rw [decide_eq_false_iff_not]; omega)
     | with_reducible rfl
     | (intro _ _; with_reducible rfl)
     | (intro _ _; trivial)
     | (simp only [IntKind.min, IntKind.max, IntKind.signed, IntKind.bits, if_true]; omega)
     | omega
     | (intro h; exact h)
     | trivial))
   (by simp) (R_alongPc NG MO _ (pcRn_p0 l i l.length 0 0 0) (by
    simp only [All, All_append, bdQC_c, Int.toNat_natCast, Nat.zero_add]; and_intros
    (all_goals first
     | (rw [decide_eq_true_eq]; omega)
     | (rw [decide_eq_false_iff_not]; omega)
     | with_reducible rfl
     | (intro _ _; with_reducible rfl)
     | (intro _ _; trivial)
     | (simp only [IntKind.min, IntKind.max, IntKind.signed, IntKind.bits, if_true]; omega)
     | omega
     | (intro h; exact h)
     | trivial)) (Nat.zero_le _)) (by simp) with ⟨h, hL⟩ | ⟨m, hm, _, hq, hL⟩
 ·refine T.val (T_al (bdRn_p1 l i 0 0) Try.func22 ?_) (by
   rw [nth_none fun k hk hc => h k hk ((fin k hk).2 hc)])
  refine ⟨hL, ?_⟩
  simp only [All, All_append, bdQC_c]; and_intros
  all_goals first
   | (rw [decide_eq_true_eq]; omega)
   | (rw [decide_eq_false_iff_not]; omega)
   | with_reducible rfl
   | (intro _ _; with_reducible rfl)
   | (intro _ _; trivial)
   | (simp only [IntKind.min, IntKind.max, IntKind.signed, IntKind.bits, if_true]; omega)
   | omega
   | (intro h; exact h)
   | trivial
 ·have hq := Classical.not_not.1 hq
  refine T.val (T_al (bdRn_p0 l i m (l.getD m 0)) Try.func22 ?_) (by
   rw [nth_found ((fin m hm).1 hq)])
  refine ⟨hL, ?_⟩
  simp only [All, All_append, bdQC_c]; and_intros
  all_goals first
   | (rw [decide_eq_true_eq]; omega)
   | (rw [decide_eq_false_iff_not]; omega)
   | with_reducible rfl
   | (intro _ _; with_reducible rfl)
   | (intro _ _; trivial)
   | (simp only [IntKind.min, IntKind.max, IntKind.signed, IntKind.bits, if_true]; omega)
   | omega
   | (intro h; exact h)
   | trivial
theorem T_lv : T Try.prog 20 [] [] (.bool true) [] := by
 have h1 := T_gn 7
 have h2 := T_fa 7
 have h3 := T_sm 7
 have h4 := T_mo 7
 have h5 := T_nt (l := [3, 9, 5]) (by decide) 2
 rw [show goodN 7 = true by decide] at h1
 rw [show fauS 7 = 2 by decide] at h2
 rw [show someS 7 = 3 by decide] at h3
 rw [show mostS 7 = 5 by decide] at h4
 rw [show nthV [3, 9, 5] 2 = 5 from (nth_found (by decide)).symm] at h5
 refine T_al bdLv_p1111 Try.func20 ?_
 simp only [All, All_append, bdQC_c]; and_intros
 all_goals first
  | exact h1
  | exact h2
  | exact h3
  | exact h4
  | rfl
  | trivial
  | (refine T.lendG h5 rfl ?_ (FreeV.int _ _) (by simp) (by rintro n ⟨b, hb⟩; cases hb); simp only [All, All_append, bdQC_c]; and_intros <;> first | rfl | trivial | omega | (intro h; exact h) | (intro k hk; rcases k with _ | _ | _ | _ | k <;> first | rfl | omega))
/-- QuorumCounts. -/
theorem T_qc (n : Int) : T Try.prog 3 [.int .i64 n] [] (.bool true) [] := by
 have h1 := T_gn n
 have h2 := T_rgn n
 have h3 := T_fa n
 have h4 := T_rfa n
 have h5 := T_sm n
 have h6 := T_rsm n
 have h7 := T_mo n
 have h8 := T_rmo n
 have h9 := T_lv
 refine T_al (bdQC_p1111 n (goodN n) (fauS n) (someS n) (mostS n)) Try.func3 ?_
 simp only [All, All_append, bdQC_c]; and_intros
 all_goals first
  | assumption
  | rfl
  | trivial
  | simp
/-- QuorumNths. -/
theorem T_qn {l : List Int} (hl : l.length ≤ 9223372036854775807) (i : Int) : T Try.prog 4 [lr l, .int .i64 i] [] (.bool true) [] := by
 have h9 := T_lv
 by_cases h : (200 : Int) < l.length
 ·refine T_al (bdQN_p1 l i 0) Try.func4 ?_
  simp only [All, All_append, bdQC_c]; and_intros
  all_goals first
   | assumption
   | (rw [decide_eq_true_eq]; omega)
   | trivial
 ·have h1 := T_nt (l := l) (by omega) i
  have h2 := T_rn (l := l) (by omega) i
  have h3 := T_ie (a := l) (b := l) (by omega)
  rw [decide_eq_true rfl] at h3
  have ec : catF 0 (getL []) (li l) = li l := by funext k; rfl
  refine T_al (bdQN_p011 l i (nthV l i)) Try.func4 ?_
  simp only [All, All_append, bdQC_c, Nat.zero_add, ec]; and_intros
  all_goals first
   | assumption
   | (rw [decide_eq_false_iff_not]; omega)
   | (refine T.lendG h1 rfl ?_ (FreeV.int _ _) (by simp) (by rintro n ⟨b, hb⟩; cases hb); simp only [All, All_append, bdQC_c]; and_intros <;> first | rfl | trivial | omega | (intro h; exact h) | (intro h; cases h; done) | (intro k hk; rw [Nat.zero_add]))
   | (refine T.lend h3 rfl ?_; simp only [All, All_append, bdQC_c]; and_intros <;> first | rfl | trivial | (intro _ _; rfl) | (intro _ _; trivial) | omega | (intro h; exact h) | (intro h; cases h; done) | (intro k hk; rw [Nat.zero_add]))
   | (simp; done)
   | omega
   | (intro _ _; trivial)
   | rfl
   | trivial
end Go.Proofs.Ytpallipnhmoipaa
namespace Sy
open Go
variable {P : Program}
/-- A stretch is laid over. -/
def setF (f : Nat → List V) (i n : Nat) (g : Nat → List V) : Nat → List V := fun q => bif Nat.ble i q && Nat.blt q (i + n) then g (q - i) else f q
theorem setF_in {f g : Nat → List V} {i n q : Nat} (h1 : i ≤ q) (h2 : q < i + n) : setF f i n g q = g (q - i) := by
 have e1 : Nat.ble i q = true := by rw [Nat.ble_eq]; exact h1
 have e2 : Nat.blt q (i + n) = true := by rw [Nat.blt_eq]; exact h2
 rw [setF, e1, e2]; rfl
theorem setF_out {f g : Nat → List V} {i n q : Nat} (h : ¬ (i ≤ q ∧ q < i + n)) : setF f i n g q = f q := by
 rw [setF]
 cases e1 : Nat.ble i q with
 | false => rfl
 | true =>
  cases e2 : Nat.blt q (i + n) with
  | false => rfl
  | true => rw [Nat.ble_eq] at e1; rw [Nat.blt_eq] at e2; exact (h ⟨e1, e2⟩).elim
theorem ros_first {U : Imm} {ρ : Env} {es m n : Nat} {g : Nat → List V} {clip : Bool} {x : Value} {bs : Heap} {w : World} (hv : VRel U ρ (.ros es m g clip) x) (H : HRel U ρ bs w) (hn : n ≤ m) :
  ∃ l, (Builtin.lenOf x).run P w = .ok m w ∧ (Builtin.firstCells es n x).run P w = .ok l.toArray w ∧ Rows U es n g l := by
 rw [VRel] at hv
 obtain ⟨a, cp, rfl, h2, h3, h4⟩ := hv
 rcases Nat.eq_zero_or_pos n with h0 | h0
 ·subst h0
  refine ⟨[], rfl, ?_, by simp, fun i hi => by omega⟩
  cases a with
  | none => exact run_firstCells_none ..
  | some a => exact run_firstCells_some (P := P) w es 0 a m cp [] (by simp) (by simp)
 ·obtain ⟨b, base, c, rfl, hU, _⟩ := h4 0 (by omega)
  obtain ⟨el, fr, hw⟩ := H.imm b c hU
  obtain ⟨l, h5, h6⟩ := rows_of_blk (U := U) (c := c) (base := base) (g := g) (m := n) (es := es) (fun i hi => by
   obtain ⟨b', base', c', e1, hU', l', h7, h8, h9⟩ := h4 i (by omega)
   cases e1
   rw [hU] at hU'; cases hU'
   exact ⟨l', h7, h8, h9⟩)
  exact ⟨l, rfl, run_firstCells_some (P := P) w es n _ m cp l h5.1 (fun j v hj => by rw [Addr.add_lit, cell_of hw]; exact h6 j v hj), h5⟩
/-- The row where a stretch is laid over. -/
theorem rows_set {U : Imm} {ρ : Env} {es N i n : Nat} {f g : Nat → List V} {gr : Bool} {c : Array Value} {el : TypeId} {lo hi sz : Nat} {l : List Value} (h : BRel U ρ sz (.rows es N f gr) (.cells c el (lo, hi))) (hl : Rows U es n g l) (hin : i + n ≤ N) :
  BRel U ρ sz (.rows es N (setF f i n g) gr) (.cells (setR c (i * es) l) el (lo, hi)) := by
 obtain ⟨c', el', lo', hi', he, h2, h3, h4, h5, h6⟩ := h
 cases he
 have hbd : i * es + n * es ≤ N * es := by rw [← Nat.add_mul]; exact Nat.mul_le_mul_right _ hin
 have hll : i * es + l.length ≤ c.size := by rw [hl.1]; omega
 refine ⟨_, el, lo, hi, rfl, by rw [setR_size]; exact h2, by rw [setR_size]; exact h3, by rw [setR_size]; exact h4, by rw [setR_size]; exact h5, fun q hq => ?_⟩
 by_cases hqi : i ≤ q ∧ q < i + n
 ·obtain ⟨r, h7, h8, h9⟩ := hl.2 (q - i) (by omega)
  refine ⟨r, by rw [setF_in hqi.1 hqi.2]; exact h7, h8, fun k hk => ?_⟩
  have e1 : q * es = i * es + (q - i) * es := by rw [← Nat.add_mul]; congr 1; omega
  have e2 : (q - i) * es + es ≤ n * es := by rw [← Nat.succ_mul]; exact Nat.mul_le_mul_right _ (by omega)
  rw [setR_get _ _ _ hll, if_pos ⟨by omega, by rw [hl.1]; omega⟩, ← h9 k hk]
  congr 1; omega
 ·obtain ⟨r, h7, h8, h9⟩ := h6 q hq
  refine ⟨r, by rw [setF_out hqi]; exact h7, h8, fun k hk => ?_⟩
  rw [setR_get _ _ _ hll, if_neg ?_]
  ·exact h9 k hk
  ·rw [hl.1]
   rintro ⟨h10, h11⟩
   have e1 : q < i ∨ i + n ≤ q := by omega
   rcases e1 with e1 | e1
   ·have : q * es + es ≤ i * es := by rw [← Nat.succ_mul]; exact Nat.mul_le_mul_right _ e1
    omega
   ·have : i * es + n * es ≤ q * es := by rw [← Nat.add_mul]; exact Nat.mul_le_mul_right _ e1
    omega
theorem T_one2 {U : Imm} {ρ : Env} {u v : V} {xs : List Value} (h : VsRel U ρ [u, v] xs) : ∃ x y, xs = [x, y] ∧ VRel U ρ u x ∧ VRel U ρ v y := by
 rw [VsRel] at h
 obtain ⟨x, r, rfl, h1, h2⟩ := h
 rw [VsRel] at h2
 obtain ⟨y, r', rfl, h3, h4⟩ := h2
 rw [VsRel] at h4
 subst h4
 exact ⟨x, y, rfl, h1, h3⟩
/-- copy, into an own row. -/
theorem TO_copy {t tx e : TypeId} {ie : TypeInfo} (hu : P.underlying t = some (.slice e)) (hie : P.info? e = some ie) {a es i len m N : Nat} {cap : Option Nat} {f g : Nat → List V} {gr clip : Bool} (hs : ie.size = es) (hin : i + Nat.min m len ≤ N) (hso : ∀ k, k < Nat.min m len → solid (g k) = true) (h0 : 0 < N) :
  TO P (.copy t tx) [.sl (.o a) es i 0 0 len cap, .ros es m g clip] [(.o a, .rows es N f gr)] (.int .i64 (Nat.min m len : Nat)) [(.o a, .rows es N (setF f i (Nat.min m len) g) gr)] := by
 intro ty U ρ w xs H hv _
 obtain ⟨x, y, rfl, h1, h2⟩ := T_one2 hv
 obtain ⟨l, k1, k2, k3⟩ := ros_first (P := P) h2 H (Nat.min_le_left m len)
 rw [VRel] at h1
 obtain ⟨lo, cp, e1, e2, e3, e4⟩ := h1
 rcases e4 with ⟨hr, rfl, _⟩ | ⟨hr, rfl, rfl, rfl⟩
 ·obtain ⟨ob, q1, q2, q3⟩ := H.real (List.mem_cons_self ..) e1 hr
  have q2' := q2
  obtain ⟨c, el, lo2, hi, rfl, q4, q5, q6, _, _⟩ := q2
  have hbd : i * es + Nat.min m len * es ≤ N * es := by rw [← Nat.add_mul]; exact Nat.mul_le_mul_right _ hin
  have hst := run_storeCells (P := P) (b := lo.blk) (off := i * es + 0 + 0) (el := el) (lo := lo2) (hi := hi) l 0 w c q1 q5 (by rw [k3.1, show min m len = Nat.min m len from rfl]; omega) (rows_one k3 hso)
  refine ⟨.int .i64 ((Nat.min m len : Nat) : Int), { w with heap := w.heap.setIfInBounds lo.blk (.cells (setR c (i * es + 0 + 0 + 0) l) el (lo2, hi)) }, U, ρ, .inl ?_, Leaves.set H e1 hr rfl (by simp only [Nat.add_zero]; exact rows_set q2' k3 hin) (by rw [VRel])⟩
  simp only [Prim.exec, Builtin.copy_]
  have f1 : (#[t, tx] : Array TypeId)[0]? = some t := rfl
  have f2 : ([Value.slice (some ⟨lo.blk, i * es + 0 + 0, none⟩) len cp, y] : List Value).toArray[0]? = some (Value.slice (some ⟨lo.blk, i * es + 0 + 0, none⟩) len cp) := rfl
  have f3 : ([Value.slice (some ⟨lo.blk, i * es + 0 + 0, none⟩) len cp, y] : List Value).toArray[1]? = some y := rfl
  simp only [f1, f2, f3, Sem.run_bind, run_under hu, Result.andThen_ok, k1, run_size hie, hs, k2, hst, Sem.run_pure, goInt]
 ·obtain ⟨l1, g1, g2⟩ := H.blk _ _ (List.mem_cons_self ..)
  rw [e1] at g1; cases g1
  rcases g2 with ⟨g2, _⟩ | ⟨_, es', f', g2⟩
  ·rw [hr] at g2; cases g2
  ·cases g2; omega
/-- append, where there is room. -/
theorem TO_append {t tx e e' : TypeId} {ie : TypeInfo} (hu : P.underlying t = some (.slice e)) (hux : P.underlying tx = some (.slice e')) (hie : P.info? e = some ie) {a es k m N : Nat} {f g : Nat → List V} {gr clip : Bool} (hs : ie.size = es) (hin : k + m ≤ N) (hso : ∀ k, k < m → solid (g k) = true) (h0 : 0 < N) :
  TO P (.append t tx) [.sl (.o a) es 0 0 0 k (some N), .ros es m g clip] [(.o a, .rows es N f gr)] (.sl (.o a) es 0 0 0 (k + m) (some N)) [(.o a, .rows es N (setF f k m g) gr)] := by
 intro ty U ρ w xs H hv _
 obtain ⟨x, y, rfl, h1, h2⟩ := T_one2 hv
 obtain ⟨l, k1, k2, k3⟩ := ros_first (P := P) h2 H (Nat.le_refl m)
 rw [VRel] at h1
 obtain ⟨lo, cp, e1, e2, e3, e4⟩ := h1
 have := e3 N rfl
 subst this
 rcases e4 with ⟨hr, rfl, e5⟩ | ⟨hr, rfl, _, e6⟩
 ·obtain ⟨ob, q1, q2, q3⟩ := H.real (List.mem_cons_self ..) e1 hr
  have q2' := q2
  obtain ⟨c, el, lo2, hi, rfl, q4, q5, q6, _, _⟩ := q2
  have hbd : k * es + m * es ≤ cp * es := by rw [← Nat.add_mul]; exact Nat.mul_le_mul_right _ hin
  have hst := run_storeCells (P := P) (b := lo.blk) (off := 0 * es + 0 + 0 + k * es) (el := el) (lo := lo2) (hi := hi) l 0 w c q1 q5 (by rw [k3.1]; omega) (rows_one k3 hso)
  have hz : 0 * es + 0 + 0 + k * es + 0 = k * es := by omega
  refine ⟨.slice (some ⟨lo.blk, 0 * es + 0 + 0, none⟩) (k + m) cp, { w with heap := w.heap.setIfInBounds lo.blk (.cells (setR c (0 * es + 0 + 0 + k * es + 0) l) el (lo2, hi)) }, U, ρ, .inl ?_, Leaves.set H e1 hr rfl (by rw [hz]; exact rows_set q2' k3 hin) ?_⟩
  ·simp only [Prim.exec, Builtin.append_]
   have f1 : (#[t, tx] : Array TypeId)[0]? = some t := rfl
   have f4 : (#[t, tx] : Array TypeId)[1]? = some tx := rfl
   have f2 : ([Value.slice (some ⟨lo.blk, 0 * es + 0 + 0, none⟩) k cp, y] : List Value).toArray[0]? = some (Value.slice (some ⟨lo.blk, 0 * es + 0 + 0, none⟩) k cp) := rfl
   have f3 : ([Value.slice (some ⟨lo.blk, 0 * es + 0 + 0, none⟩) k cp, y] : List Value).toArray[1]? = some y := rfl
   have f5 : (k + m ≤ cp) = True := eq_true hin
   simp only [f1, f2, f3, f4, Sem.run_bind, run_under hu, run_under hux, Result.andThen_ok, k1, run_size hie, hs, Sem.run_pure, Bool.false_eq_true, if_false, f5, if_true, Bool.not_false, k2, Addr.add_lit, hst]
  ·rw [VRel]
   exact ⟨lo, cp, e1, hin, fun c hc => by cases hc; rfl, .inl ⟨hr, rfl, e5⟩⟩
 ·omega
/-- x[l:], up to the very end. -/
theorem TO_from {t e : TypeId} {ie : TypeInfo} (hu : P.underlying t = some (.slice e)) (hie : P.info? e = some ie) {a : Nm} {es i len c l : Nat} (hs : ie.size = es) (hl : l ≤ len) :
  TO P (.sliceFrom t) [.sl a es i 0 0 len (some c), .int .i64 l] [] (.sl a es (bif Nat.beq l c then i else i + l) 0 0 (len - l) (some (c - l))) [] := by
 intro ty U ρ w xs H hv _
 obtain ⟨x, y, rfl, h1, h2⟩ := T_one2 hv
 rw [VRel] at h1
 rw [VRel] at h2
 subst h2
 obtain ⟨lo, cp, e1, e2, e3, e4⟩ := h1
 have := e3 c rfl
 subst this
 have hb : (0 : Int) ≤ (l : Int) ∧ (l : Int) ≤ (len : Int) := by omega
 rcases e4 with ⟨hr, rfl, e5⟩ | ⟨hr, rfl, rfl, rfl⟩
 ·refine ⟨.slice (if cp = l then (some ⟨lo.blk, i * es + 0 + 0, none⟩) else (some ⟨lo.blk, i * es + 0 + 0, none⟩ : Option Addr).map (·.add (l * es))) (len - l) (cp - l), w, U, ρ, .inl ?_, Leaves.same H ?_ rfl⟩
  ·simp only [Prim.exec, Instr.sliceAt, Instr.slice, Instr.sliceBounds, Instr.sliceBound, asIntOf, Sem.run_bind, run_under hu, Result.andThen_ok, Sem.run_pure, hb, and_self, if_true, run_size hie, hs, Int.toNat_natCast]
  ·rw [VRel]
   refine ⟨lo, cp - l, e1, by omega, fun c hc => by cases hc; rfl, .inl ⟨hr, ?_, ?_⟩⟩
   ·by_cases hcl : cp = l
    ·subst hcl
     rw [if_pos rfl, Nat.beq_refl]; rfl
    ·have : Nat.beq l cp = false := by
      cases hh : Nat.beq l cp with
      | true => exact (hcl (Nat.eq_of_beq_eq_true hh).symm).elim
      | false => rfl
     rw [if_neg hcl, this]
     simp only [Option.map_some, cond_false, Addr.add_lit, Nat.add_mul]
     congr 3
   ·by_cases hcl : cp = l
    ·subst hcl
     rw [Nat.beq_refl, Nat.sub_self]
     refine Nat.le_trans (Nat.mul_le_mul_right _ ?_) e5
     simp only [cond_true]; omega
    ·have : Nat.beq l cp = false := by
      cases hh : Nat.beq l cp with
      | true => exact (hcl (Nat.eq_of_beq_eq_true hh).symm).elim
      | false => rfl
     rw [this]
     refine Nat.le_trans (Nat.mul_le_mul_right _ ?_) e5
     simp only [cond_false]; omega
 ·have hl0 : l = 0 := by omega
  subst hl0
  refine ⟨.slice none 0 0, w, U, ρ, .inl ?_, Leaves.same H ?_ rfl⟩
  ·simp only [Prim.exec, Instr.sliceAt, Instr.slice, Instr.sliceBounds, Instr.sliceBound, asIntOf, Sem.run_bind, run_under hu, Result.andThen_ok, Sem.run_pure, hb, and_self, if_true, run_size hie, hs, Int.toNat_natCast, Nat.sub_self]
  ·rw [VRel]
   exact ⟨lo, 0, e1, Nat.le_refl _, fun c hc => by cases hc; rfl, .inr ⟨hr, rfl, rfl, rfl⟩⟩
end Sy
namespace Go.Proofs.Ytpallipnhmoipaa
open Go Sy Go.Proofs
def gn (s : Nat → SSign) : Nat → List V := fun i => (s i).c
def sgs (a n : Nat) : V := .sl (.o a) 17 0 0 0 n none
def sgB (n : Nat) (s : Nat → SSign) : B := .rows 17 n (gn s) true
def rowF (a : Nm) (h : Heap) : Nat → List V := match pull a h with
 | some (.rows _ _ f _, _) => f
 | _ => fun _ => []
/-- Where the first greater one is. -/
def atS (s : Nat → SSign) (v : Int) : Nat → Nat
 | 0 => 0
 | n + 1 => if atS s v n < n then atS s v n else if v < (s n).node then n else n + 1
def insS (s : Nat → SSign) (a : Nat) (x : SSign) : Nat → SSign := fun q => if q < a then s q else if q = a then x else s (q - 1)
def hpA (x : SSign) : Heap := [(.o 0, .flat x.c)]
def adI (n : Nat) (s : Nat → SSign) (x : SSign) (k : Nat) : St := ⟨mkT 69 [(0, sg n s), (3, .ptr (.o 0) 0 0 0 0), (11, sg n s), (12, .int .i64 n), (13, .int .i64 k)], hpA x, 1, []⟩
def adR (n : Nat) (s : Nat → SSign) : St := ⟨mkT 69 [(4, sgs 1 n)], [(.o 1, sgB n s)], 2, []⟩
def adJ (n : Nat) (s : Nat → SSign) (x : SSign) (k : Nat) : St := ⟨mkT 69 [(0, sg n s), (3, .ptr (.o 0) 0 0 0 0), (7, .int .i64 n), (33, sg n s), (34, .int .i64 n), (35, .int .i64 k)], hpA x, 1, []⟩
def adK (n : Nat) (s : Nat → SSign) (x : SSign) (a : Nat) : St := ⟨mkT 69 [(0, sg n s), (3, .ptr (.o 0) 0 0 0 0), (7, .int .i64 a)], hpA x, 1, []⟩
def zS : SSign := ⟨0, List.replicate 16 0⟩
def cutS (s : Nat → SSign) (a : Nat) : Nat → SSign := fun q => if q < a then s q else zS
def adM (n : Nat) (s : Nat → SSign) (x : SSign) (a : Nat) : St := ⟨mkT 69 [(0, sg n s), (3, .ptr (.o 0) 0 0 0 0), (7, .int .i64 a), (10, .sl (.o 1) 17 0 0 0 (n + 1) (some (n + 1)))], hpA x ++ [(.o 1, sgB (n + 1) (cutS s a))], 2, []⟩
def adF (n : Nat) (s : Nat → SSign) : St := ⟨mkT 69 [(10, sgs 1 n)], [(.o 1, sgB n s)], 2, []⟩
def cpPr (n k : Nat) : Prim → List V → Heap → Nat → List Cl := fun pr vs h _ => match pr with
 | .sliceFrom _ => match vs with
  | [.sl b _ _ _ _ _ (some _), _] => [{ val := .sl b 17 (bif Nat.beq (k + 1) (n + 1) then 0 else k + 1) 0 0 (n + 1 - (k + 1)) (some (n + 1 - (k + 1))) }]
  | _ => []
 | .copy _ _ => match vs with
  | [.sl a _ i _ _ len _, .ros _ m g _] => match pull a h with
   | some (.rows es N f gr, _) => [{ pre := [a], val := .int .i64 (Nat.min m len : Nat), post := [(a, .rows es N (setF f i (Nat.min m len) g) gr)] }]
   | _ => []
  | _ => []
 | _ => []
noncomputable def bdAd (n : Nat) (s : Nat → SSign) (x : SSign) (m a : Nat) : Bd := { f := Try.f25, args := [sg n s, .agg x.c], kb := { db := fun _ _ _ _ => [], pr := cpPr n a, lp := fun id t => bif Nat.beq id 0 then [(True, .loop (n + 1) (wToS [(.o 0, nmV (getV t.tmps 3))] (adI n s x 0)) (.exit 0) (adI n s x n)), (True, .loop (m + 1) (wToS [(.o 0, nmV (getV t.tmps 3))] (adI n s x 0)) .ret (adR n s))] else [(True, .loop (m + 1) (wToS [(.o 0, nmV (getV t.tmps 3))] (adJ n s x 0)) (.exit 2) (adK n s x a))], fx := fun id t => bif Nat.beq id 18 then [.wk (wToS [(.o 1, nmV (getV t.tmps 10))] (adF (n + 1) (insS s a x)))] else bif Nat.beq id 16 then [.wk (wToS [(.o 0, nmV (getV t.tmps 3)), (.o 1, nmV (getV t.tmps 10))] (adM n s x a))] else [] }, names := fun _ => [.o 1] }
noncomputable def pcAi (n : Nat) (s : Nat → SSign) (x : SSign) (k : Nat) : Pc := { c := cB (cB (cR (cL (cB (cR (bodyOf Try.f25)))))), st := adI n s x k, kb := kb0, k := fun e_ t => match e_ with
 | .normal => some (wTo (adI n s x (k + 1)))
 | .ret => some (wToS [(.o 1, nmV (getV t.tmps 4))] (adR n s))
 | _ => some (wTo (adI n s x n)) }
noncomputable def pcAj (n : Nat) (s : Nat → SSign) (x : SSign) (k a : Nat) : Pc := { c := cB (cB (cR (cL (cR (cR (cR (cB (cR (bodyOf Try.f25))))))))), st := adJ n s x k, kb := kb0, k := fun e_ t => match e_ with
 | .normal => some (wTo (adJ n s x (k + 1)))
 | _ => some (wTo (adK n s x a)) }
end Go.Proofs.Ytpallipnhmoipaa
namespace Go.Proofs.Ytpallipnhmoipaa
open Go Sy Go.Proofs
theorem bdAd_p1 (n : Nat) (s : Nat → SSign) (x : SSign) (m : Nat) (a : Nat) :
  along Try.prog (bdAd n s x m a) [true] = some (V.sl (Nm.o (1 : Nat)) (17 : Nat) (0 : Nat) (0 : Nat) (0 : Nat) (n + (1 : Nat)) none, [(Nm.o (1 : Nat), B.rows (17 : Nat) (n + (1 : Nat)) (gn (insS s a x)) true)], [RLoop Try.prog none (0 : Nat) (cB (cB (cR (cL (cB (cR (bodyOf (Bd.f (bdAd n s x m a))))))))) (n + (1 : Nat)) (St.mk [V.ros (17 : Nat) n (fun i => SSign.c (s i)) false, V.any, V.any, V.ptr (Nm.o (0 : Nat)) (0 : Nat) (0 : Nat) (0 : Nat) (0 : Nat), V.any, V.any, V.any, V.any, V.any, V.any, V.any, V.ros (17 : Nat) n (fun i => SSign.c (s i)) false, V.int IntKind.i64 (↑n : Int), V.int IntKind.i64 (0 : Int), V.any, V.any, V.any, V.any, V.any, V.any, V.any, V.any, V.any, V.any, V.any, V.any, V.any, V.any, V.any, V.any, V.any, V.any, V.any, V.any, V.any, V.any, V.any, V.any, V.any, V.any, V.any, V.any, V.any, V.any, V.any, V.any, V.any, V.any, V.any, V.any, V.any, V.any, V.any, V.any, V.any, V.any, V.any, V.any, V.any, V.any, V.any, V.any, V.any, V.any, V.any, V.any, V.any, V.any, V.any] [(Nm.o (0 : Nat), B.flat (SSign.c x))] (1 : Nat) []) (Exit.exit (0 : Nat)) (St.mk [V.ros (17 : Nat) n (fun i => SSign.c (s i)) false, V.any, V.any, V.ptr (Nm.o (0 : Nat)) (0 : Nat) (0 : Nat) (0 : Nat) (0 : Nat), V.any, V.any, V.any, V.any, V.any, V.any, V.any, V.ros (17 : Nat) n (fun i => SSign.c (s i)) false, V.int IntKind.i64 (↑n : Int), V.int IntKind.i64 (↑n : Int), V.any, V.any, V.any, V.any, V.any, V.any, V.any, V.any, V.any, V.any, V.any, V.any, V.any, V.any, V.any, V.any, V.any, V.any, V.any, V.any, V.any, V.any, V.any, V.any, V.any, V.any, V.any, V.any, V.any, V.any, V.any, V.any, V.any, V.any, V.any, V.any, V.any, V.any, V.any, V.any, V.any, V.any, V.any, V.any, V.any, V.any, V.any, V.any, V.any, V.any, V.any, V.any, V.any, V.any, V.any] [(Nm.o (0 : Nat), B.flat (SSign.c x))] (1 : Nat) []), SSign.node x = SSign.node x, (16 : Nat) = (16 : Nat), SSign.tag x = SSign.tag x, n = n, ∀ (k : Nat), k < n → SSign.c (s k) = SSign.c (s k), false = true → false = true, (0 : Nat) = (0 : Nat), (0 : Nat) = (0 : Nat), (0 : Nat) = (0 : Nat), n = n, ∀ (k : Nat), k < n → SSign.c (s k) = SSign.c (s k), false = true → false = true, (↑n : Int) = (↑n : Int), (0 : Int) = (0 : Int), RLoop Try.prog none (0 : Nat) (cB (cB (cR (cL (cR (cR (cR (cB (cR (bodyOf (Bd.f (bdAd n s x m a)))))))))))) (m + (1 : Nat)) (St.mk [V.ros (17 : Nat) n (fun i => SSign.c (s i)) false, V.any, V.any, V.ptr (Nm.o (0 : Nat)) (0 : Nat) (0 : Nat) (0 : Nat) (0 : Nat), V.any, V.any, V.any, V.int IntKind.i64 (↑n : Int), V.any, V.any, V.any, V.any, V.any, V.any, V.any, V.any, V.any, V.any, V.any, V.any, V.any, V.any, V.any, V.any, V.any, V.any, V.any, V.any, V.any, V.any, V.any, V.any, V.any, V.ros (17 : Nat) n (fun i => SSign.c (s i)) false, V.int IntKind.i64 (↑n : Int), V.int IntKind.i64 (0 : Int), V.any, V.any, V.any, V.any, V.any, V.any, V.any, V.any, V.any, V.any, V.any, V.any, V.any, V.any, V.any, V.any, V.any, V.any, V.any, V.any, V.any, V.any, V.any, V.any, V.any, V.any, V.any, V.any, V.any, V.any, V.any, V.any, V.any] [(Nm.o (0 : Nat), B.flat (SSign.c x))] (1 : Nat) []) (Exit.exit (2 : Nat)) (St.mk [V.ros (17 : Nat) n (fun i => SSign.c (s i)) false, V.any, V.any, V.ptr (Nm.o (0 : Nat)) (0 : Nat) (0 : Nat) (0 : Nat) (0 : Nat), V.any, V.any, V.any, V.int IntKind.i64 (↑a : Int), V.any, V.any, V.any, V.any, V.any, V.any, V.any, V.any, V.any, V.any, V.any, V.any, V.any, V.any, V.any, V.any, V.any, V.any, V.any, V.any, V.any, V.any, V.any, V.any, V.any, V.any, V.any, V.any, V.any, V.any, V.any, V.any, V.any, V.any, V.any, V.any, V.any, V.any, V.any, V.any, V.any, V.any, V.any, V.any, V.any, V.any, V.any, V.any, V.any, V.any, V.any, V.any, V.any, V.any, V.any, V.any, V.any, V.any, V.any, V.any, V.any] [(Nm.o (0 : Nat), B.flat (SSign.c x))] (1 : Nat) []), SSign.node x = SSign.node x, (16 : Nat) = (16 : Nat), SSign.tag x = SSign.tag x, n = n, ∀ (k : Nat), k < n → SSign.c (s k) = SSign.c (s k), false = true → false = true, (0 : Nat) = (0 : Nat), (0 : Nat) = (0 : Nat), (0 : Nat) = (0 : Nat), (↑n : Int) = (↑n : Int), n = n, ∀ (k : Nat), k < n → SSign.c (s k) = SSign.c (s k), false = true → false = true, (↑n : Int) = (↑n : Int), (0 : Int) = (0 : Int), InR IntKind.i64 ((↑n : Int) + (1 : Int)), (0 : Int) ≤ (↑n : Int) + (1 : Int) ∧ (↑n : Int) + (1 : Int) ≤ (↑n : Int) + (1 : Int), (24 : Int) * ((↑n : Int) + (1 : Int)) ≤ (281474976710656 : Int), (↑n : Int) + (1 : Int) ≤ (281474976710656 : Int), (0 : Int) ≤ (↑a : Int) ∧ (↑a : Int) ≤ (↑(natO none n) : Int), TO Try.prog (Prim.copy (33 : Nat) (33 : Nat)) [V.sl (Nm.o (nat_lit 193)) (17 : Nat) (0 : Nat) (0 : Nat) (0 : Nat) (Int.toNat ((↑n : Int) + (1 : Int))) (some (Int.toNat ((↑n : Int) + (1 : Int)))), V.ros (17 : Nat) (natO (some (↑a : Int)) n - nat_lit 0) (shiftF (fun i => SSign.c (s i)) none) false] [(Nm.o (nat_lit 193), B.rows (17 : Nat) (Int.toNat ((↑n : Int) + (1 : Int))) (fun x => [V.int IntKind.i64 (0 : Int), V.seg IntKind.u8 (16 : Nat) [(0 : Int), (0 : Int), (0 : Int), (0 : Int), (0 : Int), (0 : Int), (0 : Int), (0 : Int), (0 : Int), (0 : Int), (0 : Int), (0 : Int), (0 : Int), (0 : Int), (0 : Int), (0 : Int)]]) false)] (V.int IntKind.i64 (↑(Nat.min (natO (some (↑a : Int)) n - nat_lit 0) (Int.toNat ((↑n : Int) + (1 : Int)))) : Int)) [(Nm.o (nat_lit 193), B.rows (17 : Nat) (Int.toNat ((↑n : Int) + (1 : Int))) (setF (fun x => [V.int IntKind.i64 (0 : Int), V.seg IntKind.u8 (16 : Nat) [(0 : Int), (0 : Int), (0 : Int), (0 : Int), (0 : Int), (0 : Int), (0 : Int), (0 : Int), (0 : Int), (0 : Int), (0 : Int), (0 : Int), (0 : Int), (0 : Int), (0 : Int), (0 : Int)]]) (0 : Nat) (Nat.min (natO (some (↑a : Int)) n - nat_lit 0) (Int.toNat ((↑n : Int) + (1 : Int)))) (shiftF (fun i => SSign.c (s i)) none)) false)], SSign.node x = SSign.node x, (16 : Nat) = (16 : Nat), SSign.tag x = SSign.tag x, Int.toNat ((↑n : Int) + (1 : Int)) = n + (1 : Nat), ∀ (k : Nat), k < Int.toNat ((↑n : Int) + (1 : Int)) → setF (fun x => [V.int IntKind.i64 (0 : Int), V.seg IntKind.u8 (16 : Nat) [(0 : Int), (0 : Int), (0 : Int), (0 : Int), (0 : Int), (0 : Int), (0 : Int), (0 : Int), (0 : Int), (0 : Int), (0 : Int), (0 : Int), (0 : Int), (0 : Int), (0 : Int), (0 : Int)]]) (0 : Nat) (Nat.min (natO (some (↑a : Int)) n - nat_lit 0) (Int.toNat ((↑n : Int) + (1 : Int)))) (shiftF (fun i => SSign.c (s i)) none) k = [V.int IntKind.i64 (SSign.node (cutS s a k)), V.seg IntKind.u8 (16 : Nat) (SSign.tag (cutS s a k))], true = false → false = false, n = n, ∀ (k : Nat), k < n → SSign.c (s k) = SSign.c (s k), false = true → false = true, (0 : Nat) = (0 : Nat), (0 : Nat) = (0 : Nat), (0 : Nat) = (0 : Nat), (↑a : Int) = (↑a : Int), (0 : Nat) = (0 : Nat), (0 : Nat) = (0 : Nat), (0 : Nat) = (0 : Nat), Int.toNat ((↑n : Int) + (1 : Int)) = n + (1 : Nat), some (n + (1 : Nat)) = none ∨ some (n + (1 : Nat)) = some (Int.toNat ((↑n : Int) + (1 : Int))), (0 : Int) ≤ (↑a : Int) ∧ (↑a : Int) < (↑(n + (1 : Nat)) : Int), (0 : Nat) + Int.toNat (↑a : Int) < n + (1 : Nat), InR IntKind.i64 ((↑a : Int) + (1 : Int)), TO Try.prog (Prim.sliceFrom (33 : Nat)) [V.sl (Nm.o (1 : Nat)) (17 : Nat) (0 : Nat) (0 : Nat) (0 : Nat) (n + (1 : Nat)) (some (n + (1 : Nat))), V.int IntKind.i64 ((↑a : Int) + (1 : Int))] [] (V.sl (Nm.o (1 : Nat)) (17 : Nat) (Bool.rec (a + (1 : Nat)) (0 : Nat) (Nat.beq (a + (1 : Nat)) (n + (1 : Nat)))) (0 : Nat) (0 : Nat) (n + (1 : Nat) - (a + (1 : Nat))) (some (n + (1 : Nat) - (a + (1 : Nat))))) [], (0 : Int) ≤ (↑a : Int) ∧ (↑a : Int) ≤ (↑(natO none n) : Int), TO Try.prog (Prim.copy (33 : Nat) (33 : Nat)) [V.sl (Nm.o (1 : Nat)) (17 : Nat) (Bool.rec (a + (1 : Nat)) (0 : Nat) (Nat.beq (a + (1 : Nat)) (n + (1 : Nat)))) (0 : Nat) (0 : Nat) (n + (1 : Nat) - (a + (1 : Nat))) (some (n + (1 : Nat) - (a + (1 : Nat)))), V.ros (17 : Nat) (natO none n - natO (some (↑a : Int)) (0 : Nat)) (shiftF (fun i => SSign.c (s i)) (some (↑a : Int))) false] [(Nm.o (1 : Nat), B.rows (17 : Nat) (n + (1 : Nat)) (fun k => Bool.rec [V.int IntKind.i64 (SSign.node (cutS s a k)), V.seg IntKind.u8 (16 : Nat) (SSign.tag (cutS s a k))] [V.int IntKind.i64 (SSign.node x), V.seg IntKind.u8 (16 : Nat) (SSign.tag x)] (Nat.beq k ((0 : Nat) + Int.toNat (↑a : Int)))) true)] (V.int IntKind.i64 (↑(Nat.min (natO none n - natO (some (↑a : Int)) (0 : Nat)) (n + (1 : Nat) - (a + (1 : Nat)))) : Int)) [(Nm.o (1 : Nat), B.rows (17 : Nat) (n + (1 : Nat)) (setF (fun k => Bool.rec [V.int IntKind.i64 (SSign.node (cutS s a k)), V.seg IntKind.u8 (16 : Nat) (SSign.tag (cutS s a k))] [V.int IntKind.i64 (SSign.node x), V.seg IntKind.u8 (16 : Nat) (SSign.tag x)] (Nat.beq k ((0 : Nat) + Int.toNat (↑a : Int)))) (Bool.rec (a + (1 : Nat)) (0 : Nat) (Nat.beq (a + (1 : Nat)) (n + (1 : Nat)))) (Nat.min (natO none n - natO (some (↑a : Int)) (0 : Nat)) (n + (1 : Nat) - (a + (1 : Nat)))) (shiftF (fun i => SSign.c (s i)) (some (↑a : Int)))) true)], n + (1 : Nat) = n + (1 : Nat), ∀ (k : Nat), k < n + (1 : Nat) → setF (fun k => Bool.rec [V.int IntKind.i64 (SSign.node (cutS s a k)), V.seg IntKind.u8 (16 : Nat) (SSign.tag (cutS s a k))] [V.int IntKind.i64 (SSign.node x), V.seg IntKind.u8 (16 : Nat) (SSign.tag x)] (Nat.beq k ((0 : Nat) + Int.toNat (↑a : Int)))) (Bool.rec (a + (1 : Nat)) (0 : Nat) (Nat.beq (a + (1 : Nat)) (n + (1 : Nat)))) (Nat.min (natO none n - natO (some (↑a : Int)) (0 : Nat)) (n + (1 : Nat) - (a + (1 : Nat)))) (shiftF (fun i => SSign.c (s i)) (some (↑a : Int))) k = [V.int IntKind.i64 (SSign.node (insS s a x k)), V.seg IntKind.u8 (16 : Nat) (SSign.tag (insS s a x k))], true = false → true = false, (0 : Nat) = (0 : Nat), (0 : Nat) = (0 : Nat), (0 : Nat) = (0 : Nat), n + (1 : Nat) = n + (1 : Nat), (none : Option Nat) = none ∨ none = some (n + (1 : Nat))]) := by kernel_rfl
theorem bdAd_p0 (n : Nat) (s : Nat → SSign) (x : SSign) (m : Nat) (a : Nat) :
  along Try.prog (bdAd n s x m a) [false] = (some (.sl (.o 1) 17 0 0 0 n none, [(.o 1, .rows 17 n (gn s) true)], [RLoop Try.prog none 0 (cB (cB (cR (cL (cB (cR (bodyOf (Bd.f (bdAd n s x m a))))))))) (m + 1) (St.mk [.ros 17 n (fun i => SSign.c (s i)) false, .any, .any, .ptr (.o 0) 0 0 0 0, .any, .any, .any, .any, .any, .any, .any, .ros 17 n (fun i => SSign.c (s i)) false, .int .i64 ↑n, .int .i64 0, .any, .any, .any, .any, .any, .any, .any, .any, .any, .any, .any, .any, .any, .any, .any, .any, .any, .any, .any, .any, .any, .any, .any, .any, .any, .any, .any, .any, .any, .any, .any, .any, .any, .any, .any, .any, .any, .any, .any, .any, .any, .any, .any, .any, .any, .any, .any, .any, .any, .any, .any, .any, .any, .any, .any] [(.o 0, .flat (SSign.c x))] 1 []) .ret (St.mk [.any, .any, .any, .any, .sl (.o 1) 17 0 0 0 n none, .any, .any, .any, .any, .any, .any, .any, .any, .any, .any, .any, .any, .any, .any, .any, .any, .any, .any, .any, .any, .any, .any, .any, .any, .any, .any, .any, .any, .any, .any, .any, .any, .any, .any, .any, .any, .any, .any, .any, .any, .any, .any, .any, .any, .any, .any, .any, .any, .any, .any, .any, .any, .any, .any, .any, .any, .any, .any, .any, .any, .any, .any, .any, .any] [(.o 1, .rows 17 n (gn s) true)] 2 []), q (SSign.node x), q (16 : Nat), q (SSign.tag x), q n, ∀ (k : Nat), k < n → SSign.c (s k) = SSign.c (s k), false = true → false = true, q0, q0, q0, q n, ∀ (k : Nat), k < n → SSign.c (s k) = SSign.c (s k), false = true → false = true, q (↑n : Int), q1]) : Option (V × Heap × List Prop)) := by kernel_rfl

theorem pcAi_p111 (n : Nat) (s : Nat → SSign) (x : SSign) (k : Nat) :
  alongPc Try.prog (pcAi n s x k) [true, true, true] = (some (.ret, St.mk [.any, .any, .any, .any, .sl (.o 1) 17 0 0 0 n none, .any, .any, .any, .any, .any, .any, .any, .any, .any, .any, .any, .any, .any, .any, .any, .any, .any, .any, .any, .any, .any, .any, .any, .any, .any, .any, .any, .any, .any, .any, .any, .any, .any, .any, .any, .any, .any, .any, .any, .any, .any, .any, .any, .any, .any, .any, .any, .any, .any, .any, .any, .any, .any, .any, .any, .any, .any, .any, .any, .any, .any, .any, .any, .any] [(.o 1, .rows 17 n (gn s) true)] 2 [], [decide ((↑k : Int) < (↑n : Int)) = true, (0 : Int) ≤ (↑k : Int) ∧ (↑k : Int) < (↑n : Int), (decide (SSign.node (s (Int.toNat (↑k : Int))) = SSign.node x) && (decide (SSign.tag (s (Int.toNat (↑k : Int))) = SSign.tag x) && true)) = true, q2, q0, ∀ (k : Nat), k < n → true = true, ((0 : Nat) + n) * (24 : Nat) ≤ (140737488355328 : Nat), (0 : Nat) + n = n, ∀ (k : Nat), k < (0 : Nat) + n → [V.int IntKind.i64 (SSign.node (s (k - (0 : Nat)))), V.seg IntKind.u8 (16 : Nat) (SSign.tag (s (k - (0 : Nat))))] = [V.int IntKind.i64 (SSign.node (s k)), V.seg IntKind.u8 (16 : Nat) (SSign.tag (s k))], true = false → true = false, q0, q0, q0, (0 : Nat) + n = n, (none : Option Nat) = none ∨ (none : Option Nat) = none]) : Option (Exit × St × List Prop)) := by kernel_rfl
theorem pcAi_p101 (n : Nat) (s : Nat → SSign) (x : SSign) (k : Nat) :
  alongPc Try.prog (pcAi n s x k) [true, false, true] = (some (.ret, St.mk [.any, .any, .any, .any, .sl (.o 1) 17 0 0 0 n none, .any, .any, .any, .any, .any, .any, .any, .any, .any, .any, .any, .any, .any, .any, .any, .any, .any, .any, .any, .any, .any, .any, .any, .any, .any, .any, .any, .any, .any, .any, .any, .any, .any, .any, .any, .any, .any, .any, .any, .any, .any, .any, .any, .any, .any, .any, .any, .any, .any, .any, .any, .any, .any, .any, .any, .any, .any, .any, .any, .any, .any, .any, .any, .any] [(.o 1, .rows 17 n (gn s) true)] 2 [], [decide ((↑k : Int) < (↑n : Int)) = true, (0 : Int) ≤ (↑k : Int) ∧ (↑k : Int) < (↑n : Int), (decide (SSign.node (s (Int.toNat (↑k : Int))) = SSign.node x) && (decide (SSign.tag (s (Int.toNat (↑k : Int))) = SSign.tag x) && true)) = false, decide (SSign.node (s (Int.toNat (↑k : Int))) = SSign.node x) = true, q0, ∀ (k : Nat), k < n → true = true, ((0 : Nat) + n) * (24 : Nat) ≤ (140737488355328 : Nat), (0 : Nat) + n = n, ∀ (k : Nat), k < (0 : Nat) + n → [V.int IntKind.i64 (SSign.node (s (k - (0 : Nat)))), V.seg IntKind.u8 (16 : Nat) (SSign.tag (s (k - (0 : Nat))))] = [V.int IntKind.i64 (SSign.node (s k)), V.seg IntKind.u8 (16 : Nat) (SSign.tag (s k))], true = false → true = false, q0, q0, q0, (0 : Nat) + n = n, (none : Option Nat) = none ∨ (none : Option Nat) = none]) : Option (Exit × St × List Prop)) := by kernel_rfl
theorem pcAi_p100 (n : Nat) (s : Nat → SSign) (x : SSign) (k : Nat) :
  alongPc Try.prog (pcAi n s x k) [true, false, false] = (some (.normal, St.mk [.ros 17 n (fun i => SSign.c (s i)) false, .any, .any, .ptr (.o 0) 0 0 0 0, .any, .any, .any, .any, .any, .any, .any, .ros 17 n (fun i => SSign.c (s i)) false, .int .i64 ↑n, .int .i64 (↑(k + 1) : Int), .any, .any, .any, .any, .any, .any, .any, .any, .any, .any, .any, .any, .any, .any, .any, .any, .any, .any, .any, .any, .any, .any, .any, .any, .any, .any, .any, .any, .any, .any, .any, .any, .any, .any, .any, .any, .any, .any, .any, .any, .any, .any, .any, .any, .any, .any, .any, .any, .any, .any, .any, .any, .any, .any, .any] [(.o 0, .flat (SSign.c x))] 1 [], [decide ((↑k : Int) < (↑n : Int)) = true, (0 : Int) ≤ (↑k : Int) ∧ (↑k : Int) < (↑n : Int), (decide (SSign.node (s (Int.toNat (↑k : Int))) = SSign.node x) && (decide (SSign.tag (s (Int.toNat (↑k : Int))) = SSign.tag x) && true)) = false, decide (SSign.node (s (Int.toNat (↑k : Int))) = SSign.node x) = false, InR IntKind.i64 ((↑k : Int) + (1 : Int)), q (SSign.node x), q (16 : Nat), q (SSign.tag x), q n, ∀ (k : Nat), k < n → SSign.c (s k) = SSign.c (s k), false = true → false = true, q0, q0, q0, q n, ∀ (k : Nat), k < n → SSign.c (s k) = SSign.c (s k), false = true → false = true, q (↑n : Int), (↑k : Int) + (1 : Int) = (↑(k + (1 : Nat)) : Int)]) : Option (Exit × St × List Prop)) := by kernel_rfl
theorem pcAi_p0 (n : Nat) (s : Nat → SSign) (x : SSign) (k : Nat) :
  alongPc Try.prog (pcAi n s x k) [false] = (some (.exit 0, St.mk [.ros 17 n (fun i => SSign.c (s i)) false, .any, .any, .ptr (.o 0) 0 0 0 0, .any, .any, .any, .any, .any, .any, .any, .ros 17 n (fun i => SSign.c (s i)) false, .int .i64 ↑n, .int .i64 ↑n, .any, .any, .any, .any, .any, .any, .any, .any, .any, .any, .any, .any, .any, .any, .any, .any, .any, .any, .any, .any, .any, .any, .any, .any, .any, .any, .any, .any, .any, .any, .any, .any, .any, .any, .any, .any, .any, .any, .any, .any, .any, .any, .any, .any, .any, .any, .any, .any, .any, .any, .any, .any, .any, .any, .any] [(.o 0, .flat (SSign.c x))] 1 [], [decide ((↑k : Int) < (↑n : Int)) = false, q (SSign.node x), q (16 : Nat), q (SSign.tag x), q n, ∀ (k : Nat), k < n → SSign.c (s k) = SSign.c (s k), false = true → false = true, q0, q0, q0, q n, ∀ (k : Nat), k < n → SSign.c (s k) = SSign.c (s k), false = true → false = true, q (↑n : Int), (↑k : Int) = (↑n : Int)]) : Option (Exit × St × List Prop)) := by kernel_rfl

theorem pcAj_p11 (n : Nat) (s : Nat → SSign) (x : SSign) (k : Nat) (a : Nat) :
  alongPc Try.prog (pcAj n s x k a) [true, true] = (some (.exit 2, St.mk [.ros 17 n (fun i => SSign.c (s i)) false, .any, .any, .ptr (.o 0) 0 0 0 0, .any, .any, .any, .int .i64 ↑a, .any, .any, .any, .any, .any, .any, .any, .any, .any, .any, .any, .any, .any, .any, .any, .any, .any, .any, .any, .any, .any, .any, .any, .any, .any, .any, .any, .any, .any, .any, .any, .any, .any, .any, .any, .any, .any, .any, .any, .any, .any, .any, .any, .any, .any, .any, .any, .any, .any, .any, .any, .any, .any, .any, .any, .any, .any, .any, .any, .any, .any] [(.o 0, .flat (SSign.c x))] 1 [], [decide ((↑k : Int) < (↑n : Int)) = true, (0 : Int) ≤ (↑k : Int) ∧ (↑k : Int) < (↑n : Int), decide (SSign.node x < SSign.node (s (Int.toNat (↑k : Int)))) = true, q (SSign.node x), q (16 : Nat), q (SSign.tag x), q n, ∀ (k : Nat), k < n → SSign.c (s k) = SSign.c (s k), false = true → false = true, q0, q0, q0, (↑k : Int) = (↑a : Int)]) : Option (Exit × St × List Prop)) := by kernel_rfl
theorem pcAj_p10 (n : Nat) (s : Nat → SSign) (x : SSign) (k : Nat) (a : Nat) :
  alongPc Try.prog (pcAj n s x k a) [true, false] = (some (.normal, St.mk [.ros 17 n (fun i => SSign.c (s i)) false, .any, .any, .ptr (.o 0) 0 0 0 0, .any, .any, .any, .int .i64 ↑n, .any, .any, .any, .any, .any, .any, .any, .any, .any, .any, .any, .any, .any, .any, .any, .any, .any, .any, .any, .any, .any, .any, .any, .any, .any, .ros 17 n (fun i => SSign.c (s i)) false, .int .i64 ↑n, .int .i64 (↑(k + 1) : Int), .any, .any, .any, .any, .any, .any, .any, .any, .any, .any, .any, .any, .any, .any, .any, .any, .any, .any, .any, .any, .any, .any, .any, .any, .any, .any, .any, .any, .any, .any, .any, .any, .any] [(.o 0, .flat (SSign.c x))] 1 [], [decide ((↑k : Int) < (↑n : Int)) = true, (0 : Int) ≤ (↑k : Int) ∧ (↑k : Int) < (↑n : Int), decide (SSign.node x < SSign.node (s (Int.toNat (↑k : Int)))) = false, InR IntKind.i64 ((↑k : Int) + (1 : Int)), q (SSign.node x), q (16 : Nat), q (SSign.tag x), q n, ∀ (k : Nat), k < n → SSign.c (s k) = SSign.c (s k), false = true → false = true, q0, q0, q0, q (↑n : Int), q n, ∀ (k : Nat), k < n → SSign.c (s k) = SSign.c (s k), false = true → false = true, q (↑n : Int), (↑k : Int) + (1 : Int) = (↑(k + (1 : Nat)) : Int)]) : Option (Exit × St × List Prop)) := by kernel_rfl
theorem pcAj_p0 (n : Nat) (s : Nat → SSign) (x : SSign) (k : Nat) (a : Nat) :
  alongPc Try.prog (pcAj n s x k a) [false] = (some (.exit 2, St.mk [.ros 17 n (fun i => SSign.c (s i)) false, .any, .any, .ptr (.o 0) 0 0 0 0, .any, .any, .any, .int .i64 ↑a, .any, .any, .any, .any, .any, .any, .any, .any, .any, .any, .any, .any, .any, .any, .any, .any, .any, .any, .any, .any, .any, .any, .any, .any, .any, .any, .any, .any, .any, .any, .any, .any, .any, .any, .any, .any, .any, .any, .any, .any, .any, .any, .any, .any, .any, .any, .any, .any, .any, .any, .any, .any, .any, .any, .any, .any, .any, .any, .any, .any, .any] [(.o 0, .flat (SSign.c x))] 1 [], [decide ((↑k : Int) < (↑n : Int)) = false, q (SSign.node x), q (16 : Nat), q (SSign.tag x), q n, ∀ (k : Nat), k < n → SSign.c (s k) = SSign.c (s k), false = true → false = true, q0, q0, q0, (↑n : Int) = (↑a : Int)]) : Option (Exit × St × List Prop)) := by kernel_rfl

theorem atS_le (s : Nat → SSign) (v : Int) (n : Nat) : atS s v n ≤ n := by
 induction n with
 | zero => exact Nat.le_refl _
 | succ n ih => rw [atS]; split <;> (try split) <;> omega
theorem atS_lt {s : Nat → SSign} {v : Int} {n k : Nat} (h : k < atS s v n) : ¬ v < (s k).node := by
 induction n with
 | zero => rw [atS] at h; omega
 | succ n ih =>
  rw [atS] at h
  have := atS_le s v n
  split at h
  ·exact ih h
  ·split at h
   ·exact ih (by omega)
   ·rcases Nat.lt_or_ge k (atS s v n) with h1 | h1
    ·exact ih h1
    ·obtain rfl : k = n := by omega
     assumption
theorem atS_gt {s : Nat → SSign} {v : Int} {n : Nat} (h : atS s v n < n) : v < (s (atS s v n)).node := by
 induction n with
 | zero => omega
 | succ n ih =>
  rw [atS] at h ⊢
  have := atS_le s v n
  split
  ·exact ih (by assumption)
  ·split
   ·assumption
   ·rename_i h1 h2
    rw [if_neg h1, if_neg h2] at h
    omega
theorem atS_eq {s : Nat → SSign} {v : Int} {n m : Nat} (h1 : m ≤ n) (h2 : ∀ k, k < m → ¬ v < (s k).node) (h3 : m < n → v < (s m).node) : atS s v n = m := by
 have h4 := atS_le s v n
 rcases Nat.lt_trichotomy (atS s v n) m with h | h | h
 ·exact (h2 _ h (atS_gt (by omega))).elim
 ·exact h
 ·exact (atS_lt h (h3 (by omega))).elim
def hasN (s : Nat → SSign) (n : Nat) (v : Int) : Bool := (List.range n).any fun i => decide ((s i).node = v)
theorem hasN_true {s : Nat → SSign} {n : Nat} {v : Int} (k : Nat) (h : k < n) (e : (s k).node = v) : hasN s n v = true :=
 List.any_eq_true.2 ⟨k, List.mem_range.2 h, decide_eq_true e⟩
theorem hasN_false {s : Nat → SSign} {n : Nat} {v : Int} (h : ∀ k, k < n → ¬ (s k).node = v) : hasN s n v = false := by
 rw [hasN, List.any_eq_false]
 intro k hk
 rw [decide_eq_true_eq]; exact h k (List.mem_range.1 hk)
def addN (s : Nat → SSign) (n : Nat) (x : SSign) : Nat := if hasN s n x.node = true then n else n + 1
def addS (s : Nat → SSign) (n : Nat) (x : SSign) : Nat → SSign := if hasN s n x.node = true then s else insS s (atS s x.node n) x
theorem sliceSg : ∃ ie, Try.prog.underlying 33 = some (.slice 37) ∧ Try.prog.info? 37 = some ie ∧ ie.size = 17 := ⟨(Try.prog.info? 37).get (by kernel_rfl), Try.underlying33, by kernel_rfl, by kernel_rfl⟩
theorem rowsAdd {s : Nat → SSign} {x : SSign} {n a : Nat} (ha : a ≤ n) (k : Nat) (hk : k < n + 1) :
  setF (fun k => Bool.rec [V.int .i64 (cutS s a k).node, V.seg .u8 16 (cutS s a k).tag] [V.int .i64 x.node, V.seg .u8 16 x.tag] (Nat.beq k a)) (bif Nat.beq (a + 1) (n + 1) then 0 else a + 1) (Nat.min (n - a) (n + 1 - (a + 1))) (fun k => (s (a + k)).c) k = [V.int .i64 (insS s a x k).node, V.seg .u8 16 (insS s a x k).tag] := by
 have hm : Nat.min (n - a) (n + 1 - (a + 1)) = n - a := by
  have : n + 1 - (a + 1) = n - a := by omega
  rw [this]; exact Nat.min_self _
 rw [hm]
 rcases Nat.lt_trichotomy k a with h | h | h
 ·have hb : Nat.beq k a = false := by
   cases hh : Nat.beq k a with
   | true => have := Nat.eq_of_beq_eq_true hh; omega
   | false => rfl
  rw [setF_out, hb, insS, if_pos h, cutS, if_pos h]
  cases hq : Nat.beq (a + 1) (n + 1) with
  | true => have := Nat.eq_of_beq_eq_true hq; simp only [cond_true]; omega
  | false => simp only [cond_false]; omega
 ·subst h
  rw [setF_out, Nat.beq_refl, insS, if_neg (by omega), if_pos rfl]
  cases hq : Nat.beq (k + 1) (n + 1) with
  | true => have := Nat.eq_of_beq_eq_true hq; simp only [cond_true]; omega
  | false => simp only [cond_false]; omega
 ·have hq : Nat.beq (a + 1) (n + 1) = false := by
   cases hh : Nat.beq (a + 1) (n + 1) with
   | true => have := Nat.eq_of_beq_eq_true hh; omega
   | false => rfl
  rw [hq, cond_false, setF_in (by omega) (by omega), insS, if_neg (by omega), if_neg (by omega), show a + (k - (a + 1)) = k - 1 by omega]
  rfl
theorem rowsCut {s : Nat → SSign} {n a : Nat} (ha : a ≤ n) (k : Nat) (hk : k < n + 1) :
  setF (fun _ => [V.int .i64 0, V.seg .u8 16 [0, 0, 0, 0, 0, 0, 0, 0, 0, 0, 0, 0, 0, 0, 0, 0]]) 0 (Nat.min a (n + 1)) (fun i => (s i).c) k = [V.int .i64 (cutS s a k).node, V.seg .u8 16 (cutS s a k).tag] := by
 have hm : Nat.min a (n + 1) = a := Nat.min_eq_left (by omega)
 rw [hm]
 by_cases h : k < a
 ·rw [setF_in (Nat.zero_le _) (by omega), Nat.sub_zero, cutS, if_pos h]; rfl
 ·rw [setF_out (by omega), cutS, if_neg h]; rfl
theorem T_ad {n : Nat} (s : Nat → SSign) (x : SSign) (hn : n ≤ 1000000) : T Try.prog 25 [sg n s, .agg x.c] [] (sgs 1 (addN s n x)) [(.o 1, sgB (addN s n x) (addS s n x))] := by
 rcases loop_all (P := Try.prog) (ro := none) (p := 0) (c := cB (cB (cR (cL (cB (cR (bodyOf Try.f25))))))) (I := adI n s x) (F := fun _ => adR n s) (e := fun _ => .ret) (q := fun k => ¬ (s k).node = x.node) (n := n)
   (fun k hk hq => by
    refine R_alongPc NG MO _ (pcAi_p100 n s x k) ?_ (Nat.zero_le _)
    have e1 : (decide ((s k).node = x.node) && (decide ((s k).tag = x.tag) && true)) = false := by rw [decide_eq_false hq]; rfl
    simp only [All, Int.toNat_natCast]; and_intros
    all_goals first
     | exact e1
     | exact decide_eq_true hq
     | exact decide_eq_false hq
     | exact True.intro
     | (with_reducible assumption)
     | (rw [decide_eq_true_eq]; omega)
     | (rw [decide_eq_false_iff_not]; omega)
     | with_reducible rfl
     | (intro _ _; with_reducible rfl)
     | (intro _ _; trivial)
     | (intro _ _; rfl)
     | (simp only [IntKind.min, IntKind.max, IntKind.signed, IntKind.bits, if_true]; omega)
     | omega
     | (intro h; exact h)
     | (intro h; cases h; done)
     | exact .inl rfl
     | exact .inl trivial
     | exact .inr True.intro
     | trivial)
   (fun k hk hq => by
    have hq := Classical.not_not.1 hq
    by_cases ht : (s k).tag = x.tag
    ·refine R_alongPc NG MO _ (pcAi_p111 n s x k) ?_ (Nat.zero_le _)
     have e1 : (decide ((s k).node = x.node) && (decide ((s k).tag = x.tag) && true)) = true := by rw [decide_eq_true hq, decide_eq_true ht]; rfl
     simp only [All, Int.toNat_natCast, Nat.zero_add]; and_intros
     all_goals first
      | exact e1
      | exact decide_eq_true hq
      | exact True.intro
      | (with_reducible assumption)
      | (rw [decide_eq_true_eq]; omega)
      | (rw [decide_eq_false_iff_not]; omega)
      | with_reducible rfl
      | (intro _ _; with_reducible rfl)
      | (intro _ _; trivial)
      | (intro _ _; rfl)
      | (simp only [IntKind.min, IntKind.max, IntKind.signed, IntKind.bits, if_true]; omega)
      | omega
      | (intro h; exact h)
      | (intro h; cases h; done)
      | exact .inl rfl
      | exact .inl trivial
      | exact .inr True.intro
      | trivial
    ·refine R_alongPc NG MO _ (pcAi_p101 n s x k) ?_ (Nat.zero_le _)
     have e1 : (decide ((s k).node = x.node) && (decide ((s k).tag = x.tag) && true)) = false := by rw [decide_eq_false ht, Bool.false_and, Bool.and_false]
     simp only [All, Int.toNat_natCast, Nat.zero_add]; and_intros
     all_goals first
      | exact e1
      | exact decide_eq_true hq
      | exact True.intro
      | (with_reducible assumption)
      | (rw [decide_eq_true_eq]; omega)
      | (rw [decide_eq_false_iff_not]; omega)
      | with_reducible rfl
      | (intro _ _; with_reducible rfl)
      | (intro _ _; trivial)
      | (intro _ _; rfl)
      | (simp only [IntKind.min, IntKind.max, IntKind.signed, IntKind.bits, if_true]; omega)
      | omega
      | (intro h; exact h)
      | (intro h; cases h; done)
      | exact .inl rfl
      | exact .inl trivial
      | exact .inr True.intro
      | trivial)
   (by simp) (R_alongPc NG MO _ (pcAi_p0 n s x n) (by
    simp only [All, Int.toNat_natCast]; and_intros
    all_goals first
     | exact True.intro
     | (with_reducible assumption)
     | (rw [decide_eq_true_eq]; omega)
     | (rw [decide_eq_false_iff_not]; omega)
     | with_reducible rfl
     | (intro _ _; with_reducible rfl)
     | (intro _ _; trivial)
     | (intro _ _; rfl)
     | (simp only [IntKind.min, IntKind.max, IntKind.signed, IntKind.bits, if_true]; omega)
     | omega
     | (intro h; exact h)
     | (intro h; cases h; done)
     | exact .inl rfl
     | exact .inl trivial
     | exact .inr True.intro
     | trivial) (Nat.zero_le _)) (by simp) with ⟨h, hL⟩ | ⟨m, hm, _, hq, hL⟩
 ·have hf : hasN s n x.node = false := hasN_false h
  obtain ⟨m2, hL2⟩ : ∃ m2, RLoop Try.prog none 0 (cB (cB (cR (cL (cR (cR (cR (cB (cR (bodyOf Try.f25)))))))))) (m2 + 1) (adJ n s x 0) (.exit 2) (adK n s x (atS s x.node n)) := by
   rcases loop_all (P := Try.prog) (ro := none) (p := 0) (c := cB (cB (cR (cL (cR (cR (cR (cB (cR (bodyOf Try.f25)))))))))) (I := adJ n s x) (F := fun m => adK n s x m) (e := fun _ => .exit 2) (q := fun k => ¬ x.node < (s k).node) (n := n)
     (fun k hk hq => by
      refine R_alongPc NG MO _ (pcAj_p10 n s x k 0) ?_ (Nat.zero_le _)
      simp only [All, Int.toNat_natCast]; and_intros
      all_goals first
       | exact True.intro
       | (with_reducible assumption)
       | (rw [decide_eq_true_eq]; omega)
       | (rw [decide_eq_false_iff_not]; omega)
       | with_reducible rfl
       | (intro _ _; with_reducible rfl)
       | (intro _ _; trivial)
       | (intro _ _; rfl)
       | (simp only [IntKind.min, IntKind.max, IntKind.signed, IntKind.bits, if_true]; omega)
       | omega
       | (intro h; exact h)
       | (intro h; cases h; done)
       | exact .inl rfl
       | exact .inl trivial
       | exact .inr True.intro
       | trivial)
     (fun k hk hq => by
      have hq := Classical.not_not.1 hq
      refine R_alongPc NG MO _ (pcAj_p11 n s x k k) ?_ (Nat.zero_le _)
      simp only [All, Int.toNat_natCast]; and_intros
      all_goals first
       | exact True.intro
       | (with_reducible assumption)
       | (rw [decide_eq_true_eq]; omega)
       | (rw [decide_eq_false_iff_not]; omega)
       | with_reducible rfl
       | (intro _ _; with_reducible rfl)
       | (intro _ _; trivial)
       | (intro _ _; rfl)
       | (simp only [IntKind.min, IntKind.max, IntKind.signed, IntKind.bits, if_true]; omega)
       | omega
       | (intro h; exact h)
       | (intro h; cases h; done)
       | exact .inl rfl
       | exact .inl trivial
       | exact .inr True.intro
       | trivial)
     (by simp) (R_alongPc NG MO _ (pcAj_p0 n s x n n) (by
      simp only [All, Int.toNat_natCast]; and_intros
      all_goals first
       | exact True.intro
       | (with_reducible assumption)
       | (rw [decide_eq_true_eq]; omega)
       | (rw [decide_eq_false_iff_not]; omega)
       | with_reducible rfl
       | (intro _ _; with_reducible rfl)
       | (intro _ _; trivial)
       | (intro _ _; rfl)
       | (simp only [IntKind.min, IntKind.max, IntKind.signed, IntKind.bits, if_true]; omega)
       | omega
       | (intro h; exact h)
       | (intro h; cases h; done)
       | exact .inl rfl
       | exact .inl trivial
       | exact .inr True.intro
       | trivial) (Nat.zero_le _)) (by simp) with ⟨g, hL2⟩ | ⟨m, hm, g1, g2, hL2⟩
   ·exact ⟨n, by rw [atS_eq (Nat.le_refl n) g (fun h => by omega)]; exact hL2⟩
   ·exact ⟨m, by rw [atS_eq (Nat.le_of_lt hm) g1 (fun _ => Classical.not_not.1 g2)]; exact hL2⟩
  have ha := atS_le s x.node n
  obtain ⟨ie, i1, i2, i3⟩ := sliceSg
  rw [addN, addS, if_neg (by rw [hf]; simp), if_neg (by rw [hf]; simp)]
  generalize atS s x.node n = a at hL2 ha
  have en : Int.toNat ((n : Int) + 1) = n + 1 := by omega
  have ea : Int.toNat ((a : Int) + 1) = a + 1 := by omega
  have hF : TO Try.prog (.sliceFrom 33) [.sl (.o 1) 17 0 0 0 (n + 1) (some (n + 1)), .int .i64 ((a : Int) + 1)] [] (.sl (.o 1) 17 (bif Nat.beq (a + 1) (n + 1) then 0 else a + 1) 0 0 (n + 1 - (a + 1)) (some (n + 1 - (a + 1)))) [] := by
   have h0 := TO_from (P := Try.prog) (a := .o 1) (i := 0) (len := n + 1) (c := n + 1) (l := a + 1) i1 i2 i3 (by omega)
   rw [Nat.zero_add] at h0
   exact h0
  have hC : TO Try.prog (.copy 33 33) [.sl (.o 1) 17 (bif Nat.beq (a + 1) (n + 1) then 0 else a + 1) 0 0 (n + 1 - (a + 1)) (some (n + 1 - (a + 1))), .ros 17 (n - a) (fun k => (s (a + k)).c) false]
    [(.o 1, .rows 17 (n + 1) (fun k => Bool.rec [V.int .i64 (cutS s a k).node, V.seg .u8 16 (cutS s a k).tag] [V.int .i64 x.node, V.seg .u8 16 x.tag] (Nat.beq k a)) true)] (.int .i64 (Nat.min (n - a) (n + 1 - (a + 1)) : Nat))
    [(.o 1, .rows 17 (n + 1) (setF (fun k => Bool.rec [V.int .i64 (cutS s a k).node, V.seg .u8 16 (cutS s a k).tag] [V.int .i64 x.node, V.seg .u8 16 x.tag] (Nat.beq k a)) (bif Nat.beq (a + 1) (n + 1) then 0 else a + 1) (Nat.min (n - a) (n + 1 - (a + 1))) (fun k => (s (a + k)).c)) true)] := by
   refine TO_copy i1 i2 i3 ?_ (fun k hk => by rfl) (by omega)
   have h1 := Nat.min_le_left (n - a) (n + 1 - (a + 1))
   change Nat.min (n - a) (n + 1 - (a + 1)) ≤ n - a at h1
   cases hq : Nat.beq (a + 1) (n + 1) with
   | true => have := Nat.eq_of_beq_eq_true hq; simp only [cond_true]; omega
   | false => simp only [cond_false]; omega
  have e0 : (Bool.rec (a + 1) 0 (Nat.beq (a + 1) (n + 1)) : Nat) = (bif Nat.beq (a + 1) (n + 1) then 0 else a + 1) := by cases Nat.beq (a + 1) (n + 1) <;> rfl
  refine T_al (bdAd_p1 n s x m2 a) Try.func25 ?_
  refine ⟨hL, ?_⟩
  simp only [All, Int.toNat_natCast, Nat.zero_add, en, ea, natO, shiftF, addO, Nat.sub_zero, e0]; and_intros
  all_goals first
   | exact hL2
   | (intro k hk; exact rowsCut ha k hk)
   | (intro k hk; exact rowsAdd ha k hk)
   | exact TO_copy i1 i2 i3 (by simp only [Nat.zero_add]; exact Nat.min_le_right _ _) (fun k hk => by rfl) (by omega)
   | exact hF
   | exact hC
   | exact True.intro
   | (with_reducible assumption)
   | (rw [decide_eq_true_eq]; omega)
   | (rw [decide_eq_false_iff_not]; omega)
   | with_reducible rfl
   | (intro _ _; with_reducible rfl)
   | (intro _ _; trivial)
   | (intro _ _; rfl)
   | (simp only [IntKind.min, IntKind.max, IntKind.signed, IntKind.bits, if_true]; omega)
   | omega
   | (intro h; exact h)
   | (intro h; cases h; done)
   | exact .inl rfl
   | exact .inl trivial
   | exact .inr True.intro
   | trivial
 ·have hq := Classical.not_not.1 hq
  have hf : hasN s n x.node = true := hasN_true m hm hq
  rw [addN, addS, if_pos hf, if_pos hf]
  refine T_al (bdAd_p0 n s x m 0) Try.func25 ?_
  refine ⟨hL, ?_⟩
  simp only [All, Int.toNat_natCast, Nat.zero_add]; and_intros
  all_goals first
   | exact True.intro
   | (with_reducible assumption)
   | (rw [decide_eq_true_eq]; omega)
   | (rw [decide_eq_false_iff_not]; omega)
   | with_reducible rfl
   | (intro _ _; with_reducible rfl)
   | (intro _ _; trivial)
   | (intro _ _; rfl)
   | (simp only [IntKind.min, IntKind.max, IntKind.signed, IntKind.bits, if_true]; omega)
   | omega
   | (intro h; exact h)
   | (intro h; cases h; done)
   | exact .inl rfl
   | exact .inl trivial
   | exact .inr True.intro
   | trivial
end Go.Proofs.Ytpallipnhmoipaa
namespace Go.Proofs.Ytpallipnhmoipaa
open Go Sy Go.Proofs
def raI (n : Nat) (s : Nat → SSign) (x : SSign) (k : Nat) : St := ⟨mkT 62 [(0, sg n s), (3, .ptr (.o 0) 0 0 0 0), (5, .snil), (6, .int .i64 k)], hpA x, 1, []⟩
def raR (n : Nat) (s : Nat → SSign) : St := ⟨mkT 62 [(4, sgs 1 n)], [(.o 1, sgB n s)], 2, []⟩
def raJ (n : Nat) (s : Nat → SSign) (x : SSign) (m : Nat) (o : Nat → SSign) (d : Bool) (k : Nat) : St := ⟨mkT 62 [(0, sg n s), (3, .ptr (.o 0) 0 0 0 0), (5, sgs 1 m), (7, .bool d), (8, .int .i64 k)], hpA x ++ [(.o 1, sgB m o)], 2, []⟩
def raF (n : Nat) (s : Nat → SSign) : St := ⟨mkT 62 [(5, sgs 1 n)], [(.o 1, sgB n s)], 2, []⟩
noncomputable def bdRa (n : Nat) (s : Nat → SSign) (x : SSign) (m m1 : Nat) (o1 : Nat → SSign) (d1 : Bool) (m2 : Nat) (o2 : Nat → SSign) : Bd := { f := Try.f27, args := [sg n s, .agg x.c], kb := { db := fun _ _ _ _ => [], lp := fun id t => bif Nat.beq id 0 then [(True, .loop (n + 1) (wToS [(.o 0, nmV (getV t.tmps 3))] (raI n s x 0)) (.exit 0) (raI n s x n)), (True, .loop (m + 1) (wToS [(.o 0, nmV (getV t.tmps 3))] (raI n s x 0)) .ret (raR n s))] else [(True, .loop (n + 1) (wToS [(.o 0, nmV (getV t.tmps 3)), (.o 1, nmV (getV t.tmps 5))] (raJ n s x 0 s false 0)) (.exit 2) (raJ n s x m1 o1 d1 n))], fx := fun id t => bif Nat.beq id 7 then [.virt 5 17] else bif Nat.beq id 17 then [.wk (wToS [(.o 1, nmV (getV t.tmps 5))] (raF m2 o2))] else [] }, names := fun _ => [.o 1] }
noncomputable def pcRi (n : Nat) (s : Nat → SSign) (x : SSign) (k : Nat) : Pc := { c := cB (cB (cR (cL (cR (cR (bodyOf Try.f27)))))), st := raI n s x k, kb := kb0, k := fun e_ t => match e_ with
 | .normal => some (wTo (raI n s x (k + 1)))
 | .ret => some (wToS [(.o 1, nmV (getV t.tmps 4))] (raR n s))
 | _ => some (wTo (raI n s x n)) }
noncomputable def pcRo (n : Nat) (s : Nat → SSign) (x : SSign) (m : Nat) (o : Nat → SSign) (d : Bool) (k : Nat) (m2 : Nat) (o2 : Nat → SSign) (d2 : Bool) : Pc := { c := cB (cB (cR (cL (cR (cR (cR (cR (bodyOf Try.f27)))))))), st := raJ n s x m o d k, kb := kb0, k := fun e_ t => match e_ with
 | .normal => some (wToS [(.o 1, nmV (getV t.tmps 5))] (raJ n s x m2 o2 d2 (k + 1)))
 | _ => some (wTo (raJ n s x m o d n)) }
def saI (n : Nat) (s : Nat → SSign) (m : Nat) (u : Nat → SSign) (k : Nat) : St := ⟨mkT 26 [(0, sg n s), (1, sg m u), (5, .int .i64 k)], [], 0, []⟩
def saF : St := ⟨mkT 26 [(4, .bool false)], [], 0, []⟩
noncomputable def bdSa (n : Nat) (s : Nat → SSign) (m : Nat) (u : Nat → SSign) (j : Nat) : Bd := { f := Try.f26, args := [sg n s, sg m u], kb := { db := fun _ _ _ _ => [], lp := fun _ _ => [(True, .loop (n + 1) (wTo (saI n s m u 0)) (.exit 0) (saI n s m u n)), (True, .loop (j + 1) (wTo (saI n s m u 0)) .ret saF)] } }
noncomputable def pcSa (n : Nat) (s : Nat → SSign) (m : Nat) (u : Nat → SSign) (k : Nat) : Pc := { c := cB (cB (cR (cL (cR (cR (bodyOf Try.f26)))))), st := saI n s m u k, kb := kb0, k := fun e_ _ => match e_ with
 | .normal => some (wTo (saI n s m u (k + 1)))
 | .ret => some (wTo saF)
 | _ => some (wTo (saI n s m u n)) }
end Go.Proofs.Ytpallipnhmoipaa
namespace Go.Proofs.Ytpallipnhmoipaa
open Go Sy Go.Proofs
noncomputable def bdRa_c (n : Nat) (s : Nat → SSign) (x : SSign) (m : Nat) (m1 : Nat) (o1 : Nat → SSign) (d1 : Bool) (m2 : Nat) (o2 : Nat → SSign) : Nat → List Prop
 | 0 => [RLoop Try.prog none 0 (cB (cB (cR (cL (cR (cR (bodyOf (Bd.f (bdRa n s x m m1 o1 d1 m2 o2))))))))) (n + 1) (St.mk [.ros 17 n (fun i => SSign.c (s i)) false, .any, .any, .ptr (.o 0) 0 0 0 0, .any, .snil, .int .i64 0, .any, .any, .any, .any, .any, .any, .any, .any, .any, .any, .any, .any, .any, .any, .any, .any, .any, .any, .any, .any, .any, .any, .any, .any, .any, .any, .any, .any, .any, .any, .any, .any, .any, .any, .any, .any, .any, .any, .any, .any, .any, .any, .any, .any, .any, .any, .any, .any, .any, .any, .any, .any, .any, .any, .any] [(.o 0, .flat (SSign.c x))] 1 []) (.exit 0) (St.mk [.ros 17 n (fun i => SSign.c (s i)) false, .any, .any, .ptr (.o 0) 0 0 0 0, .any, .snil, .int .i64 ↑n, .any, .any, .any, .any, .any, .any, .any, .any, .any, .any, .any, .any, .any, .any, .any, .any, .any, .any, .any, .any, .any, .any, .any, .any, .any, .any, .any, .any, .any, .any, .any, .any, .any, .any, .any, .any, .any, .any, .any, .any, .any, .any, .any, .any, .any, .any, .any, .any, .any, .any, .any, .any, .any, .any, .any] [(.o 0, .flat (SSign.c x))] 1 []), q (SSign.node x), q (16 : Nat), q (SSign.tag x), q n, ∀ (k : Nat), k < n → SSign.c (s k) = SSign.c (s k), false = true → false = true, q0, q0, q0, q1, RLoop Try.prog none 0 (cB (cB (cR (cL (cR (cR (cR (cR (bodyOf (Bd.f (bdRa n s x m m1 o1 d1 m2 o2))))))))))) (n + 1) (St.mk [.ros 17 n (fun i => SSign.c (s i)) false, .any, .any, .ptr (.o 0) 0 0 0 0, .any, .sl (.o 1) 17 0 0 0 0 none, .any, .bool false, .int .i64 0, .any, .any, .any, .any, .any, .any, .any, .any, .any, .any, .any, .any, .any, .any, .any, .any, .any, .any, .any, .any, .any, .any, .any, .any, .any, .any, .any, .any, .any, .any, .any, .any, .any, .any, .any, .any, .any, .any, .any, .any, .any, .any, .any, .any, .any, .any, .any, .any, .any, .any, .any, .any, .any] [(.o 0, .flat (SSign.c x)), (.o 1, .rows 17 0 (gn s) true)] 2 []) (.exit 2) (St.mk [.ros 17 n (fun i => SSign.c (s i)) false, .any, .any, .ptr (.o 0) 0 0 0 0, .any, .sl (.o 1) 17 0 0 0 m1 none, .any, .bool d1, .int .i64 ↑n, .any, .any, .any, .any, .any, .any, .any, .any, .any, .any, .any, .any, .any, .any, .any, .any, .any, .any, .any, .any, .any, .any, .any, .any, .any, .any, .any, .any, .any, .any, .any, .any, .any, .any, .any, .any, .any, .any, .any, .any, .any, .any, .any, .any, .any, .any, .any, .any, .any, .any, .any, .any, .any] [(.o 0, .flat (SSign.c x)), (.o 1, .rows 17 m1 (gn o1) true)] 2 []), q (SSign.node x), q (16 : Nat), q (SSign.tag x), q0, ∀ (k : Nat), k < (0 : Nat) → [] = [V.int IntKind.i64 (SSign.node (s k)), V.seg IntKind.u8 (16 : Nat) (SSign.tag (s k))], true = false → true = false, q n, ∀ (k : Nat), k < n → SSign.c (s k) = SSign.c (s k), false = true → false = true, q0, q0, q0, q0, q0, q0, q0, (none : Option Nat) = none ∨ (none : Option Nat) = none, q false, q1]
 | _ => []
theorem bdRa_p11 (n : Nat) (s : Nat → SSign) (x : SSign) (m : Nat) (m1 : Nat) (o1 : Nat → SSign) (d1 : Bool) (m2 : Nat) (o2 : Nat → SSign) :
 along Try.prog (bdRa n s x m m1 o1 d1 m2 o2) [true, true] = (some (.sl (.o 1) 17 0 0 0 m2 none, [(.o 1, .rows 17 m2 (gn o2) true)], bdRa_c n s x m m1 o1 d1 m2 o2 0 ++ [(!d1) = true, q m1, nat_lit 1 ≤ (1 : Nat), ∀ (k : Nat), k < (1 : Nat) → solid (getL [[V.int IntKind.i64 (SSign.node x), V.seg IntKind.u8 (16 : Nat) (SSign.tag x)]] ((0 : Nat) + k)) = true, (m1 + (1 : Nat)) * (24 : Nat) ≤ (140737488355328 : Nat), m1 + (1 : Nat) = m2, ∀ (k : Nat), k < m1 + (1 : Nat) → catF m1 (gn o1) (fun k => getL [[V.int IntKind.i64 (SSign.node x), V.seg IntKind.u8 (16 : Nat) (SSign.tag x)]] ((0 : Nat) + k)) k = [V.int IntKind.i64 (SSign.node (o2 k)), V.seg IntKind.u8 (16 : Nat) (SSign.tag (o2 k))], true = false → true = false, q0, q0, q0, m1 + (1 : Nat) = m2, (none : Option Nat) = none ∨ (none : Option Nat) = none]) : Option (V × Heap × List Prop)) := by kernel_rfl
theorem bdRa_p10 (n : Nat) (s : Nat → SSign) (x : SSign) (m : Nat) (m1 : Nat) (o1 : Nat → SSign) (d1 : Bool) (m2 : Nat) (o2 : Nat → SSign) :
 along Try.prog (bdRa n s x m m1 o1 d1 m2 o2) [true, false] = (some (.sl (.o 1) 17 0 0 0 m2 none, [(.o 1, .rows 17 m2 (gn o2) true)], bdRa_c n s x m m1 o1 d1 m2 o2 0 ++ [(!d1) = false, m1 = m2, ∀ (k : Nat), k < m1 → [V.int IntKind.i64 (SSign.node (o1 k)), V.seg IntKind.u8 (16 : Nat) (SSign.tag (o1 k))] = [V.int IntKind.i64 (SSign.node (o2 k)), V.seg IntKind.u8 (16 : Nat) (SSign.tag (o2 k))], true = false → true = false, q0, q0, q0, m1 = m2, (none : Option Nat) = none ∨ (none : Option Nat) = none]) : Option (V × Heap × List Prop)) := by kernel_rfl
theorem bdRa_p0 (n : Nat) (s : Nat → SSign) (x : SSign) (m : Nat) (m1 : Nat) (o1 : Nat → SSign) (d1 : Bool) (m2 : Nat) (o2 : Nat → SSign) :
 along Try.prog (bdRa n s x m m1 o1 d1 m2 o2) [false] = (some (.sl (.o 1) 17 0 0 0 n none, [(.o 1, .rows 17 n (gn s) true)], [RLoop Try.prog none 0 (cB (cB (cR (cL (cR (cR (bodyOf (Bd.f (bdRa n s x m m1 o1 d1 m2 o2))))))))) (m + 1) (St.mk [.ros 17 n (fun i => SSign.c (s i)) false, .any, .any, .ptr (.o 0) 0 0 0 0, .any, .snil, .int .i64 0, .any, .any, .any, .any, .any, .any, .any, .any, .any, .any, .any, .any, .any, .any, .any, .any, .any, .any, .any, .any, .any, .any, .any, .any, .any, .any, .any, .any, .any, .any, .any, .any, .any, .any, .any, .any, .any, .any, .any, .any, .any, .any, .any, .any, .any, .any, .any, .any, .any, .any, .any, .any, .any, .any, .any] [(.o 0, .flat (SSign.c x))] 1 []) .ret (St.mk [.any, .any, .any, .any, .sl (.o 1) 17 0 0 0 n none, .any, .any, .any, .any, .any, .any, .any, .any, .any, .any, .any, .any, .any, .any, .any, .any, .any, .any, .any, .any, .any, .any, .any, .any, .any, .any, .any, .any, .any, .any, .any, .any, .any, .any, .any, .any, .any, .any, .any, .any, .any, .any, .any, .any, .any, .any, .any, .any, .any, .any, .any, .any, .any, .any, .any, .any, .any] [(.o 1, .rows 17 n (gn s) true)] 2 []), q (SSign.node x), q (16 : Nat), q (SSign.tag x), q n, ∀ (k : Nat), k < n → SSign.c (s k) = SSign.c (s k), false = true → false = true, q0, q0, q0, q1]) : Option (V × Heap × List Prop)) := by kernel_rfl

theorem pcRi_p11 (n : Nat) (s : Nat → SSign) (x : SSign) (k : Nat) :
  alongPc Try.prog (pcRi n s x k) [true, true] = (some (.ret, St.mk [.any, .any, .any, .any, .sl (.o 1) 17 0 0 0 n none, .any, .any, .any, .any, .any, .any, .any, .any, .any, .any, .any, .any, .any, .any, .any, .any, .any, .any, .any, .any, .any, .any, .any, .any, .any, .any, .any, .any, .any, .any, .any, .any, .any, .any, .any, .any, .any, .any, .any, .any, .any, .any, .any, .any, .any, .any, .any, .any, .any, .any, .any, .any, .any, .any, .any, .any, .any] [(.o 1, .rows 17 n (gn s) true)] 2 [], [decide ((↑k : Int) < (↑n : Int)) = true, (0 : Int) ≤ (↑k : Int) ∧ (↑k : Int) < (↑n : Int), decide (SSign.node (s (Int.toNat (↑k : Int))) = SSign.node x) = true, q0, ∀ (k : Nat), k < n → true = true, ((0 : Nat) + n) * (24 : Nat) ≤ (140737488355328 : Nat), (0 : Nat) + n = n, ∀ (k : Nat), k < (0 : Nat) + n → [V.int IntKind.i64 (SSign.node (s (k - (0 : Nat)))), V.seg IntKind.u8 (16 : Nat) (SSign.tag (s (k - (0 : Nat))))] = [V.int IntKind.i64 (SSign.node (s k)), V.seg IntKind.u8 (16 : Nat) (SSign.tag (s k))], true = false → true = false, q0, q0, q0, (0 : Nat) + n = n, (none : Option Nat) = none ∨ (none : Option Nat) = none]) : Option (Exit × St × List Prop)) := by kernel_rfl
theorem pcRi_p10 (n : Nat) (s : Nat → SSign) (x : SSign) (k : Nat) :
  alongPc Try.prog (pcRi n s x k) [true, false] = (some (.normal, St.mk [.ros 17 n (fun i => SSign.c (s i)) false, .any, .any, .ptr (.o 0) 0 0 0 0, .any, .snil, .int .i64 (↑(k + 1) : Int), .any, .any, .any, .any, .any, .any, .any, .any, .any, .any, .any, .any, .any, .any, .any, .any, .any, .any, .any, .any, .any, .any, .any, .any, .any, .any, .any, .any, .any, .any, .any, .any, .any, .any, .any, .any, .any, .any, .any, .any, .any, .any, .any, .any, .any, .any, .any, .any, .any, .any, .any, .any, .any, .any, .any] [(.o 0, .flat (SSign.c x))] 1 [], [decide ((↑k : Int) < (↑n : Int)) = true, (0 : Int) ≤ (↑k : Int) ∧ (↑k : Int) < (↑n : Int), decide (SSign.node (s (Int.toNat (↑k : Int))) = SSign.node x) = false, InR IntKind.i64 ((↑k : Int) + (1 : Int)), q (SSign.node x), q (16 : Nat), q (SSign.tag x), q n, ∀ (k : Nat), k < n → SSign.c (s k) = SSign.c (s k), false = true → false = true, q0, q0, q0, (↑k : Int) + (1 : Int) = (↑(k + (1 : Nat)) : Int)]) : Option (Exit × St × List Prop)) := by kernel_rfl
theorem pcRi_p0 (n : Nat) (s : Nat → SSign) (x : SSign) (k : Nat) :
  alongPc Try.prog (pcRi n s x k) [false] = (some (.exit 0, St.mk [.ros 17 n (fun i => SSign.c (s i)) false, .any, .any, .ptr (.o 0) 0 0 0 0, .any, .snil, .int .i64 ↑n, .any, .any, .any, .any, .any, .any, .any, .any, .any, .any, .any, .any, .any, .any, .any, .any, .any, .any, .any, .any, .any, .any, .any, .any, .any, .any, .any, .any, .any, .any, .any, .any, .any, .any, .any, .any, .any, .any, .any, .any, .any, .any, .any, .any, .any, .any, .any, .any, .any, .any, .any, .any, .any, .any, .any] [(.o 0, .flat (SSign.c x))] 1 [], [decide ((↑k : Int) < (↑n : Int)) = false, q (SSign.node x), q (16 : Nat), q (SSign.tag x), q n, ∀ (k : Nat), k < n → SSign.c (s k) = SSign.c (s k), false = true → false = true, q0, q0, q0, (↑k : Int) = (↑n : Int)]) : Option (Exit × St × List Prop)) := by kernel_rfl

theorem pcRo_p111 (n : Nat) (s : Nat → SSign) (x : SSign) (m : Nat) (o : Nat → SSign) (d : Bool) (k : Nat) (m2 : Nat) (o2 : Nat → SSign) (d2 : Bool) :
  alongPc Try.prog (pcRo n s x m o d k m2 o2 d2) [true, true, true] = (some (.normal, St.mk [.ros 17 n (fun i => SSign.c (s i)) false, .any, .any, .ptr (.o 0) 0 0 0 0, .any, .sl (.o 1) 17 0 0 0 m2 none, .any, .bool d2, .int .i64 (↑(k + 1) : Int), .any, .any, .any, .any, .any, .any, .any, .any, .any, .any, .any, .any, .any, .any, .any, .any, .any, .any, .any, .any, .any, .any, .any, .any, .any, .any, .any, .any, .any, .any, .any, .any, .any, .any, .any, .any, .any, .any, .any, .any, .any, .any, .any, .any, .any, .any, .any, .any, .any, .any, .any, .any, .any] [(.o 0, .flat (SSign.c x)), (.o 1, .rows 17 m2 (gn o2) true)] 2 [], [decide ((↑k : Int) < (↑n : Int)) = true, (!d) = true, (0 : Int) ≤ (↑k : Int) ∧ (↑k : Int) < (↑n : Int), decide (SSign.node x < SSign.node (s (Int.toNat (↑k : Int)))) = true, q m, nat_lit 1 ≤ (1 : Nat), ∀ (k : Nat), k < (1 : Nat) → solid (getL [[V.int IntKind.i64 (SSign.node x), V.seg IntKind.u8 (16 : Nat) (SSign.tag x)]] ((0 : Nat) + k)) = true, (m + (1 : Nat)) * (24 : Nat) ≤ (140737488355328 : Nat), (0 : Int) ≤ (↑k : Int) ∧ (↑k : Int) < (↑n : Int), q (m + (1 : Nat)), nat_lit 1 ≤ (1 : Nat), ∀ (k_1 : Nat), k_1 < (1 : Nat) → solid (getL [[V.int IntKind.i64 (SSign.node (s (Int.toNat (↑k : Int)))), V.seg IntKind.u8 (16 : Nat) (SSign.tag (s (Int.toNat (↑k : Int))))]] ((0 : Nat) + k_1)) = true, (m + (1 : Nat) + (1 : Nat)) * (24 : Nat) ≤ (140737488355328 : Nat), InR IntKind.i64 ((↑k : Int) + (1 : Int)), q (SSign.node x), q (16 : Nat), q (SSign.tag x), m + (1 : Nat) + (1 : Nat) = m2, ∀ (k_1 : Nat), k_1 < m + (1 : Nat) + (1 : Nat) → catF (m + (1 : Nat)) (catF m (gn o) fun k => getL [[V.int IntKind.i64 (SSign.node x), V.seg IntKind.u8 (16 : Nat) (SSign.tag x)]] ((0 : Nat) + k)) (fun k_2 => getL [[V.int IntKind.i64 (SSign.node (s (Int.toNat (↑k : Int)))), V.seg IntKind.u8 (16 : Nat) (SSign.tag (s (Int.toNat (↑k : Int))))]] ((0 : Nat) + k_2)) k_1 = [V.int IntKind.i64 (SSign.node (o2 k_1)), V.seg IntKind.u8 (16 : Nat) (SSign.tag (o2 k_1))], true = false → true = false, q n, ∀ (k : Nat), k < n → SSign.c (s k) = SSign.c (s k), false = true → false = true, q0, q0, q0, q0, q0, q0, m + (1 : Nat) + (1 : Nat) = m2, (none : Option Nat) = none ∨ (none : Option Nat) = none, true = d2, (↑k : Int) + (1 : Int) = (↑(k + (1 : Nat)) : Int)]) : Option (Exit × St × List Prop)) := by kernel_rfl
theorem pcRo_p110 (n : Nat) (s : Nat → SSign) (x : SSign) (m : Nat) (o : Nat → SSign) (d : Bool) (k : Nat) (m2 : Nat) (o2 : Nat → SSign) (d2 : Bool) :
  alongPc Try.prog (pcRo n s x m o d k m2 o2 d2) [true, true, false] = (some (.normal, St.mk [.ros 17 n (fun i => SSign.c (s i)) false, .any, .any, .ptr (.o 0) 0 0 0 0, .any, .sl (.o 1) 17 0 0 0 m2 none, .any, .bool d2, .int .i64 (↑(k + 1) : Int), .any, .any, .any, .any, .any, .any, .any, .any, .any, .any, .any, .any, .any, .any, .any, .any, .any, .any, .any, .any, .any, .any, .any, .any, .any, .any, .any, .any, .any, .any, .any, .any, .any, .any, .any, .any, .any, .any, .any, .any, .any, .any, .any, .any, .any, .any, .any, .any, .any, .any, .any, .any, .any] [(.o 0, .flat (SSign.c x)), (.o 1, .rows 17 m2 (gn o2) true)] 2 [], [decide ((↑k : Int) < (↑n : Int)) = true, (!d) = true, (0 : Int) ≤ (↑k : Int) ∧ (↑k : Int) < (↑n : Int), decide (SSign.node x < SSign.node (s (Int.toNat (↑k : Int)))) = false, (0 : Int) ≤ (↑k : Int) ∧ (↑k : Int) < (↑n : Int), q m, nat_lit 1 ≤ (1 : Nat), ∀ (k_1 : Nat), k_1 < (1 : Nat) → solid (getL [[V.int IntKind.i64 (SSign.node (s (Int.toNat (↑k : Int)))), V.seg IntKind.u8 (16 : Nat) (SSign.tag (s (Int.toNat (↑k : Int))))]] ((0 : Nat) + k_1)) = true, (m + (1 : Nat)) * (24 : Nat) ≤ (140737488355328 : Nat), InR IntKind.i64 ((↑k : Int) + (1 : Int)), q (SSign.node x), q (16 : Nat), q (SSign.tag x), m + (1 : Nat) = m2, ∀ (k_1 : Nat), k_1 < m + (1 : Nat) → catF m (gn o) (fun k_2 => getL [[V.int IntKind.i64 (SSign.node (s (Int.toNat (↑k : Int)))), V.seg IntKind.u8 (16 : Nat) (SSign.tag (s (Int.toNat (↑k : Int))))]] ((0 : Nat) + k_2)) k_1 = [V.int IntKind.i64 (SSign.node (o2 k_1)), V.seg IntKind.u8 (16 : Nat) (SSign.tag (o2 k_1))], true = false → true = false, q n, ∀ (k : Nat), k < n → SSign.c (s k) = SSign.c (s k), false = true → false = true, q0, q0, q0, q0, q0, q0, m + (1 : Nat) = m2, (none : Option Nat) = none ∨ (none : Option Nat) = none, d = d2, (↑k : Int) + (1 : Int) = (↑(k + (1 : Nat)) : Int)]) : Option (Exit × St × List Prop)) := by kernel_rfl
theorem pcRo_p100 (n : Nat) (s : Nat → SSign) (x : SSign) (m : Nat) (o : Nat → SSign) (d : Bool) (k : Nat) (m2 : Nat) (o2 : Nat → SSign) (d2 : Bool) :
  alongPc Try.prog (pcRo n s x m o d k m2 o2 d2) [true, false, false] = (some (.normal, St.mk [.ros 17 n (fun i => SSign.c (s i)) false, .any, .any, .ptr (.o 0) 0 0 0 0, .any, .sl (.o 1) 17 0 0 0 m2 none, .any, .bool d2, .int .i64 (↑(k + 1) : Int), .any, .any, .any, .any, .any, .any, .any, .any, .any, .any, .any, .any, .any, .any, .any, .any, .any, .any, .any, .any, .any, .any, .any, .any, .any, .any, .any, .any, .any, .any, .any, .any, .any, .any, .any, .any, .any, .any, .any, .any, .any, .any, .any, .any, .any, .any, .any, .any, .any, .any, .any, .any, .any] [(.o 0, .flat (SSign.c x)), (.o 1, .rows 17 m2 (gn o2) true)] 2 [], [decide ((↑k : Int) < (↑n : Int)) = true, (!d) = false, q false, (0 : Int) ≤ (↑k : Int) ∧ (↑k : Int) < (↑n : Int), q m, nat_lit 1 ≤ (1 : Nat), ∀ (k_1 : Nat), k_1 < (1 : Nat) → solid (getL [[V.int IntKind.i64 (SSign.node (s (Int.toNat (↑k : Int)))), V.seg IntKind.u8 (16 : Nat) (SSign.tag (s (Int.toNat (↑k : Int))))]] ((0 : Nat) + k_1)) = true, (m + (1 : Nat)) * (24 : Nat) ≤ (140737488355328 : Nat), InR IntKind.i64 ((↑k : Int) + (1 : Int)), q (SSign.node x), q (16 : Nat), q (SSign.tag x), m + (1 : Nat) = m2, ∀ (k_1 : Nat), k_1 < m + (1 : Nat) → catF m (gn o) (fun k_2 => getL [[V.int IntKind.i64 (SSign.node (s (Int.toNat (↑k : Int)))), V.seg IntKind.u8 (16 : Nat) (SSign.tag (s (Int.toNat (↑k : Int))))]] ((0 : Nat) + k_2)) k_1 = [V.int IntKind.i64 (SSign.node (o2 k_1)), V.seg IntKind.u8 (16 : Nat) (SSign.tag (o2 k_1))], true = false → true = false, q n, ∀ (k : Nat), k < n → SSign.c (s k) = SSign.c (s k), false = true → false = true, q0, q0, q0, q0, q0, q0, m + (1 : Nat) = m2, (none : Option Nat) = none ∨ (none : Option Nat) = none, d = d2, (↑k : Int) + (1 : Int) = (↑(k + (1 : Nat)) : Int)]) : Option (Exit × St × List Prop)) := by kernel_rfl
theorem pcRo_p0 (n : Nat) (s : Nat → SSign) (x : SSign) (m : Nat) (o : Nat → SSign) (d : Bool) (k : Nat) (m2 : Nat) (o2 : Nat → SSign) (d2 : Bool) :
  alongPc Try.prog (pcRo n s x m o d k m2 o2 d2) [false] = (some (.exit 2, St.mk [.ros 17 n (fun i => SSign.c (s i)) false, .any, .any, .ptr (.o 0) 0 0 0 0, .any, .sl (.o 1) 17 0 0 0 m none, .any, .bool d, .int .i64 ↑n, .any, .any, .any, .any, .any, .any, .any, .any, .any, .any, .any, .any, .any, .any, .any, .any, .any, .any, .any, .any, .any, .any, .any, .any, .any, .any, .any, .any, .any, .any, .any, .any, .any, .any, .any, .any, .any, .any, .any, .any, .any, .any, .any, .any, .any, .any, .any, .any, .any, .any, .any, .any, .any] [(.o 0, .flat (SSign.c x)), (.o 1, .rows 17 m (gn o) true)] 2 [], [decide ((↑k : Int) < (↑n : Int)) = false, q (SSign.node x), q (16 : Nat), q (SSign.tag x), q m, ∀ (k : Nat), k < m → [V.int IntKind.i64 (SSign.node (o k)), V.seg IntKind.u8 (16 : Nat) (SSign.tag (o k))] = [V.int IntKind.i64 (SSign.node (o k)), V.seg IntKind.u8 (16 : Nat) (SSign.tag (o k))], true = false → true = false, q n, ∀ (k : Nat), k < n → SSign.c (s k) = SSign.c (s k), false = true → false = true, q0, q0, q0, q0, q0, q0, q m, (none : Option Nat) = none ∨ (none : Option Nat) = none, q d, (↑k : Int) = (↑n : Int)]) : Option (Exit × St × List Prop)) := by kernel_rfl

theorem bdSa_p1 (n : Nat) (s : Nat → SSign) (m : Nat) (u : Nat → SSign) (j : Nat) :
  along Try.prog (bdSa n s m u j) [true] = (some (.bool false, [], [(!decide ((↑n : Int) = (↑m : Int))) = true]) : Option (V × Heap × List Prop)) := by kernel_rfl
theorem bdSa_p01 (n : Nat) (s : Nat → SSign) (m : Nat) (u : Nat → SSign) (j : Nat) :
  along Try.prog (bdSa n s m u j) [false, true] = (some (.bool true, [], [(!decide ((↑n : Int) = (↑m : Int))) = false, RLoop Try.prog none 0 (cB (cB (cR (cL (cR (cR (bodyOf (Bd.f (bdSa n s m u j))))))))) (n + 1) (St.mk [.ros 17 n (fun i => SSign.c (s i)) false, .ros 17 m (fun i => SSign.c (u i)) false, .any, .any, .any, .int .i64 0, .any, .any, .any, .any, .any, .any, .any, .any, .any, .any, .any, .any, .any, .any, .any, .any, .any, .any, .any, .any] [] 0 []) (.exit 0) (St.mk [.ros 17 n (fun i => SSign.c (s i)) false, .ros 17 m (fun i => SSign.c (u i)) false, .any, .any, .any, .int .i64 ↑n, .any, .any, .any, .any, .any, .any, .any, .any, .any, .any, .any, .any, .any, .any, .any, .any, .any, .any, .any, .any] [] 0 []), q n, ∀ (k : Nat), k < n → SSign.c (s k) = SSign.c (s k), false = true → false = true, q m, ∀ (k : Nat), k < m → SSign.c (u k) = SSign.c (u k), false = true → false = true, q1]) : Option (V × Heap × List Prop)) := by kernel_rfl
theorem bdSa_p00 (n : Nat) (s : Nat → SSign) (m : Nat) (u : Nat → SSign) (j : Nat) :
  along Try.prog (bdSa n s m u j) [false, false] = (some (.bool false, [], [(!decide ((↑n : Int) = (↑m : Int))) = false, RLoop Try.prog none 0 (cB (cB (cR (cL (cR (cR (bodyOf (Bd.f (bdSa n s m u j))))))))) (j + 1) (St.mk [.ros 17 n (fun i => SSign.c (s i)) false, .ros 17 m (fun i => SSign.c (u i)) false, .any, .any, .any, .int .i64 0, .any, .any, .any, .any, .any, .any, .any, .any, .any, .any, .any, .any, .any, .any, .any, .any, .any, .any, .any, .any] [] 0 []) .ret (St.mk [.any, .any, .any, .any, .bool false, .any, .any, .any, .any, .any, .any, .any, .any, .any, .any, .any, .any, .any, .any, .any, .any, .any, .any, .any, .any, .any] [] 0 []), q n, ∀ (k : Nat), k < n → SSign.c (s k) = SSign.c (s k), false = true → false = true, q m, ∀ (k : Nat), k < m → SSign.c (u k) = SSign.c (u k), false = true → false = true, q1]) : Option (V × Heap × List Prop)) := by kernel_rfl

theorem pcSa_p11 (n : Nat) (s : Nat → SSign) (m : Nat) (u : Nat → SSign) (k : Nat) :
  alongPc Try.prog (pcSa n s m u k) [true, true] = (some (.ret, St.mk [.any, .any, .any, .any, .bool false, .any, .any, .any, .any, .any, .any, .any, .any, .any, .any, .any, .any, .any, .any, .any, .any, .any, .any, .any, .any, .any] [] 0 [], [decide ((↑k : Int) < (↑n : Int)) = true, (0 : Int) ≤ (↑k : Int) ∧ (↑k : Int) < (↑n : Int), (0 : Int) ≤ (↑k : Int) ∧ (↑k : Int) < (↑m : Int), (!(decide (SSign.node (s (Int.toNat (↑k : Int))) = SSign.node (u (Int.toNat (↑k : Int)))) && (decide (SSign.tag (s (Int.toNat (↑k : Int))) = SSign.tag (u (Int.toNat (↑k : Int)))) && true))) = true, q false]) : Option (Exit × St × List Prop)) := by kernel_rfl
theorem pcSa_p10 (n : Nat) (s : Nat → SSign) (m : Nat) (u : Nat → SSign) (k : Nat) :
  alongPc Try.prog (pcSa n s m u k) [true, false] = (some (.normal, St.mk [.ros 17 n (fun i => SSign.c (s i)) false, .ros 17 m (fun i => SSign.c (u i)) false, .any, .any, .any, .int .i64 (↑(k + 1) : Int), .any, .any, .any, .any, .any, .any, .any, .any, .any, .any, .any, .any, .any, .any, .any, .any, .any, .any, .any, .any] [] 0 [], [decide ((↑k : Int) < (↑n : Int)) = true, (0 : Int) ≤ (↑k : Int) ∧ (↑k : Int) < (↑n : Int), (0 : Int) ≤ (↑k : Int) ∧ (↑k : Int) < (↑m : Int), (!(decide (SSign.node (s (Int.toNat (↑k : Int))) = SSign.node (u (Int.toNat (↑k : Int)))) && (decide (SSign.tag (s (Int.toNat (↑k : Int))) = SSign.tag (u (Int.toNat (↑k : Int)))) && true))) = false, InR IntKind.i64 ((↑k : Int) + (1 : Int)), q n, ∀ (k : Nat), k < n → SSign.c (s k) = SSign.c (s k), false = true → false = true, q m, ∀ (k : Nat), k < m → SSign.c (u k) = SSign.c (u k), false = true → false = true, (↑k : Int) + (1 : Int) = (↑(k + (1 : Nat)) : Int)]) : Option (Exit × St × List Prop)) := by kernel_rfl
theorem pcSa_p0 (n : Nat) (s : Nat → SSign) (m : Nat) (u : Nat → SSign) (k : Nat) :
  alongPc Try.prog (pcSa n s m u k) [false] = (some (.exit 0, St.mk [.ros 17 n (fun i => SSign.c (s i)) false, .ros 17 m (fun i => SSign.c (u i)) false, .any, .any, .any, .int .i64 ↑n, .any, .any, .any, .any, .any, .any, .any, .any, .any, .any, .any, .any, .any, .any, .any, .any, .any, .any, .any, .any] [] 0 [], [decide ((↑k : Int) < (↑n : Int)) = false, q n, ∀ (k : Nat), k < n → SSign.c (s k) = SSign.c (s k), false = true → false = true, q m, ∀ (k : Nat), k < m → SSign.c (u k) = SSign.c (u k), false = true → false = true, (↑k : Int) = (↑n : Int)]) : Option (Exit × St × List Prop)) := by kernel_rfl

theorem catg {m : Nat} {o o2 : Nat → SSign} {y : SSign} (h1 : ∀ q, q < m → o q = o2 q) (h2 : y = o2 m) (q : Nat) (hq : q < m + 1) :
  catF m (gn o) (fun k => getL [[V.int .i64 y.node, V.seg .u8 16 y.tag]] (0 + k)) q = [V.int .i64 (o2 q).node, V.seg .u8 16 (o2 q).tag] := by
 rw [catF]
 cases hb : Nat.blt q m with
 | true => rw [Nat.blt_eq] at hb; rw [cond_true, gn, h1 q hb]; rfl
 | false =>
  have : ¬ q < m := by rw [← Nat.blt_eq, hb]; simp
  obtain rfl : q = m := by omega
  rw [cond_false, Nat.sub_self, h2]; rfl
theorem catg2 {m : Nat} {o o2 : Nat → SSign} {y z : SSign} (h1 : ∀ q, q < m → o q = o2 q) (h2 : y = o2 m) (h3 : z = o2 (m + 1)) (q : Nat) (hq : q < m + 1 + 1) :
  catF (m + 1) (catF m (gn o) (fun k => getL [[V.int .i64 y.node, V.seg .u8 16 y.tag]] (0 + k))) (fun k => getL [[V.int .i64 z.node, V.seg .u8 16 z.tag]] (0 + k)) q = [V.int .i64 (o2 q).node, V.seg .u8 16 (o2 q).tag] := by
 rw [catF]
 cases hb : Nat.blt q (m + 1) with
 | true => rw [Nat.blt_eq] at hb; rw [cond_true]; exact catg h1 h2 q hb
 | false =>
  have : ¬ q < m + 1 := by rw [← Nat.blt_eq, hb]; simp
  obtain rfl : q = m + 1 := by omega
  rw [cond_false, Nat.sub_self, h3]; rfl
theorem sol1 (y : SSign) (k : Nat) (hk : k < 1) : solid (getL [[V.int .i64 y.node, V.seg .u8 16 y.tag]] (0 + k)) = true := by
 obtain rfl : k = 0 := by omega
 rfl
theorem ins_lt {s : Nat → SSign} {a q : Nat} {x : SSign} (h : q < a) : insS s a x q = s q := if_pos h
theorem ins_at {s : Nat → SSign} {a : Nat} {x : SSign} : insS s a x a = x := by rw [insS, if_neg (Nat.lt_irrefl a), if_pos rfl]
theorem ins_gt {s : Nat → SSign} {a q : Nat} {x : SSign} (h : a ≤ q) : insS s a x (q + 1) = s q := by rw [insS, if_neg (by omega), if_neg (by omega)]; rfl
def roM (a k : Nat) : Nat := if a < k then k + 1 else k
def roO (s : Nat → SSign) (x : SSign) (a k : Nat) : Nat → SSign := if a < k then insS s a x else s
theorem roL {n : Nat} (s : Nat → SSign) (x : SSign) (hn : n ≤ 1000000) :
  RLoop Try.prog none 0 (cB (cB (cR (cL (cR (cR (cR (cR (bodyOf Try.f27))))))))) (n + 1) (raJ n s x 0 s false 0) (.exit 2) (raJ n s x (roM (atS s x.node n) n) (roO s x (atS s x.node n) n) (decide (atS s x.node n < n)) n) := by
 have ha := atS_le s x.node n
 have hlt : ∀ k, k < atS s x.node n → ¬ x.node < (s k).node := fun k h => atS_lt h
 have hgt : atS s x.node n < n → x.node < (s (atS s x.node n)).node := fun h => atS_gt h
 generalize atS s x.node n = a at ha hlt hgt
 have hstep : ∀ k, k < n → R Try.prog none 0 (cB (cB (cR (cL (cR (cR (cR (cR (bodyOf Try.f27))))))))) (raJ n s x (roM a k) (roO s x a k) (decide (a < k)) k) .normal (raJ n s x (roM a (k + 1)) (roO s x a (k + 1)) (decide (a < k + 1)) (k + 1)) := by
  intro k hk
  rcases Nat.lt_trichotomy k a with h | h | h
  ·have hn1 := hlt k h
   rw [roM, roO, roM, roO, if_neg (by omega), if_neg (by omega), if_neg (by omega), if_neg (by omega), decide_eq_false (by omega), decide_eq_false (by omega)]
   refine R_alongPc NG MO _ (pcRo_p110 n s x k s false k (k + 1) s false) ?_ (Nat.zero_le _)
   simp only [All, All_append, bdRa_c, Int.toNat_natCast]; and_intros
   all_goals first
    | (intro k hk; exact sol1 _ k hk)
    | (intro q hq; exact catg (fun _ _ => rfl) rfl q hq)
    | exact True.intro
    | (with_reducible assumption)
    | (rw [decide_eq_true_eq]; omega)
    | (rw [decide_eq_false_iff_not]; omega)
    | with_reducible rfl
    | (intro _ _; exact True.intro)
    | (intro _ _; with_reducible rfl)
    | (intro _ _; rfl)
    | (simp only [IntKind.min, IntKind.max, IntKind.signed, IntKind.bits, if_true]; omega)
    | omega
    | (intro h; exact h)
    | (intro h; cases h; done)
    | exact .inl rfl
    | exact .inl True.intro
    | (simp; done)
  ·subst h
   have hg1 := hgt hk
   rw [roM, roO, roM, roO, if_neg (by omega), if_neg (by omega), if_pos (by omega), if_pos (by omega), decide_eq_false (by omega), decide_eq_true (by omega)]
   refine R_alongPc NG MO _ (pcRo_p111 n s x k s false k (k + 1 + 1) (insS s k x) true) ?_ (Nat.zero_le _)
   simp only [All, All_append, bdRa_c, Int.toNat_natCast]; and_intros
   all_goals first
    | (intro k hk; exact sol1 _ k hk)
    | (intro q hq; exact catg2 (fun q hq => (ins_lt hq).symm) ins_at.symm (ins_gt (Nat.le_refl _)).symm q hq)
    | exact True.intro
    | (with_reducible assumption)
    | (rw [decide_eq_true_eq]; omega)
    | (rw [decide_eq_false_iff_not]; omega)
    | with_reducible rfl
    | (intro _ _; exact True.intro)
    | (intro _ _; with_reducible rfl)
    | (intro _ _; rfl)
    | (simp only [IntKind.min, IntKind.max, IntKind.signed, IntKind.bits, if_true]; omega)
    | omega
    | (intro h; exact h)
    | (intro h; cases h; done)
    | exact .inl rfl
    | exact .inl True.intro
    | (simp; done)
  ·rw [roM, roO, roM, roO, if_pos (by omega), if_pos (by omega), if_pos (by omega), if_pos (by omega), decide_eq_true (by omega), decide_eq_true (by omega)]
   refine R_alongPc NG MO _ (pcRo_p100 n s x (k + 1) (insS s a x) true k (k + 1 + 1) (insS s a x) true) ?_ (Nat.zero_le _)
   simp only [All, All_append, bdRa_c, Int.toNat_natCast]; and_intros
   all_goals first
    | (intro k hk; exact sol1 _ k hk)
    | (intro q hq; exact catg (fun _ _ => rfl) (ins_gt (Nat.le_of_lt h)).symm q hq)
    | exact True.intro
    | (with_reducible assumption)
    | (rw [decide_eq_true_eq]; omega)
    | (rw [decide_eq_false_iff_not]; omega)
    | with_reducible rfl
    | (intro _ _; exact True.intro)
    | (intro _ _; with_reducible rfl)
    | (intro _ _; rfl)
    | (simp only [IntKind.min, IntKind.max, IntKind.signed, IntKind.bits, if_true]; omega)
    | omega
    | (intro h; exact h)
    | (intro h; cases h; done)
    | exact .inl rfl
    | exact .inl True.intro
    | (simp; done)
 have hend : R Try.prog none 0 (cB (cB (cR (cL (cR (cR (cR (cR (bodyOf Try.f27))))))))) (raJ n s x (roM a n) (roO s x a n) (decide (a < n)) n) (.exit 2) (raJ n s x (roM a n) (roO s x a n) (decide (a < n)) n) := by
  refine R_alongPc NG MO _ (pcRo_p0 n s x (roM a n) (roO s x a n) (decide (a < n)) n 0 s false) ?_ (Nat.zero_le _)
  simp only [All, All_append, bdRa_c, Int.toNat_natCast]; and_intros
  all_goals first
   | exact True.intro
   | (with_reducible assumption)
   | (rw [decide_eq_true_eq]; omega)
   | (rw [decide_eq_false_iff_not]; omega)
   | with_reducible rfl
   | (intro _ _; exact True.intro)
   | (intro _ _; with_reducible rfl)
   | (intro _ _; rfl)
   | (simp only [IntKind.min, IntKind.max, IntKind.signed, IntKind.bits, if_true]; omega)
   | omega
   | (intro h; exact h)
   | (intro h; cases h; done)
   | exact .inl rfl
   | exact .inl True.intro
   | (simp; done)
 have := RLoop.inv (fun k => raJ n s x (roM a k) (roO s x a k) (decide (a < k)) k) n hstep hend (by simp)
 simpa [roM, roO] using this
theorem T_ra {n : Nat} (s : Nat → SSign) (x : SSign) (hn : n ≤ 1000000) : T Try.prog 27 [sg n s, .agg x.c] [] (sgs 1 (addN s n x)) [(.o 1, sgB (addN s n x) (addS s n x))] := by
 rcases loop_all (P := Try.prog) (ro := none) (p := 0) (c := cB (cB (cR (cL (cR (cR (bodyOf Try.f27))))))) (I := raI n s x) (F := fun _ => raR n s) (e := fun _ => .ret) (q := fun k => ¬ (s k).node = x.node) (n := n)
   (fun k hk hq => by
    refine R_alongPc NG MO _ (pcRi_p10 n s x k) ?_ (Nat.zero_le _)
    simp only [All, All_append, bdRa_c, Int.toNat_natCast]; and_intros
    all_goals first
     | exact decide_eq_false hq
     | exact True.intro
     | (with_reducible assumption)
     | (rw [decide_eq_true_eq]; omega)
     | (rw [decide_eq_false_iff_not]; omega)
     | with_reducible rfl
     | (intro _ _; exact True.intro)
     | (intro _ _; with_reducible rfl)
     | (intro _ _; rfl)
     | (simp only [IntKind.min, IntKind.max, IntKind.signed, IntKind.bits, if_true]; omega)
     | omega
     | (intro h; exact h)
     | (intro h; cases h; done)
     | exact .inl rfl
     | exact .inl True.intro)
   (fun k hk hq => by
    have hq := Classical.not_not.1 hq
    refine R_alongPc NG MO _ (pcRi_p11 n s x k) ?_ (Nat.zero_le _)
    simp only [All, All_append, bdRa_c, Int.toNat_natCast, Nat.zero_add]; and_intros
    all_goals first
     | exact decide_eq_true hq
     | exact True.intro
     | (with_reducible assumption)
     | (rw [decide_eq_true_eq]; omega)
     | (rw [decide_eq_false_iff_not]; omega)
     | with_reducible rfl
     | (intro _ _; exact True.intro)
     | (intro _ _; with_reducible rfl)
     | (intro _ _; rfl)
     | (simp only [IntKind.min, IntKind.max, IntKind.signed, IntKind.bits, if_true]; omega)
     | omega
     | (intro h; exact h)
     | (intro h; cases h; done)
     | exact .inl rfl
     | exact .inl True.intro)
   (by simp) (R_alongPc NG MO _ (pcRi_p0 n s x n) (by
    simp only [All, All_append, bdRa_c, Int.toNat_natCast]; and_intros
    all_goals first
     | exact True.intro
     | (with_reducible assumption)
     | (rw [decide_eq_true_eq]; omega)
     | (rw [decide_eq_false_iff_not]; omega)
     | with_reducible rfl
     | (intro _ _; exact True.intro)
     | (intro _ _; with_reducible rfl)
     | (intro _ _; rfl)
     | (simp only [IntKind.min, IntKind.max, IntKind.signed, IntKind.bits, if_true]; omega)
     | omega
     | (intro h; exact h)
     | (intro h; cases h; done)
     | exact .inl rfl
     | exact .inl True.intro) (Nat.zero_le _)) (by simp) with ⟨h, hL⟩ | ⟨m, hm, _, hq, hL⟩
 ·have hf : hasN s n x.node = false := hasN_false h
  have hL2 := roL s x hn
  have ha := atS_le s x.node n
  rw [addN, addS, if_neg (by rw [hf]; simp), if_neg (by rw [hf]; simp)]
  generalize atS s x.node n = a at hL2 ha
  by_cases han : a < n
  ·rw [roM, roO, if_pos han, if_pos han, decide_eq_true han] at hL2
   refine T_al (bdRa_p10 n s x 0 (n + 1) (insS s a x) true (n + 1) (insS s a x)) Try.func27 ?_
   refine ⟨hL, ?_⟩
   simp only [All, All_append, bdRa_c, Int.toNat_natCast]; and_intros
   all_goals first
    | exact hL2
    | exact True.intro
    | (with_reducible assumption)
    | (rw [decide_eq_true_eq]; omega)
    | (rw [decide_eq_false_iff_not]; omega)
    | with_reducible rfl
    | (intro _ _; exact True.intro)
    | (intro _ _; with_reducible rfl)
    | (intro _ _; rfl)
    | (simp only [IntKind.min, IntKind.max, IntKind.signed, IntKind.bits, if_true]; omega)
    | omega
    | (intro h; exact h)
    | (intro h; cases h; done)
    | exact .inl rfl
    | exact .inl True.intro
    | (simp; done)
  ·obtain rfl : a = n := by omega
   rw [roM, roO, if_neg han, if_neg han, decide_eq_false han] at hL2
   refine T_al (bdRa_p11 a s x 0 a s false (a + 1) (insS s a x)) Try.func27 ?_
   refine ⟨hL, ?_⟩
   simp only [All, All_append, bdRa_c, Int.toNat_natCast]; and_intros
   all_goals first
    | exact hL2
    | (intro k hk; exact sol1 _ k hk)
    | (intro q hq; exact catg (fun q hq => (ins_lt hq).symm) ins_at.symm q hq)
    | exact True.intro
    | (with_reducible assumption)
    | (rw [decide_eq_true_eq]; omega)
    | (rw [decide_eq_false_iff_not]; omega)
    | with_reducible rfl
    | (intro _ _; exact True.intro)
    | (intro _ _; with_reducible rfl)
    | (intro _ _; rfl)
    | (simp only [IntKind.min, IntKind.max, IntKind.signed, IntKind.bits, if_true]; omega)
    | omega
    | (intro h; exact h)
    | (intro h; cases h; done)
    | exact .inl rfl
    | exact .inl True.intro
    | (simp; done)
 ·have hq := Classical.not_not.1 hq
  have hf : hasN s n x.node = true := hasN_true m hm hq
  rw [addN, addS, if_pos hf, if_pos hf]
  refine T_al (bdRa_p0 n s x m 0 s false 0 s) Try.func27 ?_
  refine ⟨hL, ?_⟩
  simp only [All, All_append, bdRa_c, Int.toNat_natCast]; and_intros
  all_goals first
   | exact True.intro
   | (with_reducible assumption)
   | (rw [decide_eq_true_eq]; omega)
   | (rw [decide_eq_false_iff_not]; omega)
   | with_reducible rfl
   | (intro _ _; exact True.intro)
   | (intro _ _; with_reducible rfl)
   | (intro _ _; rfl)
   | (simp only [IntKind.min, IntKind.max, IntKind.signed, IntKind.bits, if_true]; omega)
   | omega
   | (intro h; exact h)
   | (intro h; cases h; done)
   | exact .inl rfl
   | exact .inl True.intro
   | (simp; done)
/-- Signs that are the same. -/
theorem T_sa {n : Nat} (s : Nat → SSign) (hn : n ≤ 1000000) : T Try.prog 26 [sg n s, sg n s] [] (.bool true) [] := by
 have hstep : ∀ k, k < n → R Try.prog none 0 (cB (cB (cR (cL (cR (cR (bodyOf Try.f26))))))) (saI n s n s k) .normal (saI n s n s (k + 1)) := by
  intro k hk
  have e1 : (!(decide ((s k).node = (s k).node) && (decide ((s k).tag = (s k).tag) && true))) = false := by rw [decide_eq_true rfl, decide_eq_true rfl]; rfl
  refine R_alongPc NG MO _ (pcSa_p10 n s n s k) ?_ (Nat.zero_le _)
  simp only [All, All_append, bdRa_c, Int.toNat_natCast]; and_intros
  all_goals first
   | exact e1
   | exact True.intro
   | (with_reducible assumption)
   | (rw [decide_eq_true_eq]; omega)
   | (rw [decide_eq_false_iff_not]; omega)
   | with_reducible rfl
   | (intro _ _; exact True.intro)
   | (intro _ _; with_reducible rfl)
   | (intro _ _; rfl)
   | (simp only [IntKind.min, IntKind.max, IntKind.signed, IntKind.bits, if_true]; omega)
   | omega
   | (intro h; exact h)
   | (intro h; cases h; done)
   | exact .inl rfl
   | exact .inl True.intro
   | (simp; done)
 have hend : R Try.prog none 0 (cB (cB (cR (cL (cR (cR (bodyOf Try.f26))))))) (saI n s n s n) (.exit 0) (saI n s n s n) := by
  refine R_alongPc NG MO _ (pcSa_p0 n s n s n) ?_ (Nat.zero_le _)
  simp only [All, All_append, bdRa_c, Int.toNat_natCast]; and_intros
  all_goals first
   | exact True.intro
   | (with_reducible assumption)
   | (rw [decide_eq_true_eq]; omega)
   | (rw [decide_eq_false_iff_not]; omega)
   | with_reducible rfl
   | (intro _ _; exact True.intro)
   | (intro _ _; with_reducible rfl)
   | (intro _ _; rfl)
   | (simp only [IntKind.min, IntKind.max, IntKind.signed, IntKind.bits, if_true]; omega)
   | omega
   | (intro h; exact h)
   | (intro h; cases h; done)
   | exact .inl rfl
   | exact .inl True.intro
   | (simp; done)
 have hL := RLoop.inv (saI n s n s) n hstep hend (by simp)
 refine T_al (bdSa_p01 n s n s 0) Try.func26 ?_
 refine ⟨by simp, hL, ?_⟩
 simp only [All, All_append, bdRa_c, Int.toNat_natCast]; and_intros
 all_goals first
  | exact True.intro
  | (with_reducible assumption)
  | (rw [decide_eq_true_eq]; omega)
  | (rw [decide_eq_false_iff_not]; omega)
  | with_reducible rfl
  | (intro _ _; exact True.intro)
  | (intro _ _; with_reducible rfl)
  | (intro _ _; rfl)
  | (simp only [IntKind.min, IntKind.max, IntKind.signed, IntKind.bits, if_true]; omega)
  | omega
  | (intro h; exact h)
  | (intro h; cases h; done)
  | exact .inl rfl
  | exact .inl True.intro
  | (simp; done)
end Go.Proofs.Ytpallipnhmoipaa
namespace Go.Proofs.Ytpallipnhmoipaa
open Go Sy Go.Proofs
/-- The parts of a range over a function. -/
def cA : Code → Code
 | .rangeFunc _ _ a _ => a
 | _ => .skip
def cY : Code → Code
 | .rangeFunc _ _ _ b => b
 | _ => .skip
/-- Weaken to this state, one block as it is. -/
def hkeeps (n : Nm) : Heap → List (Nm × HK)
 | [] => []
 | q :: r => (bif q.1.beq n then (q.1, .keep) else (q.1, .set q.2)) :: hkeeps n r
def wToK (sw : List (Nm × Nm)) (n : Nm) (st : St) : W := ⟨sw, setsOf (enumT 0 st.tmps), hkeeps n st.heap, none, st.next⟩
/-- The block of the slice that a cell holds. -/
def cellSl (n : Nm) (h : Heap) : Nm := match pull n h with
 | some (.flat [v], _) => nmV v
 | _ => .g 0
def ndL (s : Nat → SSign) (k : Nat) : List Int := (List.range k).map fun i => (s i).node
def kEa (n : Nat) (s : Nat → SSign) : Exit → St → Option W := fun _ t => match getV t.tmps 2 with
 | .fn _ _ [.ptr a _ _ _ _] => some ⟨[(.o 63, a)], [(2, .set (.fn (.func 63) [] [.ptr (.o 63) 0 0 0 0]))], [(.o 63, .set (.flat [sg n s]))], none, t.next⟩
 | _ => none
noncomputable def bdEa (n : Nat) (s : Nat → SSign) : Bd := { f := Try.f47, args := [sg n s], kb := kb0, k := kEa n s, names := fun _ => [.o 63] }
def ndT : List V := mkT 12 [(2, .ptr (.o 1) 0 0 0 0), (5, .fn (.func 63) [] [.ptr (.o 2) 0 0 0 0])]
def ndH (n : Nat) (s : Nat → SSign) : Heap := [(.o 1, .flat [.snil]), (.o 2, .flat [sg n s])]
def ndK (k n : Nat) (s : Nat → SSign) : Heap := [(.o 1, .flat [ls 5 (ndL s k)]), (.o 5, lb (ndL s k)), (.o 2, .flat [sg n s])]
noncomputable def ndC : Code := cB (cR (cL (cR (bodyOf Try.f28))))
noncomputable def ndW (n : Nat) (s : Nat → SSign) (t : St) : W := match getV t.tmps 5 with
 | .fn _ _ [.ptr y _ _ _ _] => wToS [(.o 1, nmV (getV t.tmps 2)), (.o 2, y)] ⟨ndT, ndH n s, 3, []⟩
 | _ => wTo ⟨ndT, ndH n s, 3, []⟩
noncomputable def ndDb (n : Nat) (s : Nat → SSign) : Nat → List V → Heap → Nat → List Cl := dbQ [(47, fun _ _ lo => [{ val := .fn (.func 63) [] [.ptr (.o lo) 0 0 0 0], post := [(.o lo, .flat [sg n s])] }])]
noncomputable def bdN0 (n : Nat) (s : Nat → SSign) : Bd := { f := Try.f28, args := [sg n s], kb := { db := ndDb n s, lp := fun _ t => [(True, .loop 0 (ndW n s t) .normal ⟨ndT, ndH n s ++ [(.o 3, .dfr)], 500, [.o 3]⟩)] } }
noncomputable def bdNd (n : Nat) (s : Nat → SSign) : Bd := { f := Try.f28, args := [sg n s], kb := { db := ndDb n s, lp := fun _ t => [(True, .loop 0 (ndW n s t) .normal ⟨ndT, ndK n n s ++ [(.o 3, .dfr)], 500, [.o 3]⟩)] }, names := fun _ => [.o 5] }
/-- The loop's record; a round. -/
noncomputable def ndB (fn : FuncId) (st : LoopState) (pe : Option Code) : B := .loop fn #[6] ndT (cA ndC) (cY ndC) st pe
def ndX (x : Int) : List V := mkT 12 [(2, .ptr (.o 1) 0 0 0 0), (3, .int .i64 x)]
def ndA (L : List Int) : Heap := [(.o 1, .flat [ls 5 L]), (.o 5, lb L)]
def nd0 : Heap := [(.o 1, .flat [.snil])]
def ndP (L : List Int) : Heap := [(.o 1, .flat [ls 518 L]), (.o 518, lb L)]
noncomputable def pcNa (qq : Nat) (fn : FuncId) (h : Heap) (x : Int) (p : Nat) : Pc := { c := cA ndC, st := ⟨setMany ndT [(6, .int .i64 x)], (.o 4, ndB fn .ready none) :: h, p, []⟩, p := p, kb := kb0, ro := some qq, k := fun _ _ => some (wToK [] (.o 4) ⟨ndX x, (.o 4, ndB fn .ready none) :: h, 600, []⟩) }
noncomputable def pcNa0 (qq : Nat) (fn : FuncId) (x : Int) : Pc := pcNa qq fn nd0 x 5
noncomputable def pcNa1 (qq : Nat) (fn : FuncId) (L : List Int) (x : Int) : Pc := pcNa qq fn (ndA L) x 6
noncomputable def pcNy (qq : Nat) (fn : FuncId) (h : Heap) (x : Int) (L2 : List Int) (p : Nat) : Pc := { c := cY ndC, st := ⟨ndX x, (.o 4, ndB fn .busy none) :: h, 600, []⟩, p := p, kb := kb0, ro := some qq, k := fun _ t => some (wToK [(.o 518, cellSl (.o 1) t.heap)] (.o 4) ⟨mkT 12 [], (.o 4, ndB fn .busy none) :: ndP L2, 1000, []⟩) }
noncomputable def pcNy0 (qq : Nat) (fn : FuncId) (x : Int) : Pc := pcNy qq fn nd0 x [x] 5
noncomputable def pcNy1 (qq : Nat) (fn : FuncId) (L : List Int) (x : Int) (L2 : List Int) : Pc := pcNy qq fn (ndA L) x L2 6
/-- The iterator. -/
noncomputable def itI0 (fn : FuncId) (n : Nat) (s : Nat → SSign) : St := ⟨mkT 17 [(0, .yld (.o 4)), (5, sg n s), (6, .int .i64 n), (7, .int .i64 0)], (.o 4, ndB fn .ready none) :: ndH n s, 6, []⟩
noncomputable def itI (fn : FuncId) (n : Nat) (s : Nat → SSign) (k : Nat) : St := ⟨mkT 17 [(0, .yld (.o 4)), (5, sg n s), (6, .int .i64 n), (7, .int .i64 k)], (.o 4, ndB fn .ready none)   :: ndK k n s, 6, []⟩
noncomputable def bdIt0 (fn : FuncId) (n : Nat) (s : Nat → SSign) : Bd := { f := Try.f63, args := [.yld (.o 4), .ptr (.o 2) 0 0 0 0], pre := (.o 4, ndB fn .ready none) :: ndH n s, base := 5, kb := { db := fun _ _ _ _ => [], lp := fun _ _ => [(True, .loop 1 (wToK [] (.o 4) (itI0 fn n s)) (.exit 0) (itI0 fn n s))] }, names := fun _ => [.o 4, .o 1, .o 2] }
noncomputable def bdIt1 (fn : FuncId) (n : Nat) (s : Nat → SSign) : Bd := { f := Try.f63, args := [.yld (.o 4), .ptr (.o 2) 0 0 0 0], pre := (.o 4, ndB fn .ready none) :: ndH n s, base := 5, kb := { db := fun _ _ _ _ => [], lp := fun _ _ => [(True, .loop (n + 1) (wToK [] (.o 4) (itI0 fn n s)) (.exit 0) (itI fn n s n))] }, names := fun _ => [.o 4, .o 1, .o 5, .o 2] }
noncomputable def pcI0 (fn : FuncId) (n : Nat) (s : Nat → SSign) : Pc := { c := cB (cB (cR (bodyOf Try.f63))), st := itI0 fn n s, p := 5, kb := { db := fun _ _ _ _ => [], vl := fun lo => [{ pre := [.o 4, .o 1], val := .bool true, post := [(.o 4, ndB fn .ready none), (.o 1, .flat [ls lo [(s 0).node]]), (.o lo, lb [(s 0).node])] }] }, k := fun _ t => some (wToK [(.o 5, cellSl (.o 1) t.heap)] (.o 4) (itI fn n s 1)) }
noncomputable def pcI1 (fn : FuncId) (n : Nat) (s : Nat → SSign) (k : Nat) : Pc := { c := cB (cB (cR (bodyOf Try.f63))), st := itI fn n s k, p := 5, kb := { db := fun _ _ _ _ => [], vl := fun lo => [{ pre := [.o 4, .o 1, .o 5], val := .bool true, post := [(.o 4, ndB fn .ready none), (.o 1, .flat [ls lo (ndL s (k + 1))]), (.o lo, lb (ndL s (k + 1)))] }] }, k := fun _ t => some (wToK [(.o 5, cellSl (.o 1) t.heap)] (.o 4) (itI fn n s (k + 1))) }
noncomputable def pcE0 (fn : FuncId) (n : Nat) (s : Nat → SSign) : Pc := { c := cB (cB (cR (bodyOf Try.f63))), st := itI0 fn n s, p := 5, kb := kb0, k := fun _ _ => some (wToK [] (.o 4) (itI0 fn n s)) }
noncomputable def pcE1 (fn : FuncId) (n : Nat) (s : Nat → SSign) : Pc := { c := cB (cB (cR (bodyOf Try.f63))), st := itI fn n s n, p := 5, kb := kb0, k := fun _ _ => some (wToK [] (.o 4) (itI fn n s n)) }
end Go.Proofs.Ytpallipnhmoipaa
