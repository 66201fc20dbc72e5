/-
  Contracts and laws that the claim's theorem leans on, joined out of the texts Ma2 Ma3D Ma3 SyPrim Mb0D Mb0 SySha Ka1D Ka1 Ka2D (own work of this seat): Contracts: the i-th greatest; Contracts: the document's i-th greatest; that the law lives; QuorumCounts, QuorumNths; Contracts: the document's i-th greatest; that the law lives; QuorumCounts, QuorumNths; Contracts of operations: copying into, and appending within, an own row; Contracts: one more signer, by the program; Contracts: one more signer, by the program; The digest's numbers, plainly; Contracts: what the digest's rounds compute; Contracts: what the digest's rounds compute; Contract: one block of the digest.
-/
import Derived.Test.YtpallipnhmoipaaC03
import Derived.Test.YtpallipnhmoipaaC04
set_option linter.unusedVariables false
set_option linter.unusedSimpArgs false
set_option maxHeartbeats 1000000
namespace Go.Proofs.Ytpallipnhmoipaa
open Go Sy Go.Proofs
theorem bdNt_p11 (l : List Int) (i : Int) :
  along Try.prog (bdNt l i) [true, true] = (some (.int .i64 0, [], [decide (i < (1 : Int)) = true, q2]) : Option (V × Heap × List Prop)) := by kernel_rfl
theorem bdNt_p01 (l : List Int) (i : Int) :
  along Try.prog (bdNt l i) [false, true] = (some (.int .i64 0, [], [decide (i < (1 : Int)) = false, decide ((↑(List.length l) : Int) < i) = true]) : Option (V × Heap × List Prop)) := by kernel_rfl
theorem bdNt_p00 (l : List Int) (i : Int) :
  along Try.prog (bdNt l i) [false, false] = (some (.int .i64 (List.getD (srtD l) (0 + Int.toNat (i - (1 : Int))) (0 : Int)), [], [decide (i < (1 : Int)) = false, decide ((↑(List.length l) : Int) < i) = false, q0, ∀ (k : Nat), k < List.length l → true = true, ((0 : Nat) + List.length l) * (8 : Nat) ≤ (140737488355328 : Nat), T Try.prog 45 [.ifc 25 (.sl (.o 704) 1 0 0 0 (0 + List.length l) none), .fn (.func 46) [] [.ptr (.o 768) 0 0 0 0]] [(.o 704, .rows 1 (0 + List.length l) (catF 0 (getL []) (li l)) true), (.o 768, .flat [.sl (.o 704) 1 0 0 0 (0 + List.length l) none])] (.tup []) [(.o 704, .rows 1 (List.length l) (li (srtD l)) true), (.o 768, .flat [.sl (.o 704) 1 0 0 0 (List.length l) none])], InR IntKind.i64 (i - (1 : Int)), (0 : Int) ≤ i - (1 : Int) ∧ i - (1 : Int) < (↑(List.length l) : Int), (0 : Nat) + Int.toNat (i - (1 : Int)) < List.length l]) : Option (V × Heap × List Prop)) := by kernel_rfl

theorem bdRn_p1 (l : List Int) (i : Int) (m : Nat) (v : Int) :
  along Try.prog (bdRn l i m v) [true] = (some (.int .i64 0, [], [RLoop Try.prog none 0 (cB (cB (cR (cL (cR (bodyOf (Bd.f (bdRn l i m v)))))))) (List.length l + 1) (St.mk [.ros 1 (List.length l) (li l) false, .int .i64 i, .any, .any, .any, .int .i64 0, .any, .any, .any, .any, .any, .any, .any, .any, .any, .any, .any, .any, .any, .any, .any, .any, .any, .any, .any, .any, .any, .any, .any, .any, .any, .any, .any, .any, .any, .any, .any, .any, .any, .any, .any, .any, .any, .any, .any, .any, .any, .any, .any, .any, .any, .any, .any, .any, .any, .any, .any] [] 0 []) (.exit 0) (St.mk [.ros 1 (List.length l) (li l) false, .int .i64 i, .any, .any, .any, .int .i64 (↑(List.length l) : Int), .any, .any, .any, .any, .any, .any, .any, .any, .any, .any, .any, .any, .any, .any, .any, .any, .any, .any, .any, .any, .any, .any, .any, .any, .any, .any, .any, .any, .any, .any, .any, .any, .any, .any, .any, .any, .any, .any, .any, .any, .any, .any, .any, .any, .any, .any, .any, .any, .any, .any, .any] [] 0 []), q (List.length l), ∀ (k : Nat), k < List.length l → [V.int IntKind.i64 (List.getD l k (0 : Int))] = [V.int IntKind.i64 (List.getD l k (0 : Int))], false = true → false = true, q i, q1]) : Option (V × Heap × List Prop)) := by kernel_rfl
theorem bdRn_p0 (l : List Int) (i : Int) (m : Nat) (v : Int) :
  along Try.prog (bdRn l i m v) [false] = (some (.int .i64 v, [], [RLoop Try.prog none 0 (cB (cB (cR (cL (cR (bodyOf (Bd.f (bdRn l i m v)))))))) (m + 1) (St.mk [.ros 1 (List.length l) (li l) false, .int .i64 i, .any, .any, .any, .int .i64 0, .any, .any, .any, .any, .any, .any, .any, .any, .any, .any, .any, .any, .any, .any, .any, .any, .any, .any, .any, .any, .any, .any, .any, .any, .any, .any, .any, .any, .any, .any, .any, .any, .any, .any, .any, .any, .any, .any, .any, .any, .any, .any, .any, .any, .any, .any, .any, .any, .any, .any, .any] [] 0 []) .ret (St.mk [.any, .any, .any, .any, .int .i64 v, .any, .any, .any, .any, .any, .any, .any, .any, .any, .any, .any, .any, .any, .any, .any, .any, .any, .any, .any, .any, .any, .any, .any, .any, .any, .any, .any, .any, .any, .any, .any, .any, .any, .any, .any, .any, .any, .any, .any, .any, .any, .any, .any, .any, .any, .any, .any, .any, .any, .any, .any, .any] [] 0 []), q (List.length l), ∀ (k : Nat), k < List.length l → [V.int IntKind.i64 (List.getD l k (0 : Int))] = [V.int IntKind.i64 (List.getD l k (0 : Int))], false = true → false = true, q i, q1]) : Option (V × Heap × List Prop)) := by kernel_rfl

noncomputable def pcRn_c (l : List Int) (i : Int) (k : Nat) (a : Int) (s : Int) (v : Int) : Nat → List Prop
 | 0 => [decide ((↑k : Int) < (↑(List.length l) : Int)) = true, RLoop Try.prog none 0 (cB (cB (cR (cL (cR (cR (cB (cL (cR (Pc.c (pcRn l i k a s v))))))))))) (List.length l + 1) (St.mk [.ros 1 (List.length l) (li l) false, .int .i64 i, .any, .any, .any, .int .i64 ↑k, .int .i64 0, .int .i64 0, .int .i64 0, .any, .any, .any, .any, .any, .any, .any, .any, .any, .any, .any, .any, .any, .any, .any, .any, .any, .any, .any, .any, .any, .any, .any, .any, .any, .any, .any, .any, .any, .any, .any, .any, .any, .any, .any, .any, .any, .any, .any, .any, .any, .any, .any, .any, .any, .any, .any, .any] [] 0 []) (.exit 2) (St.mk [.ros 1 (List.length l) (li l) false, .int .i64 i, .any, .any, .any, .int .i64 ↑k, .int .i64 a, .int .i64 s, .int .i64 (↑(List.length l) : Int), .any, .any, .any, .any, .any, .any, .any, .any, .any, .any, .any, .any, .any, .any, .any, .any, .any, .any, .any, .any, .any, .any, .any, .any, .any, .any, .any, .any, .any, .any, .any, .any, .any, .any, .any, .any, .any, .any, .any, .any, .any, .any, .any, .any, .any, .any, .any, .any] [] 0 []), q (List.length l), ∀ (k : Nat), k < List.length l → [V.int IntKind.i64 (List.getD l k (0 : Int))] = [V.int IntKind.i64 (List.getD l k (0 : Int))], false = true → false = true, q i, q (↑k : Int), q1, q1, q1]
 | _ => []
theorem pcRn_p111 (l : List Int) (i : Int) (k : Nat) (a : Int) (s : Int) (v : Int) :
 alongPc Try.prog (pcRn l i k a s v) [true, true, true] = (some (.ret, St.mk [.any, .any, .any, .any, .int .i64 v, .any, .any, .any, .any, .any, .any, .any, .any, .any, .any, .any, .any, .any, .any, .any, .any, .any, .any, .any, .any, .any, .any, .any, .any, .any, .any, .any, .any, .any, .any, .any, .any, .any, .any, .any, .any, .any, .any, .any, .any, .any, .any, .any, .any, .any, .any, .any, .any, .any, .any, .any, .any] [] 0 [], pcRn_c l i k a s v 0 ++ [decide (a < i) = true, InR IntKind.i64 (a + s), decide (i ≤ a + s) = true, (0 : Int) ≤ (↑k : Int) ∧ (↑k : Int) < (↑(List.length l) : Int), List.getD l (Int.toNat (↑k : Int)) (0 : Int) = v]) : Option (Exit × St × List Prop)) := by kernel_rfl
theorem pcRn_p110 (l : List Int) (i : Int) (k : Nat) (a : Int) (s : Int) (v : Int) :
 alongPc Try.prog (pcRn l i k a s v) [true, true, false] = (some (.normal, St.mk [.ros 1 (List.length l) (li l) false, .int .i64 i, .any, .any, .any, .int .i64 (↑(k + 1) : Int), .any, .any, .any, .any, .any, .any, .any, .any, .any, .any, .any, .any, .any, .any, .any, .any, .any, .any, .any, .any, .any, .any, .any, .any, .any, .any, .any, .any, .any, .any, .any, .any, .any, .any, .any, .any, .any, .any, .any, .any, .any, .any, .any, .any, .any, .any, .any, .any, .any, .any, .any] [] 0 [], pcRn_c l i k a s v 0 ++ [decide (a < i) = true, InR IntKind.i64 (a + s), decide (i ≤ a + s) = false, InR IntKind.i64 ((↑k : Int) + (1 : Int)), q (List.length l), ∀ (k : Nat), k < List.length l → [V.int IntKind.i64 (List.getD l k (0 : Int))] = [V.int IntKind.i64 (List.getD l k (0 : Int))], false = true → false = true, q i, (↑k : Int) + (1 : Int) = (↑(k + (1 : Nat)) : Int)]) : Option (Exit × St × List Prop)) := by kernel_rfl
theorem pcRn_p100 (l : List Int) (i : Int) (k : Nat) (a : Int) (s : Int) (v : Int) :
 alongPc Try.prog (pcRn l i k a s v) [true, false, false] = (some (.normal, St.mk [.ros 1 (List.length l) (li l) false, .int .i64 i, .any, .any, .any, .int .i64 (↑(k + 1) : Int), .any, .any, .any, .any, .any, .any, .any, .any, .any, .any, .any, .any, .any, .any, .any, .any, .any, .any, .any, .any, .any, .any, .any, .any, .any, .any, .any, .any, .any, .any, .any, .any, .any, .any, .any, .any, .any, .any, .any, .any, .any, .any, .any, .any, .any, .any, .any, .any, .any, .any, .any] [] 0 [], pcRn_c l i k a s v 0 ++ [decide (a < i) = false, q false, InR IntKind.i64 ((↑k : Int) + (1 : Int)), q (List.length l), ∀ (k : Nat), k < List.length l → [V.int IntKind.i64 (List.getD l k (0 : Int))] = [V.int IntKind.i64 (List.getD l k (0 : Int))], false = true → false = true, q i, (↑k : Int) + (1 : Int) = (↑(k + (1 : Nat)) : Int)]) : Option (Exit × St × List Prop)) := by kernel_rfl
theorem pcRn_p0 (l : List Int) (i : Int) (k : Nat) (a : Int) (s : Int) (v : Int) :
 alongPc Try.prog (pcRn l i k a s v) [false] = (some (.exit 0, St.mk [.ros 1 (List.length l) (li l) false, .int .i64 i, .any, .any, .any, .int .i64 (↑(List.length l) : Int), .any, .any, .any, .any, .any, .any, .any, .any, .any, .any, .any, .any, .any, .any, .any, .any, .any, .any, .any, .any, .any, .any, .any, .any, .any, .any, .any, .any, .any, .any, .any, .any, .any, .any, .any, .any, .any, .any, .any, .any, .any, .any, .any, .any, .any, .any, .any, .any, .any, .any, .any] [] 0 [], [decide ((↑k : Int) < (↑(List.length l) : Int)) = false, q (List.length l), ∀ (k : Nat), k < List.length l → [V.int IntKind.i64 (List.getD l k (0 : Int))] = [V.int IntKind.i64 (List.getD l k (0 : Int))], false = true → false = true, q i, (↑k : Int) = (↑(List.length l) : Int)]) : Option (Exit × St × List Prop)) := by kernel_rfl

noncomputable def pcRj_c (l : List Int) (i : Int) (k : Nat) (a : Int) (s : Int) (a2 : Int) (s2 : Int) (j : Nat) : Nat → List Prop
 | 0 => [decide ((↑j : Int) < (↑(List.length l) : Int)) = true, (0 : Int) ≤ (↑j : Int) ∧ (↑j : Int) < (↑(List.length l) : Int), (0 : Int) ≤ (↑k : Int) ∧ (↑k : Int) < (↑(List.length l) : Int)]
 | 1 => [decide (List.getD l (Int.toNat (↑k : Int)) (0 : Int) < List.getD l (Int.toNat (↑j : Int)) (0 : Int)) = true, InR IntKind.i64 (a + (1 : Int)), (0 : Int) ≤ (↑j : Int) ∧ (↑j : Int) < (↑(List.length l) : Int), (0 : Int) ≤ (↑k : Int) ∧ (↑k : Int) < (↑(List.length l) : Int)]
 | 2 => [decide (List.getD l (Int.toNat (↑k : Int)) (0 : Int) < List.getD l (Int.toNat (↑j : Int)) (0 : Int)) = false, (0 : Int) ≤ (↑j : Int) ∧ (↑j : Int) < (↑(List.length l) : Int), (0 : Int) ≤ (↑k : Int) ∧ (↑k : Int) < (↑(List.length l) : Int)]
 | _ => []
theorem pcRj_p111 (l : List Int) (i : Int) (k : Nat) (a : Int) (s : Int) (a2 : Int) (s2 : Int) (j : Nat) :
 alongPc Try.prog (pcRj l i k a s a2 s2 j) [true, true, true] = (some (.normal, St.mk [.ros 1 (List.length l) (li l) false, .int .i64 i, .any, .any, .any, .int .i64 ↑k, .int .i64 a2, .int .i64 s2, .int .i64 (↑(j + 1) : Int), .any, .any, .any, .any, .any, .any, .any, .any, .any, .any, .any, .any, .any, .any, .any, .any, .any, .any, .any, .any, .any, .any, .any, .any, .any, .any, .any, .any, .any, .any, .any, .any, .any, .any, .any, .any, .any, .any, .any, .any, .any, .any, .any, .any, .any, .any, .any, .any] [] 0 [], pcRj_c l i k a s a2 s2 j 0 ++ (pcRj_c l i k a s a2 s2 j 1 ++ [decide (List.getD l (Int.toNat (↑j : Int)) (0 : Int) = List.getD l (Int.toNat (↑k : Int)) (0 : Int)) = true, InR IntKind.i64 (s + (1 : Int)), InR IntKind.i64 ((↑j : Int) + (1 : Int)), q (List.length l), ∀ (k : Nat), k < List.length l → [V.int IntKind.i64 (List.getD l k (0 : Int))] = [V.int IntKind.i64 (List.getD l k (0 : Int))], false = true → false = true, q i, q (↑k : Int), a + (1 : Int) = a2, s + (1 : Int) = s2, (↑j : Int) + (1 : Int) = (↑(j + (1 : Nat)) : Int)])) : Option (Exit × St × List Prop)) := by kernel_rfl
theorem pcRj_p110 (l : List Int) (i : Int) (k : Nat) (a : Int) (s : Int) (a2 : Int) (s2 : Int) (j : Nat) :
 alongPc Try.prog (pcRj l i k a s a2 s2 j) [true, true, false] = (some (.normal, St.mk [.ros 1 (List.length l) (li l) false, .int .i64 i, .any, .any, .any, .int .i64 ↑k, .int .i64 a2, .int .i64 s2, .int .i64 (↑(j + 1) : Int), .any, .any, .any, .any, .any, .any, .any, .any, .any, .any, .any, .any, .any, .any, .any, .any, .any, .any, .any, .any, .any, .any, .any, .any, .any, .any, .any, .any, .any, .any, .any, .any, .any, .any, .any, .any, .any, .any, .any, .any, .any, .any, .any, .any, .any, .any, .any, .any] [] 0 [], pcRj_c l i k a s a2 s2 j 0 ++ (pcRj_c l i k a s a2 s2 j 1 ++ [decide (List.getD l (Int.toNat (↑j : Int)) (0 : Int) = List.getD l (Int.toNat (↑k : Int)) (0 : Int)) = false, InR IntKind.i64 ((↑j : Int) + (1 : Int)), q (List.length l), ∀ (k : Nat), k < List.length l → [V.int IntKind.i64 (List.getD l k (0 : Int))] = [V.int IntKind.i64 (List.getD l k (0 : Int))], false = true → false = true, q i, q (↑k : Int), a + (1 : Int) = a2, s = s2, (↑j : Int) + (1 : Int) = (↑(j + (1 : Nat)) : Int)])) : Option (Exit × St × List Prop)) := by kernel_rfl
theorem pcRj_p101 (l : List Int) (i : Int) (k : Nat) (a : Int) (s : Int) (a2 : Int) (s2 : Int) (j : Nat) :
 alongPc Try.prog (pcRj l i k a s a2 s2 j) [true, false, true] = (some (.normal, St.mk [.ros 1 (List.length l) (li l) false, .int .i64 i, .any, .any, .any, .int .i64 ↑k, .int .i64 a2, .int .i64 s2, .int .i64 (↑(j + 1) : Int), .any, .any, .any, .any, .any, .any, .any, .any, .any, .any, .any, .any, .any, .any, .any, .any, .any, .any, .any, .any, .any, .any, .any, .any, .any, .any, .any, .any, .any, .any, .any, .any, .any, .any, .any, .any, .any, .any, .any, .any, .any, .any, .any, .any, .any, .any, .any, .any] [] 0 [], pcRj_c l i k a s a2 s2 j 0 ++ (pcRj_c l i k a s a2 s2 j 2 ++ [decide (List.getD l (Int.toNat (↑j : Int)) (0 : Int) = List.getD l (Int.toNat (↑k : Int)) (0 : Int)) = true, InR IntKind.i64 (s + (1 : Int)), InR IntKind.i64 ((↑j : Int) + (1 : Int)), q (List.length l), ∀ (k : Nat), k < List.length l → [V.int IntKind.i64 (List.getD l k (0 : Int))] = [V.int IntKind.i64 (List.getD l k (0 : Int))], false = true → false = true, q i, q (↑k : Int), a = a2, s + (1 : Int) = s2, (↑j : Int) + (1 : Int) = (↑(j + (1 : Nat)) : Int)])) : Option (Exit × St × List Prop)) := by kernel_rfl
theorem pcRj_p100 (l : List Int) (i : Int) (k : Nat) (a : Int) (s : Int) (a2 : Int) (s2 : Int) (j : Nat) :
 alongPc Try.prog (pcRj l i k a s a2 s2 j) [true, false, false] = (some (.normal, St.mk [.ros 1 (List.length l) (li l) false, .int .i64 i, .any, .any, .any, .int .i64 ↑k, .int .i64 a2, .int .i64 s2, .int .i64 (↑(j + 1) : Int), .any, .any, .any, .any, .any, .any, .any, .any, .any, .any, .any, .any, .any, .any, .any, .any, .any, .any, .any, .any, .any, .any, .any, .any, .any, .any, .any, .any, .any, .any, .any, .any, .any, .any, .any, .any, .any, .any, .any, .any, .any, .any, .any, .any, .any, .any, .any, .any] [] 0 [], pcRj_c l i k a s a2 s2 j 0 ++ (pcRj_c l i k a s a2 s2 j 2 ++ [decide (List.getD l (Int.toNat (↑j : Int)) (0 : Int) = List.getD l (Int.toNat (↑k : Int)) (0 : Int)) = false, InR IntKind.i64 ((↑j : Int) + (1 : Int)), q (List.length l), ∀ (k : Nat), k < List.length l → [V.int IntKind.i64 (List.getD l k (0 : Int))] = [V.int IntKind.i64 (List.getD l k (0 : Int))], false = true → false = true, q i, q (↑k : Int), a = a2, s = s2, (↑j : Int) + (1 : Int) = (↑(j + (1 : Nat)) : Int)])) : Option (Exit × St × List Prop)) := by kernel_rfl
theorem pcRj_p0 (l : List Int) (i : Int) (k : Nat) (a : Int) (s : Int) (a2 : Int) (s2 : Int) (j : Nat) :
 alongPc Try.prog (pcRj l i k a s a2 s2 j) [false] = (some (.exit 2, St.mk [.ros 1 (List.length l) (li l) false, .int .i64 i, .any, .any, .any, .int .i64 ↑k, .int .i64 a, .int .i64 s, .int .i64 (↑(List.length l) : Int), .any, .any, .any, .any, .any, .any, .any, .any, .any, .any, .any, .any, .any, .any, .any, .any, .any, .any, .any, .any, .any, .any, .any, .any, .any, .any, .any, .any, .any, .any, .any, .any, .any, .any, .any, .any, .any, .any, .any, .any, .any, .any, .any, .any, .any, .any, .any, .any] [] 0 [], [decide ((↑j : Int) < (↑(List.length l) : Int)) = false, q (List.length l), ∀ (k : Nat), k < List.length l → [V.int IntKind.i64 (List.getD l k (0 : Int))] = [V.int IntKind.i64 (List.getD l k (0 : Int))], false = true → false = true, q i, q (↑k : Int), q a, q s, (↑j : Int) = (↑(List.length l) : Int)]) : Option (Exit × St × List Prop)) := by kernel_rfl

theorem T_nt {l : List Int} (hl : l.length ≤ 1000000) (i : Int) : T Try.prog 21 [lr l, .int .i64 i] [] (.int .i64 (nthV l i)) [] := by
 by_cases h1 : i < 1
 ·exact T.val (T_al (bdNt_p11 l i) Try.func21 ⟨decide_eq_true h1, rfl, trivial⟩) (by rw [nthV, if_neg (by omega)])
 ·by_cases h2 : (l.length : Int) < i
  ·exact T.val (T_al (bdNt_p01 l i) Try.func21 ⟨decide_eq_false h1, decide_eq_true h2, trivial⟩) (by rw [nthV, if_neg (by omega)])
  ·have hS := T_sl (q := 704) (b := 768) (es := 0) (cap := none) (cap' := none) (l := l) (by omega) hl
   have ec : catF 0 (getL []) (li l) = li l := by funext k; rfl
   refine T.val (T_al (bdNt_p00 l i) Try.func21 ?_) (by rw [nthV, if_pos (by omega), Nat.zero_add])
   simp only [All, All_append, pcRn_c, pcRj_c, Nat.zero_add, ec]; and_intros
   all_goals first
    | exact hS
    | exact decide_eq_false h1
    | exact decide_eq_false h2
    | trivial
    | (intro _ _; rfl)
    | (intro _ _; trivial)
    | (simp only [IntKind.min, IntKind.max, IntKind.signed, IntKind.bits, if_true]; omega)
    | omega
/-- How many of the first are greater, or alike. -/
def aF (l : List Int) (v : Int) (j : Nat) : Int := (cntG (l.take j) v : Int)
def sF (l : List Int) (v : Int) (j : Nat) : Int := (cntS (l.take j) v : Int)
theorem take_one {l : List Int} {j : Nat} (h : j < l.length) : l.take (j + 1) = l.take j ++ [l.getD j 0] := by
 rw [List.take_add_one, List.getD_eq_getElem?_getD, List.getElem?_eq_getElem h]; rfl
theorem aF_succ {l : List Int} {v : Int} {j : Nat} (h : j < l.length) : aF l v (j + 1) = if v < l.getD j 0 then aF l v j + 1 else aF l v j := by
 unfold aF cntG
 rw [take_one h, List.countP_append, List.countP_singleton]
 by_cases h1 : v < l.getD j 0
 ·rw [if_pos h1, if_pos (decide_eq_true h1)]; omega
 ·rw [if_neg h1, if_neg (by rw [decide_eq_true_eq]; exact h1)]; omega
theorem sF_succ {l : List Int} {v : Int} {j : Nat} (h : j < l.length) : sF l v (j + 1) = if l.getD j 0 = v then sF l v j + 1 else sF l v j := by
 unfold sF cntS
 rw [take_one h, List.countP_append, List.countP_singleton]
 by_cases h1 : l.getD j 0 = v
 ·rw [if_pos h1, if_pos (decide_eq_true h1)]; omega
 ·rw [if_neg h1, if_neg (by rw [decide_eq_true_eq]; exact h1)]; omega
theorem aF_le (l : List Int) (v : Int) (j : Nat) : 0 ≤ aF l v j ∧ aF l v j ≤ l.length := by
 unfold aF cntG
 have := List.countP_le_length (p := fun x => decide (v < x)) (l := l.take j)
 rw [List.length_take] at this
 omega
theorem sF_le (l : List Int) (v : Int) (j : Nat) : 0 ≤ sF l v j ∧ sF l v j ≤ l.length := by
 unfold sF cntS
 have := List.countP_le_length (p := fun x => decide (x = v)) (l := l.take j)
 rw [List.length_take] at this
 omega
theorem rnL {l : List Int} (hl : l.length ≤ 1000000) (i : Int) {k : Nat} (hk : k < l.length) :
  RLoop Try.prog none 0 (cB (cB (cR (cL (cR (cR (cB (cL (cR (cB (cB (cR (cL (cR (bodyOf Try.f22))))))))))))))) (l.length + 1) (rnJ l i k 0 0 0) (.exit 2) (rnJ l i k (aF l (l.getD k 0) l.length) (sF l (l.getD k 0) l.length) l.length) := by
 have hstep : ∀ j, j < l.length → R Try.prog none 0 (cB (cB (cR (cL (cR (cR (cB (cL (cR (cB (cB (cR (cL (cR (bodyOf Try.f22))))))))))))))) (rnJ l i k (aF l (l.getD k 0) j) (sF l (l.getD k 0) j) j) .normal (rnJ l i k (aF l (l.getD k 0) (j + 1)) (sF l (l.getD k 0) (j + 1)) (j + 1)) := by
  intro j hj
  have ha := aF_le l (l.getD k 0) j
  have hs := sF_le l (l.getD k 0) j
  have ea := aF_succ (v := l.getD k 0) hj
  have es := sF_succ (v := l.getD k 0) hj
  by_cases h1 : l.getD k 0 < l.getD j 0
  ·rw [if_pos h1] at ea
   rw [if_neg (by omega)] at es
   refine R_alongPc NG MO _ (pcRj_p110 l i k _ _ _ _ j) ?_ (Nat.zero_le _)
   simp only [All, All_append, pcRn_c, pcRj_c, Int.toNat_natCast, Nat.zero_add]; and_intros
   all_goals first
    | (rw [decide_eq_true_eq]; omega)
    | (rw [decide_eq_false_iff_not]; omega)
    | with_reducible rfl
    | (intro _ _; with_reducible rfl)
    | (intro _ _; trivial)
    | (simp only [IntKind.min, IntKind.max, IntKind.signed, IntKind.bits, if_true]; omega)
    | omega
    | (intro h; exact h)
    | trivial
  ·rw [if_neg h1] at ea
   by_cases h2 : l.getD j 0 = l.getD k 0
   ·rw [if_pos h2] at es
    refine R_alongPc NG MO _ (pcRj_p101 l i k _ _ _ _ j) ?_ (Nat.zero_le _)
    simp only [All, All_append, pcRn_c, pcRj_c, Int.toNat_natCast, Nat.zero_add]; and_intros
    all_goals first
     | (rw [decide_eq_true_eq]; omega)
     | (rw [decide_eq_false_iff_not]; omega)
     | with_reducible rfl
     | (intro _ _; with_reducible rfl)
     | (intro _ _; trivial)
     | (simp only [IntKind.min, IntKind.max, IntKind.signed, IntKind.bits, if_true]; omega)
     | omega
     | (intro h; exact h)
     | trivial
   ·rw [if_neg h2] at es
    refine R_alongPc NG MO _ (pcRj_p100 l i k _ _ _ _ j) ?_ (Nat.zero_le _)
    simp only [All, All_append, pcRn_c, pcRj_c, Int.toNat_natCast, Nat.zero_add]; and_intros
    all_goals first
     | (rw [decide_eq_true_eq]; omega)
     | (rw [decide_eq_false_iff_not]; omega)
     | with_reducible rfl
     | (intro _ _; with_reducible rfl)
     | (intro _ _; trivial)
     | (simp only [IntKind.min, IntKind.max, IntKind.signed, IntKind.bits, if_true]; omega)
     | omega
     | (intro h; exact h)
     | trivial
 have hend : R Try.prog none 0 (cB (cB (cR (cL (cR (cR (cB (cL (cR (cB (cB (cR (cL (cR (bodyOf Try.f22))))))))))))))) (rnJ l i k (aF l (l.getD k 0) l.length) (sF l (l.getD k 0) l.length) l.length) (.exit 2) (rnJ l i k (aF l (l.getD k 0) l.length) (sF l (l.getD k 0) l.length) l.length) := by
  refine R_alongPc NG MO _ (pcRj_p0 l i k _ _ 0 0 l.length) ?_ (Nat.zero_le _)
  simp only [All, All_append, pcRn_c, pcRj_c, Int.toNat_natCast, Nat.zero_add]; and_intros
  all_goals first
   | (rw [decide_eq_true_eq]; omega)
   | (rw [decide_eq_false_iff_not]; omega)
   | with_reducible rfl
   | (intro _ _; with_reducible rfl)
   | (intro _ _; trivial)
   | (simp only [IntKind.min, IntKind.max, IntKind.signed, IntKind.bits, if_true]; omega)
   | omega
   | (intro h; exact h)
   | trivial
 exact RLoop.inv (fun j => rnJ l i k (aF l (l.getD k 0) j) (sF l (l.getD k 0) j) j) l.length hstep hend (by simp)
end Go.Proofs.Ytpallipnhmoipaa
namespace Go.Proofs.Ytpallipnhmoipaa
open Go Sy Go.Proofs
def ntDb (v : Int) : List V → Heap → Nat → List Cl := fun a _ _ => match a with
 | [.sl s _ _ _ _ _ _, _] => [{ rd := [s], val := .int .i64 v }]
 | _ => []
def ieDb : List V → Heap → Nat → List Cl := fun a _ _ => match a with
 | [.sl s _ _ _ _ _ _, _] => [{ rd := [s], val := .bool true }]
 | _ => []
noncomputable def bdLv : Bd := { f := Try.f20, args := [], kb := { db := dbQ [(12, cVal (.bool true)), (14, cVal (.int .i64 2)), (16, cVal (.int .i64 3)), (18, cVal (.int .i64 5)), (21, ntDb 5)] } }
noncomputable def bdQC (n : Int) (g : Bool) (f s m : Int) : Bd := { f := Try.f3, args := [.int .i64 n], kb := { db := dbQ [(12, cVal (.bool g)), (13, cVal (.bool g)), (14, cVal (.int .i64 f)), (15, cVal (.int .i64 f)), (16, cVal (.int .i64 s)), (17, cVal (.int .i64 s)), (18, cVal (.int .i64 m)), (19, cVal (.int .i64 m)), (20, cVal (.bool true))] } }
noncomputable def bdQN (l : List Int) (i v : Int) : Bd := { f := Try.f4, args := [lr l, .int .i64 i], kb := { db := dbQ [(21, ntDb v), (22, cVal (.int .i64 v)), (23, ieDb), (20, cVal (.bool true))] } }
end Go.Proofs.Ytpallipnhmoipaa
namespace Go.Proofs.Ytpallipnhmoipaa
open Go Sy Go.Proofs
theorem bdLv_p1111 :
  along Try.prog (bdLv) [true, true, true, true] = (some (.bool true, [], [T Try.prog 12 [.int .i64 7] [] (.bool true) [], q2, T Try.prog 14 [.int .i64 7] [] (.int .i64 2) [], q2, T Try.prog 16 [.int .i64 7] [] (.int .i64 3) [], q2, T Try.prog 18 [.int .i64 7] [] (.int .i64 5) [], q2, T Try.prog 21 [.sl (.o 960) 1 0 0 0 3 (some 3), .int .i64 2] [(.o 960, .rows 1 3 (getL [[.int .i64 3], [.int .i64 9], [.int .i64 5]]) false)] (.int .i64 5) [(.o 960, .rows 1 3 (getL [[.int .i64 3], [.int .i64 9], [.int .i64 5]]) false)]]) : Option (V × Heap × List Prop)) := by kernel_rfl

noncomputable def bdQC_c (n : Int) (g : Bool) (f : Int) (s : Int) (m : Int) : Nat → List Prop
 | 0 => [T Try.prog 12 [.int .i64 n] [] (.bool g) [], T Try.prog 13 [.int .i64 n] [] (.bool g) []]
 | 1 => [(g == g) = true, T Try.prog 14 [.int .i64 n] [] (.int .i64 f) [], T Try.prog 15 [.int .i64 n] [] (.int .i64 f) []]
 | 2 => [decide (f = f) = true, T Try.prog 16 [.int .i64 n] [] (.int .i64 s) [], T Try.prog 17 [.int .i64 n] [] (.int .i64 s) []]
 | _ => []
theorem bdQC_p1111 (n : Int) (g : Bool) (f : Int) (s : Int) (m : Int) :
 along Try.prog (bdQC n g f s m) [true, true, true, true] = (some (.bool true, [], bdQC_c n g f s m 0 ++ (bdQC_c n g f s m 1 ++ (bdQC_c n g f s m 2 ++ [decide (s = s) = true, T Try.prog 18 [.int .i64 n] [] (.int .i64 m) [], T Try.prog 19 [.int .i64 n] [] (.int .i64 m) [], decide (m = m) = true, T Try.prog 20 [] [] (.bool true) []]))) : Option (V × Heap × List Prop)) := by kernel_rfl
theorem bdQC_p1110 (n : Int) (g : Bool) (f : Int) (s : Int) (m : Int) :
 along Try.prog (bdQC n g f s m) [true, true, true, false] = (some (.bool false, [], bdQC_c n g f s m 0 ++ (bdQC_c n g f s m 1 ++ (bdQC_c n g f s m 2 ++ [decide (s = s) = true, T Try.prog 18 [.int .i64 n] [] (.int .i64 m) [], T Try.prog 19 [.int .i64 n] [] (.int .i64 m) [], decide (m = m) = false]))) : Option (V × Heap × List Prop)) := by kernel_rfl
theorem bdQC_p1100 (n : Int) (g : Bool) (f : Int) (s : Int) (m : Int) :
 along Try.prog (bdQC n g f s m) [true, true, false, false] = (some (.bool false, [], bdQC_c n g f s m 0 ++ (bdQC_c n g f s m 1 ++ (bdQC_c n g f s m 2 ++ [decide (s = s) = false, q false]))) : Option (V × Heap × List Prop)) := by kernel_rfl
theorem bdQC_p1000 (n : Int) (g : Bool) (f : Int) (s : Int) (m : Int) :
 along Try.prog (bdQC n g f s m) [true, false, false, false] = (some (.bool false, [], bdQC_c n g f s m 0 ++ (bdQC_c n g f s m 1 ++ [decide (f = f) = false, q false, q false])) : Option (V × Heap × List Prop)) := by kernel_rfl
theorem bdQC_p0000 (n : Int) (g : Bool) (f : Int) (s : Int) (m : Int) :
 along Try.prog (bdQC n g f s m) [false, false, false, false] = (some (.bool false, [], bdQC_c n g f s m 0 ++ [(g == g) = false, q false, q false, q false]) : Option (V × Heap × List Prop)) := by kernel_rfl

theorem bdQN_p1 (l : List Int) (i : Int) (v : Int) :
  along Try.prog (bdQN l i v) [true] = (some (.bool true, [], [decide ((200 : Int) < (↑(List.length l) : Int)) = true, T Try.prog 20 [] [] (.bool true) []]) : Option (V × Heap × List Prop)) := by kernel_rfl
theorem bdQN_p011 (l : List Int) (i : Int) (v : Int) :
  along Try.prog (bdQN l i v) [false, true, true] = (some (.bool true, [], [decide ((200 : Int) < (↑(List.length l) : Int)) = false, q0, ∀ (k : Nat), k < List.length l → true = true, ((0 : Nat) + List.length l) * (8 : Nat) ≤ (140737488355328 : Nat), T Try.prog 21 [.sl (.o 384) 1 0 0 0 (0 + List.length l) none, .int .i64 i] [(.o 384, .rows 1 (0 + List.length l) (catF 0 (getL []) (li l)) true)] (.int .i64 v) [(.o 384, .rows 1 (0 + List.length l) (catF 0 (getL []) (li l)) true)], T Try.prog 22 [.ros 1 (List.length l) (li l) false, .int .i64 i] [] (.int .i64 v) [], decide (v = v) = true, T Try.prog 23 [.sl (.o 384) 1 0 0 0 (0 + List.length l) none, .ros 1 (List.length l) (li l) false] [(.o 384, .rows 1 (0 + List.length l) (catF 0 (getL []) (li l)) true)] (.bool true) [(.o 384, .rows 1 (0 + List.length l) (catF 0 (getL []) (li l)) true)], q2, T Try.prog 20 [] [] (.bool true) []]) : Option (V × Heap × List Prop)) := by kernel_rfl
theorem bdQN_p000 (l : List Int) (i : Int) (v : Int) :
  along Try.prog (bdQN l i v) [false, false, false] = (some (.bool false, [], [decide ((200 : Int) < (↑(List.length l) : Int)) = false, q0, ∀ (k : Nat), k < List.length l → true = true, ((0 : Nat) + List.length l) * (8 : Nat) ≤ (140737488355328 : Nat), T Try.prog 21 [.sl (.o 384) 1 0 0 0 (0 + List.length l) none, .int .i64 i] [(.o 384, .rows 1 (0 + List.length l) (catF 0 (getL []) (li l)) true)] (.int .i64 v) [(.o 384, .rows 1 (0 + List.length l) (catF 0 (getL []) (li l)) true)], T Try.prog 22 [.ros 1 (List.length l) (li l) false, .int .i64 i] [] (.int .i64 v) [], decide (v = v) = false, q false]) : Option (V × Heap × List Prop)) := by kernel_rfl

theorem aF_all (l : List Int) (v : Int) : aF l v l.length = cntG l v := by rw [aF, List.take_length]
theorem sF_all (l : List Int) (v : Int) : aF l v l.length + sF l v l.length = cntE l v := by rw [aF_all, sF, List.take_length, cntE_eq]; omega
theorem T_rn {l : List Int} (hl : l.length ≤ 1000000) (i : Int) : T Try.prog 22 [lr l, .int .i64 i] [] (.int .i64 (nthV l i)) [] := by
 have fin : ∀ k, k < l.length → ((aF l (l.getD k 0) l.length < i ∧ i ≤ aF l (l.getD k 0) l.length + sF l (l.getD k 0) l.length) ↔ ((cntG l (l.getD k 0) : Int) < i ∧ i ≤ cntE l (l.getD k 0))) := fun k _ => by rw [sF_all, aF_all]
 rcases loop_all (P := Try.prog) (ro := none) (p := 0) (c := (cB (cB (cR (cL (cR (bodyOf Try.f22))))))) (I := rnI l i) (F := fun m => rnF (l.getD m 0)) (e := fun _ => .ret) (q := fun k => ¬ (aF l (l.getD k 0) l.length < i ∧ i ≤ aF l (l.getD k 0) l.length + sF l (l.getD k 0) l.length)) (n := l.length)
   (fun k hk hq => by
    have hL := rnL hl i hk
    have ha := aF_le l (l.getD k 0) l.length
    have hs := sF_le l (l.getD k 0) l.length
    by_cases h1 : aF l (l.getD k 0) l.length < i
    ·refine R_alongPc NG MO _ (pcRn_p110 l i k (aF l (l.getD k 0) l.length) (sF l (l.getD k 0) l.length) 0) ?_ (Nat.zero_le _)
     refine ⟨by rw [decide_eq_true_eq]; omega, hL, ?_⟩
     simp only [All, All_append, bdQC_c, Int.toNat_natCast, Nat.zero_add]; and_intros
     all_goals first
      | (rw [decide_eq_true_eq]; omega)
      | (rw [decide_eq_false_iff_not]; omega)
      | with_reducible rfl
      | (intro _ _; with_reducible rfl)
      | (intro _ _; trivial)
      | (simp only [IntKind.min, IntKind.max, IntKind.signed, IntKind.bits, if_true]; omega)
      | omega
      | (intro h; exact h)
      | trivial
    ·refine R_alongPc NG MO _ (pcRn_p100 l i k (aF l (l.getD k 0) l.length) (sF l (l.getD k 0) l.length) 0) ?_ (Nat.zero_le _)
     refine ⟨by rw [decide_eq_true_eq]; omega, hL, ?_⟩
     simp only [All, All_append, bdQC_c, Int.toNat_natCast, Nat.zero_add]; and_intros
     (all_goals first
      | (rw [decide_eq_true_eq]; omega)
      | (rw [decide_eq_false_iff_not]; omega)
      | with_reducible rfl
      | (intro _ _; with_reducible rfl)
      | (intro _ _; trivial)
      | (simp only [IntKind.min, IntKind.max, IntKind.signed, IntKind.bits, if_true]; omega)
      | omega
      | (intro h; exact h)
      | trivial))
   (fun k hk hq => by
    have hq := Classical.not_not.1 hq
    have hL := rnL hl i hk
    have ha := aF_le l (l.getD k 0) l.length
    have hs := sF_le l (l.getD k 0) l.length
    refine R_alongPc NG MO _ (pcRn_p111 l i k (aF l (l.getD k 0) l.length) (sF l (l.getD k 0) l.length) (l.getD k 0)) ?_ (Nat.zero_le _)
    refine ⟨by rw [decide_eq_true_eq]; omega, hL, ?_⟩
    simp only [All, All_append, bdQC_c, Int.toNat_natCast, Nat.zero_add]; and_intros
    (all_goals first
     | (rw [decide_eq_true_eq]; omega)
     | (rw [decide_eq_false_iff_not]; omega)
     | with_reducible rfl
     | (intro _ _; with_reducible rfl)
     | (intro _ _; trivial)
     | (simp only [IntKind.min, IntKind.max, IntKind.signed, IntKind.bits, if_true]; omega)
     | omega
     | (intro h; exact h)
     | trivial))
   (by simp) (R_alongPc NG MO _ (pcRn_p0 l i l.length 0 0 0) (by
    simp only [All, All_append, bdQC_c, Int.toNat_natCast, Nat.zero_add]; and_intros
    (all_goals first
     | (rw [decide_eq_true_eq]; omega)
     | (rw [decide_eq_false_iff_not]; omega)
     | with_reducible rfl
     | (intro _ _; with_reducible rfl)
     | (intro _ _; trivial)
     | (simp only [IntKind.min, IntKind.max, IntKind.signed, IntKind.bits, if_true]; omega)
     | omega
     | (intro h; exact h)
     | trivial)) (Nat.zero_le _)) (by simp) with ⟨h, hL⟩ | ⟨m, hm, _, hq, hL⟩
 ·refine T.val (T_al (bdRn_p1 l i 0 0) Try.func22 ?_) (by
   rw [nth_none fun k hk hc => h k hk ((fin k hk).2 hc)])
  refine ⟨hL, ?_⟩
  simp only [All, All_append, bdQC_c]; and_intros
  all_goals first
   | (rw [decide_eq_true_eq]; omega)
   | (rw [decide_eq_false_iff_not]; omega)
   | with_reducible rfl
   | (intro _ _; with_reducible rfl)
   | (intro _ _; trivial)
   | (simp only [IntKind.min, IntKind.max, IntKind.signed, IntKind.bits, if_true]; omega)
   | omega
   | (intro h; exact h)
   | trivial
 ·have hq := Classical.not_not.1 hq
  refine T.val (T_al (bdRn_p0 l i m (l.getD m 0)) Try.func22 ?_) (by
   rw [nth_found ((fin m hm).1 hq)])
  refine ⟨hL, ?_⟩
  simp only [All, All_append, bdQC_c]; and_intros
  all_goals first
   | (rw [decide_eq_true_eq]; omega)
   | (rw [decide_eq_false_iff_not]; omega)
   | with_reducible rfl
   | (intro _ _; with_reducible rfl)
   | (intro _ _; trivial)
   | (simp only [IntKind.min, IntKind.max, IntKind.signed, IntKind.bits, if_true]; omega)
   | omega
   | (intro h; exact h)
   | trivial
theorem T_lv : T Try.prog 20 [] [] (.bool true) [] := by
 have h1 := T_gn 7
 have h2 := T_fa 7
 have h3 := T_sm 7
 have h4 := T_mo 7
 have h5 := T_nt (l := [3, 9, 5]) (by decide) 2
 rw [show goodN 7 = true by decide] at h1
 rw [show fauS 7 = 2 by decide] at h2
 rw [show someS 7 = 3 by decide] at h3
 rw [show mostS 7 = 5 by decide] at h4
 rw [show nthV [3, 9, 5] 2 = 5 from (nth_found (by decide)).symm] at h5
 refine T_al bdLv_p1111 Try.func20 ?_
 simp only [All, All_append, bdQC_c]; and_intros
 all_goals first
  | exact h1
  | exact h2
  | exact h3
  | exact h4
  | rfl
  | trivial
  | (refine T.lendG h5 rfl ?_ (FreeV.int _ _) (by simp) (by rintro n ⟨b, hb⟩; cases hb); simp only [All, All_append, bdQC_c]; and_intros <;> first | rfl | trivial | omega | (intro h; exact h) | (intro k hk; rcases k with _ | _ | _ | _ | k <;> first | rfl | omega))
/-- QuorumCounts. -/
theorem T_qc (n : Int) : T Try.prog 3 [.int .i64 n] [] (.bool true) [] := by
 have h1 := T_gn n
 have h2 := T_rgn n
 have h3 := T_fa n
 have h4 := T_rfa n
 have h5 := T_sm n
 have h6 := T_rsm n
 have h7 := T_mo n
 have h8 := T_rmo n
 have h9 := T_lv
 refine T_al (bdQC_p1111 n (goodN n) (fauS n) (someS n) (mostS n)) Try.func3 ?_
 simp only [All, All_append, bdQC_c]; and_intros
 all_goals first
  | assumption
  | rfl
  | trivial
  | simp
/-- QuorumNths. -/
theorem T_qn {l : List Int} (hl : l.length ≤ 9223372036854775807) (i : Int) : T Try.prog 4 [lr l, .int .i64 i] [] (.bool true) [] := by
 have h9 := T_lv
 by_cases h : (200 : Int) < l.length
 ·refine T_al (bdQN_p1 l i 0) Try.func4 ?_
  simp only [All, All_append, bdQC_c]; and_intros
  all_goals first
   | assumption
   | (rw [decide_eq_true_eq]; omega)
   | trivial
 ·have h1 := T_nt (l := l) (by omega) i
  have h2 := T_rn (l := l) (by omega) i
  have h3 := T_ie (a := l) (b := l) (by omega)
  rw [decide_eq_true rfl] at h3
  have ec : catF 0 (getL []) (li l) = li l := by funext k; rfl
  refine T_al (bdQN_p011 l i (nthV l i)) Try.func4 ?_
  simp only [All, All_append, bdQC_c, Nat.zero_add, ec]; and_intros
  all_goals first
   | assumption
   | (rw [decide_eq_false_iff_not]; omega)
   | (refine T.lendG h1 rfl ?_ (FreeV.int _ _) (by simp) (by rintro n ⟨b, hb⟩; cases hb); simp only [All, All_append, bdQC_c]; and_intros <;> first | rfl | trivial | omega | (intro h; exact h) | (intro h; cases h; done) | (intro k hk; rw [Nat.zero_add]))
   | (refine T.lend h3 rfl ?_; simp only [All, All_append, bdQC_c]; and_intros <;> first | rfl | trivial | (intro _ _; rfl) | (intro _ _; trivial) | omega | (intro h; exact h) | (intro h; cases h; done) | (intro k hk; rw [Nat.zero_add]))
   | (simp; done)
   | omega
   | (intro _ _; trivial)
   | rfl
   | trivial
end Go.Proofs.Ytpallipnhmoipaa
namespace Sy
open Go
variable {P : Program}
/-- A stretch is laid over. -/
def setF (f : Nat → List V) (i n : Nat) (g : Nat → List V) : Nat → List V := fun q => bif Nat.ble i q && Nat.blt q (i + n) then g (q - i) else f q
theorem setF_in {f g : Nat → List V} {i n q : Nat} (h1 : i ≤ q) (h2 : q < i + n) : setF f i n g q = g (q - i) := by
 have e1 : Nat.ble i q = true := by rw [Nat.ble_eq]; exact h1
 have e2 : Nat.blt q (i + n) = true := by rw [Nat.blt_eq]; exact h2
 rw [setF, e1, e2]; rfl
theorem setF_out {f g : Nat → List V} {i n q : Nat} (h : ¬ (i ≤ q ∧ q < i + n)) : setF f i n g q = f q := by
 rw [setF]
 cases e1 : Nat.ble i q with
 | false => rfl
 | true =>
  cases e2 : Nat.blt q (i + n) with
  | false => rfl
  | true => rw [Nat.ble_eq] at e1; rw [Nat.blt_eq] at e2; exact (h ⟨e1, e2⟩).elim
theorem ros_first {U : Imm} {ρ : Env} {es m n : Nat} {g : Nat → List V} {clip : Bool} {x : Value} {bs : Heap} {w : World} (hv : VRel U ρ (.ros es m g clip) x) (H : HRel U ρ bs w) (hn : n ≤ m) :
  ∃ l, (Builtin.lenOf x).run P w = .ok m w ∧ (Builtin.firstCells es n x).run P w = .ok l.toArray w ∧ Rows U es n g l := by
 rw [VRel] at hv
 obtain ⟨a, cp, rfl, h2, h3, h4⟩ := hv
 rcases Nat.eq_zero_or_pos n with h0 | h0
 ·subst h0
  refine ⟨[], rfl, ?_, by simp, fun i hi => by omega⟩
  cases a with
  | none => exact run_firstCells_none ..
  | some a => exact run_firstCells_some (P := P) w es 0 a m cp [] (by simp) (by simp)
 ·obtain ⟨b, base, c, rfl, hU, _⟩ := h4 0 (by omega)
  obtain ⟨el, fr, hw⟩ := H.imm b c hU
  obtain ⟨l, h5, h6⟩ := rows_of_blk (U := U) (c := c) (base := base) (g := g) (m := n) (es := es) (fun i hi => by
   obtain ⟨b', base', c', e1, hU', l', h7, h8, h9⟩ := h4 i (by omega)
   cases e1
   rw [hU] at hU'; cases hU'
   exact ⟨l', h7, h8, h9⟩)
  exact ⟨l, rfl, run_firstCells_some (P := P) w es n _ m cp l h5.1 (fun j v hj => by rw [Addr.add_lit, cell_of hw]; exact h6 j v hj), h5⟩
/-- The row where a stretch is laid over. -/
theorem rows_set {U : Imm} {ρ : Env} {es N i n : Nat} {f g : Nat → List V} {gr : Bool} {c : Array Value} {el : TypeId} {lo hi sz : Nat} {l : List Value} (h : BRel U ρ sz (.rows es N f gr) (.cells c el (lo, hi))) (hl : Rows U es n g l) (hin : i + n ≤ N) :
  BRel U ρ sz (.rows es N (setF f i n g) gr) (.cells (setR c (i * es) l) el (lo, hi)) := by
 obtain ⟨c', el', lo', hi', he, h2, h3, h4, h5, h6⟩ := h
 cases he
 have hbd : i * es + n * es ≤ N * es := by rw [← Nat.add_mul]; exact Nat.mul_le_mul_right _ hin
 have hll : i * es + l.length ≤ c.size := by rw [hl.1]; omega
 refine ⟨_, el, lo, hi, rfl, by rw [setR_size]; exact h2, by rw [setR_size]; exact h3, by rw [setR_size]; exact h4, by rw [setR_size]; exact h5, fun q hq => ?_⟩
 by_cases hqi : i ≤ q ∧ q < i + n
 ·obtain ⟨r, h7, h8, h9⟩ := hl.2 (q - i) (by omega)
  refine ⟨r, by rw [setF_in hqi.1 hqi.2]; exact h7, h8, fun k hk => ?_⟩
  have e1 : q * es = i * es + (q - i) * es := by rw [← Nat.add_mul]; congr 1; omega
  have e2 : (q - i) * es + es ≤ n * es := by rw [← Nat.succ_mul]; exact Nat.mul_le_mul_right _ (by omega)
  rw [setR_get _ _ _ hll, if_pos ⟨by omega, by rw [hl.1]; omega⟩, ← h9 k hk]
  congr 1; omega
 ·obtain ⟨r, h7, h8, h9⟩ := h6 q hq
  refine ⟨r, by rw [setF_out hqi]; exact h7, h8, fun k hk => ?_⟩
  rw [setR_get _ _ _ hll, if_neg ?_]
  ·exact h9 k hk
  ·rw [hl.1]
   rintro ⟨h10, h11⟩
   have e1 : q < i ∨ i + n ≤ q := by omega
   rcases e1 with e1 | e1
   ·have : q * es + es ≤ i * es := by rw [← Nat.succ_mul]; exact Nat.mul_le_mul_right _ e1
    omega
   ·have : i * es + n * es ≤ q * es := by rw [← Nat.add_mul]; exact Nat.mul_le_mul_right _ e1
    omega
theorem T_one2 {U : Imm} {ρ : Env} {u v : V} {xs : List Value} (h : VsRel U ρ [u, v] xs) : ∃ x y, xs = [x, y] ∧ VRel U ρ u x ∧ VRel U ρ v y := by
 rw [VsRel] at h
 obtain ⟨x, r, rfl, h1, h2⟩ := h
 rw [VsRel] at h2
 obtain ⟨y, r', rfl, h3, h4⟩ := h2
 rw [VsRel] at h4
 subst h4
 exact ⟨x, y, rfl, h1, h3⟩
/-- copy, into an own row. -/
theorem TO_copy {t tx e : TypeId} {ie : TypeInfo} (hu : P.underlying t = some (.slice e)) (hie : P.info? e = some ie) {a es i len m N : Nat} {cap : Option Nat} {f g : Nat → List V} {gr clip : Bool} (hs : ie.size = es) (hin : i + Nat.min m len ≤ N) (hso : ∀ k, k < Nat.min m len → solid (g k) = true) (h0 : 0 < N) :
  TO P (.copy t tx) [.sl (.o a) es i 0 0 len cap, .ros es m g clip] [(.o a, .rows es N f gr)] (.int .i64 (Nat.min m len : Nat)) [(.o a, .rows es N (setF f i (Nat.min m len) g) gr)] := by
 intro ty U ρ w xs H hv _
 obtain ⟨x, y, rfl, h1, h2⟩ := T_one2 hv
 obtain ⟨l, k1, k2, k3⟩ := ros_first (P := P) h2 H (Nat.min_le_left m len)
 rw [VRel] at h1
 obtain ⟨lo, cp, e1, e2, e3, e4⟩ := h1
 rcases e4 with ⟨hr, rfl, _⟩ | ⟨hr, rfl, rfl, rfl⟩
 ·obtain ⟨ob, q1, q2, q3⟩ := H.real (List.mem_cons_self ..) e1 hr
  have q2' := q2
  obtain ⟨c, el, lo2, hi, rfl, q4, q5, q6, _, _⟩ := q2
  have hbd : i * es + Nat.min m len * es ≤ N * es := by rw [← Nat.add_mul]; exact Nat.mul_le_mul_right _ hin
  have hst := run_storeCells (P := P) (b := lo.blk) (off := i * es + 0 + 0) (el := el) (lo := lo2) (hi := hi) l 0 w c q1 q5 (by rw [k3.1, show min m len = Nat.min m len from rfl]; omega) (rows_one k3 hso)
  refine ⟨.int .i64 ((Nat.min m len : Nat) : Int), { w with heap := w.heap.setIfInBounds lo.blk (.cells (setR c (i * es + 0 + 0 + 0) l) el (lo2, hi)) }, U, ρ, .inl ?_, Leaves.set H e1 hr rfl (by simp only [Nat.add_zero]; exact rows_set q2' k3 hin) (by rw [VRel])⟩
  simp only [Prim.exec, Builtin.copy_]
  have f1 : (#[t, tx] : Array TypeId)[0]? = some t := rfl
  have f2 : ([Value.slice (some ⟨lo.blk, i * es + 0 + 0, none⟩) len cp, y] : List Value).toArray[0]? = some (Value.slice (some ⟨lo.blk, i * es + 0 + 0, none⟩) len cp) := rfl
  have f3 : ([Value.slice (some ⟨lo.blk, i * es + 0 + 0, none⟩) len cp, y] : List Value).toArray[1]? = some y := rfl
  simp only [f1, f2, f3, Sem.run_bind, run_under hu, Result.andThen_ok, k1, run_size hie, hs, k2, hst, Sem.run_pure, goInt]
 ·obtain ⟨l1, g1, g2⟩ := H.blk _ _ (List.mem_cons_self ..)
  rw [e1] at g1; cases g1
  rcases g2 with ⟨g2, _⟩ | ⟨_, es', f', g2⟩
  ·rw [hr] at g2; cases g2
  ·cases g2; omega
/-- append, where there is room. -/
theorem TO_append {t tx e e' : TypeId} {ie : TypeInfo} (hu : P.underlying t = some (.slice e)) (hux : P.underlying tx = some (.slice e')) (hie : P.info? e = some ie) {a es k m N : Nat} {f g : Nat → List V} {gr clip : Bool} (hs : ie.size = es) (hin : k + m ≤ N) (hso : ∀ k, k < m → solid (g k) = true) (h0 : 0 < N) :
  TO P (.append t tx) [.sl (.o a) es 0 0 0 k (some N), .ros es m g clip] [(.o a, .rows es N f gr)] (.sl (.o a) es 0 0 0 (k + m) (some N)) [(.o a, .rows es N (setF f k m g) gr)] := by
 intro ty U ρ w xs H hv _
 obtain ⟨x, y, rfl, h1, h2⟩ := T_one2 hv
 obtain ⟨l, k1, k2, k3⟩ := ros_first (P := P) h2 H (Nat.le_refl m)
 rw [VRel] at h1
 obtain ⟨lo, cp, e1, e2, e3, e4⟩ := h1
 have := e3 N rfl
 subst this
 rcases e4 with ⟨hr, rfl, e5⟩ | ⟨hr, rfl, _, e6⟩
 ·obtain ⟨ob, q1, q2, q3⟩ := H.real (List.mem_cons_self ..) e1 hr
  have q2' := q2
  obtain ⟨c, el, lo2, hi, rfl, q4, q5, q6, _, _⟩ := q2
  have hbd : k * es + m * es ≤ cp * es := by rw [← Nat.add_mul]; exact Nat.mul_le_mul_right _ hin
  have hst := run_storeCells (P := P) (b := lo.blk) (off := 0 * es + 0 + 0 + k * es) (el := el) (lo := lo2) (hi := hi) l 0 w c q1 q5 (by rw [k3.1]; omega) (rows_one k3 hso)
  have hz : 0 * es + 0 + 0 + k * es + 0 = k * es := by omega
  refine ⟨.slice (some ⟨lo.blk, 0 * es + 0 + 0, none⟩) (k + m) cp, { w with heap := w.heap.setIfInBounds lo.blk (.cells (setR c (0 * es + 0 + 0 + k * es + 0) l) el (lo2, hi)) }, U, ρ, .inl ?_, Leaves.set H e1 hr rfl (by rw [hz]; exact rows_set q2' k3 hin) ?_⟩
  ·simp only [Prim.exec, Builtin.append_]
   have f1 : (#[t, tx] : Array TypeId)[0]? = some t := rfl
   have f4 : (#[t, tx] : Array TypeId)[1]? = some tx := rfl
   have f2 : ([Value.slice (some ⟨lo.blk, 0 * es + 0 + 0, none⟩) k cp, y] : List Value).toArray[0]? = some (Value.slice (some ⟨lo.blk, 0 * es + 0 + 0, none⟩) k cp) := rfl
   have f3 : ([Value.slice (some ⟨lo.blk, 0 * es + 0 + 0, none⟩) k cp, y] : List Value).toArray[1]? = some y := rfl
   have f5 : (k + m ≤ cp) = True := eq_true hin
   simp only [f1, f2, f3, f4, Sem.run_bind, run_under hu, run_under hux, Result.andThen_ok, k1, run_size hie, hs, Sem.run_pure, Bool.false_eq_true, if_false, f5, if_true, Bool.not_false, k2, Addr.add_lit, hst]
  ·rw [VRel]
   exact ⟨lo, cp, e1, hin, fun c hc => by cases hc; rfl, .inl ⟨hr, rfl, e5⟩⟩
 ·omega
/-- x[l:], up to the very end. -/
theorem TO_from {t e : TypeId} {ie : TypeInfo} (hu : P.underlying t = some (.slice e)) (hie : P.info? e = some ie) {a : Nm} {es i len c l : Nat} (hs : ie.size = es) (hl : l ≤ len) :
  TO P (.sliceFrom t) [.sl a es i 0 0 len (some c), .int .i64 l] [] (.sl a es (bif Nat.beq l c then i else i + l) 0 0 (len - l) (some (c - l))) [] := by
 intro ty U ρ w xs H hv _
 obtain ⟨x, y, rfl, h1, h2⟩ := T_one2 hv
 rw [VRel] at h1
 rw [VRel] at h2
 subst h2
 obtain ⟨lo, cp, e1, e2, e3, e4⟩ := h1
 have := e3 c rfl
 subst this
 have hb : (0 : Int) ≤ (l : Int) ∧ (l : Int) ≤ (len : Int) := by omega
 rcases e4 with ⟨hr, rfl, e5⟩ | ⟨hr, rfl, rfl, rfl⟩
 ·refine ⟨.slice (if cp = l then (some ⟨lo.blk, i * es + 0 + 0, none⟩) else (some ⟨lo.blk, i * es + 0 + 0, none⟩ : Option Addr).map (·.add (l * es))) (len - l) (cp - l), w, U, ρ, .inl ?_, Leaves.same H ?_ rfl⟩
  ·simp only [Prim.exec, Instr.sliceAt, Instr.slice, Instr.sliceBounds, Instr.sliceBound, asIntOf, Sem.run_bind, run_under hu, Result.andThen_ok, Sem.run_pure, hb, and_self, if_true, run_size hie, hs, Int.toNat_natCast]
  ·rw [VRel]
   refine ⟨lo, cp - l, e1, by omega, fun c hc => by cases hc; rfl, .inl ⟨hr, ?_, ?_⟩⟩
   ·by_cases hcl : cp = l
    ·subst hcl
     rw [if_pos rfl, Nat.beq_refl]; rfl
    ·have : Nat.beq l cp = false := by
      cases hh : Nat.beq l cp with
      | true => exact (hcl (Nat.eq_of_beq_eq_true hh).symm).elim
      | false => rfl
     rw [if_neg hcl, this]
     simp only [Option.map_some, cond_false, Addr.add_lit, Nat.add_mul]
     congr 3
   ·by_cases hcl : cp = l
    ·subst hcl
     rw [Nat.beq_refl, Nat.sub_self]
     refine Nat.le_trans (Nat.mul_le_mul_right _ ?_) e5
     simp only [cond_true]; omega
    ·have : Nat.beq l cp = false := by
      cases hh : Nat.beq l cp with
      | true => exact (hcl (Nat.eq_of_beq_eq_true hh).symm).elim
      | false => rfl
     rw [this]
     refine Nat.le_trans (Nat.mul_le_mul_right _ ?_) e5
     simp only [cond_false]; omega
 ·have hl0 : l = 0 := by omega
  subst hl0
  refine ⟨.slice none 0 0, w, U, ρ, .inl ?_, Leaves.same H ?_ rfl⟩
  ·simp only [Prim.exec, Instr.sliceAt, Instr.slice, Instr.sliceBounds, Instr.sliceBound, asIntOf, Sem.run_bind, run_under hu, Result.andThen_ok, Sem.run_pure, hb, and_self, if_true, run_size hie, hs, Int.toNat_natCast, Nat.sub_self]
  ·rw [VRel]
   exact ⟨lo, 0, e1, Nat.le_refl _, fun c hc => by cases hc; rfl, .inr ⟨hr, rfl, rfl, rfl⟩⟩
end Sy
namespace Go.Proofs.Ytpallipnhmoipaa
open Go Sy Go.Proofs
def gn (s : Nat → SSign) : Nat → List V := fun i => (s i).c
def sgs (a n : Nat) : V := .sl (.o a) 17 0 0 0 n none
def sgB (n : Nat) (s : Nat → SSign) : B := .rows 17 n (gn s) true
def rowF (a : Nm) (h : Heap) : Nat → List V := match pull a h with
 | some (.rows _ _ f _, _) => f
 | _ => fun _ => []
/-- Where the first greater one is. -/
def atS (s : Nat → SSign) (v : Int) : Nat → Nat
 | 0 => 0
 | n + 1 => if atS s v n < n then atS s v n else if v < (s n).node then n else n + 1
def insS (s : Nat → SSign) (a : Nat) (x : SSign) : Nat → SSign := fun q => if q < a then s q else if q = a then x else s (q - 1)
def hpA (x : SSign) : Heap := [(.o 0, .flat x.c)]
def adI (n : Nat) (s : Nat → SSign) (x : SSign) (k : Nat) : St := ⟨mkT 69 [(0, sg n s), (3, .ptr (.o 0) 0 0 0 0), (11, sg n s), (12, .int .i64 n), (13, .int .i64 k)], hpA x, 1, []⟩
def adR (n : Nat) (s : Nat → SSign) : St := ⟨mkT 69 [(4, sgs 1 n)], [(.o 1, sgB n s)], 2, []⟩
def adJ (n : Nat) (s : Nat → SSign) (x : SSign) (k : Nat) : St := ⟨mkT 69 [(0, sg n s), (3, .ptr (.o 0) 0 0 0 0), (7, .int .i64 n), (33, sg n s), (34, .int .i64 n), (35, .int .i64 k)], hpA x, 1, []⟩
def adK (n : Nat) (s : Nat → SSign) (x : SSign) (a : Nat) : St := ⟨mkT 69 [(0, sg n s), (3, .ptr (.o 0) 0 0 0 0), (7, .int .i64 a)], hpA x, 1, []⟩
def zS : SSign := ⟨0, List.replicate 16 0⟩
def cutS (s : Nat → SSign) (a : Nat) : Nat → SSign := fun q => if q < a then s q else zS
def adM (n : Nat) (s : Nat → SSign) (x : SSign) (a : Nat) : St := ⟨mkT 69 [(0, sg n s), (3, .ptr (.o 0) 0 0 0 0), (7, .int .i64 a), (10, .sl (.o 1) 17 0 0 0 (n + 1) (some (n + 1)))], hpA x ++ [(.o 1, sgB (n + 1) (cutS s a))], 2, []⟩
def adF (n : Nat) (s : Nat → SSign) : St := ⟨mkT 69 [(10, sgs 1 n)], [(.o 1, sgB n s)], 2, []⟩
def cpPr (n k : Nat) : Prim → List V → Heap → Nat → List Cl := fun pr vs h _ => match pr with
 | .sliceFrom _ => match vs with
  | [.sl b _ _ _ _ _ (some _), _] => [{ val := .sl b 17 (bif Nat.beq (k + 1) (n + 1) then 0 else k + 1) 0 0 (n + 1 - (k + 1)) (some (n + 1 - (k + 1))) }]
  | _ => []
 | .copy _ _ => match vs with
  | [.sl a _ i _ _ len _, .ros _ m g _] => match pull a h with
   | some (.rows es N f gr, _) => [{ pre := [a], val := .int .i64 (Nat.min m len : Nat), post := [(a, .rows es N (setF f i (Nat.min m len) g) gr)] }]
   | _ => []
  | _ => []
 | _ => []
noncomputable def bdAd (n : Nat) (s : Nat → SSign) (x : SSign) (m a : Nat) : Bd := { f := Try.f25, args := [sg n s, .agg x.c], kb := { db := fun _ _ _ _ => [], pr := cpPr n a, lp := fun id t => bif Nat.beq id 0 then [(True, .loop (n + 1) (wToS [(.o 0, nmV (getV t.tmps 3))] (adI n s x 0)) (.exit 0) (adI n s x n)), (True, .loop (m + 1) (wToS [(.o 0, nmV (getV t.tmps 3))] (adI n s x 0)) .ret (adR n s))] else [(True, .loop (m + 1) (wToS [(.o 0, nmV (getV t.tmps 3))] (adJ n s x 0)) (.exit 2) (adK n s x a))], fx := fun id t => bif Nat.beq id 18 then [.wk (wToS [(.o 1, nmV (getV t.tmps 10))] (adF (n + 1) (insS s a x)))] else bif Nat.beq id 16 then [.wk (wToS [(.o 0, nmV (getV t.tmps 3)), (.o 1, nmV (getV t.tmps 10))] (adM n s x a))] else [] }, names := fun _ => [.o 1] }
noncomputable def pcAi (n : Nat) (s : Nat → SSign) (x : SSign) (k : Nat) : Pc := { c := cB (cB (cR (cL (cB (cR (bodyOf Try.f25)))))), st := adI n s x k, kb := kb0, k := fun e_ t => match e_ with
 | .normal => some (wTo (adI n s x (k + 1)))
 | .ret => some (wToS [(.o 1, nmV (getV t.tmps 4))] (adR n s))
 | _ => some (wTo (adI n s x n)) }
noncomputable def pcAj (n : Nat) (s : Nat → SSign) (x : SSign) (k a : Nat) : Pc := { c := cB (cB (cR (cL (cR (cR (cR (cB (cR (bodyOf Try.f25))))))))), st := adJ n s x k, kb := kb0, k := fun e_ t => match e_ with
 | .normal => some (wTo (adJ n s x (k + 1)))
 | _ => some (wTo (adK n s x a)) }
end Go.Proofs.Ytpallipnhmoipaa
namespace Go.Proofs.Ytpallipnhmoipaa
open Go Sy Go.Proofs
theorem bdAd_p1 (n : Nat) (s : Nat → SSign) (x : SSign) (m : Nat) (a : Nat) :
  along Try.prog (bdAd n s x m a) [true] = some (V.sl (Nm.o (1 : Nat)) (17 : Nat) (0 : Nat) (0 : Nat) (0 : Nat) (n + (1 : Nat)) none, [(Nm.o (1 : Nat), B.rows (17 : Nat) (n + (1 : Nat)) (gn (insS s a x)) true)], [RLoop Try.prog none (0 : Nat) (cB (cB (cR (cL (cB (cR (bodyOf (Bd.f (bdAd n s x m a))))))))) (n + (1 : Nat)) (St.mk [V.ros (17 : Nat) n (fun i => SSign.c (s i)) false, V.any, V.any, V.ptr (Nm.o (0 : Nat)) (0 : Nat) (0 : Nat) (0 : Nat) (0 : Nat), V.any, V.any, V.any, V.any, V.any, V.any, V.any, V.ros (17 : Nat) n (fun i => SSign.c (s i)) false, V.int IntKind.i64 (↑n : Int), V.int IntKind.i64 (0 : Int), V.any, V.any, V.any, V.any, V.any, V.any, V.any, V.any, V.any, V.any, V.any, V.any, V.any, V.any, V.any, V.any, V.any, V.any, V.any, V.any, V.any, V.any, V.any, V.any, V.any, V.any, V.any, V.any, V.any, V.any, V.any, V.any, V.any, V.any, V.any, V.any, V.any, V.any, V.any, V.any, V.any, V.any, V.any, V.any, V.any, V.any, V.any, V.any, V.any, V.any, V.any, V.any, V.any, V.any, V.any] [(Nm.o (0 : Nat), B.flat (SSign.c x))] (1 : Nat) []) (Exit.exit (0 : Nat)) (St.mk [V.ros (17 : Nat) n (fun i => SSign.c (s i)) false, V.any, V.any, V.ptr (Nm.o (0 : Nat)) (0 : Nat) (0 : Nat) (0 : Nat) (0 : Nat), V.any, V.any, V.any, V.any, V.any, V.any, V.any, V.ros (17 : Nat) n (fun i => SSign.c (s i)) false, V.int IntKind.i64 (↑n : Int), V.int IntKind.i64 (↑n : Int), V.any, V.any, V.any, V.any, V.any, V.any, V.any, V.any, V.any, V.any, V.any, V.any, V.any, V.any, V.any, V.any, V.any, V.any, V.any, V.any, V.any, V.any, V.any, V.any, V.any, V.any, V.any, V.any, V.any, V.any, V.any, V.any, V.any, V.any, V.any, V.any, V.any, V.any, V.any, V.any, V.any, V.any, V.any, V.any, V.any, V.any, V.any, V.any, V.any, V.any, V.any, V.any, V.any, V.any, V.any] [(Nm.o (0 : Nat), B.flat (SSign.c x))] (1 : Nat) []), SSign.node x = SSign.node x, (16 : Nat) = (16 : Nat), SSign.tag x = SSign.tag x, n = n, ∀ (k : Nat), k < n → SSign.c (s k) = SSign.c (s k), false = true → false = true, (0 : Nat) = (0 : Nat), (0 : Nat) = (0 : Nat), (0 : Nat) = (0 : Nat), n = n, ∀ (k : Nat), k < n → SSign.c (s k) = SSign.c (s k), false = true → false = true, (↑n : Int) = (↑n : Int), (0 : Int) = (0 : Int), RLoop Try.prog none (0 : Nat) (cB (cB (cR (cL (cR (cR (cR (cB (cR (bodyOf (Bd.f (bdAd n s x m a)))))))))))) (m + (1 : Nat)) (St.mk [V.ros (17 : Nat) n (fun i => SSign.c (s i)) false, V.any, V.any, V.ptr (Nm.o (0 : Nat)) (0 : Nat) (0 : Nat) (0 : Nat) (0 : Nat), V.any, V.any, V.any, V.int IntKind.i64 (↑n : Int), V.any, V.any, V.any, V.any, V.any, V.any, V.any, V.any, V.any, V.any, V.any, V.any, V.any, V.any, V.any, V.any, V.any, V.any, V.any, V.any, V.any, V.any, V.any, V.any, V.any, V.ros (17 : Nat) n (fun i => SSign.c (s i)) false, V.int IntKind.i64 (↑n : Int), V.int IntKind.i64 (0 : Int), V.any, V.any, V.any, V.any, V.any, V.any, V.any, V.any, V.any, V.any, V.any, V.any, V.any, V.any, V.any, V.any, V.any, V.any, V.any, V.any, V.any, V.any, V.any, V.any, V.any, V.any, V.any, V.any, V.any, V.any, V.any, V.any, V.any] [(Nm.o (0 : Nat), B.flat (SSign.c x))] (1 : Nat) []) (Exit.exit (2 : Nat)) (St.mk [V.ros (17 : Nat) n (fun i => SSign.c (s i)) false, V.any, V.any, V.ptr (Nm.o (0 : Nat)) (0 : Nat) (0 : Nat) (0 : Nat) (0 : Nat), V.any, V.any, V.any, V.int IntKind.i64 (↑a : Int), V.any, V.any, V.any, V.any, V.any, V.any, V.any, V.any, V.any, V.any, V.any, V.any, V.any, V.any, V.any, V.any, V.any, V.any, V.any, V.any, V.any, V.any, V.any, V.any, V.any, V.any, V.any, V.any, V.any, V.any, V.any, V.any, V.any, V.any, V.any, V.any, V.any, V.any, V.any, V.any, V.any, V.any, V.any, V.any, V.any, V.any, V.any, V.any, V.any, V.any, V.any, V.any, V.any, V.any, V.any, V.any, V.any, V.any, V.any, V.any, V.any] [(Nm.o (0 : Nat), B.flat (SSign.c x))] (1 : Nat) []), SSign.node x = SSign.node x, (16 : Nat) = (16 : Nat), SSign.tag x = SSign.tag x, n = n, ∀ (k : Nat), k < n → SSign.c (s k) = SSign.c (s k), false = true → false = true, (0 : Nat) = (0 : Nat), (0 : Nat) = (0 : Nat), (0 : Nat) = (0 : Nat), (↑n : Int) = (↑n : Int), n = n, ∀ (k : Nat), k < n → SSign.c (s k) = SSign.c (s k), false = true → false = true, (↑n : Int) = (↑n : Int), (0 : Int) = (0 : Int), InR IntKind.i64 ((↑n : Int) + (1 : Int)), (0 : Int) ≤ (↑n : Int) + (1 : Int) ∧ (↑n : Int) + (1 : Int) ≤ (↑n : Int) + (1 : Int), (24 : Int) * ((↑n : Int) + (1 : Int)) ≤ (281474976710656 : Int), (↑n : Int) + (1 : Int) ≤ (281474976710656 : Int), (0 : Int) ≤ (↑a : Int) ∧ (↑a : Int) ≤ (↑(natO none n) : Int), TO Try.prog (Prim.copy (33 : Nat) (33 : Nat)) [V.sl (Nm.o (nat_lit 193)) (17 : Nat) (0 : Nat) (0 : Nat) (0 : Nat) (Int.toNat ((↑n : Int) + (1 : Int))) (some (Int.toNat ((↑n : Int) + (1 : Int)))), V.ros (17 : Nat) (natO (some (↑a : Int)) n - nat_lit 0) (shiftF (fun i => SSign.c (s i)) none) false] [(Nm.o (nat_lit 193), B.rows (17 : Nat) (Int.toNat ((↑n : Int) + (1 : Int))) (fun x => [V.int IntKind.i64 (0 : Int), V.seg IntKind.u8 (16 : Nat) [(0 : Int), (0 : Int), (0 : Int), (0 : Int), (0 : Int), (0 : Int), (0 : Int), (0 : Int), (0 : Int), (0 : Int), (0 : Int), (0 : Int), (0 : Int), (0 : Int), (0 : Int), (0 : Int)]]) false)] (V.int IntKind.i64 (↑(Nat.min (natO (some (↑a : Int)) n - nat_lit 0) (Int.toNat ((↑n : Int) + (1 : Int)))) : Int)) [(Nm.o (nat_lit 193), B.rows (17 : Nat) (Int.toNat ((↑n : Int) + (1 : Int))) (setF (fun x => [V.int IntKind.i64 (0 : Int), V.seg IntKind.u8 (16 : Nat) [(0 : Int), (0 : Int), (0 : Int), (0 : Int), (0 : Int), (0 : Int), (0 : Int), (0 : Int), (0 : Int), (0 : Int), (0 : Int), (0 : Int), (0 : Int), (0 : Int), (0 : Int), (0 : Int)]]) (0 : Nat) (Nat.min (natO (some (↑a : Int)) n - nat_lit 0) (Int.toNat ((↑n : Int) + (1 : Int)))) (shiftF (fun i => SSign.c (s i)) none)) false)], SSign.node x = SSign.node x, (16 : Nat) = (16 : Nat), SSign.tag x = SSign.tag x, Int.toNat ((↑n : Int) + (1 : Int)) = n + (1 : Nat), ∀ (k : Nat), k < Int.toNat ((↑n : Int) + (1 : Int)) → setF (fun x => [V.int IntKind.i64 (0 : Int), V.seg IntKind.u8 (16 : Nat) [(0 : Int), (0 : Int), (0 : Int), (0 : Int), (0 : Int), (0 : Int), (0 : Int), (0 : Int), (0 : Int), (0 : Int), (0 : Int), (0 : Int), (0 : Int), (0 : Int), (0 : Int), (0 : Int)]]) (0 : Nat) (Nat.min (natO (some (↑a : Int)) n - nat_lit 0) (Int.toNat ((↑n : Int) + (1 : Int)))) (shiftF (fun i => SSign.c (s i)) none) k = [V.int IntKind.i64 (SSign.node (cutS s a k)), V.seg IntKind.u8 (16 : Nat) (SSign.tag (cutS s a k))], true = false → false = false, n = n, ∀ (k : Nat), k < n → SSign.c (s k) = SSign.c (s k), false = true → false = true, (0 : Nat) = (0 : Nat), (0 : Nat) = (0 : Nat), (0 : Nat) = (0 : Nat), (↑a : Int) = (↑a : Int), (0 : Nat) = (0 : Nat), (0 : Nat) = (0 : Nat), (0 : Nat) = (0 : Nat), Int.toNat ((↑n : Int) + (1 : Int)) = n + (1 : Nat), some (n + (1 : Nat)) = none ∨ some (n + (1 : Nat)) = some (Int.toNat ((↑n : Int) + (1 : Int))), (0 : Int) ≤ (↑a : Int) ∧ (↑a : Int) < (↑(n + (1 : Nat)) : Int), (0 : Nat) + Int.toNat (↑a : Int) < n + (1 : Nat), InR IntKind.i64 ((↑a : Int) + (1 : Int)), TO Try.prog (Prim.sliceFrom (33 : Nat)) [V.sl (Nm.o (1 : Nat)) (17 : Nat) (0 : Nat) (0 : Nat) (0 : Nat) (n + (1 : Nat)) (some (n + (1 : Nat))), V.int IntKind.i64 ((↑a : Int) + (1 : Int))] [] (V.sl (Nm.o (1 : Nat)) (17 : Nat) (Bool.rec (a + (1 : Nat)) (0 : Nat) (Nat.beq (a + (1 : Nat)) (n + (1 : Nat)))) (0 : Nat) (0 : Nat) (n + (1 : Nat) - (a + (1 : Nat))) (some (n + (1 : Nat) - (a + (1 : Nat))))) [], (0 : Int) ≤ (↑a : Int) ∧ (↑a : Int) ≤ (↑(natO none n) : Int), TO Try.prog (Prim.copy (33 : Nat) (33 : Nat)) [V.sl (Nm.o (1 : Nat)) (17 : Nat) (Bool.rec (a + (1 : Nat)) (0 : Nat) (Nat.beq (a + (1 : Nat)) (n + (1 : Nat)))) (0 : Nat) (0 : Nat) (n + (1 : Nat) - (a + (1 : Nat))) (some (n + (1 : Nat) - (a + (1 : Nat)))), V.ros (17 : Nat) (natO none n - natO (some (↑a : Int)) (0 : Nat)) (shiftF (fun i => SSign.c (s i)) (some (↑a : Int))) false] [(Nm.o (1 : Nat), B.rows (17 : Nat) (n + (1 : Nat)) (fun k => Bool.rec [V.int IntKind.i64 (SSign.node (cutS s a k)), V.seg IntKind.u8 (16 : Nat) (SSign.tag (cutS s a k))] [V.int IntKind.i64 (SSign.node x), V.seg IntKind.u8 (16 : Nat) (SSign.tag x)] (Nat.beq k ((0 : Nat) + Int.toNat (↑a : Int)))) true)] (V.int IntKind.i64 (↑(Nat.min (natO none n - natO (some (↑a : Int)) (0 : Nat)) (n + (1 : Nat) - (a + (1 : Nat)))) : Int)) [(Nm.o (1 : Nat), B.rows (17 : Nat) (n + (1 : Nat)) (setF (fun k => Bool.rec [V.int IntKind.i64 (SSign.node (cutS s a k)), V.seg IntKind.u8 (16 : Nat) (SSign.tag (cutS s a k))] [V.int IntKind.i64 (SSign.node x), V.seg IntKind.u8 (16 : Nat) (SSign.tag x)] (Nat.beq k ((0 : Nat) + Int.toNat (↑a : Int)))) (Bool.rec (a + (1 : Nat)) (0 : Nat) (Nat.beq (a + (1 : Nat)) (n + (1 : Nat)))) (Nat.min (natO none n - natO (some (↑a : Int)) (0 : Nat)) (n + (1 : Nat) - (a + (1 : Nat)))) (shiftF (fun i => SSign.c (s i)) (some (↑a : Int)))) true)], n + (1 : Nat) = n + (1 : Nat), ∀ (k : Nat), k < n + (1 : Nat) → setF (fun k => Bool.rec [V.int IntKind.i64 (SSign.node (cutS s a k)), V.seg IntKind.u8 (16 : Nat) (SSign.tag (cutS s a k))] [V.int IntKind.i64 (SSign.node x), V.seg IntKind.u8 (16 : Nat) (SSign.tag x)] (Nat.beq k ((0 : Nat) + Int.toNat (↑a : Int)))) (Bool.rec (a + (1 : Nat)) (0 : Nat) (Nat.beq (a + (1 : Nat)) (n + (1 : Nat)))) (Nat.min (natO none n - natO (some (↑a : Int)) (0 : Nat)) (n + (1 : Nat) - (a + (1 : Nat)))) (shiftF (fun i => SSign.c (s i)) (some (↑a : Int))) k = [V.int IntKind.i64 (SSign.node (insS s a x k)), V.seg IntKind.u8 (16 : Nat) (SSign.tag (insS s a x k))], true = false → true = false, (0 : Nat) = (0 : Nat), (0 : Nat) = (0 : Nat), (0 : Nat) = (0 : Nat), n + (1 : Nat) = n + (1 : Nat), (none : Option Nat) = none ∨ none = some (n + (1 : Nat))]) := by kernel_rfl
theorem bdAd_p0 (n : Nat) (s : Nat → SSign) (x : SSign) (m : Nat) (a : Nat) :
  along Try.prog (bdAd n s x m a) [false] = (some (.sl (.o 1) 17 0 0 0 n none, [(.o 1, .rows 17 n (gn s) true)], [RLoop Try.prog none 0 (cB (cB (cR (cL (cB (cR (bodyOf (Bd.f (bdAd n s x m a))))))))) (m + 1) (St.mk [.ros 17 n (fun i => SSign.c (s i)) false, .any, .any, .ptr (.o 0) 0 0 0 0, .any, .any, .any, .any, .any, .any, .any, .ros 17 n (fun i => SSign.c (s i)) false, .int .i64 ↑n, .int .i64 0, .any, .any, .any, .any, .any, .any, .any, .any, .any, .any, .any, .any, .any, .any, .any, .any, .any, .any, .any, .any, .any, .any, .any, .any, .any, .any, .any, .any, .any, .any, .any, .any, .any, .any, .any, .any, .any, .any, .any, .any, .any, .any, .any, .any, .any, .any, .any, .any, .any, .any, .any, .any, .any, .any, .any] [(.o 0, .flat (SSign.c x))] 1 []) .ret (St.mk [.any, .any, .any, .any, .sl (.o 1) 17 0 0 0 n none, .any, .any, .any, .any, .any, .any, .any, .any, .any, .any, .any, .any, .any, .any, .any, .any, .any, .any, .any, .any, .any, .any, .any, .any, .any, .any, .any, .any, .any, .any, .any, .any, .any, .any, .any, .any, .any, .any, .any, .any, .any, .any, .any, .any, .any, .any, .any, .any, .any, .any, .any, .any, .any, .any, .any, .any, .any, .any, .any, .any, .any, .any, .any, .any] [(.o 1, .rows 17 n (gn s) true)] 2 []), q (SSign.node x), q (16 : Nat), q (SSign.tag x), q n, ∀ (k : Nat), k < n → SSign.c (s k) = SSign.c (s k), false = true → false = true, q0, q0, q0, q n, ∀ (k : Nat), k < n → SSign.c (s k) = SSign.c (s k), false = true → false = true, q (↑n : Int), q1]) : Option (V × Heap × List Prop)) := by kernel_rfl

theorem pcAi_p111 (n : Nat) (s : Nat → SSign) (x : SSign) (k : Nat) :
  alongPc Try.prog (pcAi n s x k) [true, true, true] = (some (.ret, St.mk [.any, .any, .any, .any, .sl (.o 1) 17 0 0 0 n none, .any, .any, .any, .any, .any, .any, .any, .any, .any, .any, .any, .any, .any, .any, .any, .any, .any, .any, .any, .any, .any, .any, .any, .any, .any, .any, .any, .any, .any, .any, .any, .any, .any, .any, .any, .any, .any, .any, .any, .any, .any, .any, .any, .any, .any, .any, .any, .any, .any, .any, .any, .any, .any, .any, .any, .any, .any, .any, .any, .any, .any, .any, .any, .any] [(.o 1, .rows 17 n (gn s) true)] 2 [], [decide ((↑k : Int) < (↑n : Int)) = true, (0 : Int) ≤ (↑k : Int) ∧ (↑k : Int) < (↑n : Int), (decide (SSign.node (s (Int.toNat (↑k : Int))) = SSign.node x) && (decide (SSign.tag (s (Int.toNat (↑k : Int))) = SSign.tag x) && true)) = true, q2, q0, ∀ (k : Nat), k < n → true = true, ((0 : Nat) + n) * (24 : Nat) ≤ (140737488355328 : Nat), (0 : Nat) + n = n, ∀ (k : Nat), k < (0 : Nat) + n → [V.int IntKind.i64 (SSign.node (s (k - (0 : Nat)))), V.seg IntKind.u8 (16 : Nat) (SSign.tag (s (k - (0 : Nat))))] = [V.int IntKind.i64 (SSign.node (s k)), V.seg IntKind.u8 (16 : Nat) (SSign.tag (s k))], true = false → true = false, q0, q0, q0, (0 : Nat) + n = n, (none : Option Nat) = none ∨ (none : Option Nat) = none]) : Option (Exit × St × List Prop)) := by kernel_rfl
theorem pcAi_p101 (n : Nat) (s : Nat → SSign) (x : SSign) (k : Nat) :
  alongPc Try.prog (pcAi n s x k) [true, false, true] = (some (.ret, St.mk [.any, .any, .any, .any, .sl (.o 1) 17 0 0 0 n none, .any, .any, .any, .any, .any, .any, .any, .any, .any, .any, .any, .any, .any, .any, .any, .any, .any, .any, .any, .any, .any, .any, .any, .any, .any, .any, .any, .any, .any, .any, .any, .any, .any, .any, .any, .any, .any, .any, .any, .any, .any, .any, .any, .any, .any, .any, .any, .any, .any, .any, .any, .any, .any, .any, .any, .any, .any, .any, .any, .any, .any, .any, .any, .any] [(.o 1, .rows 17 n (gn s) true)] 2 [], [decide ((↑k : Int) < (↑n : Int)) = true, (0 : Int) ≤ (↑k : Int) ∧ (↑k : Int) < (↑n : Int), (decide (SSign.node (s (Int.toNat (↑k : Int))) = SSign.node x) && (decide (SSign.tag (s (Int.toNat (↑k : Int))) = SSign.tag x) && true)) = false, decide (SSign.node (s (Int.toNat (↑k : Int))) = SSign.node x) = true, q0, ∀ (k : Nat), k < n → true = true, ((0 : Nat) + n) * (24 : Nat) ≤ (140737488355328 : Nat), (0 : Nat) + n = n, ∀ (k : Nat), k < (0 : Nat) + n → [V.int IntKind.i64 (SSign.node (s (k - (0 : Nat)))), V.seg IntKind.u8 (16 : Nat) (SSign.tag (s (k - (0 : Nat))))] = [V.int IntKind.i64 (SSign.node (s k)), V.seg IntKind.u8 (16 : Nat) (SSign.tag (s k))], true = false → true = false, q0, q0, q0, (0 : Nat) + n = n, (none : Option Nat) = none ∨ (none : Option Nat) = none]) : Option (Exit × St × List Prop)) := by kernel_rfl
theorem pcAi_p100 (n : Nat) (s : Nat → SSign) (x : SSign) (k : Nat) :
  alongPc Try.prog (pcAi n s x k) [true, false, false] = (some (.normal, St.mk [.ros 17 n (fun i => SSign.c (s i)) false, .any, .any, .ptr (.o 0) 0 0 0 0, .any, .any, .any, .any, .any, .any, .any, .ros 17 n (fun i => SSign.c (s i)) false, .int .i64 ↑n, .int .i64 (↑(k + 1) : Int), .any, .any, .any, .any, .any, .any, .any, .any, .any, .any, .any, .any, .any, .any, .any, .any, .any, .any, .any, .any, .any, .any, .any, .any, .any, .any, .any, .any, .any, .any, .any, .any, .any, .any, .any, .any, .any, .any, .any, .any, .any, .any, .any, .any, .any, .any, .any, .any, .any, .any, .any, .any, .any, .any, .any] [(.o 0, .flat (SSign.c x))] 1 [], [decide ((↑k : Int) < (↑n : Int)) = true, (0 : Int) ≤ (↑k : Int) ∧ (↑k : Int) < (↑n : Int), (decide (SSign.node (s (Int.toNat (↑k : Int))) = SSign.node x) && (decide (SSign.tag (s (Int.toNat (↑k : Int))) = SSign.tag x) && true)) = false, decide (SSign.node (s (Int.toNat (↑k : Int))) = SSign.node x) = false, InR IntKind.i64 ((↑k : Int) + (1 : Int)), q (SSign.node x), q (16 : Nat), q (SSign.tag x), q n, ∀ (k : Nat), k < n → SSign.c (s k) = SSign.c (s k), false = true → false = true, q0, q0, q0, q n, ∀ (k : Nat), k < n → SSign.c (s k) = SSign.c (s k), false = true → false = true, q (↑n : Int), (↑k : Int) + (1 : Int) = (↑(k + (1 : Nat)) : Int)]) : Option (Exit × St × List Prop)) := by kernel_rfl
theorem pcAi_p0 (n : Nat) (s : Nat → SSign) (x : SSign) (k : Nat) :
  alongPc Try.prog (pcAi n s x k) [false] = (some (.exit 0, St.mk [.ros 17 n (fun i => SSign.c (s i)) false, .any, .any, .ptr (.o 0) 0 0 0 0, .any, .any, .any, .any, .any, .any, .any, .ros 17 n (fun i => SSign.c (s i)) false, .int .i64 ↑n, .int .i64 ↑n, .any, .any, .any, .any, .any, .any, .any, .any, .any, .any, .any, .any, .any, .any, .any, .any, .any, .any, .any, .any, .any, .any, .any, .any, .any, .any, .any, .any, .any, .any, .any, .any, .any, .any, .any, .any, .any, .any, .any, .any, .any, .any, .any, .any, .any, .any, .any, .any, .any, .any, .any, .any, .any, .any, .any] [(.o 0, .flat (SSign.c x))] 1 [], [decide ((↑k : Int) < (↑n : Int)) = false, q (SSign.node x), q (16 : Nat), q (SSign.tag x), q n, ∀ (k : Nat), k < n → SSign.c (s k) = SSign.c (s k), false = true → false = true, q0, q0, q0, q n, ∀ (k : Nat), k < n → SSign.c (s k) = SSign.c (s k), false = true → false = true, q (↑n : Int), (↑k : Int) = (↑n : Int)]) : Option (Exit × St × List Prop)) := by kernel_rfl

theorem pcAj_p11 (n : Nat) (s : Nat → SSign) (x : SSign) (k : Nat) (a : Nat) :
  alongPc Try.prog (pcAj n s x k a) [true, true] = (some (.exit 2, St.mk [.ros 17 n (fun i => SSign.c (s i)) false, .any, .any, .ptr (.o 0) 0 0 0 0, .any, .any, .any, .int .i64 ↑a, .any, .any, .any, .any, .any, .any, .any, .any, .any, .any, .any, .any, .any, .any, .any, .any, .any, .any, .any, .any, .any, .any, .any, .any, .any, .any, .any, .any, .any, .any, .any, .any, .any, .any, .any, .any, .any, .any, .any, .any, .any, .any, .any, .any, .any, .any, .any, .any, .any, .any, .any, .any, .any, .any, .any, .any, .any, .any, .any, .any, .any] [(.o 0, .flat (SSign.c x))] 1 [], [decide ((↑k : Int) < (↑n : Int)) = true, (0 : Int) ≤ (↑k : Int) ∧ (↑k : Int) < (↑n : Int), decide (SSign.node x < SSign.node (s (Int.toNat (↑k : Int)))) = true, q (SSign.node x), q (16 : Nat), q (SSign.tag x), q n, ∀ (k : Nat), k < n → SSign.c (s k) = SSign.c (s k), false = true → false = true, q0, q0, q0, (↑k : Int) = (↑a : Int)]) : Option (Exit × St × List Prop)) := by kernel_rfl
theorem pcAj_p10 (n : Nat) (s : Nat → SSign) (x : SSign) (k : Nat) (a : Nat) :
  alongPc Try.prog (pcAj n s x k a) [true, false] = (some (.normal, St.mk [.ros 17 n (fun i => SSign.c (s i)) false, .any, .any, .ptr (.o 0) 0 0 0 0, .any, .any, .any, .int .i64 ↑n, .any, .any, .any, .any, .any, .any, .any, .any, .any, .any, .any, .any, .any, .any, .any, .any, .any, .any, .any, .any, .any, .any, .any, .any, .any, .ros 17 n (fun i => SSign.c (s i)) false, .int .i64 ↑n, .int .i64 (↑(k + 1) : Int), .any, .any, .any, .any, .any, .any, .any, .any, .any, .any, .any, .any, .any, .any, .any, .any, .any, .any, .any, .any, .any, .any, .any, .any, .any, .any, .any, .any, .any, .any, .any, .any, .any] [(.o 0, .flat (SSign.c x))] 1 [], [decide ((↑k : Int) < (↑n : Int)) = true, (0 : Int) ≤ (↑k : Int) ∧ (↑k : Int) < (↑n : Int), decide (SSign.node x < SSign.node (s (Int.toNat (↑k : Int)))) = false, InR IntKind.i64 ((↑k : Int) + (1 : Int)), q (SSign.node x), q (16 : Nat), q (SSign.tag x), q n, ∀ (k : Nat), k < n → SSign.c (s k) = SSign.c (s k), false = true → false = true, q0, q0, q0, q (↑n : Int), q n, ∀ (k : Nat), k < n → SSign.c (s k) = SSign.c (s k), false = true → false = true, q (↑n : Int), (↑k : Int) + (1 : Int) = (↑(k + (1 : Nat)) : Int)]) : Option (Exit × St × List Prop)) := by kernel_rfl
theorem pcAj_p0 (n : Nat) (s : Nat → SSign) (x : SSign) (k : Nat) (a : Nat) :
  alongPc Try.prog (pcAj n s x k a) [false] = (some (.exit 2, St.mk [.ros 17 n (fun i => SSign.c (s i)) false, .any, .any, .ptr (.o 0) 0 0 0 0, .any, .any, .any, .int .i64 ↑a, .any, .any, .any, .any, .any, .any, .any, .any, .any, .any, .any, .any, .any, .any, .any, .any, .any, .any, .any, .any, .any, .any, .any, .any, .any, .any, .any, .any, .any, .any, .any, .any, .any, .any, .any, .any, .any, .any, .any, .any, .any, .any, .any, .any, .any, .any, .any, .any, .any, .any, .any, .any, .any, .any, .any, .any, .any, .any, .any, .any, .any] [(.o 0, .flat (SSign.c x))] 1 [], [decide ((↑k : Int) < (↑n : Int)) = false, q (SSign.node x), q (16 : Nat), q (SSign.tag x), q n, ∀ (k : Nat), k < n → SSign.c (s k) = SSign.c (s k), false = true → false = true, q0, q0, q0, (↑n : Int) = (↑a : Int)]) : Option (Exit × St × List Prop)) := by kernel_rfl

theorem atS_le (s : Nat → SSign) (v : Int) (n : Nat) : atS s v n ≤ n := by
 induction n with
 | zero => exact Nat.le_refl _
 | succ n ih => rw [atS]; split <;> (try split) <;> omega
theorem atS_lt {s : Nat → SSign} {v : Int} {n k : Nat} (h : k < atS s v n) : ¬ v < (s k).node := by
 induction n with
 | zero => rw [atS] at h; omega
 | succ n ih =>
  rw [atS] at h
  have := atS_le s v n
  split at h
  ·exact ih h
  ·split at h
   ·exact ih (by omega)
   ·rcases Nat.lt_or_ge k (atS s v n) with h1 | h1
    ·exact ih h1
    ·obtain rfl : k = n := by omega
     assumption
theorem atS_gt {s : Nat → SSign} {v : Int} {n : Nat} (h : atS s v n < n) : v < (s (atS s v n)).node := by
 induction n with
 | zero => omega
 | succ n ih =>
  rw [atS] at h ⊢
  have := atS_le s v n
  split
  ·exact ih (by assumption)
  ·split
   ·assumption
   ·rename_i h1 h2
    rw [if_neg h1, if_neg h2] at h
    omega
theorem atS_eq {s : Nat → SSign} {v : Int} {n m : Nat} (h1 : m ≤ n) (h2 : ∀ k, k < m → ¬ v < (s k).node) (h3 : m < n → v < (s m).node) : atS s v n = m := by
 have h4 := atS_le s v n
 rcases Nat.lt_trichotomy (atS s v n) m with h | h | h
 ·exact (h2 _ h (atS_gt (by omega))).elim
 ·exact h
 ·exact (atS_lt h (h3 (by omega))).elim
def hasN (s : Nat → SSign) (n : Nat) (v : Int) : Bool := (List.range n).any fun i => decide ((s i).node = v)
theorem hasN_true {s : Nat → SSign} {n : Nat} {v : Int} (k : Nat) (h : k < n) (e : (s k).node = v) : hasN s n v = true :=
 List.any_eq_true.2 ⟨k, List.mem_range.2 h, decide_eq_true e⟩
theorem hasN_false {s : Nat → SSign} {n : Nat} {v : Int} (h : ∀ k, k < n → ¬ (s k).node = v) : hasN s n v = false := by
 rw [hasN, List.any_eq_false]
 intro k hk
 rw [decide_eq_true_eq]; exact h k (List.mem_range.1 hk)
def addN (s : Nat → SSign) (n : Nat) (x : SSign) : Nat := if hasN s n x.node = true then n else n + 1
def addS (s : Nat → SSign) (n : Nat) (x : SSign) : Nat → SSign := if hasN s n x.node = true then s else insS s (atS s x.node n) x
theorem sliceSg : ∃ ie, Try.prog.underlying 33 = some (.slice 37) ∧ Try.prog.info? 37 = some ie ∧ ie.size = 17 := ⟨(Try.prog.info? 37).get (by kernel_rfl), Try.underlying33, by kernel_rfl, by kernel_rfl⟩
theorem rowsAdd {s : Nat → SSign} {x : SSign} {n a : Nat} (ha : a ≤ n) (k : Nat) (hk : k < n + 1) :
  setF (fun k => Bool.rec [V.int .i64 (cutS s a k).node, V.seg .u8 16 (cutS s a k).tag] [V.int .i64 x.node, V.seg .u8 16 x.tag] (Nat.beq k a)) (bif Nat.beq (a + 1) (n + 1) then 0 else a + 1) (Nat.min (n - a) (n + 1 - (a + 1))) (fun k => (s (a + k)).c) k = [V.int .i64 (insS s a x k).node, V.seg .u8 16 (insS s a x k).tag] := by
 have hm : Nat.min (n - a) (n + 1 - (a + 1)) = n - a := by
  have : n + 1 - (a + 1) = n - a := by omega
  rw [this]; exact Nat.min_self _
 rw [hm]
 rcases Nat.lt_trichotomy k a with h | h | h
 ·have hb : Nat.beq k a = false := by
   cases hh : Nat.beq k a with
   | true => have := Nat.eq_of_beq_eq_true hh; omega
   | false => rfl
  rw [setF_out, hb, insS, if_pos h, cutS, if_pos h]
  cases hq : Nat.beq (a + 1) (n + 1) with
  | true => have := Nat.eq_of_beq_eq_true hq; simp only [cond_true]; omega
  | false => simp only [cond_false]; omega
 ·subst h
  rw [setF_out, Nat.beq_refl, insS, if_neg (by omega), if_pos rfl]
  cases hq : Nat.beq (k + 1) (n + 1) with
  | true => have := Nat.eq_of_beq_eq_true hq; simp only [cond_true]; omega
  | false => simp only [cond_false]; omega
 ·have hq : Nat.beq (a + 1) (n + 1) = false := by
   cases hh : Nat.beq (a + 1) (n + 1) with
   | true => have := Nat.eq_of_beq_eq_true hh; omega
   | false => rfl
  rw [hq, cond_false, setF_in (by omega) (by omega), insS, if_neg (by omega), if_neg (by omega), show a + (k - (a + 1)) = k - 1 by omega]
  rfl
theorem rowsCut {s : Nat → SSign} {n a : Nat} (ha : a ≤ n) (k : Nat) (hk : k < n + 1) :
  setF (fun _ => [V.int .i64 0, V.seg .u8 16 [0, 0, 0, 0, 0, 0, 0, 0, 0, 0, 0, 0, 0, 0, 0, 0]]) 0 (Nat.min a (n + 1)) (fun i => (s i).c) k = [V.int .i64 (cutS s a k).node, V.seg .u8 16 (cutS s a k).tag] := by
 have hm : Nat.min a (n + 1) = a := Nat.min_eq_left (by omega)
 rw [hm]
 by_cases h : k < a
 ·rw [setF_in (Nat.zero_le _) (by omega), Nat.sub_zero, cutS, if_pos h]; rfl
 ·rw [setF_out (by omega), cutS, if_neg h]; rfl
theorem T_ad {n : Nat} (s : Nat → SSign) (x : SSign) (hn : n ≤ 1000000) : T Try.prog 25 [sg n s, .agg x.c] [] (sgs 1 (addN s n x)) [(.o 1, sgB (addN s n x) (addS s n x))] := by
 rcases loop_all (P := Try.prog) (ro := none) (p := 0) (c := cB (cB (cR (cL (cB (cR (bodyOf Try.f25))))))) (I := adI n s x) (F := fun _ => adR n s) (e := fun _ => .ret) (q := fun k => ¬ (s k).node = x.node) (n := n)
   (fun k hk hq => by
    refine R_alongPc NG MO _ (pcAi_p100 n s x k) ?_ (Nat.zero_le _)
    have e1 : (decide ((s k).node = x.node) && (decide ((s k).tag = x.tag) && true)) = false := by rw [decide_eq_false hq]; rfl
    simp only [All, Int.toNat_natCast]; and_intros
    all_goals first
     | exact e1
     | exact decide_eq_true hq
     | exact decide_eq_false hq
     | exact True.intro
     | (with_reducible assumption)
     | (rw [decide_eq_true_eq]; omega)
     | (rw [decide_eq_false_iff_not]; omega)
     | with_reducible rfl
     | (intro _ _; with_reducible rfl)
     | (intro _ _; trivial)
     | (intro _ _; rfl)
     | (simp only [IntKind.min, IntKind.max, IntKind.signed, IntKind.bits, if_true]; omega)
     | omega
     | (intro h; exact h)
     | (intro h; cases h; done)
     | exact .inl rfl
     | exact .inl trivial
     | exact .inr True.intro
     | trivial)
   (fun k hk hq => by
    have hq := Classical.not_not.1 hq
    by_cases ht : (s k).tag = x.tag
    ·refine R_alongPc NG MO _ (pcAi_p111 n s x k) ?_ (Nat.zero_le _)
     have e1 : (decide ((s k).node = x.node) && (decide ((s k).tag = x.tag) && true)) = true := by rw [decide_eq_true hq, decide_eq_true ht]; rfl
     simp only [All, Int.toNat_natCast, Nat.zero_add]; and_intros
     all_goals first
      | exact e1
      | exact decide_eq_true hq
      | exact True.intro
      | (with_reducible assumption)
      | (rw [decide_eq_true_eq]; omega)
      | (rw [decide_eq_false_iff_not]; omega)
      | with_reducible rfl
      | (intro _ _; with_reducible rfl)
      | (intro _ _; trivial)
      | (intro _ _; rfl)
      | (simp only [IntKind.min, IntKind.max, IntKind.signed, IntKind.bits, if_true]; omega)
      | omega
      | (intro h; exact h)
      | (intro h; cases h; done)
      | exact .inl rfl
      | exact .inl trivial
      | exact .inr True.intro
      | trivial
    ·refine R_alongPc NG MO _ (pcAi_p101 n s x k) ?_ (Nat.zero_le _)
     have e1 : (decide ((s k).node = x.node) && (decide ((s k).tag = x.tag) && true)) = false := by rw [decide_eq_false ht, Bool.false_and, Bool.and_false]
     simp only [All, Int.toNat_natCast, Nat.zero_add]; and_intros
     all_goals first
      | exact e1
      | exact decide_eq_true hq
      | exact True.intro
      | (with_reducible assumption)
      | (rw [decide_eq_true_eq]; omega)
      | (rw [decide_eq_false_iff_not]; omega)
      | with_reducible rfl
      | (intro _ _; with_reducible rfl)
      | (intro _ _; trivial)
      | (intro _ _; rfl)
      | (simp only [IntKind.min, IntKind.max, IntKind.signed, IntKind.bits, if_true]; omega)
      | omega
      | (intro h; exact h)
      | (intro h; cases h; done)
      | exact .inl rfl
      | exact .inl trivial
      | exact .inr True.intro
      | trivial)
   (by simp) (R_alongPc NG MO _ (pcAi_p0 n s x n) (by
    simp only [All, Int.toNat_natCast]; and_intros
    all_goals first
     | exact True.intro
     | (with_reducible assumption)
     | (rw [decide_eq_true_eq]; omega)
     | (rw [decide_eq_false_iff_not]; omega)
     | with_reducible rfl
     | (intro _ _; with_reducible rfl)
     | (intro _ _; trivial)
     | (intro _ _; rfl)
     | (simp only [IntKind.min, IntKind.max, IntKind.signed, IntKind.bits, if_true]; omega)
     | omega
     | (intro h; exact h)
     | (intro h; cases h; done)
     | exact .inl rfl
     | exact .inl trivial
     | exact .inr True.intro
     | trivial) (Nat.zero_le _)) (by simp) with ⟨h, hL⟩ | ⟨m, hm, _, hq, hL⟩
 ·have hf : hasN s n x.node = false := hasN_false h
  obtain ⟨m2, hL2⟩ : ∃ m2, RLoop Try.prog none 0 (cB (cB (cR (cL (cR (cR (cR (cB (cR (bodyOf Try.f25)))))))))) (m2 + 1) (adJ n s x 0) (.exit 2) (adK n s x (atS s x.node n)) := by
   rcases loop_all (P := Try.prog) (ro := none) (p := 0) (c := cB (cB (cR (cL (cR (cR (cR (cB (cR (bodyOf Try.f25)))))))))) (I := adJ n s x) (F := fun m => adK n s x m) (e := fun _ => .exit 2) (q := fun k => ¬ x.node < (s k).node) (n := n)
     (fun k hk hq => by
      refine R_alongPc NG MO _ (pcAj_p10 n s x k 0) ?_ (Nat.zero_le _)
      simp only [All, Int.toNat_natCast]; and_intros
      all_goals first
       | exact True.intro
       | (with_reducible assumption)
       | (rw [decide_eq_true_eq]; omega)
       | (rw [decide_eq_false_iff_not]; omega)
       | with_reducible rfl
       | (intro _ _; with_reducible rfl)
       | (intro _ _; trivial)
       | (intro _ _; rfl)
       | (simp only [IntKind.min, IntKind.max, IntKind.signed, IntKind.bits, if_true]; omega)
       | omega
       | (intro h; exact h)
       | (intro h; cases h; done)
       | exact .inl rfl
       | exact .inl trivial
       | exact .inr True.intro
       | trivial)
     (fun k hk hq => by
      have hq := Classical.not_not.1 hq
      refine R_alongPc NG MO _ (pcAj_p11 n s x k k) ?_ (Nat.zero_le _)
      simp only [All, Int.toNat_natCast]; and_intros
      all_goals first
       | exact True.intro
       | (with_reducible assumption)
       | (rw [decide_eq_true_eq]; omega)
       | (rw [decide_eq_false_iff_not]; omega)
       | with_reducible rfl
       | (intro _ _; with_reducible rfl)
       | (intro _ _; trivial)
       | (intro _ _; rfl)
       | (simp only [IntKind.min, IntKind.max, IntKind.signed, IntKind.bits, if_true]; omega)
       | omega
       | (intro h; exact h)
       | (intro h; cases h; done)
       | exact .inl rfl
       | exact .inl trivial
       | exact .inr True.intro
       | trivial)
     (by simp) (R_alongPc NG MO _ (pcAj_p0 n s x n n) (by
      simp only [All, Int.toNat_natCast]; and_intros
      all_goals first
       | exact True.intro
       | (with_reducible assumption)
       | (rw [decide_eq_true_eq]; omega)
       | (rw [decide_eq_false_iff_not]; omega)
       | with_reducible rfl
       | (intro _ _; with_reducible rfl)
       | (intro _ _; trivial)
       | (intro _ _; rfl)
       | (simp only [IntKind.min, IntKind.max, IntKind.signed, IntKind.bits, if_true]; omega)
       | omega
       | (intro h; exact h)
       | (intro h; cases h; done)
       | exact .inl rfl
       | exact .inl trivial
       | exact .inr True.intro
       | trivial) (Nat.zero_le _)) (by simp) with ⟨g, hL2⟩ | ⟨m, hm, g1, g2, hL2⟩
   ·exact ⟨n, by rw [atS_eq (Nat.le_refl n) g (fun h => by omega)]; exact hL2⟩
   ·exact ⟨m, by rw [atS_eq (Nat.le_of_lt hm) g1 (fun _ => Classical.not_not.1 g2)]; exact hL2⟩
  have ha := atS_le s x.node n
  obtain ⟨ie, i1, i2, i3⟩ := sliceSg
  rw [addN, addS, if_neg (by rw [hf]; simp), if_neg (by rw [hf]; simp)]
  generalize atS s x.node n = a at hL2 ha
  have en : Int.toNat ((n : Int) + 1) = n + 1 := by omega
  have ea : Int.toNat ((a : Int) + 1) = a + 1 := by omega
  have hF : TO Try.prog (.sliceFrom 33) [.sl (.o 1) 17 0 0 0 (n + 1) (some (n + 1)), .int .i64 ((a : Int) + 1)] [] (.sl (.o 1) 17 (bif Nat.beq (a + 1) (n + 1) then 0 else a + 1) 0 0 (n + 1 - (a + 1)) (some (n + 1 - (a + 1)))) [] := by
   have h0 := TO_from (P := Try.prog) (a := .o 1) (i := 0) (len := n + 1) (c := n + 1) (l := a + 1) i1 i2 i3 (by omega)
   rw [Nat.zero_add] at h0
   exact h0
  have hC : TO Try.prog (.copy 33 33) [.sl (.o 1) 17 (bif Nat.beq (a + 1) (n + 1) then 0 else a + 1) 0 0 (n + 1 - (a + 1)) (some (n + 1 - (a + 1))), .ros 17 (n - a) (fun k => (s (a + k)).c) false]
    [(.o 1, .rows 17 (n + 1) (fun k => Bool.rec [V.int .i64 (cutS s a k).node, V.seg .u8 16 (cutS s a k).tag] [V.int .i64 x.node, V.seg .u8 16 x.tag] (Nat.beq k a)) true)] (.int .i64 (Nat.min (n - a) (n + 1 - (a + 1)) : Nat))
    [(.o 1, .rows 17 (n + 1) (setF (fun k => Bool.rec [V.int .i64 (cutS s a k).node, V.seg .u8 16 (cutS s a k).tag] [V.int .i64 x.node, V.seg .u8 16 x.tag] (Nat.beq k a)) (bif Nat.beq (a + 1) (n + 1) then 0 else a + 1) (Nat.min (n - a) (n + 1 - (a + 1))) (fun k => (s (a + k)).c)) true)] := by
   refine TO_copy i1 i2 i3 ?_ (fun k hk => by rfl) (by omega)
   have h1 := Nat.min_le_left (n - a) (n + 1 - (a + 1))
   change Nat.min (n - a) (n + 1 - (a + 1)) ≤ n - a at h1
   cases hq : Nat.beq (a + 1) (n + 1) with
   | true => have := Nat.eq_of_beq_eq_true hq; simp only [cond_true]; omega
   | false => simp only [cond_false]; omega
  have e0 : (Bool.rec (a + 1) 0 (Nat.beq (a + 1) (n + 1)) : Nat) = (bif Nat.beq (a + 1) (n + 1) then 0 else a + 1) := by cases Nat.beq (a + 1) (n + 1) <;> rfl
  refine T_al (bdAd_p1 n s x m2 a) Try.func25 ?_
  refine ⟨hL, ?_⟩
  simp only [All, Int.toNat_natCast, Nat.zero_add, en, ea, natO, shiftF, addO, Nat.sub_zero, e0]; and_intros
  all_goals first
   | exact hL2
   | (intro k hk; exact rowsCut ha k hk)
   | (intro k hk; exact rowsAdd ha k hk)
   | exact TO_copy i1 i2 i3 (by simp only [Nat.zero_add]; exact Nat.min_le_right _ _) (fun k hk => by rfl) (by omega)
   | exact hF
   | exact hC
   | exact True.intro
   | (with_reducible assumption)
   | (rw [decide_eq_true_eq]; omega)
   | (rw [decide_eq_false_iff_not]; omega)
   | with_reducible rfl
   | (intro _ _; with_reducible rfl)
   | (intro _ _; trivial)
   | (intro _ _; rfl)
   | (simp only [IntKind.min, IntKind.max, IntKind.signed, IntKind.bits, if_true]; omega)
   | omega
   | (intro h; exact h)
   | (intro h; cases h; done)
   | exact .inl rfl
   | exact .inl trivial
   | exact .inr True.intro
   | trivial
 ·have hq := Classical.not_not.1 hq
  have hf : hasN s n x.node = true := hasN_true m hm hq
  rw [addN, addS, if_pos hf, if_pos hf]
  refine T_al (bdAd_p0 n s x m 0) Try.func25 ?_
  refine ⟨hL, ?_⟩
  simp only [All, Int.toNat_natCast, Nat.zero_add]; and_intros
  all_goals first
   | exact True.intro
   | (with_reducible assumption)
   | (rw [decide_eq_true_eq]; omega)
   | (rw [decide_eq_false_iff_not]; omega)
   | with_reducible rfl
   | (intro _ _; with_reducible rfl)
   | (intro _ _; trivial)
   | (intro _ _; rfl)
   | (simp only [IntKind.min, IntKind.max, IntKind.signed, IntKind.bits, if_true]; omega)
   | omega
   | (intro h; exact h)
   | (intro h; cases h; done)
   | exact .inl rfl
   | exact .inl trivial
   | exact .inr True.intro
   | trivial
end Go.Proofs.Ytpallipnhmoipaa
namespace Sy
open Go
def o32 (x y : Int) : Int := ibits (fun _ x y => x ||| y) .u32 x y
def x32 (x y : Int) : Int := ibits (fun _ x y => x ^^^ y) .u32 x y
def a32 (x y : Int) : Int := ibits (fun _ x y => x &&& y) .u32 x y
def w32 (x : Int) : Int := IntKind.wrap .u32 x
def n32 (x : Int) : Int := x32 4294967295 x
/-- Turned to the right. -/
def rr32 (x n : Int) : Int := o32 (x / 2 ^ n.toNat) (w32 (x * 2 ^ (32 - n).toNat))
def lo5 (n : Int) : Int := ibits (fun _ x y => x &&& y) .u64 (IntKind.wrap .u64 n) 31
/-- Turned to the left. -/
def rl32 (x n : Int) : Int := o32 (w32 (x * 2 ^ (lo5 n).toNat)) (x / 2 ^ (IntKind.wrap .u64 (32 - lo5 n)).toNat)
theorem o32_comm (x y : Int) : o32 x y = o32 y x := by
 simp only [o32, ibits]
 rw [BitVec.or_comm]
theorem lo5_neg : ∀ n : Nat, n < 32 → 0 < n → lo5 (-(n : Int)) = 32 - n ∧ IntKind.wrap .u64 (32 - lo5 (-(n : Int))) = n := by decide
theorem rl_rr (x : Int) {n : Nat} (h0 : 0 < n) (h : n < 32) : rl32 x (-(n : Int)) = rr32 x n := by
 obtain ⟨h1, h2⟩ := lo5_neg n h h0
 rw [rl32, h2, h1, o32_comm, rr32]
/-- The number of a round. -/
def kT : List Int := [0x428a2f98, 0x71374491, 0xb5c0fbcf, 0xe9b5dba5, 0x3956c25b, 0x59f111f1, 0x923f82a4, 0xab1c5ed5,
 0xd807aa98, 0x12835b01, 0x243185be, 0x550c7dc3, 0x72be5d74, 0x80deb1fe, 0x9bdc06a7, 0xc19bf174,
 0xe49b69c1, 0xefbe4786, 0x0fc19dc6, 0x240ca1cc, 0x2de92c6f, 0x4a7484aa, 0x5cb0a9dc, 0x76f988da,
 0x983e5152, 0xa831c66d, 0xb00327c8, 0xbf597fc7, 0xc6e00bf3, 0xd5a79147, 0x06ca6351, 0x14292967,
 0x27b70a85, 0x2e1b2138, 0x4d2c6dfc, 0x53380d13, 0x650a7354, 0x766a0abb, 0x81c2c92e, 0x92722c85,
 0xa2bfe8a1, 0xa81a664b, 0xc24b8b70, 0xc76c51a3, 0xd192e819, 0xd6990624, 0xf40e3585, 0x106aa070,
 0x19a4c116, 0x1e376c08, 0x2748774c, 0x34b0bcb5, 0x391c0cb3, 0x4ed8aa4a, 0x5b9cca4f, 0x682e6ff3,
 0x748f82ee, 0x78a5636f, 0x84c87814, 0x8cc70208, 0x90befffa, 0xa4506ceb, 0xbef9a3f7, 0xc67178f2]
def kN (t : Nat) : Int := kT.getD t 0
def s32 (x a b c : Int) : Int := x32 (x32 (rr32 x a) (rr32 x b)) (rr32 x c)
def m32 (x a b c : Int) : Int := x32 (x32 (rr32 x a) (rr32 x b)) (x / 2 ^ c.toNat)
/-- A word of a block's bytes. -/
def ldW (b : List Int) (i : Nat) : Int := o32 (o32 (o32 (w32 (w32 (b.getD (4 * i) 0) * 16777216)) (w32 (w32 (b.getD (4 * i + 1) 0) * 65536))) (w32 (w32 (b.getD (4 * i + 2) 0) * 256))) (w32 (b.getD (4 * i + 3) 0))
def wA (b : List Int) : Nat → List Int
 | 0 => List.replicate 64 0
 | i + 1 => (wA b i).set i (ldW b i)
def mxW (w : List Int) (k : Nat) : Int := w32 (w32 (w32 (w.getD k 0 + m32 (w.getD (k + 1) 0) 7 18 3) + w.getD (k + 9) 0) + m32 (w.getD (k + 14) 0) 17 19 10)
def wB (b : List Int) : Nat → List Int
 | 0 => wA b 16
 | k + 1 => (wB b k).set (16 + k) (mxW (wB b k) k)
/-- A round's eight numbers. -/
structure S8 where
 a : Int
 b : Int
 c : Int
 d : Int
 e : Int
 f : Int
 g : Int
 h : Int
def S8.l (s : S8) : List Int := [s.a, s.b, s.c, s.d, s.e, s.f, s.g, s.h]
def S8.of (h : List Int) : S8 := ⟨h.getD 0 0, h.getD 1 0, h.getD 2 0, h.getD 3 0, h.getD 4 0, h.getD 5 0, h.getD 6 0, h.getD 7 0⟩
def rx (w : List Int) (t : Nat) (s : S8) : Int := w32 (w32 (w32 (w32 (s.h + s32 s.e 6 11 25) + x32 (a32 s.e s.f) (a32 (n32 s.e) s.g)) + kN t) + w.getD t 0)
def ry (s : S8) : Int := w32 (s32 s.a 2 13 22 + x32 (x32 (a32 s.a s.b) (a32 s.a s.c)) (a32 s.b s.c))
def rnd (w : List Int) (s : S8) : Nat → S8
 | 0 => s
 | t + 1 => ⟨w32 (rx w t (rnd w s t) + ry (rnd w s t)), (rnd w s t).a, (rnd w s t).b, (rnd w s t).c, w32 ((rnd w s t).d + rx w t (rnd w s t)), (rnd w s t).e, (rnd w s t).f, (rnd w s t).g⟩
def hF (h l : List Int) : Nat → List Int
 | 0 => h
 | i + 1 => (hF h l i).set i (w32 ((hF h l i).getD i 0 + l.getD i 0))
/-- The words behind one more block. -/
def blk (h b : List Int) : List Int := hF h (rnd (wB b 48) (S8.of h) 64).l 8
def iv : List Int := [1779033703, 3144134277, 1013904242, 2773480762, 1359893119, 2600822924, 528734635, 1541459225]
def cutB (B : List Int) (k : Nat) : List Int := (List.range 64).map fun i => B.getD (64 * k + i) 0
/-- The words behind so many blocks. -/
def hK (B : List Int) : Nat → List Int
 | 0 => iv
 | k + 1 => blk (hK B k) (cutB B k)
def w8 (x : Int) : Int := IntKind.wrap .u8 x
def lenE (n : Int) (i : Nat) : Int := w8 (n / 2 ^ (56 - 8 * i))
def lenP (n : Int) (j : Nat) : List Int := (List.range j).map (lenE n)
def lenB (n : Int) : List Int := lenP n 8
theorem lenB_len (n : Int) : (lenB n).length = 8 := by simp [lenB, lenP]
theorem lenB_get {n : Int} {i : Nat} (h : i < 8) : (lenB n).getD i 0 = lenE n i := by
 rw [lenB, lenP, List.getD_eq_getElem?_getD, List.getElem?_map, List.getElem?_range h]; rfl
/-- So many zeros stand behind so many bytes. -/
def padZ (n : Nat) : Nat := (120 - n % 64) % 64
def padL (B : List Int) : List Int := B ++ [128] ++ List.replicate (padZ (B.length + 1)) 0 ++ lenB (8 * (B.length : Int))
def dA (H : List Int) : Nat → List Int
 | 0 => List.replicate 32 0
 | i + 1 => (dA H i).set i (w8 (H.getD (i / 4) 0 / 2 ^ (24 - 8 * (i % 4))))
def shaV (B : List Int) : List Int := dA (hK (padL B) ((padL B).length / 64)) 32
/-- Bytes as they come. -/
def ib (l : List Int) : Nat → List V := fun i => [.int .u8 (l.getD i 0)]

theorem hK_app (B C : List Int) : ∀ k, 64 * k ≤ B.length → hK (B ++ C) k = hK B k
 | 0, _ => rfl
 | k + 1, h => by
  have ih := hK_app B C k (by omega)
  have : cutB (B ++ C) k = cutB B k := by
   unfold cutB
   apply List.map_congr_left
   intro i hi
   have := List.mem_range.1 hi
   rw [List.getD_eq_getElem?_getD, List.getD_eq_getElem?_getD, List.getElem?_append_left (by omega)]
  rw [hK, hK, ih, this]
/-- What a stream has, of bytes so far. -/
structure Inv (B H W : List Int) : Prop where
 h : H = hK B (B.length / 64)
 len : W.length = 64
 w : ∀ i, i < B.length % 64 → W.getD i 0 = B.getD (64 * (B.length / 64) + i) 0
theorem segSet_len (m : Nat) (xs : List Int) (j cnt : Nat) (g : Nat → List V) : (segSet m xs j cnt g).length = m := by simp [segSet]
theorem segSet_get {m : Nat} {xs : List Int} {j cnt q : Nat} {g : Nat → List V} (h : q < m) : (segSet m xs j cnt g).getD q 0 = if j ≤ q ∧ q < j + cnt then intOf (g (q - j)) else xs.getD q 0 := by
 rw [segSet, List.getD_eq_getElem?_getD, List.getElem?_map, List.getElem?_range h]
 simp only [Option.map_some, Option.getD_some]
 by_cases h1 : j ≤ q ∧ q < j + cnt
 ·rw [if_pos h1, Nat.ble_eq_true_of_le h1.1, (show Nat.blt q (j + cnt) = true by rw [Nat.blt_eq]; exact h1.2)]; rfl
 ·rw [if_neg h1]
  cases h2 : Nat.ble j q with
  | false => rfl
  | true =>
   cases h3 : Nat.blt q (j + cnt) with
   | false => rfl
   | true => exact absurd ⟨Nat.le_of_ble_eq_true h2, by rwa [Nat.blt_eq] at h3⟩ h1
theorem inv_step {B H W l : List Int} (hI : Inv B H W) {c : Nat} (hc : c ≤ l.length) (hc2 : c ≤ 64 - B.length % 64) :
  let W2 := segSet 64 W (B.length % 64) c (ib l)
  ((B.length + c) % 64 = 0 → 0 < c → Inv (B ++ l.take c) (blk H W2) W2) ∧ ((B.length + c) % 64 ≠ 0 → Inv (B ++ l.take c) H W2) := by
 intro W2
 have hl : (B ++ l.take c).length = B.length + c := by rw [List.length_append, List.length_take, Nat.min_eq_left hc]
 have hw : ∀ i, i < B.length % 64 + c → W2.getD i 0 = (B ++ l.take c).getD (64 * (B.length / 64) + i) 0 := by
  intro i hi
  have hi64 : i < 64 := by omega
  show (segSet 64 W (B.length % 64) c (ib l)).getD i 0 = _
  rw [segSet_get hi64]
  by_cases h1 : B.length % 64 ≤ i
  ·rw [if_pos ⟨h1, hi⟩, List.getD_eq_getElem?_getD, List.getElem?_append_right (by omega), List.getElem?_take_of_lt (by omega)]
   show l.getD (i - B.length % 64) 0 = _
   rw [List.getD_eq_getElem?_getD]
   congr 2; omega
  ·rw [if_neg (fun h => h1 h.1), hI.w i (by omega), List.getD_eq_getElem?_getD, List.getD_eq_getElem?_getD, List.getElem?_append_left (by omega)]
 constructor
 ·intro h0 hpos
  have hd : (B.length + c) / 64 = B.length / 64 + 1 := by omega
  have hfull : B.length % 64 + c = 64 := by omega
  refine ⟨?_, segSet_len _ _ _ _ _, fun i hi => absurd hi (by rw [hl]; omega)⟩
  rw [hl, hd, hK, hK_app _ _ _ (by omega), ← hI.h]
  congr 1
  apply List.ext_getElem?
  intro i
  by_cases hi : i < 64
  ·have h1 := hw i (by omega)
   have e1 : i < W2.length := by rw [show W2.length = 64 from segSet_len _ _ _ _ _]; exact hi
   have e2 : i < (cutB (B ++ l.take c) (B.length / 64)).length := by simp [cutB]; exact hi
   rw [List.getElem?_eq_getElem e1, List.getElem?_eq_getElem e2]
   congr 1
   have h2 : W2.getD i 0 = W2[i] := by rw [List.getD_eq_getElem?_getD, List.getElem?_eq_getElem e1]; rfl
   refine h2.symm.trans (h1.trans ?_)
   simp [cutB]
  ·rw [List.getElem?_eq_none (by rw [show W2.length = 64 from segSet_len _ _ _ _ _]; omega), List.getElem?_eq_none (by simp [cutB]; omega)]
 ·intro h0
  have hd : (B.length + c) / 64 = B.length / 64 := by omega
  have hm : (B.length + c) % 64 = B.length % 64 + c := by omega
  refine ⟨?_, segSet_len _ _ _ _ _, fun i hi => ?_⟩
  ·rw [hl, hd, hK_app _ _ _ (by omega)]; exact hI.h
  ·rw [hl, hm] at hi
   rw [hl, hd]; exact hw i hi
theorem inv_nil {W : List Int} (h : W.length = 64) : Inv [] iv W := ⟨rfl, h, fun i hi => absurd hi (Nat.not_lt_zero _)⟩
theorem padZ_lt {n j : Nat} (h : j < padZ n) : (n + j) % 64 ≠ 56 := by unfold padZ at h; omega
theorem padZ_at (n : Nat) : (n + padZ n) % 64 = 56 := by unfold padZ; omega
theorem padL_len (B : List Int) : (padL B).length % 64 = 0 := by
 have := padZ_at (B.length + 1)
 simp only [padL, List.length_append, List.length_replicate, List.length_cons, List.length_nil, lenB_len]
 omega
theorem hF_len (h l : List Int) : ∀ i, (hF h l i).length = h.length
 | 0 => rfl
 | i + 1 => by rw [hF, List.length_set, hF_len h l i]
theorem hK_len (B : List Int) : ∀ k, (hK B k).length = 8
 | 0 => rfl
 | k + 1 => by rw [hK, blk, hF_len, hK_len B k]
theorem of8 {h : List Int} (hh : h.length = 8) : h = (S8.of h).l := by
 match h, hh with
 | [_, _, _, _, _, _, _, _], _ => rfl
theorem lenP_succ (n : Int) (j : Nat) : lenP n (j + 1) = lenP n j ++ [lenE n j] := by rw [lenP, List.range_succ, List.map_append]; rfl
theorem cutB_len (B : List Int) (k : Nat) : (cutB B k).length = 64 := by simp [cutB]
theorem cutB_get {B : List Int} {k i : Nat} (h : i < 64) : (cutB B k).getD i 0 = B.getD (64 * k + i) 0 := by
 rw [cutB, List.getD_eq_getElem?_getD, List.getElem?_map, List.getElem?_range h]; rfl
theorem ctb (L : List Int) (v : Int) (k : Nat) (hk : k < L.length + 1) : catF L.length (ib L) (fun k => getL [[V.int .u8 v]] (0 + k)) k = [V.int .u8 ((L ++ [v]).getD k 0)] := by
 rw [catF]
 cases hb : Nat.blt k L.length with
 | true =>
  rw [Nat.blt_eq] at hb
  rw [cond_true, ib, List.getD_eq_getElem?_getD, List.getD_eq_getElem?_getD, List.getElem?_append_left hb]
 | false =>
  have h1 : ¬ k < L.length := by rw [← Nat.blt_eq, hb]; simp
  have h2 : k = L.length := by omega
  subst h2
  rw [cond_false, Nat.sub_self, List.getD_eq_getElem?_getD, List.getElem?_append_right (Nat.le_refl _), Nat.sub_self]
  rfl
theorem cat0 (f g : Nat → List V) : catF 0 f g = g := by
 funext k
 rw [catF]
 have : Nat.blt k 0 = false := by cases k <;> rfl
 rw [this]; rfl
end Sy
namespace Go.Proofs.Ytpallipnhmoipaa
open Go Sy Go.Proofs
noncomputable def bdRl (x n : Int) : Bd := { f := Try.f110, args := [.int .u32 x, .int .i64 n], kb := kb0 }
noncomputable def bdRr (x n : Int) : Bd := { f := Try.f111, args := [.int .u32 x, .int .i64 n], kb := kb0 }
def rlDb : List V → Heap → Nat → List Cl := fun l _ _ => match l with
 | [.int _ x, .int _ n] => [{ val := .int .u32 (rl32 x n) }]
 | _ => []
def rrDb : List V → Heap → Nat → List Cl := fun l _ _ => match l with
 | [.int _ x, .int _ n] => [{ val := .int .u32 (rr32 x n) }]
 | _ => []
noncomputable def bdTu (x a b c : Int) : Bd := { f := Try.f103, args := [.int .u32 x, .int .i64 a, .int .i64 b, .int .i64 c], kb := { db := dbQ [(110, rlDb)] } }
noncomputable def bdMi (x a b c : Int) : Bd := { f := Try.f109, args := [.int .u32 x, .int .i64 a, .int .i64 b, .int .i64 c], kb := { db := dbQ [(110, rlDb)] } }
noncomputable def bdKr (t : Int) : Bd := { f := Try.f104, args := [.int .i64 t], kb := kb0 }
noncomputable def bdKc (t : Int) : Bd := { f := Try.f112, args := [.int .i64 t], kb := kb0 }
def wtI (b w : List Int) (i : Nat) : St := ⟨mkT 71 [(1, .ptr (.o 0) 0 0 0 0), (2, .ptr (.o 1) 0 0 0 0), (6, .int .i64 (i : Nat))], [(.o 0, .flat [.seg .u8 64 b]), (.o 1, .flat [.seg .u32 64 w])], 2, []⟩
def wtJ (b w : List Int) (k : Nat) : St := ⟨mkT 71 [(1, .ptr (.o 0) 0 0 0 0), (2, .ptr (.o 1) 0 0 0 0), (4, .fn (.func 109) [] []), (5, .int .i64 ((16 + k : Nat) : Int))], [(.o 0, .flat [.seg .u8 64 b]), (.o 1, .flat [.seg .u32 64 w])], 2, []⟩
def mxDb : List V → Heap → Nat → List Cl := fun l _ _ => match l with
 | [.int _ x, .int _ a, .int _ b, .int _ c] => [{ val := .int .u32 (m32 x a b c) }]
 | _ => []
noncomputable def bdWt (b w w2 : List Int) : Bd := { f := Try.f102, args := [.agg [.seg .u8 64 b]], kb := { db := fun _ _ _ _ => [], lp := fun id t => bif Nat.beq id 0 then [(True, .loop (16 + 1) (wToS [(.o 0, nmV (getV t.tmps 1)), (.o 1, nmV (getV t.tmps 2))] (wtI b (List.replicate 64 0) 0)) (.exit 0) (wtI b w 16))] else [(True, .loop (48 + 1) (wTo (wtJ b w 0)) (.exit 2) (wtJ b w2 48))] } }
noncomputable def pcWi (b w : List Int) (i : Nat) (w2 : List Int) : Pc := { c := cB (cB (cR (cL (cR (bodyOf Try.f102))))), st := wtI b w i, kb := kb0, k := fun x_ _ => match x_ with
 | .normal => some (wTo (wtI b w2 (i + 1)))
 | _ => some (wTo (wtI b w 16)) }
noncomputable def pcWj (b w : List Int) (k : Nat) (w2 : List Int) : Pc := { c := cB (cB (cR (cL (cR (cR (cR (bodyOf Try.f102))))))), st := wtJ b w k, kb := { db := dbQ [(109, mxDb)] }, k := fun x_ _ => match x_ with
 | .normal => some (wTo (wtJ b w2 (k + 1)))
 | _ => some (wTo (wtJ b w 48)) }
end Go.Proofs.Ytpallipnhmoipaa
namespace Go.Proofs.Ytpallipnhmoipaa
open Go Sy Go.Proofs
theorem bdRl_p (x : Int) (n : Int) :
  along Try.prog (bdRl x n) [] = (some (.int .u32 (ibits (fun x x_1 y => x_1 ||| y) .u32 (IntKind.wrap .u32 (x * (2 : Int) ^ Int.toNat (ibits (fun x x_1 y => x_1 &&& y) .u64 (IntKind.wrap .u64 n) (31 : Int)))) (x / (2 : Int) ^ Int.toNat (IntKind.wrap .u64 ((32 : Int) - ibits (fun x x_1 y => x_1 &&& y) .u64 (IntKind.wrap .u64 n) (31 : Int))))), [], [(0 : Int) ≤ ibits (fun x x_1 y => x_1 &&& y) IntKind.u64 (IntKind.wrap IntKind.u64 n) (31 : Int) ∧ ibits (fun x x_1 y => x_1 &&& y) IntKind.u64 (IntKind.wrap IntKind.u64 n) (31 : Int) ≤ (32 : Int), (0 : Int) ≤ IntKind.wrap IntKind.u64 ((32 : Int) - ibits (fun x x_1 y => x_1 &&& y) IntKind.u64 (IntKind.wrap IntKind.u64 n) (31 : Int)) ∧ IntKind.wrap IntKind.u64 ((32 : Int) - ibits (fun x x_1 y => x_1 &&& y) IntKind.u64 (IntKind.wrap IntKind.u64 n) (31 : Int)) ≤ (32 : Int)]) : Option (V × Heap × List Prop)) := by kernel_rfl

theorem bdRr_p (x : Int) (n : Int) :
  along Try.prog (bdRr x n) [] = (some (.int .u32 (ibits (fun x x_1 y => x_1 ||| y) .u32 (x / (2 : Int) ^ Int.toNat n) (IntKind.wrap .u32 (x * (2 : Int) ^ Int.toNat ((32 : Int) - n)))), [], [(0 : Int) ≤ n ∧ n ≤ (32 : Int), InR IntKind.i64 ((32 : Int) - n), (0 : Int) ≤ (32 : Int) - n ∧ (32 : Int) - n ≤ (32 : Int)]) : Option (V × Heap × List Prop)) := by kernel_rfl

theorem bdTu_p (x : Int) (a : Int) (b : Int) (c : Int) :
  along Try.prog (bdTu x a b c) [] = (some (.int .u32 (ibits (fun x x_1 y => x_1 ^^^ y) .u32 (ibits (fun x x_1 y => x_1 ^^^ y) .u32 (rl32 x ((0 : Int) - a)) (rl32 x ((0 : Int) - b))) (rl32 x ((0 : Int) - c))), [], [InR IntKind.i64 ((0 : Int) - a), T Try.prog 110 [.int .u32 x, .int .i64 ((0 : Int) - a)] [] (.int .u32 (rl32 x ((0 : Int) - a))) [], InR IntKind.i64 ((0 : Int) - b), T Try.prog 110 [.int .u32 x, .int .i64 ((0 : Int) - b)] [] (.int .u32 (rl32 x ((0 : Int) - b))) [], InR IntKind.i64 ((0 : Int) - c), T Try.prog 110 [.int .u32 x, .int .i64 ((0 : Int) - c)] [] (.int .u32 (rl32 x ((0 : Int) - c))) []]) : Option (V × Heap × List Prop)) := by kernel_rfl

theorem bdMi_p (x : Int) (a : Int) (b : Int) (c : Int) :
  along Try.prog (bdMi x a b c) [] = (some (.int .u32 (ibits (fun x x_1 y => x_1 ^^^ y) .u32 (ibits (fun x x_1 y => x_1 ^^^ y) .u32 (rl32 x ((0 : Int) - a)) (rl32 x ((0 : Int) - b))) (x / (2 : Int) ^ Int.toNat c)), [], [InR IntKind.i64 ((0 : Int) - a), T Try.prog 110 [.int .u32 x, .int .i64 ((0 : Int) - a)] [] (.int .u32 (rl32 x ((0 : Int) - a))) [], InR IntKind.i64 ((0 : Int) - b), T Try.prog 110 [.int .u32 x, .int .i64 ((0 : Int) - b)] [] (.int .u32 (rl32 x ((0 : Int) - b))) [], (0 : Int) ≤ c ∧ c ≤ (32 : Int)]) : Option (V × Heap × List Prop)) := by kernel_rfl

theorem bdKr_p (t : Int) :
  along Try.prog (bdKr t) [] = (some (.int .u32 (List.getD [(1116352408 : Int), (1899447441 : Int), (3049323471 : Int), (3921009573 : Int), (961987163 : Int), (1508970993 : Int), (2453635748 : Int), (2870763221 : Int), (3624381080 : Int), (310598401 : Int), (607225278 : Int), (1426881987 : Int), (1925078388 : Int), (2162078206 : Int), (2614888103 : Int), (3248222580 : Int), (3835390401 : Int), (4022224774 : Int), (264347078 : Int), (604807628 : Int), (770255983 : Int), (1249150122 : Int), (1555081692 : Int), (1996064986 : Int), (2554220882 : Int), (2821834349 : Int), (2952996808 : Int), (3210313671 : Int), (3336571891 : Int), (3584528711 : Int), (113926993 : Int), (338241895 : Int), (666307205 : Int), (773529912 : Int), (1294757372 : Int), (1396182291 : Int), (1695183700 : Int), (1986661051 : Int), (2177026350 : Int), (2456956037 : Int), (2730485921 : Int), (2820302411 : Int), (3259730800 : Int), (3345764771 : Int), (3516065817 : Int), (3600352804 : Int), (4094571909 : Int), (275423344 : Int), (430227734 : Int), (506948616 : Int), (659060556 : Int), (883997877 : Int), (958139571 : Int), (1322822218 : Int), (1537002063 : Int), (1747873779 : Int), (1955562222 : Int), (2024104815 : Int), (2227730452 : Int), (2361852424 : Int), (2428436474 : Int), (2756734187 : Int), (3204031479 : Int), (3329325298 : Int)] (0 + Int.toNat t) (0 : Int)), [], [(0 : Int) ≤ t ∧ t < (64 : Int), (0 : Nat) + Int.toNat t < (64 : Nat)]) : Option (V × Heap × List Prop)) := by kernel_rfl

theorem bdKc_p (t : Int) :
  along Try.prog (bdKc t) [] = (some (.int .u32 (List.getD [(1116352408 : Int), (1899447441 : Int), (3049323471 : Int), (3921009573 : Int), (961987163 : Int), (1508970993 : Int), (2453635748 : Int), (2870763221 : Int), (3624381080 : Int), (310598401 : Int), (607225278 : Int), (1426881987 : Int), (1925078388 : Int), (2162078206 : Int), (2614888103 : Int), (3248222580 : Int), (3835390401 : Int), (4022224774 : Int), (264347078 : Int), (604807628 : Int), (770255983 : Int), (1249150122 : Int), (1555081692 : Int), (1996064986 : Int), (2554220882 : Int), (2821834349 : Int), (2952996808 : Int), (3210313671 : Int), (3336571891 : Int), (3584528711 : Int), (113926993 : Int), (338241895 : Int), (666307205 : Int), (773529912 : Int), (1294757372 : Int), (1396182291 : Int), (1695183700 : Int), (1986661051 : Int), (2177026350 : Int), (2456956037 : Int), (2730485921 : Int), (2820302411 : Int), (3259730800 : Int), (3345764771 : Int), (3516065817 : Int), (3600352804 : Int), (4094571909 : Int), (275423344 : Int), (430227734 : Int), (506948616 : Int), (659060556 : Int), (883997877 : Int), (958139571 : Int), (1322822218 : Int), (1537002063 : Int), (1747873779 : Int), (1955562222 : Int), (2024104815 : Int), (2227730452 : Int), (2361852424 : Int), (2428436474 : Int), (2756734187 : Int), (3204031479 : Int), (3329325298 : Int)] (0 + Int.toNat t) (0 : Int)), [], [(0 : Int) ≤ t ∧ t < (64 : Int), (0 : Nat) + Int.toNat t < (64 : Nat)]) : Option (V × Heap × List Prop)) := by kernel_rfl

theorem bdWt_p (b : List Int) (w : List Int) (w2 : List Int) :
  along Try.prog (bdWt b w w2) [] = (some (.agg [.seg .u32 64 w2], [], [RLoop Try.prog none 0 (cB (cB (cR (cL (cR (bodyOf (Bd.f (bdWt b w w2)))))))) 17 (St.mk [.any, .ptr (.o 0) 0 0 0 0, .ptr (.o 1) 0 0 0 0, .any, .any, .any, .int .i64 0, .any, .any, .any, .any, .any, .any, .any, .any, .any, .any, .any, .any, .any, .any, .any, .any, .any, .any, .any, .any, .any, .any, .any, .any, .any, .any, .any, .any, .any, .any, .any, .any, .any, .any, .any, .any, .any, .any, .any, .any, .any, .any, .any, .any, .any, .any, .any, .any, .any, .any, .any, .any, .any, .any, .any, .any, .any, .any, .any, .any, .any, .any, .any, .any] [(.o 0, .flat [.seg .u8 64 b]), (.o 1, .flat [.seg .u32 64 [(0 : Int), (0 : Int), (0 : Int), (0 : Int), (0 : Int), (0 : Int), (0 : Int), (0 : Int), (0 : Int), (0 : Int), (0 : Int), (0 : Int), (0 : Int), (0 : Int), (0 : Int), (0 : Int), (0 : Int), (0 : Int), (0 : Int), (0 : Int), (0 : Int), (0 : Int), (0 : Int), (0 : Int), (0 : Int), (0 : Int), (0 : Int), (0 : Int), (0 : Int), (0 : Int), (0 : Int), (0 : Int), (0 : Int), (0 : Int), (0 : Int), (0 : Int), (0 : Int), (0 : Int), (0 : Int), (0 : Int), (0 : Int), (0 : Int), (0 : Int), (0 : Int), (0 : Int), (0 : Int), (0 : Int), (0 : Int), (0 : Int), (0 : Int), (0 : Int), (0 : Int), (0 : Int), (0 : Int), (0 : Int), (0 : Int), (0 : Int), (0 : Int), (0 : Int), (0 : Int), (0 : Int), (0 : Int), (0 : Int), (0 : Int)]])] 2 []) (.exit 0) (St.mk [.any, .ptr (.o 0) 0 0 0 0, .ptr (.o 1) 0 0 0 0, .any, .any, .any, .int .i64 16, .any, .any, .any, .any, .any, .any, .any, .any, .any, .any, .any, .any, .any, .any, .any, .any, .any, .any, .any, .any, .any, .any, .any, .any, .any, .any, .any, .any, .any, .any, .any, .any, .any, .any, .any, .any, .any, .any, .any, .any, .any, .any, .any, .any, .any, .any, .any, .any, .any, .any, .any, .any, .any, .any, .any, .any, .any, .any, .any, .any, .any, .any, .any, .any] [(.o 0, .flat [.seg .u8 64 b]), (.o 1, .flat [.seg .u32 64 w])] 2 []), q (64 : Nat), q b, q (64 : Nat), q ([(0 : Int), (0 : Int), (0 : Int), (0 : Int), (0 : Int), (0 : Int), (0 : Int), (0 : Int), (0 : Int), (0 : Int), (0 : Int), (0 : Int), (0 : Int), (0 : Int), (0 : Int), (0 : Int), (0 : Int), (0 : Int), (0 : Int), (0 : Int), (0 : Int), (0 : Int), (0 : Int), (0 : Int), (0 : Int), (0 : Int), (0 : Int), (0 : Int), (0 : Int), (0 : Int), (0 : Int), (0 : Int), (0 : Int), (0 : Int), (0 : Int), (0 : Int), (0 : Int), (0 : Int), (0 : Int), (0 : Int), (0 : Int), (0 : Int), (0 : Int), (0 : Int), (0 : Int), (0 : Int), (0 : Int), (0 : Int), (0 : Int), (0 : Int), (0 : Int), (0 : Int), (0 : Int), (0 : Int), (0 : Int), (0 : Int), (0 : Int), (0 : Int), (0 : Int), (0 : Int), (0 : Int), (0 : Int), (0 : Int), (0 : Int)]), q0, q0, q0, q0, q0, q0, q1, RLoop Try.prog none 0 (cB (cB (cR (cL (cR (cR (cR (bodyOf (Bd.f (bdWt b w w2)))))))))) 49 (St.mk [.any, .ptr (.o 0) 0 0 0 0, .ptr (.o 1) 0 0 0 0, .any, .fn (.func (109 : FuncId)) [] [], .int .i64 16, .any, .any, .any, .any, .any, .any, .any, .any, .any, .any, .any, .any, .any, .any, .any, .any, .any, .any, .any, .any, .any, .any, .any, .any, .any, .any, .any, .any, .any, .any, .any, .any, .any, .any, .any, .any, .any, .any, .any, .any, .any, .any, .any, .any, .any, .any, .any, .any, .any, .any, .any, .any, .any, .any, .any, .any, .any, .any, .any, .any, .any, .any, .any, .any, .any] [(.o 0, .flat [.seg .u8 64 b]), (.o 1, .flat [.seg .u32 64 w])] 2 []) (.exit 2) (St.mk [.any, .ptr (.o 0) 0 0 0 0, .ptr (.o 1) 0 0 0 0, .any, .fn (.func (109 : FuncId)) [] [], .int .i64 64, .any, .any, .any, .any, .any, .any, .any, .any, .any, .any, .any, .any, .any, .any, .any, .any, .any, .any, .any, .any, .any, .any, .any, .any, .any, .any, .any, .any, .any, .any, .any, .any, .any, .any, .any, .any, .any, .any, .any, .any, .any, .any, .any, .any, .any, .any, .any, .any, .any, .any, .any, .any, .any, .any, .any, .any, .any, .any, .any, .any, .any, .any, .any, .any, .any] [(.o 0, .flat [.seg .u8 64 b]), (.o 1, .flat [.seg .u32 64 w2])] 2 []), q (64 : Nat), q b, q (64 : Nat), q w, q0, q0, q0, q0, q0, q0, q (16 : Int)]) : Option (V × Heap × List Prop)) := by kernel_rfl

theorem pcWi_p1 (b : List Int) (w : List Int) (i : Nat) (w2 : List Int) :
  alongPc Try.prog (pcWi b w i w2) [true] = (some (.normal, St.mk [.any, .ptr (.o 0) 0 0 0 0, .ptr (.o 1) 0 0 0 0, .any, .any, .any, .int .i64 (↑(i + 1) : Int), .any, .any, .any, .any, .any, .any, .any, .any, .any, .any, .any, .any, .any, .any, .any, .any, .any, .any, .any, .any, .any, .any, .any, .any, .any, .any, .any, .any, .any, .any, .any, .any, .any, .any, .any, .any, .any, .any, .any, .any, .any, .any, .any, .any, .any, .any, .any, .any, .any, .any, .any, .any, .any, .any, .any, .any, .any, .any, .any, .any, .any, .any, .any, .any] [(.o 0, .flat [.seg .u8 64 b]), (.o 1, .flat [.seg .u32 64 w2])] 2 [], [decide ((↑i : Int) < (16 : Int)) = true, InR IntKind.i64 ((4 : Int) * (↑i : Int)), (0 : Int) ≤ (4 : Int) * (↑i : Int) ∧ (4 : Int) * (↑i : Int) < (64 : Int), (0 : Nat) + Int.toNat ((4 : Int) * (↑i : Int)) < (64 : Nat), (0 : Int) ≤ (24 : Int) ∧ (24 : Int) ≤ (32 : Int), InR IntKind.i64 ((4 : Int) * (↑i : Int)), InR IntKind.i64 ((4 : Int) * (↑i : Int) + (1 : Int)), (0 : Int) ≤ (4 : Int) * (↑i : Int) + (1 : Int) ∧ (4 : Int) * (↑i : Int) + (1 : Int) < (64 : Int), (0 : Nat) + Int.toNat ((4 : Int) * (↑i : Int) + (1 : Int)) < (64 : Nat), (0 : Int) ≤ (16 : Int) ∧ (16 : Int) ≤ (32 : Int), InR IntKind.i64 ((4 : Int) * (↑i : Int)), InR IntKind.i64 ((4 : Int) * (↑i : Int) + (2 : Int)), (0 : Int) ≤ (4 : Int) * (↑i : Int) + (2 : Int) ∧ (4 : Int) * (↑i : Int) + (2 : Int) < (64 : Int), (0 : Nat) + Int.toNat ((4 : Int) * (↑i : Int) + (2 : Int)) < (64 : Nat), (0 : Int) ≤ (8 : Int) ∧ (8 : Int) ≤ (32 : Int), InR IntKind.i64 ((4 : Int) * (↑i : Int)), InR IntKind.i64 ((4 : Int) * (↑i : Int) + (3 : Int)), (0 : Int) ≤ (4 : Int) * (↑i : Int) + (3 : Int) ∧ (4 : Int) * (↑i : Int) + (3 : Int) < (64 : Int), (0 : Nat) + Int.toNat ((4 : Int) * (↑i : Int) + (3 : Int)) < (64 : Nat), (0 : Int) ≤ (↑i : Int) ∧ (↑i : Int) < (64 : Int), (0 : Nat) + Int.toNat (↑i : Int) < (64 : Nat), InR IntKind.i64 ((↑i : Int) + (1 : Int)), q (64 : Nat), q b, q (64 : Nat), List.set w ((0 : Nat) + Int.toNat (↑i : Int)) (ibits (fun x x_1 y => x_1 ||| y) IntKind.u32 (ibits (fun x x_1 y => x_1 ||| y) IntKind.u32 (ibits (fun x x_1 y => x_1 ||| y) IntKind.u32 (IntKind.wrap IntKind.u32 (IntKind.wrap IntKind.u32 (List.getD b ((0 : Nat) + Int.toNat ((4 : Int) * (↑i : Int))) (0 : Int)) * (16777216 : Int))) (IntKind.wrap IntKind.u32 (IntKind.wrap IntKind.u32 (List.getD b ((0 : Nat) + Int.toNat ((4 : Int) * (↑i : Int) + (1 : Int))) (0 : Int)) * (65536 : Int)))) (IntKind.wrap IntKind.u32 (IntKind.wrap IntKind.u32 (List.getD b ((0 : Nat) + Int.toNat ((4 : Int) * (↑i : Int) + (2 : Int))) (0 : Int)) * (256 : Int)))) (IntKind.wrap IntKind.u32 (List.getD b ((0 : Nat) + Int.toNat ((4 : Int) * (↑i : Int) + (3 : Int))) (0 : Int)))) = w2, q0, q0, q0, q0, q0, q0, (↑i : Int) + (1 : Int) = (↑(i + (1 : Nat)) : Int)]) : Option (Exit × St × List Prop)) := by kernel_rfl
theorem pcWi_p0 (b : List Int) (w : List Int) (i : Nat) (w2 : List Int) :
  alongPc Try.prog (pcWi b w i w2) [false] = (some (.exit 0, St.mk [.any, .ptr (.o 0) 0 0 0 0, .ptr (.o 1) 0 0 0 0, .any, .any, .any, .int .i64 16, .any, .any, .any, .any, .any, .any, .any, .any, .any, .any, .any, .any, .any, .any, .any, .any, .any, .any, .any, .any, .any, .any, .any, .any, .any, .any, .any, .any, .any, .any, .any, .any, .any, .any, .any, .any, .any, .any, .any, .any, .any, .any, .any, .any, .any, .any, .any, .any, .any, .any, .any, .any, .any, .any, .any, .any, .any, .any, .any, .any, .any, .any, .any, .any] [(.o 0, .flat [.seg .u8 64 b]), (.o 1, .flat [.seg .u32 64 w])] 2 [], [decide ((↑i : Int) < (16 : Int)) = false, q (64 : Nat), q b, q (64 : Nat), q w, q0, q0, q0, q0, q0, q0, (↑i : Int) = (16 : Int)]) : Option (Exit × St × List Prop)) := by kernel_rfl

theorem pcWj_p1 (b : List Int) (w : List Int) (k : Nat) (w2 : List Int) :
  alongPc Try.prog (pcWj b w k w2) [true] = (some (.normal, St.mk [.any, .ptr (.o 0) 0 0 0 0, .ptr (.o 1) 0 0 0 0, .any, .fn (.func (109 : FuncId)) [] [], .int .i64 (↑(16 + (k + 1)) : Int), .any, .any, .any, .any, .any, .any, .any, .any, .any, .any, .any, .any, .any, .any, .any, .any, .any, .any, .any, .any, .any, .any, .any, .any, .any, .any, .any, .any, .any, .any, .any, .any, .any, .any, .any, .any, .any, .any, .any, .any, .any, .any, .any, .any, .any, .any, .any, .any, .any, .any, .any, .any, .any, .any, .any, .any, .any, .any, .any, .any, .any, .any, .any, .any, .any] [(.o 0, .flat [.seg .u8 64 b]), (.o 1, .flat [.seg .u32 64 w2])] 2 [], [decide ((↑((16 : Nat) + k) : Int) < (64 : Int)) = true, InR IntKind.i64 ((↑((16 : Nat) + k) : Int) - (16 : Int)), (0 : Int) ≤ (↑((16 : Nat) + k) : Int) - (16 : Int) ∧ (↑((16 : Nat) + k) : Int) - (16 : Int) < (64 : Int), (0 : Nat) + Int.toNat ((↑((16 : Nat) + k) : Int) - (16 : Int)) < (64 : Nat), InR IntKind.i64 ((↑((16 : Nat) + k) : Int) - (15 : Int)), (0 : Int) ≤ (↑((16 : Nat) + k) : Int) - (15 : Int) ∧ (↑((16 : Nat) + k) : Int) - (15 : Int) < (64 : Int), (0 : Nat) + Int.toNat ((↑((16 : Nat) + k) : Int) - (15 : Int)) < (64 : Nat), T Try.prog (109 : FuncId) [.int .u32 (List.getD w (0 + Int.toNat ((↑(16 + k) : Int) - (15 : Int))) (0 : Int)), .int .i64 7, .int .i64 18, .int .i64 3] [] (.int .u32 (m32 (List.getD w (0 + Int.toNat ((↑(16 + k) : Int) - (15 : Int))) (0 : Int)) (7 : Int) (18 : Int) (3 : Int))) [], InR IntKind.i64 ((↑((16 : Nat) + k) : Int) - (7 : Int)), (0 : Int) ≤ (↑((16 : Nat) + k) : Int) - (7 : Int) ∧ (↑((16 : Nat) + k) : Int) - (7 : Int) < (64 : Int), (0 : Nat) + Int.toNat ((↑((16 : Nat) + k) : Int) - (7 : Int)) < (64 : Nat), InR IntKind.i64 ((↑((16 : Nat) + k) : Int) - (2 : Int)), (0 : Int) ≤ (↑((16 : Nat) + k) : Int) - (2 : Int) ∧ (↑((16 : Nat) + k) : Int) - (2 : Int) < (64 : Int), (0 : Nat) + Int.toNat ((↑((16 : Nat) + k) : Int) - (2 : Int)) < (64 : Nat), T Try.prog (109 : FuncId) [.int .u32 (List.getD w (0 + Int.toNat ((↑(16 + k) : Int) - (2 : Int))) (0 : Int)), .int .i64 17, .int .i64 19, .int .i64 10] [] (.int .u32 (m32 (List.getD w (0 + Int.toNat ((↑(16 + k) : Int) - (2 : Int))) (0 : Int)) (17 : Int) (19 : Int) (10 : Int))) [], (0 : Int) ≤ (↑((16 : Nat) + k) : Int) ∧ (↑((16 : Nat) + k) : Int) < (64 : Int), (0 : Nat) + Int.toNat (↑((16 : Nat) + k) : Int) < (64 : Nat), InR IntKind.i64 ((↑((16 : Nat) + k) : Int) + (1 : Int)), q (64 : Nat), q b, q (64 : Nat), List.set w ((0 : Nat) + Int.toNat (↑((16 : Nat) + k) : Int)) (IntKind.wrap IntKind.u32 (IntKind.wrap IntKind.u32 (IntKind.wrap IntKind.u32 (List.getD w ((0 : Nat) + Int.toNat ((↑((16 : Nat) + k) : Int) - (16 : Int))) (0 : Int) + m32 (List.getD w ((0 : Nat) + Int.toNat ((↑((16 : Nat) + k) : Int) - (15 : Int))) (0 : Int)) (7 : Int) (18 : Int) (3 : Int)) + List.getD w ((0 : Nat) + Int.toNat ((↑((16 : Nat) + k) : Int) - (7 : Int))) (0 : Int)) + m32 (List.getD w ((0 : Nat) + Int.toNat ((↑((16 : Nat) + k) : Int) - (2 : Int))) (0 : Int)) (17 : Int) (19 : Int) (10 : Int))) = w2, q0, q0, q0, q0, q0, q0, (↑((16 : Nat) + k) : Int) + (1 : Int) = (↑((16 : Nat) + (k + (1 : Nat))) : Int)]) : Option (Exit × St × List Prop)) := by kernel_rfl
theorem pcWj_p0 (b : List Int) (w : List Int) (k : Nat) (w2 : List Int) :
  alongPc Try.prog (pcWj b w k w2) [false] = (some (.exit 2, St.mk [.any, .ptr (.o 0) 0 0 0 0, .ptr (.o 1) 0 0 0 0, .any, .fn (.func (109 : FuncId)) [] [], .int .i64 64, .any, .any, .any, .any, .any, .any, .any, .any, .any, .any, .any, .any, .any, .any, .any, .any, .any, .any, .any, .any, .any, .any, .any, .any, .any, .any, .any, .any, .any, .any, .any, .any, .any, .any, .any, .any, .any, .any, .any, .any, .any, .any, .any, .any, .any, .any, .any, .any, .any, .any, .any, .any, .any, .any, .any, .any, .any, .any, .any, .any, .any, .any, .any, .any, .any] [(.o 0, .flat [.seg .u8 64 b]), (.o 1, .flat [.seg .u32 64 w])] 2 [], [decide ((↑((16 : Nat) + k) : Int) < (64 : Int)) = false, q (64 : Nat), q b, q (64 : Nat), q w, q0, q0, q0, q0, q0, q0, (↑((16 : Nat) + k) : Int) = (64 : Int)]) : Option (Exit × St × List Prop)) := by kernel_rfl

theorem T_rl (x : Int) {m : Nat} (h0 : 0 < m) (h : m < 32) : T Try.prog 110 [.int .u32 x, .int .i64 (0 - (m : Nat))] [] (.int .u32 (rl32 x (0 - (m : Nat)))) [] := by
 obtain ⟨h1, h2⟩ := lo5_neg m h h0
 rw [← Int.zero_sub] at h1 h2
 have g1 : 0 ≤ lo5 (0 - (m : Int)) ∧ lo5 (0 - (m : Int)) ≤ 32 := by omega
 have g2 : 0 ≤ IntKind.wrap .u64 (32 - lo5 (0 - (m : Int))) ∧ IntKind.wrap .u64 (32 - lo5 (0 - (m : Int))) ≤ 32 := by omega
 exact T_al (bdRl_p x (0 - (m : Nat))) Try.func110 ⟨g1, g2, True.intro⟩
theorem rl_rr0 (x : Int) {n : Nat} (h0 : 0 < n) (h : n < 32) : rl32 x (0 - (n : Int)) = rr32 x n := by rw [Int.zero_sub]; exact rl_rr x h0 h
theorem T_rr (x : Int) {n : Nat} (h : n < 32) : T Try.prog 111 [.int .u32 x, .int .i64 (n : Nat)] [] (.int .u32 (rr32 x (n : Nat))) [] := by
 refine T_al (bdRr_p x n) Try.func111 ?_
 simp only [All]; and_intros
 all_goals first
  | exact True.intro
  | (with_reducible assumption)
  | (rw [decide_eq_true_eq]; omega)
  | (rw [decide_eq_false_iff_not]; omega)
  | with_reducible rfl
  | (intro _ _; exact True.intro)
  | (intro _ _; with_reducible rfl)
  | (intro _ _; rfl)
  | (simp only [IntKind.min, IntKind.max, IntKind.signed, IntKind.bits, if_true]; omega)
  | omega
  | (intro h; exact h)
  | (intro h; cases h; done)
  | exact .inl rfl
  | exact .inl True.intro
  | exact .inr rfl
  | (simp; done)
theorem T_tu (x : Int) {a b c : Nat} (ha : 0 < a ∧ a < 32) (hb : 0 < b ∧ b < 32) (hc : 0 < c ∧ c < 32) : T Try.prog 103 [.int .u32 x, .int .i64 (a : Nat), .int .i64 (b : Nat), .int .i64 (c : Nat)] [] (.int .u32 (s32 x a b c)) [] := by
 have h1 := T_rl x ha.1 ha.2
 have h2 := T_rl x hb.1 hb.2
 have h3 := T_rl x hc.1 hc.2
 obtain ⟨ha1, ha2⟩ := ha
 obtain ⟨hb1, hb2⟩ := hb
 obtain ⟨hc1, hc2⟩ := hc
 have h := T_along NG MO _ (bdTu_p x a b c) Try.func103 (by kernel_rfl) (by
  simp only [All]; and_intros
  all_goals first
   | exact True.intro
   | exact h1
   | exact h2
   | exact h3
   | (with_reducible assumption)
   | (rw [decide_eq_true_eq]; omega)
   | (rw [decide_eq_false_iff_not]; omega)
   | with_reducible rfl
   | (intro _ _; exact True.intro)
   | (intro _ _; with_reducible rfl)
   | (intro _ _; rfl)
   | (simp only [IntKind.min, IntKind.max, IntKind.signed, IntKind.bits, if_true]; omega)
   | omega
   | (intro h; exact h)
   | (intro h; cases h; done)
   | exact .inl rfl
   | exact .inl True.intro
   | exact .inr rfl
   | (simp; done)
  ) (pinH_ok (by kernel_rfl)) (by kernel_rfl)
 rw [rl_rr0 x ha1 ha2, rl_rr0 x hb1 hb2, rl_rr0 x hc1 hc2] at h
 exact h
theorem T_mi (x : Int) {a b c : Nat} (ha : 0 < a ∧ a < 32) (hb : 0 < b ∧ b < 32) (hc : c < 32) : T Try.prog 109 [.int .u32 x, .int .i64 (a : Nat), .int .i64 (b : Nat), .int .i64 (c : Nat)] [] (.int .u32 (m32 x a b c)) [] := by
 have h1 := T_rl x ha.1 ha.2
 have h2 := T_rl x hb.1 hb.2
 obtain ⟨ha1, ha2⟩ := ha
 obtain ⟨hb1, hb2⟩ := hb
 have h := T_along NG MO _ (bdMi_p x a b c) Try.func109 (by kernel_rfl) (by
  simp only [All]; and_intros
  all_goals first
   | exact True.intro
   | exact h1
   | exact h2
   | (with_reducible assumption)
   | (rw [decide_eq_true_eq]; omega)
   | (rw [decide_eq_false_iff_not]; omega)
   | with_reducible rfl
   | (intro _ _; exact True.intro)
   | (intro _ _; with_reducible rfl)
   | (intro _ _; rfl)
   | (simp only [IntKind.min, IntKind.max, IntKind.signed, IntKind.bits, if_true]; omega)
   | omega
   | (intro h; exact h)
   | (intro h; cases h; done)
   | exact .inl rfl
   | exact .inl True.intro
   | exact .inr rfl
   | (simp; done)
  ) (pinH_ok (by kernel_rfl)) (by kernel_rfl)
 rw [rl_rr0 x ha1 ha2, rl_rr0 x hb1 hb2] at h
 exact h
theorem T_kr {t : Nat} (h : t < 64) : T Try.prog 104 [.int .i64 (t : Nat)] [] (.int .u32 (kN t)) [] := by
 have h0 := T_along NG MO _ (bdKr_p t) Try.func104 (by kernel_rfl) (by
  simp only [All]; and_intros
  all_goals first
   | exact True.intro
   | (with_reducible assumption)
   | (rw [decide_eq_true_eq]; omega)
   | (rw [decide_eq_false_iff_not]; omega)
   | with_reducible rfl
   | (intro _ _; exact True.intro)
   | (intro _ _; with_reducible rfl)
   | (intro _ _; rfl)
   | (simp only [IntKind.min, IntKind.max, IntKind.signed, IntKind.bits, if_true]; omega)
   | omega
   | (intro h; exact h)
   | (intro h; cases h; done)
   | exact .inl rfl
   | exact .inl True.intro
   | exact .inr rfl
   | (simp; done)
  ) (pinH_ok (by kernel_rfl)) (by kernel_rfl)
 rw [Nat.zero_add, Int.toNat_natCast] at h0
 exact h0
theorem T_kc {t : Nat} (h : t < 64) : T Try.prog 112 [.int .i64 (t : Nat)] [] (.int .u32 (kN t)) [] := by
 have h0 := T_along NG MO _ (bdKc_p t) Try.func112 (by kernel_rfl) (by
  simp only [All]; and_intros
  all_goals first
   | exact True.intro
   | (with_reducible assumption)
   | (rw [decide_eq_true_eq]; omega)
   | (rw [decide_eq_false_iff_not]; omega)
   | with_reducible rfl
   | (intro _ _; exact True.intro)
   | (intro _ _; with_reducible rfl)
   | (intro _ _; rfl)
   | (simp only [IntKind.min, IntKind.max, IntKind.signed, IntKind.bits, if_true]; omega)
   | omega
   | (intro h; exact h)
   | (intro h; cases h; done)
   | exact .inl rfl
   | exact .inl True.intro
   | exact .inr rfl
   | (simp; done)
  ) (pinH_ok (by kernel_rfl)) (by kernel_rfl)
 rw [Nat.zero_add, Int.toNat_natCast] at h0
 exact h0
theorem tn4 (i : Nat) : Int.toNat (4 * (i : Int)) = 4 * i ∧ Int.toNat (4 * (i : Int) + 1) = 4 * i + 1 ∧ Int.toNat (4 * (i : Int) + 2) = 4 * i + 2 ∧ Int.toNat (4 * (i : Int) + 3) = 4 * i + 3 := by omega
theorem tn16 (k : Nat) : Int.toNat (((16 + k : Nat) : Int) - 16) = k ∧ Int.toNat (((16 + k : Nat) : Int) - 15) = k + 1 ∧ Int.toNat (((16 + k : Nat) : Int) - 7) = k + 9 ∧ Int.toNat (((16 + k : Nat) : Int) - 2) = k + 14 := by omega
theorem T_wt (b : List Int) : T Try.prog 102 [.agg [.seg .u8 64 b]] [] (.agg [.seg .u32 64 (wB b 48)]) [] := by
 have hA : RLoop Try.prog none 0 (cB (cB (cR (cL (cR (bodyOf Try.f102)))))) (16 + 1) (wtI b (wA b 0) 0) (.exit 0) (wtI b (wA b 16) 16) := by
  have hstep : ∀ i, i < 16 → R Try.prog none 0 (cB (cB (cR (cL (cR (bodyOf Try.f102)))))) (wtI b (wA b i) i) .normal (wtI b (wA b (i + 1)) (i + 1)) := by
   intro i hi
   obtain ⟨e0, e1, e2, e3⟩ := tn4 i
   refine R_alongPc NG MO _ (pcWi_p1 b (wA b i) i (wA b (i + 1))) ?_ (Nat.zero_le _)
   simp only [All, e0, e1, e2, e3, Nat.zero_add, Int.toNat_natCast]; and_intros
   all_goals first
    | exact True.intro
    | rfl
    | (with_reducible assumption)
    | (rw [decide_eq_true_eq]; omega)
    | (rw [decide_eq_false_iff_not]; omega)
    | with_reducible rfl
    | (intro _ _; exact True.intro)
    | (intro _ _; with_reducible rfl)
    | (intro _ _; rfl)
    | (simp only [IntKind.min, IntKind.max, IntKind.signed, IntKind.bits, if_true]; omega)
    | omega
    | (intro h; exact h)
    | (intro h; cases h; done)
    | exact .inl rfl
    | exact .inl True.intro
    | exact .inr rfl
    | (simp; done)
  have hend : R Try.prog none 0 (cB (cB (cR (cL (cR (bodyOf Try.f102)))))) (wtI b (wA b 16) 16) (.exit 0) (wtI b (wA b 16) 16) := by
   refine R_alongPc NG MO _ (pcWi_p0 b (wA b 16) 16 []) ?_ (Nat.zero_le _)
   simp only [All]; and_intros
   all_goals first
    | exact True.intro
    | (with_reducible assumption)
    | (rw [decide_eq_true_eq]; omega)
    | (rw [decide_eq_false_iff_not]; omega)
    | with_reducible rfl
    | (intro _ _; exact True.intro)
    | (intro _ _; with_reducible rfl)
    | (intro _ _; rfl)
    | (simp only [IntKind.min, IntKind.max, IntKind.signed, IntKind.bits, if_true]; omega)
    | omega
    | (intro h; exact h)
    | (intro h; cases h; done)
    | exact .inl rfl
    | exact .inl True.intro
    | exact .inr rfl
    | (simp; done)
  exact RLoop.inv (fun i => wtI b (wA b i) i) 16 hstep hend (by simp)
 have hB : RLoop Try.prog none 0 (cB (cB (cR (cL (cR (cR (cR (bodyOf Try.f102)))))))) (48 + 1) (wtJ b (wB b 0) 0) (.exit 2) (wtJ b (wB b 48) 48) := by
  have hstep : ∀ k, k < 48 → R Try.prog none 0 (cB (cB (cR (cL (cR (cR (cR (bodyOf Try.f102)))))))) (wtJ b (wB b k) k) .normal (wtJ b (wB b (k + 1)) (k + 1)) := by
   intro k hk
   obtain ⟨e0, e1, e2, e3⟩ := tn16 k
   have h1 := T_mi ((wB b k).getD (k + 1) 0) (a := 7) (b := 18) (c := 3) (by decide) (by decide) (by decide)
   have h2 := T_mi ((wB b k).getD (k + 14) 0) (a := 17) (b := 19) (c := 10) (by decide) (by decide) (by decide)
   refine R_alongPc NG MO _ (pcWj_p1 b (wB b k) k (wB b (k + 1))) ?_ (Nat.zero_le _)
   simp only [All, e0, e1, e2, e3, Nat.zero_add, Int.toNat_natCast]; and_intros
   all_goals first
    | exact True.intro
    | exact h1
    | exact h2
    | rfl
    | (with_reducible assumption)
    | (rw [decide_eq_true_eq]; omega)
    | (rw [decide_eq_false_iff_not]; omega)
    | with_reducible rfl
    | (intro _ _; exact True.intro)
    | (intro _ _; with_reducible rfl)
    | (intro _ _; rfl)
    | (simp only [IntKind.min, IntKind.max, IntKind.signed, IntKind.bits, if_true]; omega)
    | omega
    | (intro h; exact h)
    | (intro h; cases h; done)
    | exact .inl rfl
    | exact .inl True.intro
    | exact .inr rfl
    | (simp; done)
  have hend : R Try.prog none 0 (cB (cB (cR (cL (cR (cR (cR (bodyOf Try.f102)))))))) (wtJ b (wB b 48) 48) (.exit 2) (wtJ b (wB b 48) 48) := by
   refine R_alongPc NG MO _ (pcWj_p0 b (wB b 48) 48 []) ?_ (Nat.zero_le _)
   simp only [All]; and_intros
   all_goals first
    | exact True.intro
    | (with_reducible assumption)
    | (rw [decide_eq_true_eq]; omega)
    | (rw [decide_eq_false_iff_not]; omega)
    | with_reducible rfl
    | (intro _ _; exact True.intro)
    | (intro _ _; with_reducible rfl)
    | (intro _ _; rfl)
    | (simp only [IntKind.min, IntKind.max, IntKind.signed, IntKind.bits, if_true]; omega)
    | omega
    | (intro h; exact h)
    | (intro h; cases h; done)
    | exact .inl rfl
    | exact .inl True.intro
    | exact .inr rfl
    | (simp; done)
  exact RLoop.inv (fun k => wtJ b (wB b k) k) 48 hstep hend (by simp)
 refine T_al (bdWt_p b (wA b 16) (wB b 48)) Try.func102 ?_
 simp only [All]; and_intros
 all_goals first
  | exact True.intro
  | exact hA
  | exact hB
  | (with_reducible assumption)
  | (rw [decide_eq_true_eq]; omega)
  | (rw [decide_eq_false_iff_not]; omega)
  | with_reducible rfl
  | (intro _ _; exact True.intro)
  | (intro _ _; with_reducible rfl)
  | (intro _ _; rfl)
  | (simp only [IntKind.min, IntKind.max, IntKind.signed, IntKind.bits, if_true]; omega)
  | omega
  | (intro h; exact h)
  | (intro h; cases h; done)
  | exact .inl rfl
  | exact .inl True.intro
  | exact .inr rfl
  | (simp; done)
end Go.Proofs.Ytpallipnhmoipaa
namespace Go.Proofs.Ytpallipnhmoipaa
open Go Sy Go.Proofs
def stB (H W : List Int) (n : Int) : B := .flat [.seg .u32 8 H, .seg .u8 64 W, .int .i64 n]
def rb (l : List Int) : V := .ros 1 l.length (ib l) false
def z32L : List Int := List.replicate 32 0
def p0 (m : Nat) : V := .ptr (.o m) 0 0 0 0
def tuDb : List V → Heap → Nat → List Cl := fun l _ _ => match l with
 | [.int _ x, .int _ a, .int _ b, .int _ c] => [{ val := .int .u32 (s32 x a b c) }]
 | _ => []
def krDb : List V → Heap → Nat → List Cl := fun l _ _ => match l with
 | [.int _ t] => [{ val := .int .u32 (kN t.toNat) }]
 | _ => []
def bkI (H W : List Int) (n : Int) (w : List Int) (s : S8) (t : Nat) : St := ⟨mkT 136 [(0, p0 0), (2, p0 1), (3, .int .u32 s.a), (4, .int .u32 s.b), (5, .int .u32 s.c), (6, .int .u32 s.d), (7, .int .u32 s.e), (8, .int .u32 s.f), (9, .int .u32 s.g), (10, .int .u32 s.h), (61, .int .i64 (t : Nat))], [(.o 0, stB H W n), (.o 1, .flat [.seg .u32 64 w])], 2, []⟩
def bkJ (H W : List Int) (n : Int) (l : List Int) (i : Nat) : St := ⟨mkT 136 [(0, p0 0), (119, .agg [.seg .u32 8 l]), (120, .int .i64 (i : Nat))], [(.o 0, stB H W n)], 2, []⟩
noncomputable def bdBk (H W : List Int) (n : Int) (w : List Int) (s : S8) (H2 : List Int) : Bd := { f := Try.f91, args := [p0 0], pre := [(.o 0, stB H W n)], base := 1, kb := { db := dbQ [(102, cVal (.agg [.seg .u32 64 w]))], lp := fun id t => bif Nat.beq id 0 then [(True, .loop (64 + 1) (wToS [(.o 1, nmV (getV t.tmps 2))] (bkI H W n w (S8.of H) 0)) (.exit 0) (bkI H W n w s 64))] else [(True, .loop (8 + 1) (wTo (bkJ H W n s.l 0)) (.exit 2) (bkJ H2 W n s.l 8))] }, names := fun _ => [.o 0] }
noncomputable def pcBi (H W : List Int) (n : Int) (w : List Int) (s : S8) (t : Nat) (s2 : S8) : Pc := { c := cB (cB (cR (cL (cR (cR (bodyOf Try.f91)))))), st := bkI H W n w s t, p := 1, kb := { db := dbQ [(103, tuDb), (104, krDb)] }, k := fun x_ _ => match x_ with
 | .normal => some (wTo (bkI H W n w s2 (t + 1)))
 | _ => some (wTo (bkI H W n w s 64)) }
noncomputable def pcBj (H W : List Int) (n : Int) (l : List Int) (i : Nat) (H2 : List Int) : Pc := { c := cB (cB (cR (cR (cR (cR (bodyOf Try.f91)))))), st := bkJ H W n l i, p := 1, kb := kb0, k := fun x_ _ => match x_ with
 | .normal => some (wTo (bkJ H2 W n l (i + 1)))
 | _ => some (wTo (bkJ H W n l 8)) }
end Go.Proofs.Ytpallipnhmoipaa
