/-
  Contracts and laws that the claim's theorem leans on, joined out of the texts Ma2 Ma3D Ma3 SyPrim SyMap SyCho SyMapR Na0D Na0 Mb0D (own work of this seat): Contracts: the i-th greatest; Contracts: the document's i-th greatest; that the law lives; QuorumCounts, QuorumNths; Contracts: the document's i-th greatest; that the law lives; QuorumCounts, QuorumNths; Contracts of operations: copying into, and appending within, an own row; Maps with numbers for keys and structs for values, none of them ever deleted: their operations' contracts; How many hold; nodes chosen by raw numbers until there are enough; Ranging over a map: whatever the order, if the state behind the loop is the same; Contracts: nodes' marks, kept in a map: made, put in, told; Contracts: nodes' marks, kept in a map: made, put in, told; Contracts: one more signer, by the program.
-/
import Derived.Maps.RangeRun
import Derived.Test.YtpallipnhmoipaaC04
set_option linter.unusedVariables false
set_option linter.unusedSimpArgs false
set_option maxHeartbeats 1000000
namespace Go.Proofs.Ytpallipnhmoipaa
open Go Sy Go.Proofs
theorem bdNt_p11 (l : List Int) (i : Int) :
  along Try.prog (bdNt l i) [true, true] = (some (.int .i64 0, [], [decide (i < (1 : Int)) = true, q2]) : Option (V × Heap × List Prop)) := by kernel_rfl
theorem bdNt_p01 (l : List Int) (i : Int) :
  along Try.prog (bdNt l i) [false, true] = (some (.int .i64 0, [], [decide (i < (1 : Int)) = false, decide ((↑(List.length l) : Int) < i) = true]) : Option (V × Heap × List Prop)) := by kernel_rfl
theorem bdNt_p00 (l : List Int) (i : Int) :
  along Try.prog (bdNt l i) [false, false] = (some (.int .i64 (List.getD (srtD l) (0 + Int.toNat (i - (1 : Int))) (0 : Int)), [], [decide (i < (1 : Int)) = false, decide ((↑(List.length l) : Int) < i) = false, q0, ∀ (k : Nat), k < List.length l → true = true, ((0 : Nat) + List.length l) * (8 : Nat) ≤ (140737488355328 : Nat), T Try.prog 45 [.ifc 25 (.sl (.o 704) 1 0 0 0 (0 + List.length l) none), .fn (.func 46) [] [.ptr (.o 768) 0 0 0 0]] [(.o 704, .rows 1 (0 + List.length l) (catF 0 (getL []) (li l)) true), (.o 768, .flat [.sl (.o 704) 1 0 0 0 (0 + List.length l) none])] (.tup []) [(.o 704, .rows 1 (List.length l) (li (srtD l)) true), (.o 768, .flat [.sl (.o 704) 1 0 0 0 (List.length l) none])], InR IntKind.i64 (i - (1 : Int)), (0 : Int) ≤ i - (1 : Int) ∧ i - (1 : Int) < (↑(List.length l) : Int), (0 : Nat) + Int.toNat (i - (1 : Int)) < List.length l]) : Option (V × Heap × List Prop)) := by kernel_rfl

theorem bdRn_p1 (l : List Int) (i : Int) (m : Nat) (v : Int) :
  along Try.prog (bdRn l i m v) [true] = (some (.int .i64 0, [], [RLoop Try.prog none 0 (cB (cB (cR (cL (cR (bodyOf (Bd.f (bdRn l i m v)))))))) (List.length l + 1) (St.mk [.ros 1 (List.length l) (li l) false, .int .i64 i, .any, .any, .any, .int .i64 0, .any, .any, .any, .any, .any, .any, .any, .any, .any, .any, .any, .any, .any, .any, .any, .any, .any, .any, .any, .any, .any, .any, .any, .any, .any, .any, .any, .any, .any, .any, .any, .any, .any, .any, .any, .any, .any, .any, .any, .any, .any, .any, .any, .any, .any, .any, .any, .any, .any, .any, .any] [] 0 []) (.exit 0) (St.mk [.ros 1 (List.length l) (li l) false, .int .i64 i, .any, .any, .any, .int .i64 (↑(List.length l) : Int), .any, .any, .any, .any, .any, .any, .any, .any, .any, .any, .any, .any, .any, .any, .any, .any, .any, .any, .any, .any, .any, .any, .any, .any, .any, .any, .any, .any, .any, .any, .any, .any, .any, .any, .any, .any, .any, .any, .any, .any, .any, .any, .any, .any, .any, .any, .any, .any, .any, .any, .any] [] 0 []), q (List.length l), ∀ (k : Nat), k < List.length l → [V.int IntKind.i64 (List.getD l k (0 : Int))] = [V.int IntKind.i64 (List.getD l k (0 : Int))], false = true → false = true, q i, q1]) : Option (V × Heap × List Prop)) := by kernel_rfl
theorem bdRn_p0 (l : List Int) (i : Int) (m : Nat) (v : Int) :
  along Try.prog (bdRn l i m v) [false] = (some (.int .i64 v, [], [RLoop Try.prog none 0 (cB (cB (cR (cL (cR (bodyOf (Bd.f (bdRn l i m v)))))))) (m + 1) (St.mk [.ros 1 (List.length l) (li l) false, .int .i64 i, .any, .any, .any, .int .i64 0, .any, .any, .any, .any, .any, .any, .any, .any, .any, .any, .any, .any, .any, .any, .any, .any, .any, .any, .any, .any, .any, .any, .any, .any, .any, .any, .any, .any, .any, .any, .any, .any, .any, .any, .any, .any, .any, .any, .any, .any, .any, .any, .any, .any, .any, .any, .any, .any, .any, .any, .any] [] 0 []) .ret (St.mk [.any, .any, .any, .any, .int .i64 v, .any, .any, .any, .any, .any, .any, .any, .any, .any, .any, .any, .any, .any, .any, .any, .any, .any, .any, .any, .any, .any, .any, .any, .any, .any, .any, .any, .any, .any, .any, .any, .any, .any, .any, .any, .any, .any, .any, .any, .any, .any, .any, .any, .any, .any, .any, .any, .any, .any, .any, .any, .any] [] 0 []), q (List.length l), ∀ (k : Nat), k < List.length l → [V.int IntKind.i64 (List.getD l k (0 : Int))] = [V.int IntKind.i64 (List.getD l k (0 : Int))], false = true → false = true, q i, q1]) : Option (V × Heap × List Prop)) := by kernel_rfl

noncomputable def pcRn_c (l : List Int) (i : Int) (k : Nat) (a : Int) (s : Int) (v : Int) : Nat → List Prop
 | 0 => [decide ((↑k : Int) < (↑(List.length l) : Int)) = true, RLoop Try.prog none 0 (cB (cB (cR (cL (cR (cR (cB (cL (cR (Pc.c (pcRn l i k a s v))))))))))) (List.length l + 1) (St.mk [.ros 1 (List.length l) (li l) false, .int .i64 i, .any, .any, .any, .int .i64 ↑k, .int .i64 0, .int .i64 0, .int .i64 0, .any, .any, .any, .any, .any, .any, .any, .any, .any, .any, .any, .any, .any, .any, .any, .any, .any, .any, .any, .any, .any, .any, .any, .any, .any, .any, .any, .any, .any, .any, .any, .any, .any, .any, .any, .any, .any, .any, .any, .any, .any, .any, .any, .any, .any, .any, .any, .any] [] 0 []) (.exit 2) (St.mk [.ros 1 (List.length l) (li l) false, .int .i64 i, .any, .any, .any, .int .i64 ↑k, .int .i64 a, .int .i64 s, .int .i64 (↑(List.length l) : Int), .any, .any, .any, .any, .any, .any, .any, .any, .any, .any, .any, .any, .any, .any, .any, .any, .any, .any, .any, .any, .any, .any, .any, .any, .any, .any, .any, .any, .any, .any, .any, .any, .any, .any, .any, .any, .any, .any, .any, .any, .any, .any, .any, .any, .any, .any, .any, .any] [] 0 []), q (List.length l), ∀ (k : Nat), k < List.length l → [V.int IntKind.i64 (List.getD l k (0 : Int))] = [V.int IntKind.i64 (List.getD l k (0 : Int))], false = true → false = true, q i, q (↑k : Int), q1, q1, q1]
 | _ => []
theorem pcRn_p111 (l : List Int) (i : Int) (k : Nat) (a : Int) (s : Int) (v : Int) :
 alongPc Try.prog (pcRn l i k a s v) [true, true, true] = (some (.ret, St.mk [.any, .any, .any, .any, .int .i64 v, .any, .any, .any, .any, .any, .any, .any, .any, .any, .any, .any, .any, .any, .any, .any, .any, .any, .any, .any, .any, .any, .any, .any, .any, .any, .any, .any, .any, .any, .any, .any, .any, .any, .any, .any, .any, .any, .any, .any, .any, .any, .any, .any, .any, .any, .any, .any, .any, .any, .any, .any, .any] [] 0 [], pcRn_c l i k a s v 0 ++ [decide (a < i) = true, InR IntKind.i64 (a + s), decide (i ≤ a + s) = true, (0 : Int) ≤ (↑k : Int) ∧ (↑k : Int) < (↑(List.length l) : Int), List.getD l (Int.toNat (↑k : Int)) (0 : Int) = v]) : Option (Exit × St × List Prop)) := by kernel_rfl
theorem pcRn_p110 (l : List Int) (i : Int) (k : Nat) (a : Int) (s : Int) (v : Int) :
 alongPc Try.prog (pcRn l i k a s v) [true, true, false] = (some (.normal, St.mk [.ros 1 (List.length l) (li l) false, .int .i64 i, .any, .any, .any, .int .i64 (↑(k + 1) : Int), .any, .any, .any, .any, .any, .any, .any, .any, .any, .any, .any, .any, .any, .any, .any, .any, .any, .any, .any, .any, .any, .any, .any, .any, .any, .any, .any, .any, .any, .any, .any, .any, .any, .any, .any, .any, .any, .any, .any, .any, .any, .any, .any, .any, .any, .any, .any, .any, .any, .any, .any] [] 0 [], pcRn_c l i k a s v 0 ++ [decide (a < i) = true, InR IntKind.i64 (a + s), decide (i ≤ a + s) = false, InR IntKind.i64 ((↑k : Int) + (1 : Int)), q (List.length l), ∀ (k : Nat), k < List.length l → [V.int IntKind.i64 (List.getD l k (0 : Int))] = [V.int IntKind.i64 (List.getD l k (0 : Int))], false = true → false = true, q i, (↑k : Int) + (1 : Int) = (↑(k + (1 : Nat)) : Int)]) : Option (Exit × St × List Prop)) := by kernel_rfl
theorem pcRn_p100 (l : List Int) (i : Int) (k : Nat) (a : Int) (s : Int) (v : Int) :
 alongPc Try.prog (pcRn l i k a s v) [true, false, false] = (some (.normal, St.mk [.ros 1 (List.length l) (li l) false, .int .i64 i, .any, .any, .any, .int .i64 (↑(k + 1) : Int), .any, .any, .any, .any, .any, .any, .any, .any, .any, .any, .any, .any, .any, .any, .any, .any, .any, .any, .any, .any, .any, .any, .any, .any, .any, .any, .any, .any, .any, .any, .any, .any, .any, .any, .any, .any, .any, .any, .any, .any, .any, .any, .any, .any, .any, .any, .any, .any, .any, .any, .any] [] 0 [], pcRn_c l i k a s v 0 ++ [decide (a < i) = false, q false, InR IntKind.i64 ((↑k : Int) + (1 : Int)), q (List.length l), ∀ (k : Nat), k < List.length l → [V.int IntKind.i64 (List.getD l k (0 : Int))] = [V.int IntKind.i64 (List.getD l k (0 : Int))], false = true → false = true, q i, (↑k : Int) + (1 : Int) = (↑(k + (1 : Nat)) : Int)]) : Option (Exit × St × List Prop)) := by kernel_rfl
theorem pcRn_p0 (l : List Int) (i : Int) (k : Nat) (a : Int) (s : Int) (v : Int) :
 alongPc Try.prog (pcRn l i k a s v) [false] = (some (.exit 0, St.mk [.ros 1 (List.length l) (li l) false, .int .i64 i, .any, .any, .any, .int .i64 (↑(List.length l) : Int), .any, .any, .any, .any, .any, .any, .any, .any, .any, .any, .any, .any, .any, .any, .any, .any, .any, .any, .any, .any, .any, .any, .any, .any, .any, .any, .any, .any, .any, .any, .any, .any, .any, .any, .any, .any, .any, .any, .any, .any, .any, .any, .any, .any, .any, .any, .any, .any, .any, .any, .any] [] 0 [], [decide ((↑k : Int) < (↑(List.length l) : Int)) = false, q (List.length l), ∀ (k : Nat), k < List.length l → [V.int IntKind.i64 (List.getD l k (0 : Int))] = [V.int IntKind.i64 (List.getD l k (0 : Int))], false = true → false = true, q i, (↑k : Int) = (↑(List.length l) : Int)]) : Option (Exit × St × List Prop)) := by kernel_rfl

noncomputable def pcRj_c (l : List Int) (i : Int) (k : Nat) (a : Int) (s : Int) (a2 : Int) (s2 : Int) (j : Nat) : Nat → List Prop
 | 0 => [decide ((↑j : Int) < (↑(List.length l) : Int)) = true, (0 : Int) ≤ (↑j : Int) ∧ (↑j : Int) < (↑(List.length l) : Int), (0 : Int) ≤ (↑k : Int) ∧ (↑k : Int) < (↑(List.length l) : Int)]
 | 1 => [decide (List.getD l (Int.toNat (↑k : Int)) (0 : Int) < List.getD l (Int.toNat (↑j : Int)) (0 : Int)) = true, InR IntKind.i64 (a + (1 : Int)), (0 : Int) ≤ (↑j : Int) ∧ (↑j : Int) < (↑(List.length l) : Int), (0 : Int) ≤ (↑k : Int) ∧ (↑k : Int) < (↑(List.length l) : Int)]
 | 2 => [decide (List.getD l (Int.toNat (↑k : Int)) (0 : Int) < List.getD l (Int.toNat (↑j : Int)) (0 : Int)) = false, (0 : Int) ≤ (↑j : Int) ∧ (↑j : Int) < (↑(List.length l) : Int), (0 : Int) ≤ (↑k : Int) ∧ (↑k : Int) < (↑(List.length l) : Int)]
 | _ => []
theorem pcRj_p111 (l : List Int) (i : Int) (k : Nat) (a : Int) (s : Int) (a2 : Int) (s2 : Int) (j : Nat) :
 alongPc Try.prog (pcRj l i k a s a2 s2 j) [true, true, true] = (some (.normal, St.mk [.ros 1 (List.length l) (li l) false, .int .i64 i, .any, .any, .any, .int .i64 ↑k, .int .i64 a2, .int .i64 s2, .int .i64 (↑(j + 1) : Int), .any, .any, .any, .any, .any, .any, .any, .any, .any, .any, .any, .any, .any, .any, .any, .any, .any, .any, .any, .any, .any, .any, .any, .any, .any, .any, .any, .any, .any, .any, .any, .any, .any, .any, .any, .any, .any, .any, .any, .any, .any, .any, .any, .any, .any, .any, .any, .any] [] 0 [], pcRj_c l i k a s a2 s2 j 0 ++ (pcRj_c l i k a s a2 s2 j 1 ++ [decide (List.getD l (Int.toNat (↑j : Int)) (0 : Int) = List.getD l (Int.toNat (↑k : Int)) (0 : Int)) = true, InR IntKind.i64 (s + (1 : Int)), InR IntKind.i64 ((↑j : Int) + (1 : Int)), q (List.length l), ∀ (k : Nat), k < List.length l → [V.int IntKind.i64 (List.getD l k (0 : Int))] = [V.int IntKind.i64 (List.getD l k (0 : Int))], false = true → false = true, q i, q (↑k : Int), a + (1 : Int) = a2, s + (1 : Int) = s2, (↑j : Int) + (1 : Int) = (↑(j + (1 : Nat)) : Int)])) : Option (Exit × St × List Prop)) := by kernel_rfl
theorem pcRj_p110 (l : List Int) (i : Int) (k : Nat) (a : Int) (s : Int) (a2 : Int) (s2 : Int) (j : Nat) :
 alongPc Try.prog (pcRj l i k a s a2 s2 j) [true, true, false] = (some (.normal, St.mk [.ros 1 (List.length l) (li l) false, .int .i64 i, .any, .any, .any, .int .i64 ↑k, .int .i64 a2, .int .i64 s2, .int .i64 (↑(j + 1) : Int), .any, .any, .any, .any, .any, .any, .any, .any, .any, .any, .any, .any, .any, .any, .any, .any, .any, .any, .any, .any, .any, .any, .any, .any, .any, .any, .any, .any, .any, .any, .any, .any, .any, .any, .any, .any, .any, .any, .any, .any, .any, .any, .any, .any, .any, .any, .any, .any] [] 0 [], pcRj_c l i k a s a2 s2 j 0 ++ (pcRj_c l i k a s a2 s2 j 1 ++ [decide (List.getD l (Int.toNat (↑j : Int)) (0 : Int) = List.getD l (Int.toNat (↑k : Int)) (0 : Int)) = false, InR IntKind.i64 ((↑j : Int) + (1 : Int)), q (List.length l), ∀ (k : Nat), k < List.length l → [V.int IntKind.i64 (List.getD l k (0 : Int))] = [V.int IntKind.i64 (List.getD l k (0 : Int))], false = true → false = true, q i, q (↑k : Int), a + (1 : Int) = a2, s = s2, (↑j : Int) + (1 : Int) = (↑(j + (1 : Nat)) : Int)])) : Option (Exit × St × List Prop)) := by kernel_rfl
theorem pcRj_p101 (l : List Int) (i : Int) (k : Nat) (a : Int) (s : Int) (a2 : Int) (s2 : Int) (j : Nat) :
 alongPc Try.prog (pcRj l i k a s a2 s2 j) [true, false, true] = (some (.normal, St.mk [.ros 1 (List.length l) (li l) false, .int .i64 i, .any, .any, .any, .int .i64 ↑k, .int .i64 a2, .int .i64 s2, .int .i64 (↑(j + 1) : Int), .any, .any, .any, .any, .any, .any, .any, .any, .any, .any, .any, .any, .any, .any, .any, .any, .any, .any, .any, .any, .any, .any, .any, .any, .any, .any, .any, .any, .any, .any, .any, .any, .any, .any, .any, .any, .any, .any, .any, .any, .any, .any, .any, .any, .any, .any, .any, .any] [] 0 [], pcRj_c l i k a s a2 s2 j 0 ++ (pcRj_c l i k a s a2 s2 j 2 ++ [decide (List.getD l (Int.toNat (↑j : Int)) (0 : Int) = List.getD l (Int.toNat (↑k : Int)) (0 : Int)) = true, InR IntKind.i64 (s + (1 : Int)), InR IntKind.i64 ((↑j : Int) + (1 : Int)), q (List.length l), ∀ (k : Nat), k < List.length l → [V.int IntKind.i64 (List.getD l k (0 : Int))] = [V.int IntKind.i64 (List.getD l k (0 : Int))], false = true → false = true, q i, q (↑k : Int), a = a2, s + (1 : Int) = s2, (↑j : Int) + (1 : Int) = (↑(j + (1 : Nat)) : Int)])) : Option (Exit × St × List Prop)) := by kernel_rfl
theorem pcRj_p100 (l : List Int) (i : Int) (k : Nat) (a : Int) (s : Int) (a2 : Int) (s2 : Int) (j : Nat) :
 alongPc Try.prog (pcRj l i k a s a2 s2 j) [true, false, false] = (some (.normal, St.mk [.ros 1 (List.length l) (li l) false, .int .i64 i, .any, .any, .any, .int .i64 ↑k, .int .i64 a2, .int .i64 s2, .int .i64 (↑(j + 1) : Int), .any, .any, .any, .any, .any, .any, .any, .any, .any, .any, .any, .any, .any, .any, .any, .any, .any, .any, .any, .any, .any, .any, .any, .any, .any, .any, .any, .any, .any, .any, .any, .any, .any, .any, .any, .any, .any, .any, .any, .any, .any, .any, .any, .any, .any, .any, .any, .any] [] 0 [], pcRj_c l i k a s a2 s2 j 0 ++ (pcRj_c l i k a s a2 s2 j 2 ++ [decide (List.getD l (Int.toNat (↑j : Int)) (0 : Int) = List.getD l (Int.toNat (↑k : Int)) (0 : Int)) = false, InR IntKind.i64 ((↑j : Int) + (1 : Int)), q (List.length l), ∀ (k : Nat), k < List.length l → [V.int IntKind.i64 (List.getD l k (0 : Int))] = [V.int IntKind.i64 (List.getD l k (0 : Int))], false = true → false = true, q i, q (↑k : Int), a = a2, s = s2, (↑j : Int) + (1 : Int) = (↑(j + (1 : Nat)) : Int)])) : Option (Exit × St × List Prop)) := by kernel_rfl
theorem pcRj_p0 (l : List Int) (i : Int) (k : Nat) (a : Int) (s : Int) (a2 : Int) (s2 : Int) (j : Nat) :
 alongPc Try.prog (pcRj l i k a s a2 s2 j) [false] = (some (.exit 2, St.mk [.ros 1 (List.length l) (li l) false, .int .i64 i, .any, .any, .any, .int .i64 ↑k, .int .i64 a, .int .i64 s, .int .i64 (↑(List.length l) : Int), .any, .any, .any, .any, .any, .any, .any, .any, .any, .any, .any, .any, .any, .any, .any, .any, .any, .any, .any, .any, .any, .any, .any, .any, .any, .any, .any, .any, .any, .any, .any, .any, .any, .any, .any, .any, .any, .any, .any, .any, .any, .any, .any, .any, .any, .any, .any, .any] [] 0 [], [decide ((↑j : Int) < (↑(List.length l) : Int)) = false, q (List.length l), ∀ (k : Nat), k < List.length l → [V.int IntKind.i64 (List.getD l k (0 : Int))] = [V.int IntKind.i64 (List.getD l k (0 : Int))], false = true → false = true, q i, q (↑k : Int), q a, q s, (↑j : Int) = (↑(List.length l) : Int)]) : Option (Exit × St × List Prop)) := by kernel_rfl

theorem T_nt {l : List Int} (hl : l.length ≤ 1000000) (i : Int) : T Try.prog 21 [lr l, .int .i64 i] [] (.int .i64 (nthV l i)) [] := by
 by_cases h1 : i < 1
 ·exact T.val (T_al (bdNt_p11 l i) Try.func21 ⟨decide_eq_true h1, rfl, trivial⟩) (by rw [nthV, if_neg (by omega)])
 ·by_cases h2 : (l.length : Int) < i
  ·exact T.val (T_al (bdNt_p01 l i) Try.func21 ⟨decide_eq_false h1, decide_eq_true h2, trivial⟩) (by rw [nthV, if_neg (by omega)])
  ·have hS := T_sl (q := 704) (b := 768) (es := 0) (cap := none) (cap' := none) (l := l) (by omega) hl
   have ec : catF 0 (getL []) (li l) = li l := by funext k; rfl
   refine T.val (T_al (bdNt_p00 l i) Try.func21 ?_) (by rw [nthV, if_pos (by omega), Nat.zero_add])
   simp only [All, All_append, pcRn_c, pcRj_c, Nat.zero_add, ec]; and_intros
   all_goals first
    | exact hS
    | exact decide_eq_false h1
    | exact decide_eq_false h2
    | trivial
    | (intro _ _; rfl)
    | (intro _ _; trivial)
    | (simp only [IntKind.min, IntKind.max, IntKind.signed, IntKind.bits, if_true]; omega)
    | omega
/-- How many of the first are greater, or alike. -/
def aF (l : List Int) (v : Int) (j : Nat) : Int := (cntG (l.take j) v : Int)
def sF (l : List Int) (v : Int) (j : Nat) : Int := (cntS (l.take j) v : Int)
theorem take_one {l : List Int} {j : Nat} (h : j < l.length) : l.take (j + 1) = l.take j ++ [l.getD j 0] := by
 rw [List.take_add_one, List.getD_eq_getElem?_getD, List.getElem?_eq_getElem h]; rfl
theorem aF_succ {l : List Int} {v : Int} {j : Nat} (h : j < l.length) : aF l v (j + 1) = if v < l.getD j 0 then aF l v j + 1 else aF l v j := by
 unfold aF cntG
 rw [take_one h, List.countP_append, List.countP_singleton]
 by_cases h1 : v < l.getD j 0
 ·rw [if_pos h1, if_pos (decide_eq_true h1)]; omega
 ·rw [if_neg h1, if_neg (by rw [decide_eq_true_eq]; exact h1)]; omega
theorem sF_succ {l : List Int} {v : Int} {j : Nat} (h : j < l.length) : sF l v (j + 1) = if l.getD j 0 = v then sF l v j + 1 else sF l v j := by
 unfold sF cntS
 rw [take_one h, List.countP_append, List.countP_singleton]
 by_cases h1 : l.getD j 0 = v
 ·rw [if_pos h1, if_pos (decide_eq_true h1)]; omega
 ·rw [if_neg h1, if_neg (by rw [decide_eq_true_eq]; exact h1)]; omega
theorem aF_le (l : List Int) (v : Int) (j : Nat) : 0 ≤ aF l v j ∧ aF l v j ≤ l.length := by
 unfold aF cntG
 have := List.countP_le_length (p := fun x => decide (v < x)) (l := l.take j)
 rw [List.length_take] at this
 omega
theorem sF_le (l : List Int) (v : Int) (j : Nat) : 0 ≤ sF l v j ∧ sF l v j ≤ l.length := by
 unfold sF cntS
 have := List.countP_le_length (p := fun x => decide (x = v)) (l := l.take j)
 rw [List.length_take] at this
 omega
theorem rnL {l : List Int} (hl : l.length ≤ 1000000) (i : Int) {k : Nat} (hk : k < l.length) :
  RLoop Try.prog none 0 (cB (cB (cR (cL (cR (cR (cB (cL (cR (cB (cB (cR (cL (cR (bodyOf Try.f22))))))))))))))) (l.length + 1) (rnJ l i k 0 0 0) (.exit 2) (rnJ l i k (aF l (l.getD k 0) l.length) (sF l (l.getD k 0) l.length) l.length) := by
 have hstep : ∀ j, j < l.length → R Try.prog none 0 (cB (cB (cR (cL (cR (cR (cB (cL (cR (cB (cB (cR (cL (cR (bodyOf Try.f22))))))))))))))) (rnJ l i k (aF l (l.getD k 0) j) (sF l (l.getD k 0) j) j) .normal (rnJ l i k (aF l (l.getD k 0) (j + 1)) (sF l (l.getD k 0) (j + 1)) (j + 1)) := by
  intro j hj
  have ha := aF_le l (l.getD k 0) j
  have hs := sF_le l (l.getD k 0) j
  have ea := aF_succ (v := l.getD k 0) hj
  have es := sF_succ (v := l.getD k 0) hj
  by_cases h1 : l.getD k 0 < l.getD j 0
  ·rw [if_pos h1] at ea
   rw [if_neg (by omega)] at es
   refine R_alongPc NG MO _ (pcRj_p110 l i k _ _ _ _ j) ?_ (Nat.zero_le _)
   simp only [All, All_append, pcRn_c, pcRj_c, Int.toNat_natCast, Nat.zero_add]; and_intros
   all_goals first
    | (rw [decide_eq_true_eq]; omega)
    | (rw [decide_eq_false_iff_not]; omega)
    | with_reducible rfl
    | (intro _ _; with_reducible rfl)
    | (intro _ _; trivial)
    | (simp only [IntKind.min, IntKind.max, IntKind.signed, IntKind.bits, if_true]; omega)
    | omega
    | (intro h; exact h)
    | trivial
  ·rw [if_neg h1] at ea
   by_cases h2 : l.getD j 0 = l.getD k 0
   ·rw [if_pos h2] at es
    refine R_alongPc NG MO _ (pcRj_p101 l i k _ _ _ _ j) ?_ (Nat.zero_le _)
    simp only [All, All_append, pcRn_c, pcRj_c, Int.toNat_natCast, Nat.zero_add]; and_intros
    all_goals first
     | (rw [decide_eq_true_eq]; omega)
     | (rw [decide_eq_false_iff_not]; omega)
     | with_reducible rfl
     | (intro _ _; with_reducible rfl)
     | (intro _ _; trivial)
     | (simp only [IntKind.min, IntKind.max, IntKind.signed, IntKind.bits, if_true]; omega)
     | omega
     | (intro h; exact h)
     | trivial
   ·rw [if_neg h2] at es
    refine R_alongPc NG MO _ (pcRj_p100 l i k _ _ _ _ j) ?_ (Nat.zero_le _)
    simp only [All, All_append, pcRn_c, pcRj_c, Int.toNat_natCast, Nat.zero_add]; and_intros
    all_goals first
     | (rw [decide_eq_true_eq]; omega)
     | (rw [decide_eq_false_iff_not]; omega)
     | with_reducible rfl
     | (intro _ _; with_reducible rfl)
     | (intro _ _; trivial)
     | (simp only [IntKind.min, IntKind.max, IntKind.signed, IntKind.bits, if_true]; omega)
     | omega
     | (intro h; exact h)
     | trivial
 have hend : R Try.prog none 0 (cB (cB (cR (cL (cR (cR (cB (cL (cR (cB (cB (cR (cL (cR (bodyOf Try.f22))))))))))))))) (rnJ l i k (aF l (l.getD k 0) l.length) (sF l (l.getD k 0) l.length) l.length) (.exit 2) (rnJ l i k (aF l (l.getD k 0) l.length) (sF l (l.getD k 0) l.length) l.length) := by
  refine R_alongPc NG MO _ (pcRj_p0 l i k _ _ 0 0 l.length) ?_ (Nat.zero_le _)
  simp only [All, All_append, pcRn_c, pcRj_c, Int.toNat_natCast, Nat.zero_add]; and_intros
  all_goals first
   | (rw [decide_eq_true_eq]; omega)
   | (rw [decide_eq_false_iff_not]; omega)
   | with_reducible rfl
   | (intro _ _; with_reducible rfl)
   | (intro _ _; trivial)
   | (simp only [IntKind.min, IntKind.max, IntKind.signed, IntKind.bits, if_true]; omega)
   | omega
   | (intro h; exact h)
   | trivial
 exact RLoop.inv (fun j => rnJ l i k (aF l (l.getD k 0) j) (sF l (l.getD k 0) j) j) l.length hstep hend (by simp)
end Go.Proofs.Ytpallipnhmoipaa
namespace Go.Proofs.Ytpallipnhmoipaa
open Go Sy Go.Proofs
def ntDb (v : Int) : List V → Heap → Nat → List Cl := fun a _ _ => match a with
 | [.sl s _ _ _ _ _ _, _] => [{ rd := [s], val := .int .i64 v }]
 | _ => []
def ieDb : List V → Heap → Nat → List Cl := fun a _ _ => match a with
 | [.sl s _ _ _ _ _ _, _] => [{ rd := [s], val := .bool true }]
 | _ => []
noncomputable def bdLv : Bd := { f := Try.f20, args := [], kb := { db := dbQ [(12, cVal (.bool true)), (14, cVal (.int .i64 2)), (16, cVal (.int .i64 3)), (18, cVal (.int .i64 5)), (21, ntDb 5)] } }
noncomputable def bdQC (n : Int) (g : Bool) (f s m : Int) : Bd := { f := Try.f3, args := [.int .i64 n], kb := { db := dbQ [(12, cVal (.bool g)), (13, cVal (.bool g)), (14, cVal (.int .i64 f)), (15, cVal (.int .i64 f)), (16, cVal (.int .i64 s)), (17, cVal (.int .i64 s)), (18, cVal (.int .i64 m)), (19, cVal (.int .i64 m)), (20, cVal (.bool true))] } }
noncomputable def bdQN (l : List Int) (i v : Int) : Bd := { f := Try.f4, args := [lr l, .int .i64 i], kb := { db := dbQ [(21, ntDb v), (22, cVal (.int .i64 v)), (23, ieDb), (20, cVal (.bool true))] } }
end Go.Proofs.Ytpallipnhmoipaa
namespace Go.Proofs.Ytpallipnhmoipaa
open Go Sy Go.Proofs
theorem bdLv_p1111 :
  along Try.prog (bdLv) [true, true, true, true] = (some (.bool true, [], [T Try.prog 12 [.int .i64 7] [] (.bool true) [], q2, T Try.prog 14 [.int .i64 7] [] (.int .i64 2) [], q2, T Try.prog 16 [.int .i64 7] [] (.int .i64 3) [], q2, T Try.prog 18 [.int .i64 7] [] (.int .i64 5) [], q2, T Try.prog 21 [.sl (.o 960) 1 0 0 0 3 (some 3), .int .i64 2] [(.o 960, .rows 1 3 (getL [[.int .i64 3], [.int .i64 9], [.int .i64 5]]) false)] (.int .i64 5) [(.o 960, .rows 1 3 (getL [[.int .i64 3], [.int .i64 9], [.int .i64 5]]) false)]]) : Option (V × Heap × List Prop)) := by kernel_rfl

noncomputable def bdQC_c (n : Int) (g : Bool) (f : Int) (s : Int) (m : Int) : Nat → List Prop
 | 0 => [T Try.prog 12 [.int .i64 n] [] (.bool g) [], T Try.prog 13 [.int .i64 n] [] (.bool g) []]
 | 1 => [(g == g) = true, T Try.prog 14 [.int .i64 n] [] (.int .i64 f) [], T Try.prog 15 [.int .i64 n] [] (.int .i64 f) []]
 | 2 => [decide (f = f) = true, T Try.prog 16 [.int .i64 n] [] (.int .i64 s) [], T Try.prog 17 [.int .i64 n] [] (.int .i64 s) []]
 | _ => []
theorem bdQC_p1111 (n : Int) (g : Bool) (f : Int) (s : Int) (m : Int) :
 along Try.prog (bdQC n g f s m) [true, true, true, true] = (some (.bool true, [], bdQC_c n g f s m 0 ++ (bdQC_c n g f s m 1 ++ (bdQC_c n g f s m 2 ++ [decide (s = s) = true, T Try.prog 18 [.int .i64 n] [] (.int .i64 m) [], T Try.prog 19 [.int .i64 n] [] (.int .i64 m) [], decide (m = m) = true, T Try.prog 20 [] [] (.bool true) []]))) : Option (V × Heap × List Prop)) := by kernel_rfl
theorem bdQC_p1110 (n : Int) (g : Bool) (f : Int) (s : Int) (m : Int) :
 along Try.prog (bdQC n g f s m) [true, true, true, false] = (some (.bool false, [], bdQC_c n g f s m 0 ++ (bdQC_c n g f s m 1 ++ (bdQC_c n g f s m 2 ++ [decide (s = s) = true, T Try.prog 18 [.int .i64 n] [] (.int .i64 m) [], T Try.prog 19 [.int .i64 n] [] (.int .i64 m) [], decide (m = m) = false]))) : Option (V × Heap × List Prop)) := by kernel_rfl
theorem bdQC_p1100 (n : Int) (g : Bool) (f : Int) (s : Int) (m : Int) :
 along Try.prog (bdQC n g f s m) [true, true, false, false] = (some (.bool false, [], bdQC_c n g f s m 0 ++ (bdQC_c n g f s m 1 ++ (bdQC_c n g f s m 2 ++ [decide (s = s) = false, q false]))) : Option (V × Heap × List Prop)) := by kernel_rfl
theorem bdQC_p1000 (n : Int) (g : Bool) (f : Int) (s : Int) (m : Int) :
 along Try.prog (bdQC n g f s m) [true, false, false, false] = (some (.bool false, [], bdQC_c n g f s m 0 ++ (bdQC_c n g f s m 1 ++ [decide (f = f) = false, q false, q false])) : Option (V × Heap × List Prop)) := by kernel_rfl
theorem bdQC_p0000 (n : Int) (g : Bool) (f : Int) (s : Int) (m : Int) :
 along Try.prog (bdQC n g f s m) [false, false, false, false] = (some (.bool false, [], bdQC_c n g f s m 0 ++ [(g == g) = false, q false, q false, q false]) : Option (V × Heap × List Prop)) := by kernel_rfl

theorem bdQN_p1 (l : List Int) (i : Int) (v : Int) :
  along Try.prog (bdQN l i v) [true] = (some (.bool true, [], [decide ((200 : Int) < (↑(List.length l) : Int)) = true, T Try.prog 20 [] [] (.bool true) []]) : Option (V × Heap × List Prop)) := by kernel_rfl
theorem bdQN_p011 (l : List Int) (i : Int) (v : Int) :
  along Try.prog (bdQN l i v) [false, true, true] = (some (.bool true, [], [decide ((200 : Int) < (↑(List.length l) : Int)) = false, q0, ∀ (k : Nat), k < List.length l → true = true, ((0 : Nat) + List.length l) * (8 : Nat) ≤ (140737488355328 : Nat), T Try.prog 21 [.sl (.o 384) 1 0 0 0 (0 + List.length l) none, .int .i64 i] [(.o 384, .rows 1 (0 + List.length l) (catF 0 (getL []) (li l)) true)] (.int .i64 v) [(.o 384, .rows 1 (0 + List.length l) (catF 0 (getL []) (li l)) true)], T Try.prog 22 [.ros 1 (List.length l) (li l) false, .int .i64 i] [] (.int .i64 v) [], decide (v = v) = true, T Try.prog 23 [.sl (.o 384) 1 0 0 0 (0 + List.length l) none, .ros 1 (List.length l) (li l) false] [(.o 384, .rows 1 (0 + List.length l) (catF 0 (getL []) (li l)) true)] (.bool true) [(.o 384, .rows 1 (0 + List.length l) (catF 0 (getL []) (li l)) true)], q2, T Try.prog 20 [] [] (.bool true) []]) : Option (V × Heap × List Prop)) := by kernel_rfl
theorem bdQN_p000 (l : List Int) (i : Int) (v : Int) :
  along Try.prog (bdQN l i v) [false, false, false] = (some (.bool false, [], [decide ((200 : Int) < (↑(List.length l) : Int)) = false, q0, ∀ (k : Nat), k < List.length l → true = true, ((0 : Nat) + List.length l) * (8 : Nat) ≤ (140737488355328 : Nat), T Try.prog 21 [.sl (.o 384) 1 0 0 0 (0 + List.length l) none, .int .i64 i] [(.o 384, .rows 1 (0 + List.length l) (catF 0 (getL []) (li l)) true)] (.int .i64 v) [(.o 384, .rows 1 (0 + List.length l) (catF 0 (getL []) (li l)) true)], T Try.prog 22 [.ros 1 (List.length l) (li l) false, .int .i64 i] [] (.int .i64 v) [], decide (v = v) = false, q false]) : Option (V × Heap × List Prop)) := by kernel_rfl

theorem aF_all (l : List Int) (v : Int) : aF l v l.length = cntG l v := by rw [aF, List.take_length]
theorem sF_all (l : List Int) (v : Int) : aF l v l.length + sF l v l.length = cntE l v := by rw [aF_all, sF, List.take_length, cntE_eq]; omega
theorem T_rn {l : List Int} (hl : l.length ≤ 1000000) (i : Int) : T Try.prog 22 [lr l, .int .i64 i] [] (.int .i64 (nthV l i)) [] := by
 have fin : ∀ k, k < l.length → ((aF l (l.getD k 0) l.length < i ∧ i ≤ aF l (l.getD k 0) l.length + sF l (l.getD k 0) l.length) ↔ ((cntG l (l.getD k 0) : Int) < i ∧ i ≤ cntE l (l.getD k 0))) := fun k _ => by rw [sF_all, aF_all]
 rcases loop_all (P := Try.prog) (ro := none) (p := 0) (c := (cB (cB (cR (cL (cR (bodyOf Try.f22))))))) (I := rnI l i) (F := fun m => rnF (l.getD m 0)) (e := fun _ => .ret) (q := fun k => ¬ (aF l (l.getD k 0) l.length < i ∧ i ≤ aF l (l.getD k 0) l.length + sF l (l.getD k 0) l.length)) (n := l.length)
   (fun k hk hq => by
    have hL := rnL hl i hk
    have ha := aF_le l (l.getD k 0) l.length
    have hs := sF_le l (l.getD k 0) l.length
    by_cases h1 : aF l (l.getD k 0) l.length < i
    ·refine R_alongPc NG MO _ (pcRn_p110 l i k (aF l (l.getD k 0) l.length) (sF l (l.getD k 0) l.length) 0) ?_ (Nat.zero_le _)
     refine ⟨by rw [decide_eq_true_eq]; omega, hL, ?_⟩
     simp only [All, All_append, bdQC_c, Int.toNat_natCast, Nat.zero_add]; and_intros
     all_goals first
      | (rw [decide_eq_true_eq]; omega)
      | (rw [decide_eq_false_iff_not]; omega)
      | with_reducible rfl
      | (intro _ _; with_reducible rfl)
      | (intro _ _; trivial)
      | (simp only [IntKind.min, IntKind.max, IntKind.signed, IntKind.bits, if_true]; omega)
      | omega
      | (intro h; exact h)
      | trivial
    ·refine R_alongPc NG MO _ (pcRn_p100 l i k (aF l (l.getD k 0) l.length) (sF l (l.getD k 0) l.length) 0) ?_ (Nat.zero_le _)
     refine ⟨by rw [decide_eq_true_eq]; omega, hL, ?_⟩
     simp only [All, All_append, bdQC_c, Int.toNat_natCast, Nat.zero_add]; and_intros
     (all_goals first
      | (rw [decide_eq_true_eq]; omega)
      | (rw [decide_eq_false_iff_not]; omega)
      | with_reducible rfl
      | (intro _ _; with_reducible rfl)
      | (intro _ _; trivial)
      | (simp only [IntKind.min, IntKind.max, IntKind.signed, IntKind.bits, if_true]; omega)
      | omega
      | (intro h; exact h)
      | trivial))
   (fun k hk hq => by
    have hq := Classical.not_not.1 hq
    have hL := rnL hl i hk
    have ha := aF_le l (l.getD k 0) l.length
    have hs := sF_le l (l.getD k 0) l.length
    refine R_alongPc NG MO _ (pcRn_p111 l i k (aF l (l.getD k 0) l.length) (sF l (l.getD k 0) l.length) (l.getD k 0)) ?_ (Nat.zero_le _)
    refine ⟨by rw [decide_eq_true_eq]; omega, hL, ?_⟩
    simp only [All, All_append, bdQC_c, Int.toNat_natCast, Nat.zero_add]; and_intros
    (all_goals first
     | (rw [decide_eq_true_eq]; omega)
     | (rw [decide_eq_false_iff_not]; omega)
     | with_reducible rfl
     | (intro _ _; with_reducible rfl)
     | (intro _ _; trivial)
     | (simp only [IntKind.min, IntKind.max, IntKind.signed, IntKind.bits, if_true]; omega)
     | omega
     | (intro h; exact h)
     | trivial))
   (by simp) (R_alongPc NG MO _ (pcRn_p0 l i l.length 0 0 0) (by
    simp only [All, All_append, bdQC_c, Int.toNat_natCast, Nat.zero_add]; and_intros
    (all_goals first
     | (rw [decide_eq_true_eq]; omega)
     | (rw [decide_eq_false_iff_not]; omega)
     | with_reducible rfl
     | (intro _ _; with_reducible rfl)
     | (intro _ _; trivial)
     | (simp only [IntKind.min, IntKind.max, IntKind.signed, IntKind.bits, if_true]; omega)
     | omega
     | (intro h; exact h)
     | trivial)) (Nat.zero_le _)) (by simp) with ⟨h, hL⟩ | ⟨m, hm, _, hq, hL⟩
 ·refine T.val (T_al (bdRn_p1 l i 0 0) Try.func22 ?_) (by
   rw [nth_none fun k hk hc => h k hk ((fin k hk).2 hc)])
  refine ⟨hL, ?_⟩
  simp only [All, All_append, bdQC_c]; and_intros
  all_goals first
   | (rw [decide_eq_true_eq]; omega)
   | (rw [decide_eq_false_iff_not]; omega)
   | with_reducible rfl
   | (intro _ _; with_reducible rfl)
   | (intro _ _; trivial)
   | (simp only [IntKind.min, IntKind.max, IntKind.signed, IntKind.bits, if_true]; omega)
   | omega
   | (intro h; exact h)
   | trivial
 ·have hq := Classical.not_not.1 hq
  refine T.val (T_al (bdRn_p0 l i m (l.getD m 0)) Try.func22 ?_) (by
   rw [nth_found ((fin m hm).1 hq)])
  refine ⟨hL, ?_⟩
  simp only [All, All_append, bdQC_c]; and_intros
  all_goals first
   | (rw [decide_eq_true_eq]; omega)
   | (rw [decide_eq_false_iff_not]; omega)
   | with_reducible rfl
   | (intro _ _; with_reducible rfl)
   | (intro _ _; trivial)
   | (simp only [IntKind.min, IntKind.max, IntKind.signed, IntKind.bits, if_true]; omega)
   | omega
   | (intro h; exact h)
   | trivial
theorem T_lv : T Try.prog 20 [] [] (.bool true) [] := by
 have h1 := T_gn 7
 have h2 := T_fa 7
 have h3 := T_sm 7
 have h4 := T_mo 7
 have h5 := T_nt (l := [3, 9, 5]) (by decide) 2
 rw [show goodN 7 = true by decide] at h1
 rw [show fauS 7 = 2 by decide] at h2
 rw [show someS 7 = 3 by decide] at h3
 rw [show mostS 7 = 5 by decide] at h4
 rw [show nthV [3, 9, 5] 2 = 5 from (nth_found (by decide)).symm] at h5
 refine T_al bdLv_p1111 Try.func20 ?_
 simp only [All, All_append, bdQC_c]; and_intros
 all_goals first
  | exact h1
  | exact h2
  | exact h3
  | exact h4
  | rfl
  | trivial
  | (refine T.lendG h5 rfl ?_ (FreeV.int _ _) (by simp) (by rintro n ⟨b, hb⟩; cases hb); simp only [All, All_append, bdQC_c]; and_intros <;> first | rfl | trivial | omega | (intro h; exact h) | (intro k hk; rcases k with _ | _ | _ | _ | k <;> first | rfl | omega))
/-- QuorumCounts. -/
theorem T_qc (n : Int) : T Try.prog 3 [.int .i64 n] [] (.bool true) [] := by
 have h1 := T_gn n
 have h2 := T_rgn n
 have h3 := T_fa n
 have h4 := T_rfa n
 have h5 := T_sm n
 have h6 := T_rsm n
 have h7 := T_mo n
 have h8 := T_rmo n
 have h9 := T_lv
 refine T_al (bdQC_p1111 n (goodN n) (fauS n) (someS n) (mostS n)) Try.func3 ?_
 simp only [All, All_append, bdQC_c]; and_intros
 all_goals first
  | assumption
  | rfl
  | trivial
  | simp
/-- QuorumNths. -/
theorem T_qn {l : List Int} (hl : l.length ≤ 9223372036854775807) (i : Int) : T Try.prog 4 [lr l, .int .i64 i] [] (.bool true) [] := by
 have h9 := T_lv
 by_cases h : (200 : Int) < l.length
 ·refine T_al (bdQN_p1 l i 0) Try.func4 ?_
  simp only [All, All_append, bdQC_c]; and_intros
  all_goals first
   | assumption
   | (rw [decide_eq_true_eq]; omega)
   | trivial
 ·have h1 := T_nt (l := l) (by omega) i
  have h2 := T_rn (l := l) (by omega) i
  have h3 := T_ie (a := l) (b := l) (by omega)
  rw [decide_eq_true rfl] at h3
  have ec : catF 0 (getL []) (li l) = li l := by funext k; rfl
  refine T_al (bdQN_p011 l i (nthV l i)) Try.func4 ?_
  simp only [All, All_append, bdQC_c, Nat.zero_add, ec]; and_intros
  all_goals first
   | assumption
   | (rw [decide_eq_false_iff_not]; omega)
   | (refine T.lendG h1 rfl ?_ (FreeV.int _ _) (by simp) (by rintro n ⟨b, hb⟩; cases hb); simp only [All, All_append, bdQC_c]; and_intros <;> first | rfl | trivial | omega | (intro h; exact h) | (intro h; cases h; done) | (intro k hk; rw [Nat.zero_add]))
   | (refine T.lend h3 rfl ?_; simp only [All, All_append, bdQC_c]; and_intros <;> first | rfl | trivial | (intro _ _; rfl) | (intro _ _; trivial) | omega | (intro h; exact h) | (intro h; cases h; done) | (intro k hk; rw [Nat.zero_add]))
   | (simp; done)
   | omega
   | (intro _ _; trivial)
   | rfl
   | trivial
end Go.Proofs.Ytpallipnhmoipaa
namespace Sy
open Go
variable {P : Program}
/-- A stretch is laid over. -/
def setF (f : Nat → List V) (i n : Nat) (g : Nat → List V) : Nat → List V := fun q => bif Nat.ble i q && Nat.blt q (i + n) then g (q - i) else f q
theorem setF_in {f g : Nat → List V} {i n q : Nat} (h1 : i ≤ q) (h2 : q < i + n) : setF f i n g q = g (q - i) := by
 have e1 : Nat.ble i q = true := by rw [Nat.ble_eq]; exact h1
 have e2 : Nat.blt q (i + n) = true := by rw [Nat.blt_eq]; exact h2
 rw [setF, e1, e2]; rfl
theorem setF_out {f g : Nat → List V} {i n q : Nat} (h : ¬ (i ≤ q ∧ q < i + n)) : setF f i n g q = f q := by
 rw [setF]
 cases e1 : Nat.ble i q with
 | false => rfl
 | true =>
  cases e2 : Nat.blt q (i + n) with
  | false => rfl
  | true => rw [Nat.ble_eq] at e1; rw [Nat.blt_eq] at e2; exact (h ⟨e1, e2⟩).elim
theorem ros_first {U : Imm} {ρ : Env} {es m n : Nat} {g : Nat → List V} {clip : Bool} {x : Value} {bs : Heap} {w : World} (hv : VRel U ρ (.ros es m g clip) x) (H : HRel U ρ bs w) (hn : n ≤ m) :
  ∃ l, (Builtin.lenOf x).run P w = .ok m w ∧ (Builtin.firstCells es n x).run P w = .ok l.toArray w ∧ Rows U es n g l := by
 rw [VRel] at hv
 obtain ⟨a, cp, rfl, h2, h3, h4⟩ := hv
 rcases Nat.eq_zero_or_pos n with h0 | h0
 ·subst h0
  refine ⟨[], rfl, ?_, by simp, fun i hi => by omega⟩
  cases a with
  | none => exact run_firstCells_none ..
  | some a => exact run_firstCells_some (P := P) w es 0 a m cp [] (by simp) (by simp)
 ·obtain ⟨b, base, c, rfl, hU, _⟩ := h4 0 (by omega)
  obtain ⟨el, fr, hw⟩ := H.imm b c hU
  obtain ⟨l, h5, h6⟩ := rows_of_blk (U := U) (c := c) (base := base) (g := g) (m := n) (es := es) (fun i hi => by
   obtain ⟨b', base', c', e1, hU', l', h7, h8, h9⟩ := h4 i (by omega)
   cases e1
   rw [hU] at hU'; cases hU'
   exact ⟨l', h7, h8, h9⟩)
  exact ⟨l, rfl, run_firstCells_some (P := P) w es n _ m cp l h5.1 (fun j v hj => by rw [Addr.add_lit, cell_of hw]; exact h6 j v hj), h5⟩
/-- The row where a stretch is laid over. -/
theorem rows_set {U : Imm} {ρ : Env} {es N i n : Nat} {f g : Nat → List V} {gr : Bool} {c : Array Value} {el : TypeId} {lo hi sz : Nat} {l : List Value} (h : BRel U ρ sz (.rows es N f gr) (.cells c el (lo, hi))) (hl : Rows U es n g l) (hin : i + n ≤ N) :
  BRel U ρ sz (.rows es N (setF f i n g) gr) (.cells (setR c (i * es) l) el (lo, hi)) := by
 obtain ⟨c', el', lo', hi', he, h2, h3, h4, h5, h6⟩ := h
 cases he
 have hbd : i * es + n * es ≤ N * es := by rw [← Nat.add_mul]; exact Nat.mul_le_mul_right _ hin
 have hll : i * es + l.length ≤ c.size := by rw [hl.1]; omega
 refine ⟨_, el, lo, hi, rfl, by rw [setR_size]; exact h2, by rw [setR_size]; exact h3, by rw [setR_size]; exact h4, by rw [setR_size]; exact h5, fun q hq => ?_⟩
 by_cases hqi : i ≤ q ∧ q < i + n
 ·obtain ⟨r, h7, h8, h9⟩ := hl.2 (q - i) (by omega)
  refine ⟨r, by rw [setF_in hqi.1 hqi.2]; exact h7, h8, fun k hk => ?_⟩
  have e1 : q * es = i * es + (q - i) * es := by rw [← Nat.add_mul]; congr 1; omega
  have e2 : (q - i) * es + es ≤ n * es := by rw [← Nat.succ_mul]; exact Nat.mul_le_mul_right _ (by omega)
  rw [setR_get _ _ _ hll, if_pos ⟨by omega, by rw [hl.1]; omega⟩, ← h9 k hk]
  congr 1; omega
 ·obtain ⟨r, h7, h8, h9⟩ := h6 q hq
  refine ⟨r, by rw [setF_out hqi]; exact h7, h8, fun k hk => ?_⟩
  rw [setR_get _ _ _ hll, if_neg ?_]
  ·exact h9 k hk
  ·rw [hl.1]
   rintro ⟨h10, h11⟩
   have e1 : q < i ∨ i + n ≤ q := by omega
   rcases e1 with e1 | e1
   ·have : q * es + es ≤ i * es := by rw [← Nat.succ_mul]; exact Nat.mul_le_mul_right _ e1
    omega
   ·have : i * es + n * es ≤ q * es := by rw [← Nat.add_mul]; exact Nat.mul_le_mul_right _ e1
    omega
theorem T_one2 {U : Imm} {ρ : Env} {u v : V} {xs : List Value} (h : VsRel U ρ [u, v] xs) : ∃ x y, xs = [x, y] ∧ VRel U ρ u x ∧ VRel U ρ v y := by
 rw [VsRel] at h
 obtain ⟨x, r, rfl, h1, h2⟩ := h
 rw [VsRel] at h2
 obtain ⟨y, r', rfl, h3, h4⟩ := h2
 rw [VsRel] at h4
 subst h4
 exact ⟨x, y, rfl, h1, h3⟩
/-- copy, into an own row. -/
theorem TO_copy {t tx e : TypeId} {ie : TypeInfo} (hu : P.underlying t = some (.slice e)) (hie : P.info? e = some ie) {a es i len m N : Nat} {cap : Option Nat} {f g : Nat → List V} {gr clip : Bool} (hs : ie.size = es) (hin : i + Nat.min m len ≤ N) (hso : ∀ k, k < Nat.min m len → solid (g k) = true) (h0 : 0 < N) :
  TO P (.copy t tx) [.sl (.o a) es i 0 0 len cap, .ros es m g clip] [(.o a, .rows es N f gr)] (.int .i64 (Nat.min m len : Nat)) [(.o a, .rows es N (setF f i (Nat.min m len) g) gr)] := by
 intro ty U ρ w xs H hv _
 obtain ⟨x, y, rfl, h1, h2⟩ := T_one2 hv
 obtain ⟨l, k1, k2, k3⟩ := ros_first (P := P) h2 H (Nat.min_le_left m len)
 rw [VRel] at h1
 obtain ⟨lo, cp, e1, e2, e3, e4⟩ := h1
 rcases e4 with ⟨hr, rfl, _⟩ | ⟨hr, rfl, rfl, rfl⟩
 ·obtain ⟨ob, q1, q2, q3⟩ := H.real (List.mem_cons_self ..) e1 hr
  have q2' := q2
  obtain ⟨c, el, lo2, hi, rfl, q4, q5, q6, _, _⟩ := q2
  have hbd : i * es + Nat.min m len * es ≤ N * es := by rw [← Nat.add_mul]; exact Nat.mul_le_mul_right _ hin
  have hst := run_storeCells (P := P) (b := lo.blk) (off := i * es + 0 + 0) (el := el) (lo := lo2) (hi := hi) l 0 w c q1 q5 (by rw [k3.1, show min m len = Nat.min m len from rfl]; omega) (rows_one k3 hso)
  refine ⟨.int .i64 ((Nat.min m len : Nat) : Int), { w with heap := w.heap.setIfInBounds lo.blk (.cells (setR c (i * es + 0 + 0 + 0) l) el (lo2, hi)) }, U, ρ, .inl ?_, Leaves.set H e1 hr rfl (by simp only [Nat.add_zero]; exact rows_set q2' k3 hin) (by rw [VRel])⟩
  simp only [Prim.exec, Builtin.copy_]
  have f1 : (#[t, tx] : Array TypeId)[0]? = some t := rfl
  have f2 : ([Value.slice (some ⟨lo.blk, i * es + 0 + 0, none⟩) len cp, y] : List Value).toArray[0]? = some (Value.slice (some ⟨lo.blk, i * es + 0 + 0, none⟩) len cp) := rfl
  have f3 : ([Value.slice (some ⟨lo.blk, i * es + 0 + 0, none⟩) len cp, y] : List Value).toArray[1]? = some y := rfl
  simp only [f1, f2, f3, Sem.run_bind, run_under hu, Result.andThen_ok, k1, run_size hie, hs, k2, hst, Sem.run_pure, goInt]
 ·obtain ⟨l1, g1, g2⟩ := H.blk _ _ (List.mem_cons_self ..)
  rw [e1] at g1; cases g1
  rcases g2 with ⟨g2, _⟩ | ⟨_, es', f', g2⟩
  ·rw [hr] at g2; cases g2
  ·cases g2; omega
/-- append, where there is room. -/
theorem TO_append {t tx e e' : TypeId} {ie : TypeInfo} (hu : P.underlying t = some (.slice e)) (hux : P.underlying tx = some (.slice e')) (hie : P.info? e = some ie) {a es k m N : Nat} {f g : Nat → List V} {gr clip : Bool} (hs : ie.size = es) (hin : k + m ≤ N) (hso : ∀ k, k < m → solid (g k) = true) (h0 : 0 < N) :
  TO P (.append t tx) [.sl (.o a) es 0 0 0 k (some N), .ros es m g clip] [(.o a, .rows es N f gr)] (.sl (.o a) es 0 0 0 (k + m) (some N)) [(.o a, .rows es N (setF f k m g) gr)] := by
 intro ty U ρ w xs H hv _
 obtain ⟨x, y, rfl, h1, h2⟩ := T_one2 hv
 obtain ⟨l, k1, k2, k3⟩ := ros_first (P := P) h2 H (Nat.le_refl m)
 rw [VRel] at h1
 obtain ⟨lo, cp, e1, e2, e3, e4⟩ := h1
 have := e3 N rfl
 subst this
 rcases e4 with ⟨hr, rfl, e5⟩ | ⟨hr, rfl, _, e6⟩
 ·obtain ⟨ob, q1, q2, q3⟩ := H.real (List.mem_cons_self ..) e1 hr
  have q2' := q2
  obtain ⟨c, el, lo2, hi, rfl, q4, q5, q6, _, _⟩ := q2
  have hbd : k * es + m * es ≤ cp * es := by rw [← Nat.add_mul]; exact Nat.mul_le_mul_right _ hin
  have hst := run_storeCells (P := P) (b := lo.blk) (off := 0 * es + 0 + 0 + k * es) (el := el) (lo := lo2) (hi := hi) l 0 w c q1 q5 (by rw [k3.1]; omega) (rows_one k3 hso)
  have hz : 0 * es + 0 + 0 + k * es + 0 = k * es := by omega
  refine ⟨.slice (some ⟨lo.blk, 0 * es + 0 + 0, none⟩) (k + m) cp, { w with heap := w.heap.setIfInBounds lo.blk (.cells (setR c (0 * es + 0 + 0 + k * es + 0) l) el (lo2, hi)) }, U, ρ, .inl ?_, Leaves.set H e1 hr rfl (by rw [hz]; exact rows_set q2' k3 hin) ?_⟩
  ·simp only [Prim.exec, Builtin.append_]
   have f1 : (#[t, tx] : Array TypeId)[0]? = some t := rfl
   have f4 : (#[t, tx] : Array TypeId)[1]? = some tx := rfl
   have f2 : ([Value.slice (some ⟨lo.blk, 0 * es + 0 + 0, none⟩) k cp, y] : List Value).toArray[0]? = some (Value.slice (some ⟨lo.blk, 0 * es + 0 + 0, none⟩) k cp) := rfl
   have f3 : ([Value.slice (some ⟨lo.blk, 0 * es + 0 + 0, none⟩) k cp, y] : List Value).toArray[1]? = some y := rfl
   have f5 : (k + m ≤ cp) = True := eq_true hin
   simp only [f1, f2, f3, f4, Sem.run_bind, run_under hu, run_under hux, Result.andThen_ok, k1, run_size hie, hs, Sem.run_pure, Bool.false_eq_true, if_false, f5, if_true, Bool.not_false, k2, Addr.add_lit, hst]
  ·rw [VRel]
   exact ⟨lo, cp, e1, hin, fun c hc => by cases hc; rfl, .inl ⟨hr, rfl, e5⟩⟩
 ·omega
/-- x[l:], up to the very end. -/
theorem TO_from {t e : TypeId} {ie : TypeInfo} (hu : P.underlying t = some (.slice e)) (hie : P.info? e = some ie) {a : Nm} {es i len c l : Nat} (hs : ie.size = es) (hl : l ≤ len) :
  TO P (.sliceFrom t) [.sl a es i 0 0 len (some c), .int .i64 l] [] (.sl a es (bif Nat.beq l c then i else i + l) 0 0 (len - l) (some (c - l))) [] := by
 intro ty U ρ w xs H hv _
 obtain ⟨x, y, rfl, h1, h2⟩ := T_one2 hv
 rw [VRel] at h1
 rw [VRel] at h2
 subst h2
 obtain ⟨lo, cp, e1, e2, e3, e4⟩ := h1
 have := e3 c rfl
 subst this
 have hb : (0 : Int) ≤ (l : Int) ∧ (l : Int) ≤ (len : Int) := by omega
 rcases e4 with ⟨hr, rfl, e5⟩ | ⟨hr, rfl, rfl, rfl⟩
 ·refine ⟨.slice (if cp = l then (some ⟨lo.blk, i * es + 0 + 0, none⟩) else (some ⟨lo.blk, i * es + 0 + 0, none⟩ : Option Addr).map (·.add (l * es))) (len - l) (cp - l), w, U, ρ, .inl ?_, Leaves.same H ?_ rfl⟩
  ·simp only [Prim.exec, Instr.sliceAt, Instr.slice, Instr.sliceBounds, Instr.sliceBound, asIntOf, Sem.run_bind, run_under hu, Result.andThen_ok, Sem.run_pure, hb, and_self, if_true, run_size hie, hs, Int.toNat_natCast]
  ·rw [VRel]
   refine ⟨lo, cp - l, e1, by omega, fun c hc => by cases hc; rfl, .inl ⟨hr, ?_, ?_⟩⟩
   ·by_cases hcl : cp = l
    ·subst hcl
     rw [if_pos rfl, Nat.beq_refl]; rfl
    ·have : Nat.beq l cp = false := by
      cases hh : Nat.beq l cp with
      | true => exact (hcl (Nat.eq_of_beq_eq_true hh).symm).elim
      | false => rfl
     rw [if_neg hcl, this]
     simp only [Option.map_some, cond_false, Addr.add_lit, Nat.add_mul]
     congr 3
   ·by_cases hcl : cp = l
    ·subst hcl
     rw [Nat.beq_refl, Nat.sub_self]
     refine Nat.le_trans (Nat.mul_le_mul_right _ ?_) e5
     simp only [cond_true]; omega
    ·have : Nat.beq l cp = false := by
      cases hh : Nat.beq l cp with
      | true => exact (hcl (Nat.eq_of_beq_eq_true hh).symm).elim
      | false => rfl
     rw [this]
     refine Nat.le_trans (Nat.mul_le_mul_right _ ?_) e5
     simp only [cond_false]; omega
 ·have hl0 : l = 0 := by omega
  subst hl0
  refine ⟨.slice none 0 0, w, U, ρ, .inl ?_, Leaves.same H ?_ rfl⟩
  ·simp only [Prim.exec, Instr.sliceAt, Instr.slice, Instr.sliceBounds, Instr.sliceBound, asIntOf, Sem.run_bind, run_under hu, Result.andThen_ok, Sem.run_pure, hb, and_self, if_true, run_size hie, hs, Int.toNat_natCast, Nat.sub_self]
  ·rw [VRel]
   exact ⟨lo, 0, e1, Nat.le_refl _, fun c hc => by cases hc; rfl, .inr ⟨hr, rfl, rfl, rfl⟩⟩
end Sy
namespace Sy
open Go
variable {P : Program}
/-- The entries, in the order in which they were laid. -/
def entsF (i : Nat) : List (Int × List V) → List (Nat × V × V)
 | [] => []
 | p :: l => (i, .int .i64 p.1, .agg p.2) :: entsF (i + 1) l
def findE (k : Int) : List (Int × List V) → Option (List V)
 | [] => none
 | p :: l => if k = p.1 then some p.2 else findE k l
def putE (k : Int) (v : List V) : List (Int × List V) → List (Int × List V)
 | [] => [(k, v)]
 | p :: l => if k = p.1 then (k, v) :: l else p :: putE k v l
def mpB (l : List (Int × List V)) : B := .map (entsF 0 l) l.length

theorem under_map {t key elem : TypeId} (h : P.underlying t = some (.map key elem)) (w : World) : (underlying t).run P w = .ok (.map key elem) w := run_under h w
theorem checkKey_int {key : TypeId} {k : IntKind} (h : P.underlying key = some (.int k)) (e : Bool) (n : Int) (w : World) : (Instr.checkKey e 10000 key (.int .i64 n)).run P w = .ok () w := by
 rw [show (10000 : Nat) = 9999 + 1 from rfl, Instr.checkKey]
 simp only [Sem.run_bind, run_under h, Result.andThen_ok, Sem.run_pure]
theorem findNow_ok {U : Imm} {k : Int} : ∀ (l : List (Int × List V)) (i j : Nat) (es : List MapEntry), EntsRel U (entsF i l) es →
  (findE k l = none ∧ Instr.findNow (.int .i64) (.int .i64 k) es j = some none) ∨ ∃ q x, findE k l = some q ∧ ∃ m, j ≤ m ∧ (∃ e, es[m - j]? = some e ∧ e.val = x ∧ e.key = .int .i64 k) ∧ VRel U Env.none (.agg q) x ∧ Instr.findNow (.int .i64) (.int .i64 k) es j = some (some (m, x))
 | [], i, j, es, h => by
  rw [entsF, EntsRel] at h; subst h
  exact .inl ⟨rfl, rfl⟩
 | p :: l, i, j, es, h => by
  rw [entsF, EntsRel] at h
  obtain ⟨e, r, rfl, h0, h1, h2, h3⟩ := h
  rw [VRel] at h1
  by_cases hk : k = p.1
  ·refine .inr ⟨p.2, e.val, by rw [findE, if_pos hk], j, Nat.le_refl _, ⟨e, by simp, rfl, by rw [h1, hk]⟩, h2, ?_⟩
   simp [Instr.findNow, Instr.sameNow, h1, hk]
  ·have hb : (k == p.1) = false := by simpa using hk
   rcases findNow_ok l (i + 1) (j + 1) r h3 with ⟨g1, g2⟩ | ⟨q, x, g1, m, g2, ⟨e', g3, g4, g6⟩, g7, g8⟩
   ·refine .inl ⟨by rw [findE, if_neg hk]; exact g1, ?_⟩
    simp only [Instr.findNow, Instr.sameNow, h1, if_true, hb, g2]
   ·refine .inr ⟨q, x, by rw [findE, if_neg hk]; exact g1, m, by omega, ⟨e', ?_, g4, g6⟩, g7, ?_⟩
    ·rw [show m - j = (m - (j + 1)) + 1 by omega]; simpa using g3
    ·simp only [Instr.findNow, Instr.sameNow, h1, if_true, hb, g8]
theorem findKey_ok {key : TypeId} {U : Imm} {k : Int} {l : List (Int × List V)} {es : List MapEntry} (hk : P.underlying key = some (.int .i64)) (h : EntsRel U (entsF 0 l) es) (w : World) :
  (findE k l = none ∧ (Instr.findKey key (.int .i64 k) es).run P w = .ok none w) ∨ ∃ q x m, findE k l = some q ∧ (∃ e, es[m]? = some e ∧ e.val = x ∧ e.key = .int .i64 k) ∧ VRel U Env.none (.agg q) x ∧ (Instr.findKey key (.int .i64 k) es).run P w = .ok (some (m, x)) w := by
 rcases findNow_ok (k := k) l 0 0 es h with ⟨g1, g2⟩ | ⟨q, x, g1, m, _, g3, g4, g5⟩
 ·exact .inl ⟨g1, by simp only [Instr.findKey, Sem.run_bind, run_under hk, Result.andThen_ok, g2, Sem.run_pure]⟩
 ·exact .inr ⟨q, x, m, g1, by simpa using g3, g4, by simp only [Instr.findKey, Sem.run_bind, run_under hk, Result.andThen_ok, g5, Sem.run_pure]⟩

/-- make(map[..]..). -/
theorem TO_make {t : TypeId} (b : Nat) : TO P (.makeMap t) [] [] (.mp (.o b)) [(.o b, mpB [])] := by
 intro ty U ρ w xs H hv hf
 have hq : ρ (.o b) = none := (hf (.o b) ⟨_, List.mem_cons_self ..⟩).resolve_left fun ⟨b, hb⟩ => absurd hb List.not_mem_nil
 refine ⟨.map (some w.heap.size), w.alloc (.map #[] 0), U, _, .inl ?_, Leaves.new (b := mpB []) (o := .map #[] 0) (sz := 0) H hq rfl ⟨#[], rfl, by rw [entsF, EntsRel]⟩ ?_⟩
 ·simp only [Prim.exec, Instr.makeMap, Sem.run_bind, Sem.run_pure, run_newObj, Result.andThen_ok]
  rfl
 ·rw [VRel]; exact ⟨_, Env.add_self, rfl, rfl⟩
theorem mp_obj {U : Imm} {ρ : Env} {m : Nm} {l : List (Int × List V)} {rest : Heap} {w : World} {x : Value} (H : HRel U ρ ((m, mpB l) :: rest) w) (hv : VRel U ρ (.mp m) x) :
  ∃ lm es, ρ m = some lm ∧ lm.real = true ∧ x = .map (some lm.blk) ∧ w.heap[lm.blk]? = some (.map es l.length) ∧ EntsRel U (entsF 0 l) es.toList := by
 rw [VRel] at hv
 obtain ⟨lm, h1, h2, rfl⟩ := hv
 obtain ⟨o, g1, ⟨es, rfl, g2⟩, _⟩ := H.real (List.mem_cons_self ..) h1 h2
 exact ⟨lm, es, h1, h2, rfl, g1, g2⟩
theorem run_getMap {w : World} {r c : Nat} {es : Array MapEntry} (h : w.heap[r]? = some (.map es c)) : (getObj r).run P w = .ok (.map es c) w := by simp [getObj, Sem.run, h]
/-- m[k]: what is there, or the zero value. -/
theorem TO_look {t key elem : TypeId} {ie : TypeInfo} {zs : List V} {za : Array Value} (hu : P.underlying t = some (.map key elem)) (hk : P.underlying key = some (.int .i64)) (hz : ∀ w, (zeroValue elem).run P w = .ok (.agg za) w)
  (hzs : ∀ U, CsRel U Env.none zs za.toList) (m : Nm) (l : List (Int × List V)) (k : Int) (ok : Bool) :
  TO P (.lookup t ok) [.mp m, .int .i64 k] [(m, mpB l)] (match ok with | true => .tup [.agg ((findE k l).getD zs), .bool (findE k l).isSome] | false => .agg ((findE k l).getD zs)) [(m, mpB l)] := by
 intro ty U ρ w xs H hv _
 obtain ⟨x, y, rfl, h1, h2⟩ := T_one2 hv
 rw [VRel] at h2
 subst h2
 obtain ⟨lm, es, e1, e2, rfl, g1, g2⟩ := mp_obj H h1
 have run : ∃ c : Array Value, CsRel U Env.none ((findE k l).getD zs) c.toList ∧ (Instr.lookup t (.map (some lm.blk)) (.int .i64 k) ok).run P w = .ok (if ok then .tuple #[.agg c, .bool (findE k l).isSome] else .agg c) w := by
  rcases findKey_ok (P := P) (k := k) hk g2 w with ⟨f1, f2⟩ | ⟨q, x, i, f1, _, f3, f4⟩
  ·refine ⟨za, by rw [f1]; exact hzs U, ?_⟩
   simp only [Instr.lookup, Sem.run_bind, run_under hu, Result.andThen_ok, run_getMap g1, Sem.run_pure, checkKey_int hk, f2, hz, f1, Option.isSome_none]
  ·rw [VRel] at f3
   obtain ⟨c, rfl, f5⟩ := f3
   refine ⟨c, by rw [f1]; exact f5, ?_⟩
   simp only [Instr.lookup, Sem.run_bind, run_under hu, Result.andThen_ok, run_getMap g1, Sem.run_pure, checkKey_int hk, f4, f1, Option.isSome_some]
 obtain ⟨c, hc, hr⟩ := run
 have hc' : CsRel U ρ ((findE k l).getD zs) c.toList := CsRel.mono (Imm.le_refl _) (Env.none_le _) hc
 refine ⟨if ok then .tuple #[.agg c, .bool (findE k l).isSome] else .agg c, w, U, ρ, .inl ?_, Leaves.same H ?_ rfl⟩
 ·simp only [Prim.exec, Sem.run_bind, hr, Result.andThen_ok, Sem.run_pure]
 ·cases ok with
  | true =>
   simp only [if_true]
   rw [VRel]
   refine ⟨_, rfl, ?_⟩
   rw [VsRel]
   refine ⟨_, _, rfl, by rw [VRel]; exact ⟨c, rfl, hc'⟩, ?_⟩
   rw [VsRel]
   exact ⟨_, _, rfl, by rw [VRel], by rw [VsRel]⟩
  | false =>
   simp only [Bool.false_eq_true, if_false]
   rw [VRel]
   exact ⟨c, rfl, hc'⟩
theorem getD_some {α : Type} {o : Option α} {a : α} (h : o = some a) {d : α} : o.getD d = a := by rw [h]; rfl
theorem ents_put {U : Imm} {k : Int} {v : List V} {y : Value} (hv : VRel U Env.none (.agg v) y) : ∀ (l : List (Int × List V)) (i j : Nat) (es : List MapEntry), EntsRel U (entsF i l) es →
  (Instr.findNow (.int .i64) (.int .i64 k) es j = some none → findE k l = none ∧ EntsRel U (entsF i (putE k v l)) (es ++ [{ key := .int .i64 k, val := y, born := i + l.length }]) ∧ (putE k v l).length = l.length + 1) ∧
  ∀ m x, Instr.findNow (.int .i64) (.int .i64 k) es j = some (some (m, x)) → j ≤ m ∧ EntsRel U (entsF i (putE k v l)) (es.modify (m - j) fun e => { e with key := .int .i64 k, val := y }) ∧ (putE k v l).length = l.length
 | [], i, j, es, h => by
  rw [entsF, EntsRel] at h; subst h
  refine ⟨fun _ => ⟨rfl, ?_, rfl⟩, fun m x hf => by simp [Instr.findNow] at hf⟩
  rw [putE, entsF, EntsRel]
  exact ⟨_, [], rfl, rfl, by rw [VRel], hv, by rw [entsF, EntsRel]⟩
 | p :: l, i, j, es, h => by
  rw [entsF, EntsRel] at h
  obtain ⟨e, r, rfl, h0, h1, h2, h3⟩ := h
  rw [VRel] at h1
  by_cases hk : k = p.1
  ·have hb : (k == p.1) = true := by simpa using hk
   refine ⟨fun hf => (by simp only [Instr.findNow, Instr.sameNow, h1, if_true, hb] at hf; cases hf), fun m x hf => ?_⟩
   simp only [Instr.findNow, Instr.sameNow, h1, if_true, hb, Option.some.injEq, Prod.mk.injEq] at hf
   obtain ⟨rfl, rfl⟩ := hf
   refine ⟨Nat.le_refl _, ?_, by rw [putE, if_pos hk]; simp⟩
   rw [putE, if_pos hk, entsF, EntsRel, Nat.sub_self]
   exact ⟨_, r, rfl, h0, by rw [VRel], hv, h3⟩
  ·have hb : (k == p.1) = false := by simpa using hk
   obtain ⟨i1, i2⟩ := ents_put hv l (i + 1) (j + 1) r h3
   constructor
   ·intro hf
    simp only [Instr.findNow, Instr.sameNow, h1, if_true, hb] at hf
    obtain ⟨g1, g2, g3⟩ := i1 hf
    refine ⟨by rw [findE, if_neg hk]; exact g1, ?_, by rw [putE, if_neg hk]; simp [g3]⟩
    rw [putE, if_neg hk, entsF, EntsRel]
    refine ⟨e, _, rfl, h0, by rw [VRel]; exact h1, h2, ?_⟩
    rw [show i + 1 + l.length = i + (p :: l).length by rw [List.length_cons]; omega] at g2
    exact g2
   ·intro m x hf
    simp only [Instr.findNow, Instr.sameNow, h1, if_true, hb] at hf
    obtain ⟨g1, g2, g3⟩ := i2 m x hf
    refine ⟨by omega, ?_, by rw [putE, if_neg hk]; simp [g3]⟩
    rw [putE, if_neg hk, entsF, EntsRel, show m - j = (m - (j + 1)) + 1 by omega]
    exact ⟨e, _, rfl, h0, by rw [VRel]; exact h1, h2, g2⟩
theorem run_setMap {w : World} {r c : Nat} {es : Array MapEntry} (h : w.heap[r]? = some (.map es c)) (o' : Obj) : (setObj r o').run P w = .ok () { w with heap := w.heap.setIfInBounds r o' } := by
 simp [setObj, Sem.run, h]
theorem keyStays (k : Int) (w : World) : (Instr.keyThatStays (.int .i64 k) (.int .i64 k)).run P w = .ok (.int .i64 k) w := by
 have : Instr.sameBits 10000 (.int .i64 k) (.int .i64 k) = true := by simp [Instr.sameBits]
 simp [Instr.keyThatStays, this]
/-- m[k] = v. -/
theorem TO_put {t key elem : TypeId} (hu : P.underlying t = some (.map key elem)) (hk : P.underlying key = some (.int .i64)) (m : Nm) (l : List (Int × List V)) (k : Int) (v : List V) (hv : V.withins (fun _ => false) v = true) :
  TO P (.mapUpdate t) [.mp m, .int .i64 k, .agg v] [(m, mpB l)] (.tup []) [(m, mpB (putE k v l))] := by
 intro ty U ρ w xs H hxs _
 rw [VsRel] at hxs
 obtain ⟨x, r, rfl, h1, hxs⟩ := hxs
 rw [VsRel] at hxs
 obtain ⟨y, r, rfl, h2, hxs⟩ := hxs
 rw [VsRel] at hxs
 obtain ⟨z, r, rfl, h3, hxs⟩ := hxs
 rw [VsRel] at hxs
 subst hxs
 rw [VRel] at h2
 subst h2
 obtain ⟨lm, es, e1, e2, rfl, g1, g2⟩ := mp_obj H h1
 have h3' : VRel U Env.none (.agg v) z := VRel.within (S := fun _ => false) (Imm.le_refl _) (fun _ _ h _ => by cases h) (by rw [V.within]; exact hv) h3
 obtain ⟨i1, i2⟩ := ents_put (k := k) h3' l 0 0 es.toList g2
 rcases findKey_ok (P := P) (k := k) hk g2 w with ⟨f1, f2⟩ | ⟨q, x, i, f1, ⟨e, f5, f6, f7⟩, f3, f4⟩
 ·have hn : Instr.findNow (.int .i64) (.int .i64 k) es.toList 0 = some none := by
   rcases findNow_ok (k := k) l 0 0 es.toList g2 with ⟨_, h⟩ | ⟨q, x, h, _⟩
   ·exact h
   ·rw [f1] at h; cases h
  obtain ⟨_, j1, j2⟩ := i1 hn
  rw [Nat.zero_add] at j1
  refine ⟨undef, { w with heap := w.heap.setIfInBounds lm.blk (.map (es.push { key := .int .i64 k, val := z, born := l.length }) (l.length + 1)) }, U, ρ, .inr ⟨?_, rfl⟩, Leaves.set H e1 e2 rfl ⟨es.push { key := .int .i64 k, val := z, born := l.length }, by rw [j2], by rw [Array.toList_push]; exact j1⟩ (by rw [VRel]; exact ⟨#[], rfl, by simp [VsRel]⟩)⟩
  simp only [Prim.exec, Instr.mapUpdate, Sem.run_bind, run_under hu, Result.andThen_ok, run_getMap g1, Sem.run_pure, checkKey_int hk, f2, run_setMap g1]
 ·have hn : Instr.findNow (.int .i64) (.int .i64 k) es.toList 0 = some (some (i, x)) := by
   have := f4
   simp only [Instr.findKey, Sem.run_bind, run_under hk, Result.andThen_ok] at this
   rcases findNow_ok (k := k) l 0 0 es.toList g2 with ⟨h, _⟩ | ⟨q', x', h, m', _, _, _, h5⟩
   ·rw [f1] at h; cases h
   ·rw [h5] at this ⊢
    simpa [Sem.run_pure] using this
  obtain ⟨_, j1, j2⟩ := i2 i x hn
  rw [Nat.sub_zero] at j1
  have hkey : (((es[i]?).map (·.key)).getD (.int .i64 k)) = .int .i64 k := by
   rw [← Array.getElem?_toList, f5]; exact f7
  refine ⟨undef, { w with heap := w.heap.setIfInBounds lm.blk (.map (es.modify i fun e => { e with key := .int .i64 k, val := z }) l.length) }, U, ρ, .inr ⟨?_, rfl⟩, Leaves.set H e1 e2 rfl ⟨es.modify i fun e => { e with key := .int .i64 k, val := z }, by rw [j2], by rw [Array.toList_modify]; exact j1⟩ (by rw [VRel]; exact ⟨#[], rfl, by simp [VsRel]⟩)⟩
  simp only [Prim.exec, Instr.mapUpdate, Sem.run_bind, run_under hu, Result.andThen_ok, run_getMap g1, Sem.run_pure, checkKey_int hk, f4, hkey, keyStays, run_setMap g1]
/-- What ranges over a map. -/
theorem TO_range {t key elem : TypeId} (hu : P.underlying t = some (.map key elem)) (m : Nm) (l : List (Int × List V)) (b : Nat) (hmb : m ≠ .o b) :
  TO P (.range t) [.mp m] [(m, mpB l)] (.ptr (.o b) 0 0 0 0) [(.o b, .iter m l.length [] l.length), (m, mpB l)] := by
 intro ty U ρ w xs H hxs hf
 rw [VsRel] at hxs
 obtain ⟨x, r, rfl, h1, hxs⟩ := hxs
 rw [VsRel] at hxs
 subst hxs
 obtain ⟨lm, es, e1, e2, rfl, g1, g2⟩ := mp_obj H h1
 have hq : ρ (.o b) = none := (hf (.o b) ⟨_, List.mem_cons_self ..⟩).resolve_left fun ⟨b', hb⟩ => by
  rw [List.mem_singleton] at hb; cases hb; exact hmb rfl
 refine ⟨.pointer (some ⟨w.heap.size, 0, none⟩), w.alloc (.mapIter (some lm.blk) l.length #[] l.length), U, _, .inl ?_, Leaves.new (b := .iter m l.length [] l.length) (o := .mapIter (some lm.blk) l.length #[] l.length) (sz := 0) H hq rfl ⟨lm, Env.le_add hq _ m lm e1, e2, rfl⟩ ?_⟩
 ·simp only [Prim.exec, Instr.range, Sem.run_bind, run_under hu, Result.andThen_ok, run_getMap g1, Sem.run_pure, run_newObj]
  rfl
 ·rw [VRel]; exact ⟨_, Env.add_self, rfl, by simp⟩
/-- The world where one block's cells are others and new blocks lie behind. -/
theorem Leaves.setIn {U ρ} {w w' : World} {val : V} {x : Value} {n : Nm} {b b' : B} {l : Loc} {o' : Obj} {rest : Heap} (H : HRel U ρ ((n, b) :: rest) w) (hl : ρ n = some l) (hr : l.real = true)
  (hsz : w.heap.size ≤ w'.heap.size) (hat : w'.heap[l.blk]? = some o') (hold : ∀ k, k < w.heap.size → k ≠ l.blk → w'.heap[k]? = w.heap[k]?)
  (hb : BRel U ρ l.sz b' o') (hv : VRel U ρ val x) (eo : w'.os = w.os ∧ w'.output = w.output) : Leaves U ρ ((n, b) :: rest) w val ((n, b') :: rest) x U ρ w' := by
 obtain ⟨o, h2, h3, h4⟩ := H.real (b := b) (by simp) hl hr
 have hlt := lt_size h2
 have hnd := H.nd
 rw [List.map_cons, List.nodup_cons] at hnd
 have hdom : ∀ m, Heap.dom ((n, b') :: rest) m → Heap.dom ((n, b) :: rest) m := fun m ⟨c, hc⟩ => by
  rcases List.mem_cons.1 hc with h | h
  ·cases h; exact ⟨b, by simp⟩
  ·exact ⟨c, List.mem_cons_of_mem _ h⟩
 have hmem : ∀ m c, (m, c) ∈ ((n, b') :: rest : Heap) → ∃ c', (m, c') ∈ ((n, b) :: rest : Heap) := fun m c h => hdom m ⟨c, h⟩
 refine ⟨hv, ⟨fun m b1 h => ?_, fun m b1 m' b2 l1 l2 h1 h2 e1 e2 r1 r2 e => ?_, ?_, fun k c hk => ?_⟩, fun _ _ _ h => h, fun _ _ h => .inr h, ⟨hsz, Imm.le_refl _, fun k hk hn => hold k hk ?_, fun m l1 hd e1 hr1 => ?_, fun _ _ h => .inl h, eo⟩⟩
 ·rcases List.mem_cons.1 h with h9 | h9
  ·cases h9
   exact ⟨l, hl, .inl ⟨hr, o', hat, hb, h4⟩⟩
  ·obtain ⟨l1, g1, g2⟩ := H.blk m b1 (List.mem_cons_of_mem _ h9)
   refine ⟨l1, g1, ?_⟩
   rcases g2 with ⟨g3, o1, g4, g5, g6⟩ | g2
   ·refine .inl ⟨g3, o1, ?_, g5, g6⟩
    rw [hold _ (lt_size g4) (fun e => hnd.1 ?_)]
    ·exact g4
    ·have := H.inj m b1 n b l1 l (List.mem_cons_of_mem _ h9) (by simp) g1 hl g3 hr e
     rw [← this]
     exact List.mem_map.2 ⟨(m, b1), h9, rfl⟩
   ·exact .inr g2
 ·obtain ⟨c1, k1⟩ := hmem m b1 h1
  obtain ⟨c2, k2⟩ := hmem m' b2 h2
  exact H.inj m c1 m' c2 l1 l2 k1 k2 e1 e2 r1 r2 e
 ·rw [List.map_cons, List.nodup_cons]; exact hnd
 ·obtain ⟨el, fr, h⟩ := H.imm k c hk
  exact ⟨el, fr, by rw [hold k (lt_size h) (fun hk' => by rw [hk', h4] at hk; cases hk)]; exact h⟩
 ·intro hk'; exact hn n l ⟨b, by simp⟩ hl hr hk'.symm
 ·obtain ⟨b1, h⟩ := hdom m hd
  exact .inr ⟨m, l1, ⟨b1, h⟩, e1, hr1, rfl⟩

theorem ents_get {U : Imm} : ∀ (l : List (Int × List V)) (i : Nat) (es : List MapEntry), EntsRel U (entsF i l) es → es.map (·.born) = List.range' i l.length ∧ ∀ (b : Nat) (e : MapEntry), es[b]? = some e → ∃ p, l[b]? = some p ∧ e.born = i + b ∧ VRel U Env.none (.int .i64 p.1) e.key ∧ VRel U Env.none (.agg p.2) e.val
 | [], i, es, h => by
  rw [entsF, EntsRel] at h; subst h
  exact ⟨rfl, fun b e h => by simp at h⟩
 | p :: l, i, es, h => by
  rw [entsF, EntsRel] at h
  obtain ⟨e, r, rfl, h0, h1, h2, h3⟩ := h
  obtain ⟨g1, g2⟩ := ents_get l (i + 1) r h3
  refine ⟨by rw [List.map_cons, g1, h0, List.length_cons, List.range'_succ], fun b e' he => ?_⟩
  cases b with
  | zero =>
   simp only [List.getElem?_cons_zero, Option.some.injEq] at he
   subst he
   exact ⟨p, rfl, h0, h1, h2⟩
  | succ b =>
   simp only [List.getElem?_cons_succ] at he
   obtain ⟨q, k1, k2, k3, k4⟩ := g2 b e' he
   exact ⟨q, by simpa using k1, by omega, k3, k4⟩
theorem it_obj {U : Imm} {ρ : Env} {it m : Nm} {l : List (Int × List V)} {seen : List Nat} {rest : Heap} {w : World} {x : Value} (H : HRel U ρ ((it, .iter m l.length seen l.length) :: (m, mpB l) :: rest) w) (hv : VRel U ρ (.ptr it 0 0 0 0) x) :
  ∃ li lm es, ρ it = some li ∧ li.real = true ∧ x = .pointer (some ⟨li.blk, 0, none⟩) ∧ w.heap[li.blk]? = some (.mapIter (some lm) l.length seen.toArray l.length) ∧ w.heap[lm]? = some (.map es l.length) ∧ EntsRel U (entsF 0 l) es.toList := by
 rw [VRel] at hv
 obtain ⟨li, h1, h2, rfl⟩ := hv
 obtain ⟨o, g1, ⟨lm, k1, k2, rfl⟩, _⟩ := H.real (List.mem_cons_self ..) h1 h2
 obtain ⟨o', g2, ⟨es, rfl, g3⟩, _⟩ := H.real (List.mem_cons_of_mem _ (List.mem_cons_self ..)) k1 k2
 exact ⟨li, lm.blk, es, h1, h2, by simp, g1, g2, g3⟩
/-- The round's key and value. -/
theorem TO_entry {it m : Nm} {l : List (Int × List V)} {seen : List Nat} {b : Nat} {p : Int × List V} (hp : l[b]? = some p) :
  TO P .entry [.ptr it 0 0 0 0] [(it, .iter m l.length (seen ++ [b]) l.length), (m, mpB l)] (.tup [.int .i64 p.1, .agg p.2]) [(it, .iter m l.length (seen ++ [b]) l.length), (m, mpB l)] := by
 intro ty U ρ w xs H hxs _
 rw [VsRel] at hxs
 obtain ⟨x, r, rfl, h1, hxs⟩ := hxs
 rw [VsRel] at hxs
 subst hxs
 obtain ⟨li, lm, es, e1, e2, rfl, g1, g2, g3⟩ := it_obj H h1
 obtain ⟨k1, k2⟩ := ents_get l 0 es.toList g3
 have hlen : es.toList.length = l.length := by have := congrArg List.length k1; simpa using this
 have hb : b < es.toList.length := by rw [hlen]; exact (List.getElem?_eq_some_iff.1 hp).1
 obtain ⟨q, j1, j2, j3, j4⟩ := k2 b _ (List.getElem?_eq_getElem hb)
 rw [hp] at j1; cases j1
 rw [Nat.zero_add] at j2
 have hr : w.heap[li.blk]? = some (.mapIter (some lm) l.length (seen.toArray.push (es.toList[b]).born) l.length) := by
  rw [g1, j2]; simp
 have hrun := run_entry_at (P := P) w li.blk lm l.length seen.toArray es l.length (es.toList[b]) hr g2 (List.getElem_mem hb) (by rw [k1]; exact List.nodup_range' ..)
 refine ⟨.tuple #[es.toList[b].key, es.toList[b].val], w, U, ρ, .inl (by simp only [Prim.exec, Sem.run_bind, hrun, Result.andThen_ok, Sem.run_pure]), Leaves.same H ?_ rfl⟩
 rw [VRel]
 refine ⟨_, rfl, ?_⟩
 rw [VsRel]
 refine ⟨_, _, rfl, VRel.mono (Imm.le_refl _) (Env.none_le _) j3, ?_⟩
 rw [VsRel]
 exact ⟨_, _, rfl, VRel.mono (Imm.le_refl _) (Env.none_le _) j4, by rw [VsRel]⟩
/-- The next round: none is left, or one that is left, whichever it be. -/
theorem next_ok {U : Imm} {ρ : Env} {it m : Nm} {l : List (Int × List V)} {seen : List Nat} {w : World} {x : Value} (ty : TypeId) (H : HRel U ρ [(it, .iter m l.length seen l.length), (m, mpB l)] w) (hv : VRel U ρ (.ptr it 0 0 0 0) x) :
  ((∀ b, b < l.length → b ∈ seen) ∧ (Instr.next x false ty).run P w = .ok (.tuple #[.bool false]) w) ∨
  ∃ b p x' w', b ∉ seen ∧ l[b]? = some p ∧ (Instr.next x false ty).run P w = .ok x' w' ∧ Leaves U ρ [(it, .iter m l.length seen l.length), (m, mpB l)] w (.tup [.bool true, .int .i64 p.1, .agg p.2]) [(it, .iter m l.length (seen ++ [b]) l.length), (m, mpB l)] x' U ρ w' := by
 obtain ⟨li, lm, es, e1, e2, rfl, g1, g2, g3⟩ := it_obj H hv
 obtain ⟨k1, k2⟩ := ents_get l 0 es.toList g3
 have hlen : es.toList.length = l.length := by have := congrArg List.length k1; simpa using this
 have hold : ∀ y ∈ es.toList, y.born < l.length := fun y hy => by
  have : y.born ∈ es.toList.map (·.born) := List.mem_map.2 ⟨y, hy, rfl⟩
  rw [k1, List.mem_range'_1] at this
  omega
 rcases run_next_at (P := P) w ty li.blk lm l.length l.length seen.toArray es l.length g1 g2 hold (Nat.le_refl _) with ⟨h0, hr⟩ | ⟨e, he, w1, hw1, hr⟩
 ·refine .inl ⟨fun b hb => ?_, hr⟩
  rw [← hlen] at hb
  have hm : es.toList[b] ∉ (leftOf es seen.toArray).toList := by
   have : (leftOf es seen.toArray).toList = [] := by simpa using h0
   rw [this]; exact List.not_mem_nil
  obtain ⟨q, _, j2, _, _⟩ := k2 b _ (List.getElem?_eq_getElem hb)
  by_cases hs : b ∈ seen
  ·exact hs
  ·refine (hm ?_).elim
   unfold leftOf
   simp only [Array.toList_filter, List.mem_filter]
   refine ⟨List.getElem_mem hb, ?_⟩
   rw [j2]
   simpa using hs
 ·unfold leftOf at he
  simp only [Array.toList_filter, List.mem_filter] at he
  obtain ⟨he1, he2⟩ := he
  obtain ⟨b, hb, rfl⟩ := List.getElem_of_mem he1
  obtain ⟨q, j1, j2, j3, j4⟩ := k2 b _ (List.getElem?_eq_getElem hb)
  rw [Nat.zero_add] at j2
  have hh : w1.heap = w.heap := by rcases hw1 with rfl | rfl <;> rfl
  have ho : w1.os = w.os ∧ w1.output = w.output := by rcases hw1 with rfl | rfl <;> exact ⟨rfl, rfl⟩
  have hlt := lt_size g1
  refine .inr ⟨b, q, _, _, ?_, j1, hr, ?_⟩
  ·rw [j2] at he2; simpa using he2
  ·have L := Leaves.setIn (w' := Go.ChangeMaps.setBlock w1 li.blk (.mapIter (some lm) l.length (seen.toArray.push (es.toList[b]).born) l.length)) (val := .tup [.bool true, .int .i64 q.1, .agg q.2]) (x := .tuple #[.bool true, (es.toList[b]).key, (es.toList[b]).val]) (b' := .iter m l.length (seen ++ [b]) l.length) (o' := .mapIter (some lm) l.length (seen.toArray.push (es.toList[b]).born) l.length) H e1 e2
    (by simp [Go.ChangeMaps.setBlock, hh]) (by simp [Go.ChangeMaps.setBlock, hh, hlt]) (fun k hk hne => by simp [Go.ChangeMaps.setBlock, hh, Array.getElem?_setIfInBounds, Ne.symm hne]) ?_ ?_ (by simp [Go.ChangeMaps.setBlock, ho])
   ·exact L
   ·obtain ⟨o, g1', ⟨lm', k1', k2', ee⟩, _⟩ := H.real (List.mem_cons_self ..) e1 e2
    rw [g1] at g1'; cases g1'
    cases ee
    exact ⟨lm', k1', k2', by rw [j2]; simp⟩
   ·rw [VRel]
    refine ⟨_, rfl, ?_⟩
    rw [VsRel]
    refine ⟨_, _, rfl, by rw [VRel], ?_⟩
    rw [VsRel]
    refine ⟨_, _, rfl, VRel.mono (Imm.le_refl _) (Env.none_le _) j3, ?_⟩
    rw [VsRel]
    exact ⟨_, _, rfl, VRel.mono (Imm.le_refl _) (Env.none_le _) j4, by rw [VsRel]⟩
end Sy
namespace Sy
open Go
def cntX (N : Nat) (X : Nat → Bool) : Nat := (List.range N).countP X
theorem cntX_succ (N : Nat) (X : Nat → Bool) : cntX (N + 1) X = cntX N X + (if X N = true then 1 else 0) := by
 rw [cntX, List.range_succ, List.countP_append, List.countP_singleton]; rfl
theorem cntX_le (N : Nat) (X : Nat → Bool) : cntX N X ≤ N := by
 have := List.countP_le_length (p := X) (l := List.range N)
 rwa [List.length_range] at this
theorem cntX_congr {N : Nat} {X Y : Nat → Bool} (h : ∀ q, q < N → X q = Y q) : cntX N X = cntX N Y := by
 induction N with
 | zero => rfl
 | succ n ih => rw [cntX_succ, cntX_succ, ih fun q hq => h q (by omega), h n (by omega)]
theorem cntX_none {N : Nat} : cntX N (fun _ => false) = 0 := by
 induction N with
 | zero => rfl
 | succ n ih => rw [cntX_succ, ih]; rfl
theorem cntX_all {N : Nat} {X : Nat → Bool} (h : ∀ q, q < N → X q = true) : cntX N X = N := by
 induction N with
 | zero => rfl
 | succ n ih => rw [cntX_succ, ih fun q hq => h q (by omega), h n (by omega)]; rfl
theorem cntX_far {N a : Nat} {X : Nat → Bool} (h : N ≤ a) : cntX N (fun q => X q || decide (q = a)) = cntX N X :=
 cntX_congr fun q hq => by rw [decide_eq_false (by omega), Bool.or_false]
theorem cntX_set {N a : Nat} {X : Nat → Bool} (h : a < N) (hx : X a = false) : cntX N (fun q => X q || decide (q = a)) = cntX N X + 1 := by
 induction N with
 | zero => omega
 | succ n ih =>
  rw [cntX_succ, cntX_succ]
  rcases Nat.lt_or_ge a n with h1 | h1
  ·rw [ih h1, decide_eq_false (by omega), Bool.or_false]; omega
  ·obtain rfl : a = n := by omega
   rw [cntX_far (Nat.le_refl _), hx]; simp
theorem cntX_and (N : Nat) (X Y : Nat → Bool) : cntX N X + cntX N Y ≤ N + cntX N (fun q => X q && Y q) := by
 induction N with
 | zero => exact Nat.le_refl _
 | succ n ih =>
  rw [cntX_succ, cntX_succ, cntX_succ]
  cases X n <;> cases Y n <;> simp <;> omega
/-- The node that comes at a place. -/
def atN (N : Nat) (l : List Int) (i : Nat) : Nat := if i < l.length then (IntKind.wrap .u64 (l.getD i 0) % (N : Int)).toNat else ((i : Int) % (N : Int)).toNat
def chX (N : Nat) (l : List Int) : Nat → Nat → Bool
 | 0 => fun _ => false
 | i + 1 => fun q => chX N l i q || decide (q = atN N l i)
theorem chX_succ (N : Nat) (l : List Int) (i q : Nat) : chX N l (i + 1) q = (chX N l i q || decide (q = atN N l i)) := rfl
theorem atN_lt {N : Nat} (h : 0 < N) (l : List Int) (i : Nat) : atN N l i < N := by
 unfold atN
 have h1 := Int.emod_lt_of_pos (IntKind.wrap .u64 (l.getD i 0)) (b := (N : Int)) (by omega)
 have h2 := Int.emod_nonneg (IntKind.wrap .u64 (l.getD i 0)) (b := (N : Int)) (by omega)
 have h3 := Int.emod_lt_of_pos (i : Int) (b := (N : Int)) (by omega)
 have h4 := Int.emod_nonneg (i : Int) (b := (N : Int)) (by omega)
 split <;> omega
theorem chX_old {N : Nat} {l : List Int} {i : Nat} (h : chX N l i (atN N l i) = true) (q : Nat) : chX N l (i + 1) q = chX N l i q := by
 rw [chX_succ]
 by_cases hq : q = atN N l i
 ·subst hq; rw [h]; rfl
 ·rw [decide_eq_false hq, Bool.or_false]
theorem chX_cnt_old {N : Nat} {l : List Int} {i : Nat} (h : chX N l i (atN N l i) = true) : cntX N (chX N l (i + 1)) = cntX N (chX N l i) := cntX_congr fun q _ => chX_old h q
theorem chX_cnt_new {N : Nat} (h0 : 0 < N) {l : List Int} {i : Nat} (h : chX N l i (atN N l i) = false) : cntX N (chX N l (i + 1)) = cntX N (chX N l i) + 1 := cntX_set (atN_lt h0 l i) h
theorem chX_mono {N : Nat} {l : List Int} {i j q : Nat} (h : i ≤ j) (hx : chX N l i q = true) : chX N l j q = true := by
 induction j with
 | zero =>
  obtain rfl : i = 0 := by omega
  exact hx
 | succ j ih =>
  rcases Nat.lt_or_ge i (j + 1) with h1 | h1
  ·rw [chX_succ, ih (by omega)]; rfl
  ·obtain rfl : i = j + 1 := by omega
   exact hx
theorem chX_full {N : Nat} (h0 : 0 < N) (l : List Int) : cntX N (chX N l (l.length + N)) = N := by
 refine cntX_all fun q hq => ?_
 obtain ⟨i, h1, h2, h3⟩ : ∃ i, l.length ≤ i ∧ i < l.length + N ∧ i % N = q := by
  refine ⟨l.length + (q + N - l.length % N) % N, by omega, ?_, ?_⟩
  ·have := Nat.mod_lt (q + N - l.length % N) h0; omega
  ·have h1 := Nat.mod_lt l.length h0
   rw [Nat.add_mod_mod, show l.length + (q + N - l.length % N) = q + N + N * (l.length / N) by have := Nat.div_add_mod l.length N; omega, Nat.add_mul_mod_self_left, Nat.add_mod_right, Nat.mod_eq_of_lt hq]
 refine chX_mono (i := i + 1) (by omega) ?_
 have : atN N l i = q := by
  rw [atN, if_neg (by omega), ← h3]
  exact Int.toNat_natCast (i % N)
 rw [chX_succ, this, decide_eq_true rfl, Bool.or_true]
theorem chX_stop {N M : Nat} (h0 : 0 < M) (h1 : M ≤ N) (l : List Int) : ∃ m, m ≤ l.length + N ∧ (∀ k, k < m → cntX N (chX N l k) < M) ∧ cntX N (chX N l m) = M := by
 rcases first_bad (fun k => cntX N (chX N l k) < M) (l.length + N + 1) with h | ⟨m, h2, h3, h4⟩
 ·have := h (l.length + N) (by omega)
  rw [chX_full (by omega) l] at this
  omega
 ·refine ⟨m, by omega, h3, ?_⟩
  cases m with
  | zero =>
   have : cntX N (chX N l 0) = 0 := cntX_none
   omega
  | succ m =>
   have h5 := h3 m (by omega)
   cases hc : chX N l m (atN N l m) with
   | true => rw [chX_cnt_old hc] at h4; omega
   | false => rw [chX_cnt_new (by omega) hc] at h4 ⊢; omega
end Sy
namespace Sy
open Go
variable {P : Program}
theorem getV_setV {v : V} : ∀ {l : List V} {t : Nat}, t < l.length → getV (setV l t v) t = v
 | [], t, h => absurd h (Nat.not_lt_zero _)
 | _ :: us, 0, _ => rfl
 | u :: us, t + 1, h => getV_setV (l := us) (by simpa using h)

/-- The step to the next round. -/
theorem next_region {ro : Option Nat} {p id : Nat} {st : St} {it m : Nm} {l : List (Int × List V)} {seen : List Nat} {rest : Heap} {t d0 d1 : Nat} {o0 o1 : Oper}
  (h0 : o0.op = .next (.tmp t) false) (h0d : o0.dst = some d0) (h0g : o0.guard = none) (h1 : o1.op = .extract (.tmp d0) 0) (h1d : o1.dst = some d1) (h1g : o1.guard = none)
  (ht : getV st.tmps t = .ptr it 0 0 0 0) (hd0 : d0 < st.tmps.length) (hheap : st.heap.Perm ((it, .iter m l.length seen l.length) :: (m, mpB l) :: rest)) (hp : p ≤ st.next)
  {U : Imm} {ρ : Env} {a : Act} {w : World} {Q : Exit → Act → World → Prop} (hst : StRel U ρ st a w)
  (hend : (∀ b, b < l.length → b ∈ seen) → ∀ U' ρ' a' w', StRel U' ρ' ⟨setV (setV st.tmps d0 (.tup [.bool false])) d1 (.bool false), (it, .iter m l.length seen l.length) :: (m, mpB l) :: rest, st.next, st.dfs⟩ a' w' → Turn p U ρ st.heap w U' ρ' ((it, .iter m l.length seen l.length) :: (m, mpB l) :: rest) w' → Q .normal a' w')
  (hstep : ∀ b q, b ∉ seen → l[b]? = some q → ∀ U' ρ' a' w', StRel U' ρ' ⟨setV (setV st.tmps d0 (.tup [.bool true, .int .i64 q.1, .agg q.2])) d1 (.bool true), (it, .iter m l.length (seen ++ [b]) l.length) :: (m, mpB l) :: rest, st.next, st.dfs⟩ a' w' → Turn p U ρ st.heap w U' ρ' ((it, .iter m l.length (seen ++ [b]) l.length) :: (m, mpB l) :: rest) w' → Q .normal a' w') :
  (Code.region id #[o0, o1] false).wpIn (Fw ro) 0 P Q a w := by
 refine wpIn_region ?_
 have hnd0 : ∀ c, o0.op ≠ .defer c := fun c hc => by rw [h0] at hc; cases hc
 have hnd1 : ∀ c, o1.op ≠ .defer c := fun c hc => by rw [h1] at hc; cases hc
 have hS : SR U ρ st.tmps st.dfs st.heap (fun k => st.next ≤ k) a w := ⟨hst.tmps, hst.dfs, hst.heap, hst.fresh⟩
 have hH : HRel U ρ [(it, .iter m l.length seen l.length), (m, mpB l)] w := HRel.left (b := rest) (hst.heap.perm hheap)
 have hv : VRel U ρ (.ptr it 0 0 0 0) (a.eval (.tmp t)) := by
  have := evV_rel hst.tmps (.tmp t)
  rwa [evV, ht] at this
 -- what comes behind the first operation
 have second : ∀ (vs : List V) (bb : Bool) (hp1 : Heap) {U1 : Imm} {ρ1 : Env} {a1 : Act} {w1 : World}, vs[0]? = some (.bool bb) → SR U1 ρ1 (setV st.tmps d0 (.tup vs)) st.dfs hp1 (fun k => st.next ≤ k) a1 w1 → Turn p U ρ st.heap w U1 ρ1 hp1 w1 →
   (∀ U' ρ' a' w', StRel U' ρ' ⟨setV (setV st.tmps d0 (.tup vs)) d1 (.bool bb), hp1, st.next, st.dfs⟩ a' w' → Turn p U ρ st.heap w U' ρ' hp1 w' → Q .normal a' w') → wpOpsIn (Fw ro) 0 P #[o0, o1] Q [1] a1 w1 := by
  intro vs bb hp1 U1 ρ1 a1 w1 hvs hs1 ht1 hq
  have ho : (#[o0, o1] : Array Oper)[1]? = some o1 := rfl
  rw [wpOpsIn, ho]
  simp only [Region.wanted, h1g, if_true]
  have hget : getV (setV st.tmps d0 (.tup vs)) d0 = .tup vs := getV_setV hd0
  have hpv : pureV P (evV (setV st.tmps d0 (.tup vs))) o1.op = some (.bool bb, []) := by
   rw [h1]
   simp only [pureV, evV, hget, hvs]
  have hsub : SStep P (execOp a1.eval o1) U1 ρ1 [] w1 (.bool bb) [] := pure_step hpv trivial (fun x => evV_rel hs1.tmps x) ⟨fun n b hm => absurd hm List.not_mem_nil, fun n b n' b' l l' hm => absurd hm List.not_mem_nil, List.nodup_nil, hs1.heap.imm⟩
  refine wpIn_of_leads hnd1 (step_F (F' := fun k => st.next ≤ k) (p := p) (pre := []) (post := []) (rest := hp1) (dst := o1.dst) hs1 (List.Perm.refl _) (fun _ h => h) (fun n ⟨b, hb⟩ => absurd hb List.not_mem_nil) hsub fun U' ρ' x w' hs' ht' => ?_)
  rw [wpOpsIn]
  rw [h1d] at hs' ⊢
  exact hq U' ρ' _ w' ⟨hs'.tmps, hs'.dfs, hs'.heap, hs'.fresh⟩ (ht1.trans ht')
 have ho : (#[o0, o1] : Array Oper)[0]? = some o0 := rfl
 show wpOpsIn (Fw ro) 0 P #[o0, o1] Q (List.range 2) a w
 rw [show List.range 2 = [0, 1] from rfl, wpOpsIn, ho]
 simp only [Region.wanted, h0g, if_true]
 have hx : execOp a.eval o0 = (do pure (.value (← Instr.next (a.eval (.tmp t)) false o0.type)) : Sem Next) := by simp only [execOp, h0]
 rcases next_ok (P := P) o0.type hH hv with ⟨hall, hr⟩ | ⟨b, q, x', w', hb, hq, hr, L⟩
 ·have hsub : SStep P (execOp a.eval o0) U ρ [(it, .iter m l.length seen l.length), (m, mpB l)] w (.tup [.bool false]) [(it, .iter m l.length seen l.length), (m, mpB l)] := by
   rw [hx]
   refine Goes.step ⟨.tuple #[.bool false], w, U, ρ, .inl (run_val hr), Leaves.same hH ?_ rfl⟩
   rw [VRel]
   exact ⟨_, rfl, by rw [VsRel]; exact ⟨_, _, rfl, by rw [VRel], by rw [VsRel]⟩⟩
  refine wpIn_of_leads hnd0 (step_F (F' := fun k => st.next ≤ k) (p := p) (rest := rest) (dst := o0.dst) hS hheap (fun _ h => h) (fun n hn => .inl hn) hsub fun U' ρ' x w' hs' ht' => ?_)
  rw [h0d] at hs' ⊢
  exact second [.bool false] false _ rfl hs' ht' fun U'' ρ'' a'' w'' hs'' ht'' => hend hall U'' ρ'' a'' w'' hs'' ht''
 ·have hsub : SStep P (execOp a.eval o0) U ρ [(it, .iter m l.length seen l.length), (m, mpB l)] w (.tup [.bool true, .int .i64 q.1, .agg q.2]) [(it, .iter m l.length (seen ++ [b]) l.length), (m, mpB l)] := by
   rw [hx]
   exact Goes.step ⟨x', w', U, ρ, .inl (run_val hr), L⟩
  refine wpIn_of_leads hnd0 (step_F (F' := fun k => st.next ≤ k) (p := p) (rest := rest) (dst := o0.dst) hS hheap (fun _ h => h) (fun n hn => .inl ?_) hsub fun U' ρ' x w' hs' ht' => ?_)
  ·obtain ⟨c, hc⟩ := hn
   simp only [List.mem_cons, Prod.mk.injEq, List.not_mem_nil, or_false] at hc
   rcases hc with ⟨rfl, _⟩ | ⟨rfl, _⟩
   ·exact ⟨_, List.mem_cons_self ..⟩
   ·exact ⟨_, List.mem_cons_of_mem _ (List.mem_cons_self ..)⟩
  ·rw [h0d] at hs' ⊢
   exact second _ true _ rfl hs' ht' fun U'' ρ'' a'' w'' hs'' ht'' => hstep b q hb hq U'' ρ'' a'' w'' hs'' ht''

/-- The loop: rounds in whatever order, one for each entry. -/
theorem RLoop_map {ro : Option Nat} {p id : Nat} {it m : Nm} {l : List (Int × List V)} {t d0 d1 : Nat} {o0 o1 : Oper} {rst : Code} {e : Exit} {Fin : St} (I : List Nat → St) (rest : List Nat → Heap)
  (h0 : o0.op = .next (.tmp t) false) (h0d : o0.dst = some d0) (h0g : o0.guard = none) (h1 : o1.op = .extract (.tmp d0) 0) (h1d : o1.dst = some d1) (h1g : o1.guard = none)
  (ht : ∀ s, getV (I s).tmps t = .ptr it 0 0 0 0) (hd0 : ∀ s, d0 < (I s).tmps.length) (hheap : ∀ s, (I s).heap = (it, .iter m l.length s l.length) :: (m, mpB l) :: rest s) (hp : ∀ s, p ≤ (I s).next)
  (hround : ∀ s b q, b ∉ s → (∀ x, x ∈ s → x < l.length) → l[b]? = some q → R P ro p rst ⟨setV (setV (I s).tmps d0 (.tup [.bool true, .int .i64 q.1, .agg q.2])) d1 (.bool true), (it, .iter m l.length (s ++ [b]) l.length) :: (m, mpB l) :: rest s, (I s).next, (I s).dfs⟩ .normal (I (s ++ [b])))
  (hend : ∀ s, (∀ b, b < l.length → b ∈ s) → (∀ x, x ∈ s → x < l.length) → R P ro p rst ⟨setV (setV (I s).tmps d0 (.tup [.bool false])) d1 (.bool false), (it, .iter m l.length s l.length) :: (m, mpB l) :: rest s, (I s).next, (I s).dfs⟩ e Fin) (he : e ≠ .normal) :
  RLoop P ro p (.seq (.region id #[o0, o1] false) rst) (l.length + 1) (I []) e Fin := by
 have key : ∀ k s, (∀ x, x ∈ s → x < l.length) → l.length - cntX l.length (fun q => decide (q ∈ s)) ≤ k → RLoop P ro p (.seq (.region id #[o0, o1] false) rst) (k + 1) (I s) e Fin := by
  intro k
  induction k with
  | zero =>
   intro s hb hs U ρ a w Q hst hq
   rw [roundsIn_succ]
   refine wpIn_seq (next_region h0 h0d h0g h1 h1d h1g (ht s) (hd0 s) (by rw [hheap s]) (hp s) hst (fun hall U1 ρ1 a1 w1 g1 t1 => ?_) fun b q hbs hl U1 ρ1 a1 w1 g1 t1 => ?_)
   ·refine hend s hall hb U1 ρ1 a1 w1 _ g1 fun U2 ρ2 a2 w2 g2 t2 => ?_
    have := hq U2 ρ2 a2 w2 g2 (t1.trans t2)
    cases e <;> first | exact (he rfl).elim | exact this
   ·exfalso
    have hlt := (List.getElem?_eq_some_iff.1 hl).1
    have h2 := cntX_set (X := fun q => decide (q ∈ s)) hlt (decide_eq_false hbs)
    have h3 := cntX_le l.length (fun q => (fun q => decide (q ∈ s)) q || decide (q = b))
    have h4 : cntX l.length (fun q => decide (q ∈ s) || decide (q = b)) ≤ l.length := h3
    have h5 : cntX l.length (fun q => decide (q ∈ s) || decide (q = b)) = cntX l.length (fun q => decide (q ∈ s)) + 1 := h2
    omega
  | succ k ih =>
   intro s hb hs U ρ a w Q hst hq
   rw [roundsIn_succ]
   refine wpIn_seq (next_region h0 h0d h0g h1 h1d h1g (ht s) (hd0 s) (by rw [hheap s]) (hp s) hst (fun hall U1 ρ1 a1 w1 g1 t1 => ?_) fun b q hbs hl U1 ρ1 a1 w1 g1 t1 => ?_)
   ·refine hend s hall hb U1 ρ1 a1 w1 _ g1 fun U2 ρ2 a2 w2 g2 t2 => ?_
    have := hq U2 ρ2 a2 w2 g2 (t1.trans t2)
    cases e <;> first | exact (he rfl).elim | exact this
   ·have hlt := (List.getElem?_eq_some_iff.1 hl).1
    have h5 : cntX l.length (fun q => decide (q ∈ s) || decide (q = b)) = cntX l.length (fun q => decide (q ∈ s)) + 1 := cntX_set (X := fun q => decide (q ∈ s)) hlt (decide_eq_false hbs)
    have h6 : cntX l.length (fun q => decide (q ∈ s ++ [b])) = cntX l.length (fun q => decide (q ∈ s) || decide (q = b)) := cntX_congr fun q _ => by simp
    refine hround s b q hbs hb hl U1 ρ1 a1 w1 _ g1 fun U2 ρ2 a2 w2 g2 t2 => ?_
    exact ih (s ++ [b]) (fun x hx => by
     rcases List.mem_append.1 hx with h | h
     ·exact hb x h
     ·rw [List.mem_singleton] at h; omega) (by omega) U2 ρ2 a2 w2 Q g2 fun U3 ρ3 a3 w3 g3 t3 => hq U3 ρ3 a3 w3 g3 ((t1.trans t2).trans t3)
 exact key l.length [] (fun x hx => absurd hx List.not_mem_nil) (by omega)
end Sy
namespace Go.Proofs.Ytpallipnhmoipaa
open Go Sy Go.Proofs
/-- A mark: its epoch, its digest, its tag. -/
abbrev MK := Int × List Int × List Int
def MK.c (x : MK) : List V := [.int .i64 x.1, .seg .u8 32 x.2.1, .seg .u8 16 x.2.2]
def zM : MK := (0, List.replicate 32 0, List.replicate 16 0)
def mkL (l : List (Int × MK)) : List (Int × List V) := l.map fun p => (p.1, MK.c p.2)
def getM (k : Int) : List (Int × MK) → Option MK
 | [] => none
 | p :: l => if k = p.1 then some p.2 else getM k l
def putM (k : Int) (v : MK) : List (Int × MK) → List (Int × MK)
 | [] => [(k, v)]
 | p :: l => if k = p.1 then (k, v) :: l else p :: putM k v l
def ofM (l : List (Int × MK)) (k : Int) : MK := (getM k l).getD zM
def mB (l : List (Int × MK)) : B := mpB (mkL l)
def mH (m q : Nat) (n : Int) (l : List (Int × MK)) : Heap := [(.o m, .flat [.int .i64 n, .mp (.o q)]), (.o q, mB l)]
def mP (m : Nat) : V := .ptr (.o m) 0 0 0 0
def mkPr (l : List (Int × MK)) : Prim → List V → Heap → Nat → List Cl := fun pr vs _ lo => match pr with
 | .makeMap _ => [{ val := .mp (.o lo), post := [(.o lo, mB [])] }]
 | .lookup _ ok => match vs with
  | [.mp q, .int _ k] => match ok with
   | true => [{ rd := [q], val := .tup [.agg (ofM l k).c, .bool (getM k l).isSome] }]
   | false => [{ rd := [q], val := .agg (ofM l k).c }]
  | _ => []
 | .mapUpdate _ => match vs with
  | [.mp q, .int _ k, .agg [.int _ e, .seg _ _ d, .seg _ _ t]] => [{ pre := [q], val := .tup [], post := [(q, mB (putM k (e, d, t) l))] }]
  | _ => []
 | _ => []
noncomputable def bdNn0 : Bd := { f := Try.f48, args := [.pnil], kb := kb0 }
noncomputable def bdNn1 (n : Int) : Bd := { f := Try.f48, args := [mP 0], pre := [(.o 0, .flat [.int .i64 n, .mpnil])], base := 1, kb := kb0, names := fun _ => [.o 0] }
noncomputable def bdNn (n : Int) : Bd := { f := Try.f48, args := [mP 0], pre := [(.o 0, .flat [.int .i64 n, .mp (.o 1)])], base := 2, kb := kb0, names := fun _ => [.o 0] }
noncomputable def bdNw (n : Int) (g : Bool) : Bd := { f := Try.f29, args := [.int .i64 n], kb := { db := dbQ [(12, cVal (.bool g))], pr := mkPr [] }, names := fun t => match getV t.tmps 2 with | .ptr a _ _ _ _ => [a, .o 320] | _ => [] }
noncomputable def noDb (b : Bool) : Nat → List V → Heap → Nat → List Cl := dbQ [(48, fun a _ _ => match a with | [.ptr m _ _ _ _] => [{ rd := [m], val := .bool b }] | _ => [{ val := .bool b }])]
def dgV (d : List Int) : V := .agg [.seg .u8 32 d]
def tgV (t : List Int) : V := .agg [.seg .u8 16 t]
noncomputable def bdOf (n : Int) (l : List (Int × MK)) (k : Int) : Bd := { f := Try.f38, args := [mP 0, .int .i64 k], pre := mH 0 1 n l, base := 2, kb := { db := noDb false, pr := mkPr l }, names := fun _ => [.o 0, .o 1] }
noncomputable def bdO0 (k : Int) : Bd := { f := Try.f38, args := [.pnil, .int .i64 k], kb := { db := noDb true } }
noncomputable def bdO1 (n k : Int) : Bd := { f := Try.f38, args := [mP 0, .int .i64 k], pre := [(.o 0, .flat [.int .i64 n, .mpnil])], base := 1, kb := { db := noDb true }, names := fun _ => [.o 0] }
noncomputable def bdAm (n : Int) (l : List (Int × MK)) (k e : Int) (d t : List Int) : Bd := { f := Try.f31, args := [mP 0, .int .i64 k, .int .i64 e, dgV d, tgV t], pre := mH 0 1 n l, base := 2, kb := { db := noDb false, pr := mkPr l }, names := fun _ => [.o 0, .o 1] }
noncomputable def bdA0 (k e : Int) (d t : List Int) : Bd := { f := Try.f31, args := [.pnil, .int .i64 k, .int .i64 e, dgV d, tgV t], kb := { db := noDb true } }
noncomputable def bdA1 (n k e : Int) (d t : List Int) : Bd := { f := Try.f31, args := [mP 0, .int .i64 k, .int .i64 e, dgV d, tgV t], pre := [(.o 0, .flat [.int .i64 n, .mpnil])], base := 1, kb := { db := noDb true }, names := fun _ => [.o 0] }
end Go.Proofs.Ytpallipnhmoipaa
namespace Go.Proofs.Ytpallipnhmoipaa
open Go Sy Go.Proofs
theorem bdNn0_p1 :
  along Try.prog (bdNn0) [true] = (some (.bool true, [], [q2]) : Option (V × Heap × List Prop)) := by kernel_rfl

theorem bdNn1_p0 (n : Int) :
  along Try.prog (bdNn1 n) [false] = (some (.bool true, [(.o 0, .flat [.int .i64 n, V.mpnil])], [q false]) : Option (V × Heap × List Prop)) := by kernel_rfl

theorem bdNn_p0 (n : Int) :
  along Try.prog (bdNn n) [false] = (some (.bool false, [(.o 0, .flat [.int .i64 n, .mp (.o 1)])], [q false]) : Option (V × Heap × List Prop)) := by kernel_rfl

theorem bdNw_p1 (n : Int) (g : Bool) :
  along Try.prog (bdNw n g) [true] = (some (.pnil, [], [T Try.prog 12 [.int .i64 n] [] (.bool g) [], (!g) = true]) : Option (V × Heap × List Prop)) := by kernel_rfl
theorem bdNw_p0 (n : Int) (g : Bool) :
  along Try.prog (bdNw n g) [false] = (some (.ptr (.o 448) 0 0 0 0, [(.o 448, .flat [.int .i64 n, .mp (.o 320)]), (.o 320, .map [] 0)], [T Try.prog 12 [.int .i64 n] [] (.bool g) [], (!g) = false, TO Try.prog (Prim.makeMap (62 : Nat)) [] [] (V.mp (Nm.o (nat_lit 320))) [(Nm.o (nat_lit 320), B.map [] (nat_lit 0))]]) : Option (V × Heap × List Prop)) := by kernel_rfl

theorem bdOf_p0 (n : Int) (l : List (Int × MK)) (k : Int) :
  along Try.prog (bdOf n l k) [false] = (some (.tup [.int .i64 (ofM l k).1, .agg [.seg .u8 32 (Prod.snd (ofM l k)).1]], [(.o 0, .flat [.int .i64 n, .mp (.o 1)]), (.o 1, .map (entsF 0 (mkL l)) (List.length (mkL l)))], [T Try.prog 48 [.ptr (.o 0) 0 0 0 0] [(.o 0, .flat [.int .i64 n, .mp (.o 1)])] (.bool false) [(.o 0, .flat [.int .i64 n, .mp (.o 1)])], q false, TO Try.prog (Prim.lookup (62 : Nat) false) [V.mp (Nm.o (1 : Nat)), V.int IntKind.i64 k] [(Nm.o (1 : Nat), B.map (entsF (0 : Nat) (mkL l)) (List.length (mkL l)))] (V.agg [V.int IntKind.i64 (ofM l k).1, V.seg IntKind.u8 (32 : Nat) (Prod.snd (ofM l k)).1, V.seg IntKind.u8 (16 : Nat) (Prod.snd (ofM l k)).2]) [(Nm.o (1 : Nat), B.map (entsF (0 : Nat) (mkL l)) (List.length (mkL l)))]]) : Option (V × Heap × List Prop)) := by kernel_rfl

theorem bdO0_p1 (k : Int) :
  along Try.prog (bdO0 k) [true] = (some (.tup [.int .i64 0, .agg [.seg .u8 32 z32]], [], [T Try.prog 48 [.pnil] [] (.bool true) [], q2]) : Option (V × Heap × List Prop)) := by kernel_rfl

theorem bdO1_p1 (n : Int) (k : Int) :
  along Try.prog (bdO1 n k) [true] = (some (.tup [.int .i64 0, .agg [.seg .u8 32 z32]], [(.o 0, .flat [.int .i64 n, V.mpnil])], [T Try.prog 48 [.ptr (.o 0) 0 0 0 0] [(.o 0, .flat [.int .i64 n, V.mpnil])] (.bool true) [(.o 0, .flat [.int .i64 n, V.mpnil])], q2]) : Option (V × Heap × List Prop)) := by kernel_rfl

noncomputable def bdAm_c (n : Int) (l : List (Int × MK)) (k : Int) (e : Int) (d : List Int) (t : List Int) : Nat → List Prop
 | 0 => [T Try.prog 48 [.ptr (.o 0) 0 0 0 0] [(.o 0, .flat [.int .i64 n, .mp (.o 1)])] (.bool false) [(.o 0, .flat [.int .i64 n, .mp (.o 1)])], q false, TO Try.prog (Prim.lookup (62 : Nat) false) [V.mp (Nm.o (1 : Nat)), V.int IntKind.i64 k] [(Nm.o (1 : Nat), B.map (entsF (0 : Nat) (mkL l)) (List.length (mkL l)))] (V.agg [V.int IntKind.i64 (ofM l k).1, V.seg IntKind.u8 (32 : Nat) (Prod.snd (ofM l k)).1, V.seg IntKind.u8 (16 : Nat) (Prod.snd (ofM l k)).2]) [(Nm.o (1 : Nat), B.map (entsF (0 : Nat) (mkL l)) (List.length (mkL l)))]]
 | _ => []
theorem bdAm_p011 (n : Int) (l : List (Int × MK)) (k : Int) (e : Int) (d : List Int) (t : List Int) :
 along Try.prog (bdAm n l k e d t) [false, true, true] = (some (.int .i64 2, [(.o 0, .flat [.int .i64 n, .mp (.o 1)]), (.o 1, .map (entsF 0 (mkL l)) (List.length (mkL l)))], bdAm_c n l k e d t 0 ++ [decide (k < (0 : Int)) = true, q2]) : Option (V × Heap × List Prop)) := by kernel_rfl
theorem bdAm_p001 (n : Int) (l : List (Int × MK)) (k : Int) (e : Int) (d : List Int) (t : List Int) :
 along Try.prog (bdAm n l k e d t) [false, false, true] = (some (.int .i64 2, [(.o 0, .flat [.int .i64 n, .mp (.o 1)]), (.o 1, .map (entsF 0 (mkL l)) (List.length (mkL l)))], bdAm_c n l k e d t 0 ++ [decide (k < (0 : Int)) = false, decide (n ≤ k) = true]) : Option (V × Heap × List Prop)) := by kernel_rfl
theorem bdAm_p00011 (n : Int) (l : List (Int × MK)) (k : Int) (e : Int) (d : List Int) (t : List Int) :
 along Try.prog (bdAm n l k e d t) [false, false, false, true, true] = (some (.int .i64 2, [(.o 0, .flat [.int .i64 n, .mp (.o 1)]), (.o 1, .map (entsF 0 (mkL l)) (List.length (mkL l)))], bdAm_c n l k e d t 0 ++ [decide (k < (0 : Int)) = false, decide (n ≤ k) = false, decide (e < (1 : Int)) = true, q2]) : Option (V × Heap × List Prop)) := by kernel_rfl
theorem bdAm_p00001 (n : Int) (l : List (Int × MK)) (k : Int) (e : Int) (d : List Int) (t : List Int) :
 along Try.prog (bdAm n l k e d t) [false, false, false, false, true] = (some (.int .i64 2, [(.o 0, .flat [.int .i64 n, .mp (.o 1)]), (.o 1, .map (entsF 0 (mkL l)) (List.length (mkL l)))], bdAm_c n l k e d t 0 ++ [decide (k < (0 : Int)) = false, decide (n ≤ k) = false, decide (e < (1 : Int)) = false, decide ((1048576 : Int) < e) = true]) : Option (V × Heap × List Prop)) := by kernel_rfl
theorem bdAm_p000001 (n : Int) (l : List (Int × MK)) (k : Int) (e : Int) (d : List Int) (t : List Int) :
 along Try.prog (bdAm n l k e d t) [false, false, false, false, false, true] = (some (.int .i64 0, [(.o 0, .flat [.int .i64 n, .mp (.o 1)]), (.o 1, .map (entsF 0 (mkL l)) (List.length (mkL l)))], bdAm_c n l k e d t 0 ++ [decide (k < (0 : Int)) = false, decide (n ≤ k) = false, decide (e < (1 : Int)) = false, decide ((1048576 : Int) < e) = false, (decide ((ofM l k).1 = e) && (decide ((Prod.snd (ofM l k)).1 = d) && true)) = true]) : Option (V × Heap × List Prop)) := by kernel_rfl
theorem bdAm_p0000001 (n : Int) (l : List (Int × MK)) (k : Int) (e : Int) (d : List Int) (t : List Int) :
 along Try.prog (bdAm n l k e d t) [false, false, false, false, false, false, true] = (some (.int .i64 181, [(.o 0, .flat [.int .i64 n, .mp (.o 1)]), (.o 1, .map (entsF 0 (mkL l)) (List.length (mkL l)))], bdAm_c n l k e d t 0 ++ [decide (k < (0 : Int)) = false, decide (n ≤ k) = false, decide (e < (1 : Int)) = false, decide ((1048576 : Int) < e) = false, (decide ((ofM l k).1 = e) && (decide ((Prod.snd (ofM l k)).1 = d) && true)) = false, decide ((ofM l k).1 = e) = true]) : Option (V × Heap × List Prop)) := by kernel_rfl
theorem bdAm_p00000001 (n : Int) (l : List (Int × MK)) (k : Int) (e : Int) (d : List Int) (t : List Int) :
 along Try.prog (bdAm n l k e d t) [false, false, false, false, false, false, false, true] = (some (.int .i64 90, [(.o 0, .flat [.int .i64 n, .mp (.o 1)]), (.o 1, .map (entsF 0 (mkL l)) (List.length (mkL l)))], bdAm_c n l k e d t 0 ++ [decide (k < (0 : Int)) = false, decide (n ≤ k) = false, decide (e < (1 : Int)) = false, decide ((1048576 : Int) < e) = false, (decide ((ofM l k).1 = e) && (decide ((Prod.snd (ofM l k)).1 = d) && true)) = false, decide ((ofM l k).1 = e) = false, decide (e < (ofM l k).1) = true]) : Option (V × Heap × List Prop)) := by kernel_rfl
theorem bdAm_p00000000 (n : Int) (l : List (Int × MK)) (k : Int) (e : Int) (d : List Int) (t : List Int) :
 along Try.prog (bdAm n l k e d t) [false, false, false, false, false, false, false, false] = (some (.int .i64 0, [(.o 0, .flat [.int .i64 n, .mp (.o 1)]), (.o 1, .map (entsF 0 (mkL (putM k (e, d, t) l))) (List.length (mkL (putM k (e, d, t) l))))], bdAm_c n l k e d t 0 ++ [decide (k < (0 : Int)) = false, decide (n ≤ k) = false, decide (e < (1 : Int)) = false, decide ((1048576 : Int) < e) = false, (decide ((ofM l k).1 = e) && (decide ((Prod.snd (ofM l k)).1 = d) && true)) = false, decide ((ofM l k).1 = e) = false, decide (e < (ofM l k).1) = false, TO Try.prog (Prim.mapUpdate (62 : Nat)) [V.mp (Nm.o (1 : Nat)), V.int IntKind.i64 k, V.agg [V.int IntKind.i64 e, V.seg IntKind.u8 (32 : Nat) d, V.seg IntKind.u8 (16 : Nat) t]] [(Nm.o (1 : Nat), B.map (entsF (0 : Nat) (mkL l)) (List.length (mkL l)))] (V.tup []) [(Nm.o (1 : Nat), B.map (entsF (0 : Nat) (mkL (putM k (e, d, t) l))) (List.length (mkL (putM k (e, d, t) l))))]]) : Option (V × Heap × List Prop)) := by kernel_rfl

theorem bdA0_p1 (k : Int) (e : Int) (d : List Int) (t : List Int) :
  along Try.prog (bdA0 k e d t) [true] = (some (.int .i64 1, [], [T Try.prog 48 [.pnil] [] (.bool true) [], q2]) : Option (V × Heap × List Prop)) := by kernel_rfl

theorem bdA1_p1 (n : Int) (k : Int) (e : Int) (d : List Int) (t : List Int) :
  along Try.prog (bdA1 n k e d t) [true] = (some (.int .i64 1, [(.o 0, .flat [.int .i64 n, V.mpnil])], [T Try.prog 48 [.ptr (.o 0) 0 0 0 0] [(.o 0, .flat [.int .i64 n, V.mpnil])] (.bool true) [(.o 0, .flat [.int .i64 n, V.mpnil])], q2]) : Option (V × Heap × List Prop)) := by kernel_rfl

theorem findE_mk (k : Int) : ∀ l : List (Int × MK), findE k (mkL l) = (getM k l).map MK.c
 | [] => rfl
 | p :: l => by
  rw [mkL, List.map_cons, findE, getM]
  by_cases h : k = p.1
  ·rw [if_pos h, if_pos h]; rfl
  ·rw [if_neg h, if_neg h]; exact findE_mk k l
theorem putE_mk (k : Int) (v : MK) : ∀ l : List (Int × MK), putE k v.c (mkL l) = mkL (putM k v l)
 | [] => rfl
 | p :: l => by
  rw [mkL, List.map_cons, putE, putM]
  by_cases h : k = p.1
  ·rw [if_pos h, if_pos h]; rfl
  ·rw [if_neg h, if_neg h, mkL, List.map_cons]
   congr 1
   exact putE_mk k v l
theorem getD_mk (l : List (Int × MK)) (k : Int) : (findE k (mkL l)).getD zM.c = (ofM l k).c := by
 rw [findE_mk, ofM]
 cases getM k l <;> rfl
theorem mapT : Try.prog.underlying 62 = some (.map 3 88) := Try.underlying62
theorem TO_lk (l : List (Int × MK)) (k : Int) (q : Nat) : TO Try.prog (.lookup 62 false) [.mp (.o q), .int .i64 k] [(.o q, mB l)] (.agg (ofM l k).c) [(.o q, mB l)] := by
 have := TO_look (P := Try.prog) (ie := default) (zs := zM.c) mapT Try.underlying3 Try.zeroValue88 (fun U => chkC_ok _ _ (by kernel_rfl)) (.o q) (mkL l) k false
 rwa [getD_mk] at this
theorem TO_lk2 (l : List (Int × MK)) (k : Int) (q : Nat) : TO Try.prog (.lookup 62 true) [.mp (.o q), .int .i64 k] [(.o q, mB l)] (.tup [.agg (ofM l k).c, .bool (getM k l).isSome]) [(.o q, mB l)] := by
 have := TO_look (P := Try.prog) (ie := default) (zs := zM.c) mapT Try.underlying3 Try.zeroValue88 (fun U => chkC_ok _ _ (by kernel_rfl)) (.o q) (mkL l) k true
 rw [getD_mk, findE_mk, Option.isSome_map] at this
 exact this
theorem TO_up (l : List (Int × MK)) (k : Int) (v : MK) (q : Nat) : TO Try.prog (.mapUpdate 62) [.mp (.o q), .int .i64 k, .agg v.c] [(.o q, mB l)] (.tup []) [(.o q, mB (putM k v l))] := by
 have := TO_put (P := Try.prog) mapT Try.underlying3 (.o q) (mkL l) k v.c (by rfl)
 rw [putE_mk] at this
 exact this
theorem T_nn0 : T Try.prog 48 [.pnil] [] (.bool true) [] := by
 refine T_al bdNn0_p1 Try.func48 ?_
 simp only [All, All_append, bdAm_c]; and_intros
 all_goals first
  | exact True.intro
  | (with_reducible assumption)
  | (rw [decide_eq_true_eq]; omega)
  | (rw [decide_eq_false_iff_not]; omega)
  | with_reducible rfl
  | (intro _ _; exact True.intro)
  | (intro _ _; rfl)
  | (simp only [IntKind.min, IntKind.max, IntKind.signed, IntKind.bits, if_true]; omega)
  | omega
  | (intro h; exact h)
  | (simp; done)
theorem T_nn1 (n : Int) : T Try.prog 48 [mP 0] [(.o 0, .flat [.int .i64 n, .mpnil])] (.bool true) [(.o 0, .flat [.int .i64 n, .mpnil])] := by
 refine T_al (bdNn1_p0 n) Try.func48 ?_
 simp only [All, All_append, bdAm_c]; and_intros
 all_goals first
  | exact True.intro
  | (with_reducible assumption)
  | (rw [decide_eq_true_eq]; omega)
  | (rw [decide_eq_false_iff_not]; omega)
  | with_reducible rfl
  | (intro _ _; exact True.intro)
  | (intro _ _; rfl)
  | (simp only [IntKind.min, IntKind.max, IntKind.signed, IntKind.bits, if_true]; omega)
  | omega
  | (intro h; exact h)
  | (simp; done)
theorem T_nn (n : Int) : T Try.prog 48 [mP 0] [(.o 0, .flat [.int .i64 n, .mp (.o 1)])] (.bool false) [(.o 0, .flat [.int .i64 n, .mp (.o 1)])] := by
 refine T_al (bdNn_p0 n) Try.func48 ?_
 simp only [All, All_append, bdAm_c]; and_intros
 all_goals first
  | exact True.intro
  | (with_reducible assumption)
  | (rw [decide_eq_true_eq]; omega)
  | (rw [decide_eq_false_iff_not]; omega)
  | with_reducible rfl
  | (intro _ _; exact True.intro)
  | (intro _ _; rfl)
  | (simp only [IntKind.min, IntKind.max, IntKind.signed, IntKind.bits, if_true]; omega)
  | omega
  | (intro h; exact h)
  | (simp; done)
theorem T_nw {n : Int} (h : goodN n = true) : T Try.prog 29 [.int .i64 n] [] (mP 448) (mH 448 320 n []) := by
 have hG := T_gn n
 rw [h] at hG
 have hM : TO Try.prog (.makeMap 62) [] [] (.mp (.o 320)) [(.o 320, mB [])] := TO_make 320
 refine T_al (bdNw_p0 n true) Try.func29 ?_
 simp only [All, All_append, bdAm_c]; and_intros
 all_goals first
  | exact True.intro
  | exact hG
  | exact hM
  | (with_reducible assumption)
  | (rw [decide_eq_true_eq]; omega)
  | (rw [decide_eq_false_iff_not]; omega)
  | with_reducible rfl
  | (intro _ _; exact True.intro)
  | (intro _ _; rfl)
  | (simp only [IntKind.min, IntKind.max, IntKind.signed, IntKind.bits, if_true]; omega)
  | omega
  | (intro h; exact h)
  | (simp; done)
theorem T_nwN {n : Int} (h : goodN n = false) : T Try.prog 29 [.int .i64 n] [] .pnil [] := by
 have hG := T_gn n
 rw [h] at hG
 refine T_al (bdNw_p1 n false) Try.func29 ?_
 simp only [All, All_append, bdAm_c]; and_intros
 all_goals first
  | exact True.intro
  | exact hG
  | (with_reducible assumption)
  | (rw [decide_eq_true_eq]; omega)
  | (rw [decide_eq_false_iff_not]; omega)
  | with_reducible rfl
  | (intro _ _; exact True.intro)
  | (intro _ _; rfl)
  | (simp only [IntKind.min, IntKind.max, IntKind.signed, IntKind.bits, if_true]; omega)
  | omega
  | (intro h; exact h)
  | (simp; done)
theorem T_of (n : Int) (l : List (Int × MK)) (k : Int) : T Try.prog 38 [mP 0, .int .i64 k] (mH 0 1 n l) (.tup [.int .i64 (ofM l k).1, dgV (ofM l k).2.1]) (mH 0 1 n l) := by
 have hN := T_nn n
 have hL := TO_lk l k 1
 refine T_al (bdOf_p0 n l k) Try.func38 ?_
 simp only [All, All_append, bdAm_c]; and_intros
 all_goals first
  | exact True.intro
  | exact hN
  | exact hL
  | (with_reducible assumption)
  | (rw [decide_eq_true_eq]; omega)
  | (rw [decide_eq_false_iff_not]; omega)
  | with_reducible rfl
  | (intro _ _; exact True.intro)
  | (intro _ _; rfl)
  | (simp only [IntKind.min, IntKind.max, IntKind.signed, IntKind.bits, if_true]; omega)
  | omega
  | (intro h; exact h)
  | (simp; done)
theorem T_of0 (k : Int) : T Try.prog 38 [.pnil, .int .i64 k] [] (.tup [.int .i64 0, dgV (List.replicate 32 0)]) [] := by
 have hN := T_nn0
 refine T_al (bdO0_p1 k) Try.func38 ?_
 simp only [All, All_append, bdAm_c]; and_intros
 all_goals first
  | exact True.intro
  | exact hN
  | (with_reducible assumption)
  | (rw [decide_eq_true_eq]; omega)
  | (rw [decide_eq_false_iff_not]; omega)
  | with_reducible rfl
  | (intro _ _; exact True.intro)
  | (intro _ _; rfl)
  | (simp only [IntKind.min, IntKind.max, IntKind.signed, IntKind.bits, if_true]; omega)
  | omega
  | (intro h; exact h)
  | (simp; done)
theorem T_of1 (n k : Int) : T Try.prog 38 [mP 0, .int .i64 k] [(.o 0, .flat [.int .i64 n, .mpnil])] (.tup [.int .i64 0, dgV (List.replicate 32 0)]) [(.o 0, .flat [.int .i64 n, .mpnil])] := by
 have hN := T_nn1 n
 refine T_al (bdO1_p1 n k) Try.func38 ?_
 simp only [All, All_append, bdAm_c]; and_intros
 all_goals first
  | exact True.intro
  | exact hN
  | (with_reducible assumption)
  | (rw [decide_eq_true_eq]; omega)
  | (rw [decide_eq_false_iff_not]; omega)
  | with_reducible rfl
  | (intro _ _; exact True.intro)
  | (intro _ _; rfl)
  | (simp only [IntKind.min, IntKind.max, IntKind.signed, IntKind.bits, if_true]; omega)
  | omega
  | (intro h; exact h)
  | (simp; done)
theorem T_am0 (k e : Int) (d t : List Int) : T Try.prog 31 [.pnil, .int .i64 k, .int .i64 e, dgV d, tgV t] [] (.int .i64 1) [] := by
 have hN := T_nn0
 refine T_al (bdA0_p1 k e d t) Try.func31 ?_
 simp only [All, All_append, bdAm_c]; and_intros
 all_goals first
  | exact True.intro
  | exact hN
  | (with_reducible assumption)
  | (rw [decide_eq_true_eq]; omega)
  | (rw [decide_eq_false_iff_not]; omega)
  | with_reducible rfl
  | (intro _ _; exact True.intro)
  | (intro _ _; rfl)
  | (simp only [IntKind.min, IntKind.max, IntKind.signed, IntKind.bits, if_true]; omega)
  | omega
  | (intro h; exact h)
  | (simp; done)
theorem T_am1 (n k e : Int) (d t : List Int) : T Try.prog 31 [mP 0, .int .i64 k, .int .i64 e, dgV d, tgV t] [(.o 0, .flat [.int .i64 n, .mpnil])] (.int .i64 1) [(.o 0, .flat [.int .i64 n, .mpnil])] := by
 have hN := T_nn1 n
 refine T_al (bdA1_p1 n k e d t) Try.func31 ?_
 simp only [All, All_append, bdAm_c]; and_intros
 all_goals first
  | exact True.intro
  | exact hN
  | (with_reducible assumption)
  | (rw [decide_eq_true_eq]; omega)
  | (rw [decide_eq_false_iff_not]; omega)
  | with_reducible rfl
  | (intro _ _; exact True.intro)
  | (intro _ _; rfl)
  | (simp only [IntKind.min, IntKind.max, IntKind.signed, IntKind.bits, if_true]; omega)
  | omega
  | (intro h; exact h)
  | (simp; done)
/-- What Add makes of marks, and tells. -/
def addM (n : Int) (l : List (Int × MK)) (k e : Int) (d t : List Int) : Int × List (Int × MK) :=
 if k < 0 ∨ n ≤ k ∨ e < 1 ∨ 1048576 < e then (2, l) else if (ofM l k).1 = e then (if (ofM l k).2.1 = d then (0, l) else (181, l)) else if e < (ofM l k).1 then (90, l) else (0, putM k (e, d, t) l)
theorem T_am (n : Int) (l : List (Int × MK)) (k e : Int) (d t : List Int) : T Try.prog 31 [mP 0, .int .i64 k, .int .i64 e, dgV d, tgV t] (mH 0 1 n l) (.int .i64 (addM n l k e d t).1) (mH 0 1 n (addM n l k e d t).2) := by
 have hN := T_nn n
 have hL := TO_lk l k 1
 have hU := TO_up l k (e, d, t) 1
 by_cases h1 : k < 0
 ·rw [addM, if_pos (by omega)]
  refine T_al (bdAm_p011 n l k e d t) Try.func31 ?_
  simp only [All, All_append, bdAm_c]; and_intros
  all_goals first
   | exact True.intro
   | exact hN
   | exact hL
   | (with_reducible assumption)
   | (rw [decide_eq_true_eq]; omega)
   | (rw [decide_eq_false_iff_not]; omega)
   | with_reducible rfl
   | (intro _ _; exact True.intro)
   | (intro _ _; rfl)
   | (simp only [IntKind.min, IntKind.max, IntKind.signed, IntKind.bits, if_true]; omega)
   | omega
   | (intro h; exact h)
   | (simp; done)
 ·by_cases h2 : n ≤ k
  ·rw [addM, if_pos (by omega)]
   refine T_al (bdAm_p001 n l k e d t) Try.func31 ?_
   simp only [All, All_append, bdAm_c]; and_intros
   all_goals first
    | exact True.intro
    | exact hN
    | exact hL
    | (with_reducible assumption)
    | (rw [decide_eq_true_eq]; omega)
    | (rw [decide_eq_false_iff_not]; omega)
    | with_reducible rfl
    | (intro _ _; exact True.intro)
    | (intro _ _; rfl)
    | (simp only [IntKind.min, IntKind.max, IntKind.signed, IntKind.bits, if_true]; omega)
    | omega
    | (intro h; exact h)
    | (simp; done)
  ·by_cases h3 : e < 1
   ·rw [addM, if_pos (by omega)]
    refine T_al (bdAm_p00011 n l k e d t) Try.func31 ?_
    simp only [All, All_append, bdAm_c]; and_intros
    all_goals first
     | exact True.intro
     | exact hN
     | exact hL
     | (with_reducible assumption)
     | (rw [decide_eq_true_eq]; omega)
     | (rw [decide_eq_false_iff_not]; omega)
     | with_reducible rfl
     | (intro _ _; exact True.intro)
     | (intro _ _; rfl)
     | (simp only [IntKind.min, IntKind.max, IntKind.signed, IntKind.bits, if_true]; omega)
     | omega
     | (intro h; exact h)
     | (simp; done)
   ·by_cases h4 : 1048576 < e
    ·rw [addM, if_pos (by omega)]
     refine T_al (bdAm_p00001 n l k e d t) Try.func31 ?_
     simp only [All, All_append, bdAm_c]; and_intros
     all_goals first
      | exact True.intro
      | exact hN
      | exact hL
      | (with_reducible assumption)
      | (rw [decide_eq_true_eq]; omega)
      | (rw [decide_eq_false_iff_not]; omega)
      | with_reducible rfl
      | (intro _ _; exact True.intro)
      | (intro _ _; rfl)
      | (simp only [IntKind.min, IntKind.max, IntKind.signed, IntKind.bits, if_true]; omega)
      | omega
      | (intro h; exact h)
      | (simp; done)
    ·by_cases h5 : (ofM l k).1 = e
     ·by_cases h6 : (ofM l k).2.1 = d
      ·have e1 : (decide ((ofM l k).1 = e) && (decide ((ofM l k).2.1 = d) && true)) = true := by rw [decide_eq_true h5, decide_eq_true h6]; rfl
       rw [addM, if_neg (by omega), if_pos h5, if_pos h6]
       refine T_al (bdAm_p000001 n l k e d t) Try.func31 ?_
       simp only [All, All_append, bdAm_c]; and_intros
       all_goals first
        | exact True.intro
        | exact hN
        | exact hL
        | exact e1
        | (with_reducible assumption)
        | (rw [decide_eq_true_eq]; omega)
        | (rw [decide_eq_false_iff_not]; omega)
        | with_reducible rfl
        | (intro _ _; exact True.intro)
        | (intro _ _; rfl)
        | (simp only [IntKind.min, IntKind.max, IntKind.signed, IntKind.bits, if_true]; omega)
        | omega
        | (intro h; exact h)
        | (simp; done)
      ·have e1 : (decide ((ofM l k).1 = e) && (decide ((ofM l k).2.1 = d) && true)) = false := by rw [decide_eq_false h6]; simp
       rw [addM, if_neg (by omega), if_pos h5, if_neg h6]
       refine T_al (bdAm_p0000001 n l k e d t) Try.func31 ?_
       simp only [All, All_append, bdAm_c]; and_intros
       all_goals first
        | exact True.intro
        | exact hN
        | exact hL
        | exact e1
        | exact decide_eq_true h5
        | (with_reducible assumption)
        | (rw [decide_eq_true_eq]; omega)
        | (rw [decide_eq_false_iff_not]; omega)
        | with_reducible rfl
        | (intro _ _; exact True.intro)
        | (intro _ _; rfl)
        | (simp only [IntKind.min, IntKind.max, IntKind.signed, IntKind.bits, if_true]; omega)
        | omega
        | (intro h; exact h)
        | (simp; done)
     ·have e1 : (decide ((ofM l k).1 = e) && (decide ((ofM l k).2.1 = d) && true)) = false := by rw [decide_eq_false h5]; rfl
      by_cases h6 : e < (ofM l k).1
      ·rw [addM, if_neg (by omega), if_neg h5, if_pos h6]
       refine T_al (bdAm_p00000001 n l k e d t) Try.func31 ?_
       simp only [All, All_append, bdAm_c]; and_intros
       all_goals first
        | exact True.intro
        | exact hN
        | exact hL
        | exact e1
        | exact decide_eq_false h5
        | exact decide_eq_true h6
        | (with_reducible assumption)
        | (rw [decide_eq_true_eq]; omega)
        | (rw [decide_eq_false_iff_not]; omega)
        | with_reducible rfl
        | (intro _ _; exact True.intro)
        | (intro _ _; rfl)
        | (simp only [IntKind.min, IntKind.max, IntKind.signed, IntKind.bits, if_true]; omega)
        | omega
        | (intro h; exact h)
        | (simp; done)
      ·rw [addM, if_neg (by omega), if_neg h5, if_neg h6]
       refine T_al (bdAm_p00000000 n l k e d t) Try.func31 ?_
       simp only [All, All_append, bdAm_c]; and_intros
       all_goals first
        | exact True.intro
        | exact hN
        | exact hL
        | exact hU
        | exact e1
        | exact decide_eq_false h5
        | exact decide_eq_false h6
        | (with_reducible assumption)
        | (rw [decide_eq_true_eq]; omega)
        | (rw [decide_eq_false_iff_not]; omega)
        | with_reducible rfl
        | (intro _ _; exact True.intro)
        | (intro _ _; rfl)
        | (simp only [IntKind.min, IntKind.max, IntKind.signed, IntKind.bits, if_true]; omega)
        | omega
        | (intro h; exact h)
        | (simp; done)
end Go.Proofs.Ytpallipnhmoipaa
namespace Go.Proofs.Ytpallipnhmoipaa
open Go Sy Go.Proofs
def gn (s : Nat → SSign) : Nat → List V := fun i => (s i).c
def sgs (a n : Nat) : V := .sl (.o a) 17 0 0 0 n none
def sgB (n : Nat) (s : Nat → SSign) : B := .rows 17 n (gn s) true
def rowF (a : Nm) (h : Heap) : Nat → List V := match pull a h with
 | some (.rows _ _ f _, _) => f
 | _ => fun _ => []
/-- Where the first greater one is. -/
def atS (s : Nat → SSign) (v : Int) : Nat → Nat
 | 0 => 0
 | n + 1 => if atS s v n < n then atS s v n else if v < (s n).node then n else n + 1
def insS (s : Nat → SSign) (a : Nat) (x : SSign) : Nat → SSign := fun q => if q < a then s q else if q = a then x else s (q - 1)
def hpA (x : SSign) : Heap := [(.o 0, .flat x.c)]
def adI (n : Nat) (s : Nat → SSign) (x : SSign) (k : Nat) : St := ⟨mkT 69 [(0, sg n s), (3, .ptr (.o 0) 0 0 0 0), (11, sg n s), (12, .int .i64 n), (13, .int .i64 k)], hpA x, 1, []⟩
def adR (n : Nat) (s : Nat → SSign) : St := ⟨mkT 69 [(4, sgs 1 n)], [(.o 1, sgB n s)], 2, []⟩
def adJ (n : Nat) (s : Nat → SSign) (x : SSign) (k : Nat) : St := ⟨mkT 69 [(0, sg n s), (3, .ptr (.o 0) 0 0 0 0), (7, .int .i64 n), (33, sg n s), (34, .int .i64 n), (35, .int .i64 k)], hpA x, 1, []⟩
def adK (n : Nat) (s : Nat → SSign) (x : SSign) (a : Nat) : St := ⟨mkT 69 [(0, sg n s), (3, .ptr (.o 0) 0 0 0 0), (7, .int .i64 a)], hpA x, 1, []⟩
def zS : SSign := ⟨0, List.replicate 16 0⟩
def cutS (s : Nat → SSign) (a : Nat) : Nat → SSign := fun q => if q < a then s q else zS
def adM (n : Nat) (s : Nat → SSign) (x : SSign) (a : Nat) : St := ⟨mkT 69 [(0, sg n s), (3, .ptr (.o 0) 0 0 0 0), (7, .int .i64 a), (10, .sl (.o 1) 17 0 0 0 (n + 1) (some (n + 1)))], hpA x ++ [(.o 1, sgB (n + 1) (cutS s a))], 2, []⟩
def adF (n : Nat) (s : Nat → SSign) : St := ⟨mkT 69 [(10, sgs 1 n)], [(.o 1, sgB n s)], 2, []⟩
def cpPr (n k : Nat) : Prim → List V → Heap → Nat → List Cl := fun pr vs h _ => match pr with
 | .sliceFrom _ => match vs with
  | [.sl b _ _ _ _ _ (some _), _] => [{ val := .sl b 17 (bif Nat.beq (k + 1) (n + 1) then 0 else k + 1) 0 0 (n + 1 - (k + 1)) (some (n + 1 - (k + 1))) }]
  | _ => []
 | .copy _ _ => match vs with
  | [.sl a _ i _ _ len _, .ros _ m g _] => match pull a h with
   | some (.rows es N f gr, _) => [{ pre := [a], val := .int .i64 (Nat.min m len : Nat), post := [(a, .rows es N (setF f i (Nat.min m len) g) gr)] }]
   | _ => []
  | _ => []
 | _ => []
noncomputable def bdAd (n : Nat) (s : Nat → SSign) (x : SSign) (m a : Nat) : Bd := { f := Try.f25, args := [sg n s, .agg x.c], kb := { db := fun _ _ _ _ => [], pr := cpPr n a, lp := fun id t => bif Nat.beq id 0 then [(True, .loop (n + 1) (wToS [(.o 0, nmV (getV t.tmps 3))] (adI n s x 0)) (.exit 0) (adI n s x n)), (True, .loop (m + 1) (wToS [(.o 0, nmV (getV t.tmps 3))] (adI n s x 0)) .ret (adR n s))] else [(True, .loop (m + 1) (wToS [(.o 0, nmV (getV t.tmps 3))] (adJ n s x 0)) (.exit 2) (adK n s x a))], fx := fun id t => bif Nat.beq id 18 then [.wk (wToS [(.o 1, nmV (getV t.tmps 10))] (adF (n + 1) (insS s a x)))] else bif Nat.beq id 16 then [.wk (wToS [(.o 0, nmV (getV t.tmps 3)), (.o 1, nmV (getV t.tmps 10))] (adM n s x a))] else [] }, names := fun _ => [.o 1] }
noncomputable def pcAi (n : Nat) (s : Nat → SSign) (x : SSign) (k : Nat) : Pc := { c := cB (cB (cR (cL (cB (cR (bodyOf Try.f25)))))), st := adI n s x k, kb := kb0, k := fun e_ t => match e_ with
 | .normal => some (wTo (adI n s x (k + 1)))
 | .ret => some (wToS [(.o 1, nmV (getV t.tmps 4))] (adR n s))
 | _ => some (wTo (adI n s x n)) }
noncomputable def pcAj (n : Nat) (s : Nat → SSign) (x : SSign) (k a : Nat) : Pc := { c := cB (cB (cR (cL (cR (cR (cR (cB (cR (bodyOf Try.f25))))))))), st := adJ n s x k, kb := kb0, k := fun e_ t => match e_ with
 | .normal => some (wTo (adJ n s x (k + 1)))
 | _ => some (wTo (adK n s x a)) }
end Go.Proofs.Ytpallipnhmoipaa
