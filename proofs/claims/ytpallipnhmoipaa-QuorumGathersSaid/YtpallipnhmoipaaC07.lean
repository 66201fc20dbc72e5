/-
  Contracts and laws that the claim's theorem leans on, joined out of the texts Ka6 Ka7D Ka7 Ka8D Ka8 Kb0D Kb0 Kb1D Kb1 (own work of this seat): Contracts: the digest by the document: padding, one block; Contracts: the digest by the document; Contracts: the digest by the document; Contracts: the digest of parts that can't be turned; a digest's bytes by the document; Contracts: the digest of parts that can't be turned; a digest's bytes by the document; Contracts: numbers as bytes; Contracts: numbers as bytes; Contracts: text, requests, batches as bytes; Contracts: text, requests, batches as bytes.
-/
import Derived.Test.YtpallipnhmoipaaC04
import Derived.Test.YtpallipnhmoipaaC06
set_option linter.unusedVariables false
set_option linter.unusedSimpArgs false
set_option maxHeartbeats 1000000
namespace Go.Proofs.Ytpallipnhmoipaa
open Go Sy Go.Proofs
theorem bdPa_p (l : List Int) (L0 : List Int) (z : Nat) (L1 : List Int) (L2 : List Int) :
  along Try.prog (bdPa l L0 z L1 L2) [] = (some (.sl (.o 0) 1 0 0 0 (List.length L2) none, [(.o 0, .rows 1 (List.length L2) (ib L2) true)], [q0, ∀ (k : Nat), k < List.length l → true = true, ((0 : Nat) + List.length l) * (1 : Nat) ≤ (140737488355328 : Nat), q ((0 : Nat) + List.length l), nat_lit 1 ≤ (1 : Nat), ∀ (k : Nat), k < (1 : Nat) → solid (getL [[V.int IntKind.u8 (128 : Int)]] ((0 : Nat) + k)) = true, ((0 : Nat) + List.length l + (1 : Nat)) * (1 : Nat) ≤ (140737488355328 : Nat), RLoop Try.prog none 0 (cB (cB (cL (cR (cR (bodyOf (Bd.f (bdPa l L0 z L1 L2)))))))) (z + 1) (St.mk [.ros 1 (List.length l) (ib l) false, .any, .any, .sl (.o 0) 1 0 0 0 (List.length L0) none, .any, .any, .any, .any, .any, .any, .any, .any, .any, .any, .any, .any, .any, .any, .any, .any, .any, .any, .any, .any, .any, .any, .any, .any, .any, .any, .any, .any, .any, .any] [(.o 0, .rows 1 (List.length L0) (ib L0) true)] 1 []) (.exit 0) (St.mk [.ros 1 (List.length l) (ib l) false, .any, .any, .sl (.o 0) 1 0 0 0 (List.length L1) none, .any, .any, .any, .any, .any, .any, .any, .any, .any, .any, .any, .any, .any, .any, .any, .any, .any, .any, .any, .any, .any, .any, .any, .any, .any, .any, .any, .any, .any, .any] [(.o 0, .rows 1 (List.length L1) (ib L1) true)] 1 []), (0 : Nat) + List.length l + (1 : Nat) = List.length L0, ∀ (k : Nat), k < (0 : Nat) + List.length l + (1 : Nat) → catF ((0 : Nat) + List.length l) (catF (0 : Nat) (getL []) (ib l)) (fun k => getL [[V.int IntKind.u8 (128 : Int)]] ((0 : Nat) + k)) k = [V.int IntKind.u8 (List.getD L0 k (0 : Int))], true = false → true = false, q (List.length l), ∀ (k : Nat), k < List.length l → [V.int IntKind.u8 (List.getD l k (0 : Int))] = [V.int IntKind.u8 (List.getD l k (0 : Int))], false = true → false = true, q0, q0, q0, (0 : Nat) + List.length l + (1 : Nat) = List.length L0, (none : Option Nat) = none ∨ (none : Option Nat) = none, InR IntKind.i64 ((8 : Int) * (↑(List.length l) : Int)), RLoop Try.prog none 0 (cB (cB (cR (cL (cR (cR (cR (cR (bodyOf (Bd.f (bdPa l L0 z L1 L2))))))))))) 9 (St.mk [.ros 1 (List.length l) (ib l) false, .any, .any, .sl (.o 0) 1 0 0 0 (List.length L1) none, .int .i64 ((8 : Int) * (↑(List.length l) : Int)), .int .i64 7, .any, .any, .any, .any, .any, .any, .any, .any, .any, .any, .any, .any, .any, .any, .any, .any, .any, .any, .any, .any, .any, .any, .any, .any, .any, .any, .any, .any] [(.o 0, .rows 1 (List.length L1) (ib L1) true)] 1 []) (.exit 2) (St.mk [.ros 1 (List.length l) (ib l) false, .any, .any, .sl (.o 0) 1 0 0 0 (List.length L2) none, .int .i64 ((8 : Int) * (↑(List.length l) : Int)), .int .i64 ((7 : Int) - (8 : Int)), .any, .any, .any, .any, .any, .any, .any, .any, .any, .any, .any, .any, .any, .any, .any, .any, .any, .any, .any, .any, .any, .any, .any, .any, .any, .any, .any, .any] [(.o 0, .rows 1 (List.length L2) (ib L2) true)] 1 []), q (List.length L1), ∀ (k : Nat), k < List.length L1 → [V.int IntKind.u8 (List.getD L1 k (0 : Int))] = [V.int IntKind.u8 (List.getD L1 k (0 : Int))], true = false → true = false, q (List.length l), ∀ (k : Nat), k < List.length l → [V.int IntKind.u8 (List.getD l k (0 : Int))] = [V.int IntKind.u8 (List.getD l k (0 : Int))], false = true → false = true, q0, q0, q0, q (List.length L1), (none : Option Nat) = none ∨ (none : Option Nat) = none, q ((8 : Int) * (↑(List.length l) : Int)), q (7 : Int)]) : Option (V × Heap × List Prop)) := by kernel_rfl

theorem pcPi_p1 (l : List Int) (L : List Int) (L2 : List Int) :
  alongPc Try.prog (pcPi l L L2) [true] = (some (.normal, St.mk [.ros 1 (List.length l) (ib l) false, .any, .any, .sl (.o 0) 1 0 0 0 (List.length L2) none, .any, .any, .any, .any, .any, .any, .any, .any, .any, .any, .any, .any, .any, .any, .any, .any, .any, .any, .any, .any, .any, .any, .any, .any, .any, .any, .any, .any, .any, .any] [(.o 0, .rows 1 (List.length L2) (ib L2) true)] 1 [], [(0 : Int) ≤ (↑(List.length L) : Int) ∧ (0 : Int) < (64 : Int), (!decide ((↑(List.length L) : Int) % (64 : Int) = (56 : Int))) = true, q (List.length L), nat_lit 1 ≤ (1 : Nat), ∀ (k : Nat), k < (1 : Nat) → solid (getL [[V.int IntKind.u8 (0 : Int)]] ((0 : Nat) + k)) = true, (List.length L + (1 : Nat)) * (1 : Nat) ≤ (140737488355328 : Nat), List.length L + (1 : Nat) = List.length L2, ∀ (k : Nat), k < List.length L + (1 : Nat) → catF (List.length L) (ib L) (fun k => getL [[V.int IntKind.u8 (0 : Int)]] ((0 : Nat) + k)) k = [V.int IntKind.u8 (List.getD L2 k (0 : Int))], true = false → true = false, q (List.length l), ∀ (k : Nat), k < List.length l → [V.int IntKind.u8 (List.getD l k (0 : Int))] = [V.int IntKind.u8 (List.getD l k (0 : Int))], false = true → false = true, q0, q0, q0, List.length L + (1 : Nat) = List.length L2, (none : Option Nat) = none ∨ (none : Option Nat) = none]) : Option (Exit × St × List Prop)) := by kernel_rfl
theorem pcPi_p0 (l : List Int) (L : List Int) (L2 : List Int) :
  alongPc Try.prog (pcPi l L L2) [false] = (some (.exit 0, St.mk [.ros 1 (List.length l) (ib l) false, .any, .any, .sl (.o 0) 1 0 0 0 (List.length L) none, .any, .any, .any, .any, .any, .any, .any, .any, .any, .any, .any, .any, .any, .any, .any, .any, .any, .any, .any, .any, .any, .any, .any, .any, .any, .any, .any, .any, .any, .any] [(.o 0, .rows 1 (List.length L) (ib L) true)] 1 [], [(0 : Int) ≤ (↑(List.length L) : Int) ∧ (0 : Int) < (64 : Int), (!decide ((↑(List.length L) : Int) % (64 : Int) = (56 : Int))) = false, q (List.length L), ∀ (k : Nat), k < List.length L → [V.int IntKind.u8 (List.getD L k (0 : Int))] = [V.int IntKind.u8 (List.getD L k (0 : Int))], true = false → true = false, q (List.length l), ∀ (k : Nat), k < List.length l → [V.int IntKind.u8 (List.getD l k (0 : Int))] = [V.int IntKind.u8 (List.getD l k (0 : Int))], false = true → false = true, q0, q0, q0, q (List.length L), (none : Option Nat) = none ∨ (none : Option Nat) = none]) : Option (Exit × St × List Prop)) := by kernel_rfl

theorem pcPj_p1 (l : List Int) (L : List Int) (j : Nat) (L2 : List Int) :
  alongPc Try.prog (pcPj l L j L2) [true] = (some (.normal, St.mk [.ros 1 (List.length l) (ib l) false, .any, .any, .sl (.o 0) 1 0 0 0 (List.length L2) none, .int .i64 ((8 : Int) * (↑(List.length l) : Int)), .int .i64 ((7 : Int) - (↑(j + 1) : Int)), .any, .any, .any, .any, .any, .any, .any, .any, .any, .any, .any, .any, .any, .any, .any, .any, .any, .any, .any, .any, .any, .any, .any, .any, .any, .any, .any, .any] [(.o 0, .rows 1 (List.length L2) (ib L2) true)] 1 [], [decide ((0 : Int) ≤ (7 : Int) - (↑j : Int)) = true, InR IntKind.i64 ((8 : Int) * ((7 : Int) - (↑j : Int))), (0 : Int) ≤ (8 : Int) * ((7 : Int) - (↑j : Int)) ∧ (8 : Int) * ((7 : Int) - (↑j : Int)) ≤ (64 : Int), q (List.length L), nat_lit 1 ≤ (1 : Nat), ∀ (k : Nat), k < (1 : Nat) → solid (getL [[V.int IntKind.u8 (IntKind.wrap IntKind.u8 ((8 : Int) * (↑(List.length l) : Int) / (2 : Int) ^ Int.toNat ((8 : Int) * ((7 : Int) - (↑j : Int)))))]] ((0 : Nat) + k)) = true, (List.length L + (1 : Nat)) * (1 : Nat) ≤ (140737488355328 : Nat), InR IntKind.i64 ((7 : Int) - (↑j : Int) - (1 : Int)), List.length L + (1 : Nat) = List.length L2, ∀ (k : Nat), k < List.length L + (1 : Nat) → catF (List.length L) (ib L) (fun k => getL [[V.int IntKind.u8 (IntKind.wrap IntKind.u8 ((8 : Int) * (↑(List.length l) : Int) / (2 : Int) ^ Int.toNat ((8 : Int) * ((7 : Int) - (↑j : Int)))))]] ((0 : Nat) + k)) k = [V.int IntKind.u8 (List.getD L2 k (0 : Int))], true = false → true = false, q (List.length l), ∀ (k : Nat), k < List.length l → [V.int IntKind.u8 (List.getD l k (0 : Int))] = [V.int IntKind.u8 (List.getD l k (0 : Int))], false = true → false = true, q0, q0, q0, List.length L + (1 : Nat) = List.length L2, (none : Option Nat) = none ∨ (none : Option Nat) = none, q ((8 : Int) * (↑(List.length l) : Int)), (7 : Int) - (↑j : Int) - (1 : Int) = (7 : Int) - (↑(j + (1 : Nat)) : Int)]) : Option (Exit × St × List Prop)) := by kernel_rfl
theorem pcPj_p0 (l : List Int) (L : List Int) (j : Nat) (L2 : List Int) :
  alongPc Try.prog (pcPj l L j L2) [false] = (some (.exit 2, St.mk [.ros 1 (List.length l) (ib l) false, .any, .any, .sl (.o 0) 1 0 0 0 (List.length L) none, .int .i64 ((8 : Int) * (↑(List.length l) : Int)), .int .i64 ((7 : Int) - (8 : Int)), .any, .any, .any, .any, .any, .any, .any, .any, .any, .any, .any, .any, .any, .any, .any, .any, .any, .any, .any, .any, .any, .any, .any, .any, .any, .any, .any, .any] [(.o 0, .rows 1 (List.length L) (ib L) true)] 1 [], [decide ((0 : Int) ≤ (7 : Int) - (↑j : Int)) = false, q (List.length L), ∀ (k : Nat), k < List.length L → [V.int IntKind.u8 (List.getD L k (0 : Int))] = [V.int IntKind.u8 (List.getD L k (0 : Int))], true = false → true = false, q (List.length l), ∀ (k : Nat), k < List.length l → [V.int IntKind.u8 (List.getD l k (0 : Int))] = [V.int IntKind.u8 (List.getD l k (0 : Int))], false = true → false = true, q0, q0, q0, q (List.length L), (none : Option Nat) = none ∨ (none : Option Nat) = none, q ((8 : Int) * (↑(List.length l) : Int)), (7 : Int) - (↑j : Int) = (7 : Int) - (8 : Int)]) : Option (Exit × St × List Prop)) := by kernel_rfl

theorem bdBt_p (h : List Int) (b : List Int) (w : List Int) (w2 : List Int) (s0 : S8) (s : S8) (h2 : List Int) :
  along Try.prog (bdBt h b w w2 s0 s h2) [] = (some (.agg [.seg .u32 8 h2], [], [RLoop Try.prog none 0 (cB (cB (cR (cL (cR (cR (bodyOf (Bd.f (bdBt h b w w2 s0 s h2))))))))) 17 (St.mk [.any, .ros 1 (List.length b) (ib b) false, .ptr (.o 0) 0 0 0 0, .any, .ptr (.o 2) 0 0 0 0, .ptr (.o 1) 0 0 0 0, .int .i64 0, .any, .any, .any, .any, .any, .any, .any, .any, .any, .any, .any, .any, .any, .any, .any, .any, .any, .any, .any, .any, .any, .any, .any, .any, .any, .any, .any, .any, .any, .any, .any, .any, .any, .any, .any, .any, .any, .any, .any, .any, .any, .any, .any, .any, .any, .any, .any, .any, .any, .any, .any, .any, .any, .any, .any, .any, .any, .any, .any, .any, .any, .any, .any, .any, .any, .any, .any, .any, .any, .any, .any, .any, .any, .any, .any, .any, .any, .any, .any, .any, .any, .any, .any, .any, .any, .any, .any, .any, .any, .any, .any, .any, .any, .any, .any, .any, .any, .any, .any, .any, .any, .any, .any, .any, .any, .any, .any, .any, .any, .any, .any, .any, .any, .any, .any, .any, .any, .any, .any, .any, .any, .any, .any, .any, .any, .any, .any, .any, .any, .any, .any, .any, .any, .any, .any, .any, .any, .any, .any, .any, .any, .any, .any, .any, .any, .any, .any, .any, .any, .any, .any, .any, .any, .any, .any, .any, .any, .any, .any, .any, .any, .any, .any, .any, .any, .any, .any, .any, .any, .any, .any, .any, .any, .any, .any, .any, .any, .any, .any, .any, .any, .any, .any, .any] [(.o 0, .flat [.seg .u32 8 h]), (.o 1, .flat [.seg .u32 64 [(0 : Int), (0 : Int), (0 : Int), (0 : Int), (0 : Int), (0 : Int), (0 : Int), (0 : Int), (0 : Int), (0 : Int), (0 : Int), (0 : Int), (0 : Int), (0 : Int), (0 : Int), (0 : Int), (0 : Int), (0 : Int), (0 : Int), (0 : Int), (0 : Int), (0 : Int), (0 : Int), (0 : Int), (0 : Int), (0 : Int), (0 : Int), (0 : Int), (0 : Int), (0 : Int), (0 : Int), (0 : Int), (0 : Int), (0 : Int), (0 : Int), (0 : Int), (0 : Int), (0 : Int), (0 : Int), (0 : Int), (0 : Int), (0 : Int), (0 : Int), (0 : Int), (0 : Int), (0 : Int), (0 : Int), (0 : Int), (0 : Int), (0 : Int), (0 : Int), (0 : Int), (0 : Int), (0 : Int), (0 : Int), (0 : Int), (0 : Int), (0 : Int), (0 : Int), (0 : Int), (0 : Int), (0 : Int), (0 : Int), (0 : Int)]]), (.o 2, .flat [.seg .u32 8 [(0 : Int), (0 : Int), (0 : Int), (0 : Int), (0 : Int), (0 : Int), (0 : Int), (0 : Int)]])] 3 []) (.exit 0) (St.mk [.any, .ros 1 (List.length b) (ib b) false, .ptr (.o 0) 0 0 0 0, .any, .ptr (.o 2) 0 0 0 0, .ptr (.o 1) 0 0 0 0, .int .i64 16, .any, .any, .any, .any, .any, .any, .any, .any, .any, .any, .any, .any, .any, .any, .any, .any, .any, .any, .any, .any, .any, .any, .any, .any, .any, .any, .any, .any, .any, .any, .any, .any, .any, .any, .any, .any, .any, .any, .any, .any, .any, .any, .any, .any, .any, .any, .any, .any, .any, .any, .any, .any, .any, .any, .any, .any, .any, .any, .any, .any, .any, .any, .any, .any, .any, .any, .any, .any, .any, .any, .any, .any, .any, .any, .any, .any, .any, .any, .any, .any, .any, .any, .any, .any, .any, .any, .any, .any, .any, .any, .any, .any, .any, .any, .any, .any, .any, .any, .any, .any, .any, .any, .any, .any, .any, .any, .any, .any, .any, .any, .any, .any, .any, .any, .any, .any, .any, .any, .any, .any, .any, .any, .any, .any, .any, .any, .any, .any, .any, .any, .any, .any, .any, .any, .any, .any, .any, .any, .any, .any, .any, .any, .any, .any, .any, .any, .any, .any, .any, .any, .any, .any, .any, .any, .any, .any, .any, .any, .any, .any, .any, .any, .any, .any, .any, .any, .any, .any, .any, .any, .any, .any, .any, .any, .any, .any, .any, .any, .any, .any, .any, .any, .any, .any] [(.o 0, .flat [.seg .u32 8 h]), (.o 1, .flat [.seg .u32 64 w]), (.o 2, .flat [.seg .u32 8 [(0 : Int), (0 : Int), (0 : Int), (0 : Int), (0 : Int), (0 : Int), (0 : Int), (0 : Int)]])] 3 []), q (8 : Nat), q h, q (64 : Nat), q ([(0 : Int), (0 : Int), (0 : Int), (0 : Int), (0 : Int), (0 : Int), (0 : Int), (0 : Int), (0 : Int), (0 : Int), (0 : Int), (0 : Int), (0 : Int), (0 : Int), (0 : Int), (0 : Int), (0 : Int), (0 : Int), (0 : Int), (0 : Int), (0 : Int), (0 : Int), (0 : Int), (0 : Int), (0 : Int), (0 : Int), (0 : Int), (0 : Int), (0 : Int), (0 : Int), (0 : Int), (0 : Int), (0 : Int), (0 : Int), (0 : Int), (0 : Int), (0 : Int), (0 : Int), (0 : Int), (0 : Int), (0 : Int), (0 : Int), (0 : Int), (0 : Int), (0 : Int), (0 : Int), (0 : Int), (0 : Int), (0 : Int), (0 : Int), (0 : Int), (0 : Int), (0 : Int), (0 : Int), (0 : Int), (0 : Int), (0 : Int), (0 : Int), (0 : Int), (0 : Int), (0 : Int), (0 : Int), (0 : Int), (0 : Int)]), q (8 : Nat), q ([(0 : Int), (0 : Int), (0 : Int), (0 : Int), (0 : Int), (0 : Int), (0 : Int), (0 : Int)]), q (List.length b), ∀ (k : Nat), k < List.length b → [V.int IntKind.u8 (List.getD b k (0 : Int))] = [V.int IntKind.u8 (List.getD b k (0 : Int))], false = true → false = true, q0, q0, q0, q0, q0, q0, q0, q0, q0, q1, RLoop Try.prog none 0 (cB (cB (cR (cL (cR (cR (cR (bodyOf (Bd.f (bdBt h b w w2 s0 s h2)))))))))) 49 (St.mk [.any, .any, .ptr (.o 0) 0 0 0 0, .any, .ptr (.o 2) 0 0 0 0, .ptr (.o 1) 0 0 0 0, .any, .int .i64 16, .any, .any, .any, .any, .any, .any, .any, .any, .any, .any, .any, .any, .any, .any, .any, .any, .any, .any, .any, .any, .any, .any, .any, .any, .any, .any, .any, .any, .any, .any, .any, .any, .any, .any, .any, .any, .any, .any, .any, .any, .any, .any, .any, .any, .any, .any, .any, .any, .any, .any, .any, .any, .any, .any, .any, .any, .any, .any, .any, .any, .any, .any, .any, .any, .any, .any, .any, .any, .any, .any, .any, .any, .any, .any, .any, .any, .any, .any, .any, .any, .any, .any, .any, .any, .any, .any, .any, .any, .any, .any, .any, .any, .any, .any, .any, .any, .any, .any, .any, .any, .any, .any, .any, .any, .any, .any, .any, .any, .any, .any, .any, .any, .any, .any, .any, .any, .any, .any, .any, .any, .any, .any, .any, .any, .any, .any, .any, .any, .any, .any, .any, .any, .any, .any, .any, .any, .any, .any, .any, .any, .any, .any, .any, .any, .any, .any, .any, .any, .any, .any, .any, .any, .any, .any, .any, .any, .any, .any, .any, .any, .any, .any, .any, .any, .any, .any, .any, .any, .any, .any, .any, .any, .any, .any, .any, .any, .any, .any, .any, .any, .any, .any, .any] [(.o 0, .flat [.seg .u32 8 h]), (.o 1, .flat [.seg .u32 64 w]), (.o 2, .flat [.seg .u32 8 [(0 : Int), (0 : Int), (0 : Int), (0 : Int), (0 : Int), (0 : Int), (0 : Int), (0 : Int)]])] 3 []) (.exit 2) (St.mk [.any, .any, .ptr (.o 0) 0 0 0 0, .any, .ptr (.o 2) 0 0 0 0, .ptr (.o 1) 0 0 0 0, .any, .int .i64 64, .any, .any, .any, .any, .any, .any, .any, .any, .any, .any, .any, .any, .any, .any, .any, .any, .any, .any, .any, .any, .any, .any, .any, .any, .any, .any, .any, .any, .any, .any, .any, .any, .any, .any, .any, .any, .any, .any, .any, .any, .any, .any, .any, .any, .any, .any, .any, .any, .any, .any, .any, .any, .any, .any, .any, .any, .any, .any, .any, .any, .any, .any, .any, .any, .any, .any, .any, .any, .any, .any, .any, .any, .any, .any, .any, .any, .any, .any, .any, .any, .any, .any, .any, .any, .any, .any, .any, .any, .any, .any, .any, .any, .any, .any, .any, .any, .any, .any, .any, .any, .any, .any, .any, .any, .any, .any, .any, .any, .any, .any, .any, .any, .any, .any, .any, .any, .any, .any, .any, .any, .any, .any, .any, .any, .any, .any, .any, .any, .any, .any, .any, .any, .any, .any, .any, .any, .any, .any, .any, .any, .any, .any, .any, .any, .any, .any, .any, .any, .any, .any, .any, .any, .any, .any, .any, .any, .any, .any, .any, .any, .any, .any, .any, .any, .any, .any, .any, .any, .any, .any, .any, .any, .any, .any, .any, .any, .any, .any, .any, .any, .any, .any, .any] [(.o 0, .flat [.seg .u32 8 h]), (.o 1, .flat [.seg .u32 64 w2]), (.o 2, .flat [.seg .u32 8 [(0 : Int), (0 : Int), (0 : Int), (0 : Int), (0 : Int), (0 : Int), (0 : Int), (0 : Int)]])] 3 []), q (8 : Nat), q h, q (64 : Nat), q w, q (8 : Nat), q ([(0 : Int), (0 : Int), (0 : Int), (0 : Int), (0 : Int), (0 : Int), (0 : Int), (0 : Int)]), q0, q0, q0, q0, q0, q0, q0, q0, q0, q (16 : Int), RLoop Try.prog none 0 (cB (cB (cR (cL (cR (cR (cR (cR (cR (bodyOf (Bd.f (bdBt h b w w2 s0 s h2)))))))))))) 65 (St.mk [.any, .any, .ptr (.o 0) 0 0 0 0, .any, .ptr (.o 2) 0 0 0 0, .ptr (.o 1) 0 0 0 0, .any, .any, .any, .any, .ptr (.o 3) 0 0 0 0, .int .i64 0, .any, .any, .any, .any, .any, .any, .any, .any, .any, .any, .any, .any, .any, .any, .any, .any, .any, .any, .any, .any, .any, .any, .any, .any, .any, .any, .any, .any, .any, .any, .any, .any, .any, .any, .any, .any, .any, .any, .any, .any, .any, .any, .any, .any, .any, .any, .any, .any, .any, .any, .any, .any, .any, .any, .any, .any, .any, .any, .any, .any, .any, .any, .any, .any, .any, .any, .any, .any, .any, .any, .any, .any, .any, .any, .any, .any, .any, .any, .any, .any, .any, .any, .any, .any, .any, .any, .any, .any, .any, .any, .any, .any, .any, .any, .any, .any, .any, .any, .any, .any, .any, .any, .any, .any, .any, .any, .any, .any, .any, .any, .any, .any, .any, .any, .any, .any, .any, .any, .any, .any, .any, .any, .any, .any, .any, .any, .any, .any, .any, .any, .any, .any, .any, .any, .any, .any, .any, .any, .any, .any, .any, .any, .any, .any, .any, .any, .any, .any, .any, .any, .any, .any, .any, .any, .any, .any, .any, .any, .any, .any, .any, .any, .any, .any, .any, .any, .any, .any, .any, .any, .any, .any, .any, .any, .any, .any, .any, .any, .any] [(.o 0, .flat [.seg .u32 8 h]), (.o 1, .flat [.seg .u32 64 w2]), (.o 2, .flat [.seg .u32 8 [(0 : Int), (0 : Int), (0 : Int), (0 : Int), (0 : Int), (0 : Int), (0 : Int), (0 : Int)]]), (.o 3, .flat [.seg .u32 8 [S8.a s0, S8.b s0, S8.c s0, S8.d s0, S8.e s0, S8.f s0, S8.g s0, S8.h s0]])] 4 []) (.exit 4) (St.mk [.any, .any, .ptr (.o 0) 0 0 0 0, .any, .ptr (.o 2) 0 0 0 0, .ptr (.o 1) 0 0 0 0, .any, .any, .any, .any, .ptr (.o 3) 0 0 0 0, .int .i64 64, .any, .any, .any, .any, .any, .any, .any, .any, .any, .any, .any, .any, .any, .any, .any, .any, .any, .any, .any, .any, .any, .any, .any, .any, .any, .any, .any, .any, .any, .any, .any, .any, .any, .any, .any, .any, .any, .any, .any, .any, .any, .any, .any, .any, .any, .any, .any, .any, .any, .any, .any, .any, .any, .any, .any, .any, .any, .any, .any, .any, .any, .any, .any, .any, .any, .any, .any, .any, .any, .any, .any, .any, .any, .any, .any, .any, .any, .any, .any, .any, .any, .any, .any, .any, .any, .any, .any, .any, .any, .any, .any, .any, .any, .any, .any, .any, .any, .any, .any, .any, .any, .any, .any, .any, .any, .any, .any, .any, .any, .any, .any, .any, .any, .any, .any, .any, .any, .any, .any, .any, .any, .any, .any, .any, .any, .any, .any, .any, .any, .any, .any, .any, .any, .any, .any, .any, .any, .any, .any, .any, .any, .any, .any, .any, .any, .any, .any, .any, .any, .any, .any, .any, .any, .any, .any, .any, .any, .any, .any, .any, .any, .any, .any, .any, .any, .any, .any, .any, .any, .any, .any, .any, .any, .any, .any, .any, .any, .any, .any] [(.o 0, .flat [.seg .u32 8 h]), (.o 1, .flat [.seg .u32 64 w2]), (.o 2, .flat [.seg .u32 8 [(0 : Int), (0 : Int), (0 : Int), (0 : Int), (0 : Int), (0 : Int), (0 : Int), (0 : Int)]]), (.o 3, .flat [.seg .u32 8 [S8.a s, S8.b s, S8.c s, S8.d s, S8.e s, S8.f s, S8.g s, S8.h s]])] 4 []), q (8 : Nat), q h, q (64 : Nat), q w2, q (8 : Nat), q ([(0 : Int), (0 : Int), (0 : Int), (0 : Int), (0 : Int), (0 : Int), (0 : Int), (0 : Int)]), q (8 : Nat), h = [S8.a s0, S8.b s0, S8.c s0, S8.d s0, S8.e s0, S8.f s0, S8.g s0, S8.h s0], q0, q0, q0, q0, q0, q0, q0, q0, q0, q0, q0, q0, q1, RLoop Try.prog none 0 (cB (cB (cR (cL (cR (cR (cR (cR (cR (cR (bodyOf (Bd.f (bdBt h b w w2 s0 s h2))))))))))))) 9 (St.mk [.any, .any, .ptr (.o 0) 0 0 0 0, .any, .ptr (.o 2) 0 0 0 0, .any, .any, .any, .any, .any, .ptr (.o 3) 0 0 0 0, .any, .any, .any, .any, .any, .int .i64 0, .any, .any, .any, .any, .any, .any, .any, .any, .any, .any, .any, .any, .any, .any, .any, .any, .any, .any, .any, .any, .any, .any, .any, .any, .any, .any, .any, .any, .any, .any, .any, .any, .any, .any, .any, .any, .any, .any, .any, .any, .any, .any, .any, .any, .any, .any, .any, .any, .any, .any, .any, .any, .any, .any, .any, .any, .any, .any, .any, .any, .any, .any, .any, .any, .any, .any, .any, .any, .any, .any, .any, .any, .any, .any, .any, .any, .any, .any, .any, .any, .any, .any, .any, .any, .any, .any, .any, .any, .any, .any, .any, .any, .any, .any, .any, .any, .any, .any, .any, .any, .any, .any, .any, .any, .any, .any, .any, .any, .any, .any, .any, .any, .any, .any, .any, .any, .any, .any, .any, .any, .any, .any, .any, .any, .any, .any, .any, .any, .any, .any, .any, .any, .any, .any, .any, .any, .any, .any, .any, .any, .any, .any, .any, .any, .any, .any, .any, .any, .any, .any, .any, .any, .any, .any, .any, .any, .any, .any, .any, .any, .any, .any, .any, .any, .any, .any, .any, .any, .any, .any, .any, .any, .any, .any] [(.o 0, .flat [.seg .u32 8 h]), (.o 2, .flat [.seg .u32 8 [(0 : Int), (0 : Int), (0 : Int), (0 : Int), (0 : Int), (0 : Int), (0 : Int), (0 : Int)]]), (.o 3, .flat [.seg .u32 8 [S8.a s, S8.b s, S8.c s, S8.d s, S8.e s, S8.f s, S8.g s, S8.h s]])] 4 []) (.exit 6) (St.mk [.any, .any, .ptr (.o 0) 0 0 0 0, .any, .ptr (.o 2) 0 0 0 0, .any, .any, .any, .any, .any, .ptr (.o 3) 0 0 0 0, .any, .any, .any, .any, .any, .int .i64 8, .any, .any, .any, .any, .any, .any, .any, .any, .any, .any, .any, .any, .any, .any, .any, .any, .any, .any, .any, .any, .any, .any, .any, .any, .any, .any, .any, .any, .any, .any, .any, .any, .any, .any, .any, .any, .any, .any, .any, .any, .any, .any, .any, .any, .any, .any, .any, .any, .any, .any, .any, .any, .any, .any, .any, .any, .any, .any, .any, .any, .any, .any, .any, .any, .any, .any, .any, .any, .any, .any, .any, .any, .any, .any, .any, .any, .any, .any, .any, .any, .any, .any, .any, .any, .any, .any, .any, .any, .any, .any, .any, .any, .any, .any, .any, .any, .any, .any, .any, .any, .any, .any, .any, .any, .any, .any, .any, .any, .any, .any, .any, .any, .any, .any, .any, .any, .any, .any, .any, .any, .any, .any, .any, .any, .any, .any, .any, .any, .any, .any, .any, .any, .any, .any, .any, .any, .any, .any, .any, .any, .any, .any, .any, .any, .any, .any, .any, .any, .any, .any, .any, .any, .any, .any, .any, .any, .any, .any, .any, .any, .any, .any, .any, .any, .any, .any, .any, .any, .any, .any, .any, .any, .any, .any] [(.o 0, .flat [.seg .u32 8 h2]), (.o 2, .flat [.seg .u32 8 [(0 : Int), (0 : Int), (0 : Int), (0 : Int), (0 : Int), (0 : Int), (0 : Int), (0 : Int)]]), (.o 3, .flat [.seg .u32 8 [S8.a s, S8.b s, S8.c s, S8.d s, S8.e s, S8.f s, S8.g s, S8.h s]])] 4 []), q (8 : Nat), q h, q (8 : Nat), q ([(0 : Int), (0 : Int), (0 : Int), (0 : Int), (0 : Int), (0 : Int), (0 : Int), (0 : Int)]), q (8 : Nat), q ([S8.a s, S8.b s, S8.c s, S8.d s, S8.e s, S8.f s, S8.g s, S8.h s]), q0, q0, q0, q0, q0, q0, q0, q0, q0, q1]) : Option (V × Heap × List Prop)) := by kernel_rfl

theorem pcTi_p1 (h : List Int) (b : List Int) (w : List Int) (i : Nat) (w2 : List Int) :
  alongPc Try.prog (pcTi h b w i w2) [true] = (some (.normal, St.mk [.any, .ros 1 (List.length b) (ib b) false, .ptr (.o 0) 0 0 0 0, .any, .ptr (.o 2) 0 0 0 0, .ptr (.o 1) 0 0 0 0, .int .i64 (↑(i + 1) : Int), .any, .any, .any, .any, .any, .any, .any, .any, .any, .any, .any, .any, .any, .any, .any, .any, .any, .any, .any, .any, .any, .any, .any, .any, .any, .any, .any, .any, .any, .any, .any, .any, .any, .any, .any, .any, .any, .any, .any, .any, .any, .any, .any, .any, .any, .any, .any, .any, .any, .any, .any, .any, .any, .any, .any, .any, .any, .any, .any, .any, .any, .any, .any, .any, .any, .any, .any, .any, .any, .any, .any, .any, .any, .any, .any, .any, .any, .any, .any, .any, .any, .any, .any, .any, .any, .any, .any, .any, .any, .any, .any, .any, .any, .any, .any, .any, .any, .any, .any, .any, .any, .any, .any, .any, .any, .any, .any, .any, .any, .any, .any, .any, .any, .any, .any, .any, .any, .any, .any, .any, .any, .any, .any, .any, .any, .any, .any, .any, .any, .any, .any, .any, .any, .any, .any, .any, .any, .any, .any, .any, .any, .any, .any, .any, .any, .any, .any, .any, .any, .any, .any, .any, .any, .any, .any, .any, .any, .any, .any, .any, .any, .any, .any, .any, .any, .any, .any, .any, .any, .any, .any, .any, .any, .any, .any, .any, .any, .any, .any, .any, .any, .any, .any, .any] [(.o 0, .flat [.seg .u32 8 h]), (.o 1, .flat [.seg .u32 64 w2]), (.o 2, .flat [.seg .u32 8 [(0 : Int), (0 : Int), (0 : Int), (0 : Int), (0 : Int), (0 : Int), (0 : Int), (0 : Int)]])] 3 [], [decide ((↑i : Int) < (16 : Int)) = true, InR IntKind.i64 ((4 : Int) * (↑i : Int)), (0 : Int) ≤ (4 : Int) * (↑i : Int) ∧ (4 : Int) * (↑i : Int) < (↑(List.length b) : Int), (0 : Int) ≤ (24 : Int) ∧ (24 : Int) ≤ (32 : Int), InR IntKind.i64 ((4 : Int) * (↑i : Int)), InR IntKind.i64 ((4 : Int) * (↑i : Int) + (1 : Int)), (0 : Int) ≤ (4 : Int) * (↑i : Int) + (1 : Int) ∧ (4 : Int) * (↑i : Int) + (1 : Int) < (↑(List.length b) : Int), (0 : Int) ≤ (16 : Int) ∧ (16 : Int) ≤ (32 : Int), InR IntKind.i64 ((4 : Int) * (↑i : Int)), InR IntKind.i64 ((4 : Int) * (↑i : Int) + (2 : Int)), (0 : Int) ≤ (4 : Int) * (↑i : Int) + (2 : Int) ∧ (4 : Int) * (↑i : Int) + (2 : Int) < (↑(List.length b) : Int), (0 : Int) ≤ (8 : Int) ∧ (8 : Int) ≤ (32 : Int), InR IntKind.i64 ((4 : Int) * (↑i : Int)), InR IntKind.i64 ((4 : Int) * (↑i : Int) + (3 : Int)), (0 : Int) ≤ (4 : Int) * (↑i : Int) + (3 : Int) ∧ (4 : Int) * (↑i : Int) + (3 : Int) < (↑(List.length b) : Int), (0 : Int) ≤ (↑i : Int) ∧ (↑i : Int) < (64 : Int), (0 : Nat) + Int.toNat (↑i : Int) < (64 : Nat), InR IntKind.i64 ((↑i : Int) + (1 : Int)), q (8 : Nat), q h, q (64 : Nat), List.set w ((0 : Nat) + Int.toNat (↑i : Int)) (ibits (fun x x_1 y => x_1 ||| y) IntKind.u32 (ibits (fun x x_1 y => x_1 ||| y) IntKind.u32 (ibits (fun x x_1 y => x_1 ||| y) IntKind.u32 (IntKind.wrap IntKind.u32 (IntKind.wrap IntKind.u32 (List.getD b (Int.toNat ((4 : Int) * (↑i : Int))) (0 : Int)) * (16777216 : Int))) (IntKind.wrap IntKind.u32 (IntKind.wrap IntKind.u32 (List.getD b (Int.toNat ((4 : Int) * (↑i : Int) + (1 : Int))) (0 : Int)) * (65536 : Int)))) (IntKind.wrap IntKind.u32 (IntKind.wrap IntKind.u32 (List.getD b (Int.toNat ((4 : Int) * (↑i : Int) + (2 : Int))) (0 : Int)) * (256 : Int)))) (IntKind.wrap IntKind.u32 (List.getD b (Int.toNat ((4 : Int) * (↑i : Int) + (3 : Int))) (0 : Int)))) = w2, q (8 : Nat), q ([(0 : Int), (0 : Int), (0 : Int), (0 : Int), (0 : Int), (0 : Int), (0 : Int), (0 : Int)]), q (List.length b), ∀ (k : Nat), k < List.length b → [V.int IntKind.u8 (List.getD b k (0 : Int))] = [V.int IntKind.u8 (List.getD b k (0 : Int))], false = true → false = true, q0, q0, q0, q0, q0, q0, q0, q0, q0, (↑i : Int) + (1 : Int) = (↑(i + (1 : Nat)) : Int)]) : Option (Exit × St × List Prop)) := by kernel_rfl
theorem pcTi_p0 (h : List Int) (b : List Int) (w : List Int) (i : Nat) (w2 : List Int) :
  alongPc Try.prog (pcTi h b w i w2) [false] = (some (.exit 0, St.mk [.any, .ros 1 (List.length b) (ib b) false, .ptr (.o 0) 0 0 0 0, .any, .ptr (.o 2) 0 0 0 0, .ptr (.o 1) 0 0 0 0, .int .i64 16, .any, .any, .any, .any, .any, .any, .any, .any, .any, .any, .any, .any, .any, .any, .any, .any, .any, .any, .any, .any, .any, .any, .any, .any, .any, .any, .any, .any, .any, .any, .any, .any, .any, .any, .any, .any, .any, .any, .any, .any, .any, .any, .any, .any, .any, .any, .any, .any, .any, .any, .any, .any, .any, .any, .any, .any, .any, .any, .any, .any, .any, .any, .any, .any, .any, .any, .any, .any, .any, .any, .any, .any, .any, .any, .any, .any, .any, .any, .any, .any, .any, .any, .any, .any, .any, .any, .any, .any, .any, .any, .any, .any, .any, .any, .any, .any, .any, .any, .any, .any, .any, .any, .any, .any, .any, .any, .any, .any, .any, .any, .any, .any, .any, .any, .any, .any, .any, .any, .any, .any, .any, .any, .any, .any, .any, .any, .any, .any, .any, .any, .any, .any, .any, .any, .any, .any, .any, .any, .any, .any, .any, .any, .any, .any, .any, .any, .any, .any, .any, .any, .any, .any, .any, .any, .any, .any, .any, .any, .any, .any, .any, .any, .any, .any, .any, .any, .any, .any, .any, .any, .any, .any, .any, .any, .any, .any, .any, .any, .any, .any, .any, .any, .any, .any] [(.o 0, .flat [.seg .u32 8 h]), (.o 1, .flat [.seg .u32 64 w]), (.o 2, .flat [.seg .u32 8 [(0 : Int), (0 : Int), (0 : Int), (0 : Int), (0 : Int), (0 : Int), (0 : Int), (0 : Int)]])] 3 [], [decide ((↑i : Int) < (16 : Int)) = false, q (8 : Nat), q h, q (64 : Nat), q w, q (8 : Nat), q ([(0 : Int), (0 : Int), (0 : Int), (0 : Int), (0 : Int), (0 : Int), (0 : Int), (0 : Int)]), q (List.length b), ∀ (k : Nat), k < List.length b → [V.int IntKind.u8 (List.getD b k (0 : Int))] = [V.int IntKind.u8 (List.getD b k (0 : Int))], false = true → false = true, q0, q0, q0, q0, q0, q0, q0, q0, q0, (↑i : Int) = (16 : Int)]) : Option (Exit × St × List Prop)) := by kernel_rfl

theorem pcTj_p1 (h : List Int) (w : List Int) (k : Nat) (w2 : List Int) :
  alongPc Try.prog (pcTj h w k w2) [true] = (some (.normal, St.mk [.any, .any, .ptr (.o 0) 0 0 0 0, .any, .ptr (.o 2) 0 0 0 0, .ptr (.o 1) 0 0 0 0, .any, .int .i64 (↑(16 + (k + 1)) : Int), .any, .any, .any, .any, .any, .any, .any, .any, .any, .any, .any, .any, .any, .any, .any, .any, .any, .any, .any, .any, .any, .any, .any, .any, .any, .any, .any, .any, .any, .any, .any, .any, .any, .any, .any, .any, .any, .any, .any, .any, .any, .any, .any, .any, .any, .any, .any, .any, .any, .any, .any, .any, .any, .any, .any, .any, .any, .any, .any, .any, .any, .any, .any, .any, .any, .any, .any, .any, .any, .any, .any, .any, .any, .any, .any, .any, .any, .any, .any, .any, .any, .any, .any, .any, .any, .any, .any, .any, .any, .any, .any, .any, .any, .any, .any, .any, .any, .any, .any, .any, .any, .any, .any, .any, .any, .any, .any, .any, .any, .any, .any, .any, .any, .any, .any, .any, .any, .any, .any, .any, .any, .any, .any, .any, .any, .any, .any, .any, .any, .any, .any, .any, .any, .any, .any, .any, .any, .any, .any, .any, .any, .any, .any, .any, .any, .any, .any, .any, .any, .any, .any, .any, .any, .any, .any, .any, .any, .any, .any, .any, .any, .any, .any, .any, .any, .any, .any, .any, .any, .any, .any, .any, .any, .any, .any, .any, .any, .any, .any, .any, .any, .any, .any] [(.o 0, .flat [.seg .u32 8 h]), (.o 1, .flat [.seg .u32 64 w2]), (.o 2, .flat [.seg .u32 8 [(0 : Int), (0 : Int), (0 : Int), (0 : Int), (0 : Int), (0 : Int), (0 : Int), (0 : Int)]])] 3 [], [decide ((↑((16 : Nat) + k) : Int) < (64 : Int)) = true, InR IntKind.i64 ((↑((16 : Nat) + k) : Int) - (15 : Int)), (0 : Int) ≤ (↑((16 : Nat) + k) : Int) - (15 : Int) ∧ (↑((16 : Nat) + k) : Int) - (15 : Int) < (64 : Int), (0 : Nat) + Int.toNat ((↑((16 : Nat) + k) : Int) - (15 : Int)) < (64 : Nat), InR IntKind.i64 ((↑((16 : Nat) + k) : Int) - (2 : Int)), (0 : Int) ≤ (↑((16 : Nat) + k) : Int) - (2 : Int) ∧ (↑((16 : Nat) + k) : Int) - (2 : Int) < (64 : Int), (0 : Nat) + Int.toNat ((↑((16 : Nat) + k) : Int) - (2 : Int)) < (64 : Nat), InR IntKind.i64 ((↑((16 : Nat) + k) : Int) - (16 : Int)), (0 : Int) ≤ (↑((16 : Nat) + k) : Int) - (16 : Int) ∧ (↑((16 : Nat) + k) : Int) - (16 : Int) < (64 : Int), (0 : Nat) + Int.toNat ((↑((16 : Nat) + k) : Int) - (16 : Int)) < (64 : Nat), T Try.prog 111 [.int .u32 (List.getD w (0 + Int.toNat ((↑(16 + k) : Int) - (15 : Int))) (0 : Int)), .int .i64 7] [] (.int .u32 (rr32 (List.getD w (0 + Int.toNat ((↑(16 + k) : Int) - (15 : Int))) (0 : Int)) (7 : Int))) [], T Try.prog 111 [.int .u32 (List.getD w (0 + Int.toNat ((↑(16 + k) : Int) - (15 : Int))) (0 : Int)), .int .i64 18] [] (.int .u32 (rr32 (List.getD w (0 + Int.toNat ((↑(16 + k) : Int) - (15 : Int))) (0 : Int)) (18 : Int))) [], (0 : Int) ≤ (3 : Int) ∧ (3 : Int) ≤ (32 : Int), InR IntKind.i64 ((↑((16 : Nat) + k) : Int) - (7 : Int)), (0 : Int) ≤ (↑((16 : Nat) + k) : Int) - (7 : Int) ∧ (↑((16 : Nat) + k) : Int) - (7 : Int) < (64 : Int), (0 : Nat) + Int.toNat ((↑((16 : Nat) + k) : Int) - (7 : Int)) < (64 : Nat), T Try.prog 111 [.int .u32 (List.getD w (0 + Int.toNat ((↑(16 + k) : Int) - (2 : Int))) (0 : Int)), .int .i64 17] [] (.int .u32 (rr32 (List.getD w (0 + Int.toNat ((↑(16 + k) : Int) - (2 : Int))) (0 : Int)) (17 : Int))) [], T Try.prog 111 [.int .u32 (List.getD w (0 + Int.toNat ((↑(16 + k) : Int) - (2 : Int))) (0 : Int)), .int .i64 19] [] (.int .u32 (rr32 (List.getD w (0 + Int.toNat ((↑(16 + k) : Int) - (2 : Int))) (0 : Int)) (19 : Int))) [], (0 : Int) ≤ (10 : Int) ∧ (10 : Int) ≤ (32 : Int), (0 : Int) ≤ (↑((16 : Nat) + k) : Int) ∧ (↑((16 : Nat) + k) : Int) < (64 : Int), (0 : Nat) + Int.toNat (↑((16 : Nat) + k) : Int) < (64 : Nat), InR IntKind.i64 ((↑((16 : Nat) + k) : Int) + (1 : Int)), q (8 : Nat), q h, q (64 : Nat), List.set w ((0 : Nat) + Int.toNat (↑((16 : Nat) + k) : Int)) (IntKind.wrap IntKind.u32 (IntKind.wrap IntKind.u32 (IntKind.wrap IntKind.u32 (List.getD w ((0 : Nat) + Int.toNat ((↑((16 : Nat) + k) : Int) - (16 : Int))) (0 : Int) + ibits (fun x x_1 y => x_1 ^^^ y) IntKind.u32 (ibits (fun x x_1 y => x_1 ^^^ y) IntKind.u32 (rr32 (List.getD w ((0 : Nat) + Int.toNat ((↑((16 : Nat) + k) : Int) - (15 : Int))) (0 : Int)) (7 : Int)) (rr32 (List.getD w ((0 : Nat) + Int.toNat ((↑((16 : Nat) + k) : Int) - (15 : Int))) (0 : Int)) (18 : Int))) (List.getD w ((0 : Nat) + Int.toNat ((↑((16 : Nat) + k) : Int) - (15 : Int))) (0 : Int) / (8 : Int))) + List.getD w ((0 : Nat) + Int.toNat ((↑((16 : Nat) + k) : Int) - (7 : Int))) (0 : Int)) + ibits (fun x x_1 y => x_1 ^^^ y) IntKind.u32 (ibits (fun x x_1 y => x_1 ^^^ y) IntKind.u32 (rr32 (List.getD w ((0 : Nat) + Int.toNat ((↑((16 : Nat) + k) : Int) - (2 : Int))) (0 : Int)) (17 : Int)) (rr32 (List.getD w ((0 : Nat) + Int.toNat ((↑((16 : Nat) + k) : Int) - (2 : Int))) (0 : Int)) (19 : Int))) (List.getD w ((0 : Nat) + Int.toNat ((↑((16 : Nat) + k) : Int) - (2 : Int))) (0 : Int) / (1024 : Int)))) = w2, q (8 : Nat), q ([(0 : Int), (0 : Int), (0 : Int), (0 : Int), (0 : Int), (0 : Int), (0 : Int), (0 : Int)]), q0, q0, q0, q0, q0, q0, q0, q0, q0, (↑((16 : Nat) + k) : Int) + (1 : Int) = (↑((16 : Nat) + (k + (1 : Nat))) : Int)]) : Option (Exit × St × List Prop)) := by kernel_rfl
theorem pcTj_p0 (h : List Int) (w : List Int) (k : Nat) (w2 : List Int) :
  alongPc Try.prog (pcTj h w k w2) [false] = (some (.exit 2, St.mk [.any, .any, .ptr (.o 0) 0 0 0 0, .any, .ptr (.o 2) 0 0 0 0, .ptr (.o 1) 0 0 0 0, .any, .int .i64 64, .any, .any, .any, .any, .any, .any, .any, .any, .any, .any, .any, .any, .any, .any, .any, .any, .any, .any, .any, .any, .any, .any, .any, .any, .any, .any, .any, .any, .any, .any, .any, .any, .any, .any, .any, .any, .any, .any, .any, .any, .any, .any, .any, .any, .any, .any, .any, .any, .any, .any, .any, .any, .any, .any, .any, .any, .any, .any, .any, .any, .any, .any, .any, .any, .any, .any, .any, .any, .any, .any, .any, .any, .any, .any, .any, .any, .any, .any, .any, .any, .any, .any, .any, .any, .any, .any, .any, .any, .any, .any, .any, .any, .any, .any, .any, .any, .any, .any, .any, .any, .any, .any, .any, .any, .any, .any, .any, .any, .any, .any, .any, .any, .any, .any, .any, .any, .any, .any, .any, .any, .any, .any, .any, .any, .any, .any, .any, .any, .any, .any, .any, .any, .any, .any, .any, .any, .any, .any, .any, .any, .any, .any, .any, .any, .any, .any, .any, .any, .any, .any, .any, .any, .any, .any, .any, .any, .any, .any, .any, .any, .any, .any, .any, .any, .any, .any, .any, .any, .any, .any, .any, .any, .any, .any, .any, .any, .any, .any, .any, .any, .any, .any, .any] [(.o 0, .flat [.seg .u32 8 h]), (.o 1, .flat [.seg .u32 64 w]), (.o 2, .flat [.seg .u32 8 [(0 : Int), (0 : Int), (0 : Int), (0 : Int), (0 : Int), (0 : Int), (0 : Int), (0 : Int)]])] 3 [], [decide ((↑((16 : Nat) + k) : Int) < (64 : Int)) = false, q (8 : Nat), q h, q (64 : Nat), q w, q (8 : Nat), q ([(0 : Int), (0 : Int), (0 : Int), (0 : Int), (0 : Int), (0 : Int), (0 : Int), (0 : Int)]), q0, q0, q0, q0, q0, q0, q0, q0, q0, (↑((16 : Nat) + k) : Int) = (64 : Int)]) : Option (Exit × St × List Prop)) := by kernel_rfl

theorem pcTk_p1 (h : List Int) (w : List Int) (s : S8) (t : Nat) (s2 : S8) :
  alongPc Try.prog (pcTk h w s t s2) [true] = (some (.normal, St.mk [.any, .any, .ptr (.o 0) 0 0 0 0, .any, .ptr (.o 2) 0 0 0 0, .ptr (.o 1) 0 0 0 0, .any, .any, .any, .any, .ptr (.o 3) 0 0 0 0, .int .i64 (↑(t + 1) : Int), .any, .any, .any, .any, .any, .any, .any, .any, .any, .any, .any, .any, .any, .any, .any, .any, .any, .any, .any, .any, .any, .any, .any, .any, .any, .any, .any, .any, .any, .any, .any, .any, .any, .any, .any, .any, .any, .any, .any, .any, .any, .any, .any, .any, .any, .any, .any, .any, .any, .any, .any, .any, .any, .any, .any, .any, .any, .any, .any, .any, .any, .any, .any, .any, .any, .any, .any, .any, .any, .any, .any, .any, .any, .any, .any, .any, .any, .any, .any, .any, .any, .any, .any, .any, .any, .any, .any, .any, .any, .any, .any, .any, .any, .any, .any, .any, .any, .any, .any, .any, .any, .any, .any, .any, .any, .any, .any, .any, .any, .any, .any, .any, .any, .any, .any, .any, .any, .any, .any, .any, .any, .any, .any, .any, .any, .any, .any, .any, .any, .any, .any, .any, .any, .any, .any, .any, .any, .any, .any, .any, .any, .any, .any, .any, .any, .any, .any, .any, .any, .any, .any, .any, .any, .any, .any, .any, .any, .any, .any, .any, .any, .any, .any, .any, .any, .any, .any, .any, .any, .any, .any, .any, .any, .any, .any, .any, .any, .any, .any] [(.o 0, .flat [.seg .u32 8 h]), (.o 1, .flat [.seg .u32 64 w]), (.o 2, .flat [.seg .u32 8 [(0 : Int), (0 : Int), (0 : Int), (0 : Int), (0 : Int), (0 : Int), (0 : Int), (0 : Int)]]), (.o 3, .flat [.seg .u32 8 [S8.a s2, S8.b s2, S8.c s2, S8.d s2, S8.e s2, S8.f s2, S8.g s2, S8.h s2]])] 4 [], [decide ((↑t : Int) < (64 : Int)) = true, (0 : Int) ≤ (0 : Int) ∧ (0 : Int) < (8 : Int), nat_lit 0 < (8 : Nat), (0 : Int) ≤ (4 : Int) ∧ (4 : Int) < (8 : Int), nat_lit 4 < (8 : Nat), (0 : Int) ≤ (7 : Int) ∧ (7 : Int) < (8 : Int), nat_lit 7 < (8 : Nat), T Try.prog 111 [.int .u32 (List.getD [S8.a s, S8.b s, S8.c s, S8.d s, S8.e s, S8.f s, S8.g s, S8.h s] 4 (0 : Int)), .int .i64 6] [] (.int .u32 (rr32 (List.getD [S8.a s, S8.b s, S8.c s, S8.d s, S8.e s, S8.f s, S8.g s, S8.h s] 4 (0 : Int)) (6 : Int))) [], T Try.prog 111 [.int .u32 (List.getD [S8.a s, S8.b s, S8.c s, S8.d s, S8.e s, S8.f s, S8.g s, S8.h s] 4 (0 : Int)), .int .i64 11] [] (.int .u32 (rr32 (List.getD [S8.a s, S8.b s, S8.c s, S8.d s, S8.e s, S8.f s, S8.g s, S8.h s] 4 (0 : Int)) (11 : Int))) [], T Try.prog 111 [.int .u32 (List.getD [S8.a s, S8.b s, S8.c s, S8.d s, S8.e s, S8.f s, S8.g s, S8.h s] 4 (0 : Int)), .int .i64 25] [] (.int .u32 (rr32 (List.getD [S8.a s, S8.b s, S8.c s, S8.d s, S8.e s, S8.f s, S8.g s, S8.h s] 4 (0 : Int)) (25 : Int))) [], (0 : Int) ≤ (5 : Int) ∧ (5 : Int) < (8 : Int), nat_lit 5 < (8 : Nat), (0 : Int) ≤ (6 : Int) ∧ (6 : Int) < (8 : Int), nat_lit 6 < (8 : Nat), T Try.prog 112 [.int .i64 ↑t] [] (.int .u32 (kN (Int.toNat (↑t : Int)))) [], (0 : Int) ≤ (↑t : Int) ∧ (↑t : Int) < (64 : Int), (0 : Nat) + Int.toNat (↑t : Int) < (64 : Nat), T Try.prog 111 [.int .u32 (List.getD [S8.a s, S8.b s, S8.c s, S8.d s, S8.e s, S8.f s, S8.g s, S8.h s] 0 (0 : Int)), .int .i64 2] [] (.int .u32 (rr32 (List.getD [S8.a s, S8.b s, S8.c s, S8.d s, S8.e s, S8.f s, S8.g s, S8.h s] 0 (0 : Int)) (2 : Int))) [], T Try.prog 111 [.int .u32 (List.getD [S8.a s, S8.b s, S8.c s, S8.d s, S8.e s, S8.f s, S8.g s, S8.h s] 0 (0 : Int)), .int .i64 13] [] (.int .u32 (rr32 (List.getD [S8.a s, S8.b s, S8.c s, S8.d s, S8.e s, S8.f s, S8.g s, S8.h s] 0 (0 : Int)) (13 : Int))) [], T Try.prog 111 [.int .u32 (List.getD [S8.a s, S8.b s, S8.c s, S8.d s, S8.e s, S8.f s, S8.g s, S8.h s] 0 (0 : Int)), .int .i64 22] [] (.int .u32 (rr32 (List.getD [S8.a s, S8.b s, S8.c s, S8.d s, S8.e s, S8.f s, S8.g s, S8.h s] 0 (0 : Int)) (22 : Int))) [], (0 : Int) ≤ (1 : Int) ∧ (1 : Int) < (8 : Int), nat_lit 1 < (8 : Nat), (0 : Int) ≤ (2 : Int) ∧ (2 : Int) < (8 : Int), nat_lit 2 < (8 : Nat), (0 : Int) ≤ (1 : Int) ∧ (1 : Int) < (8 : Int), nat_lit 1 < (8 : Nat), (0 : Int) ≤ (2 : Int) ∧ (2 : Int) < (8 : Int), nat_lit 2 < (8 : Nat), (0 : Int) ≤ (1 : Int) ∧ (1 : Int) < (8 : Int), nat_lit 1 < (8 : Nat), (0 : Int) ≤ (2 : Int) ∧ (2 : Int) < (8 : Int), nat_lit 2 < (8 : Nat), (0 : Int) ≤ (3 : Int) ∧ (3 : Int) < (8 : Int), nat_lit 3 < (8 : Nat), (0 : Int) ≤ (5 : Int) ∧ (5 : Int) < (8 : Int), nat_lit 5 < (8 : Nat), (0 : Int) ≤ (6 : Int) ∧ (6 : Int) < (8 : Int), nat_lit 6 < (8 : Nat), InR IntKind.i64 ((↑t : Int) + (1 : Int)), q (8 : Nat), q h, q (64 : Nat), q w, q (8 : Nat), q ([(0 : Int), (0 : Int), (0 : Int), (0 : Int), (0 : Int), (0 : Int), (0 : Int), (0 : Int)]), q (8 : Nat), [IntKind.wrap IntKind.u32 (IntKind.wrap IntKind.u32 (IntKind.wrap IntKind.u32 (IntKind.wrap IntKind.u32 (IntKind.wrap IntKind.u32 (List.getD [S8.a s, S8.b s, S8.c s, S8.d s, S8.e s, S8.f s, S8.g s, S8.h s] (nat_lit 7) (0 : Int) + ibits (fun x x_1 y => x_1 ^^^ y) IntKind.u32 (ibits (fun x x_1 y => x_1 ^^^ y) IntKind.u32 (rr32 (List.getD [S8.a s, S8.b s, S8.c s, S8.d s, S8.e s, S8.f s, S8.g s, S8.h s] (nat_lit 4) (0 : Int)) (6 : Int)) (rr32 (List.getD [S8.a s, S8.b s, S8.c s, S8.d s, S8.e s, S8.f s, S8.g s, S8.h s] (nat_lit 4) (0 : Int)) (11 : Int))) (rr32 (List.getD [S8.a s, S8.b s, S8.c s, S8.d s, S8.e s, S8.f s, S8.g s, S8.h s] (nat_lit 4) (0 : Int)) (25 : Int))) + ibits (fun x x_1 y => x_1 ^^^ y) IntKind.u32 (ibits (fun x x_1 y => x_1 &&& y) IntKind.u32 (List.getD [S8.a s, S8.b s, S8.c s, S8.d s, S8.e s, S8.f s, S8.g s, S8.h s] (nat_lit 4) (0 : Int)) (List.getD [S8.a s, S8.b s, S8.c s, S8.d s, S8.e s, S8.f s, S8.g s, S8.h s] (nat_lit 5) (0 : Int))) (ibits (fun x x_1 y => x_1 &&& y) IntKind.u32 (ibits (fun x x_1 y => x_1 ^^^ y) IntKind.u32 (4294967295 : Int) (List.getD [S8.a s, S8.b s, S8.c s, S8.d s, S8.e s, S8.f s, S8.g s, S8.h s] (nat_lit 4) (0 : Int))) (List.getD [S8.a s, S8.b s, S8.c s, S8.d s, S8.e s, S8.f s, S8.g s, S8.h s] (nat_lit 6) (0 : Int)))) + kN (Int.toNat (↑t : Int))) + List.getD w ((0 : Nat) + Int.toNat (↑t : Int)) (0 : Int)) + IntKind.wrap IntKind.u32 (ibits (fun x x_1 y => x_1 ^^^ y) IntKind.u32 (ibits (fun x x_1 y => x_1 ^^^ y) IntKind.u32 (rr32 (List.getD [S8.a s, S8.b s, S8.c s, S8.d s, S8.e s, S8.f s, S8.g s, S8.h s] (nat_lit 0) (0 : Int)) (2 : Int)) (rr32 (List.getD [S8.a s, S8.b s, S8.c s, S8.d s, S8.e s, S8.f s, S8.g s, S8.h s] (nat_lit 0) (0 : Int)) (13 : Int))) (rr32 (List.getD [S8.a s, S8.b s, S8.c s, S8.d s, S8.e s, S8.f s, S8.g s, S8.h s] (nat_lit 0) (0 : Int)) (22 : Int)) + ibits (fun x x_1 y => x_1 ^^^ y) IntKind.u32 (ibits (fun x x_1 y => x_1 ^^^ y) IntKind.u32 (ibits (fun x x_1 y => x_1 &&& y) IntKind.u32 (List.getD [S8.a s, S8.b s, S8.c s, S8.d s, S8.e s, S8.f s, S8.g s, S8.h s] (nat_lit 0) (0 : Int)) (List.getD [S8.a s, S8.b s, S8.c s, S8.d s, S8.e s, S8.f s, S8.g s, S8.h s] (nat_lit 1) (0 : Int))) (ibits (fun x x_1 y => x_1 &&& y) IntKind.u32 (List.getD [S8.a s, S8.b s, S8.c s, S8.d s, S8.e s, S8.f s, S8.g s, S8.h s] (nat_lit 0) (0 : Int)) (List.getD [S8.a s, S8.b s, S8.c s, S8.d s, S8.e s, S8.f s, S8.g s, S8.h s] (nat_lit 2) (0 : Int)))) (ibits (fun x x_1 y => x_1 &&& y) IntKind.u32 (List.getD [S8.a s, S8.b s, S8.c s, S8.d s, S8.e s, S8.f s, S8.g s, S8.h s] (nat_lit 1) (0 : Int)) (List.getD [S8.a s, S8.b s, S8.c s, S8.d s, S8.e s, S8.f s, S8.g s, S8.h s] (nat_lit 2) (0 : Int))))), List.getD [S8.a s, S8.b s, S8.c s, S8.d s, S8.e s, S8.f s, S8.g s, S8.h s] (nat_lit 0) (0 : Int), List.getD [S8.a s, S8.b s, S8.c s, S8.d s, S8.e s, S8.f s, S8.g s, S8.h s] (nat_lit 1) (0 : Int), List.getD [S8.a s, S8.b s, S8.c s, S8.d s, S8.e s, S8.f s, S8.g s, S8.h s] (nat_lit 2) (0 : Int), IntKind.wrap IntKind.u32 (List.getD [S8.a s, S8.b s, S8.c s, S8.d s, S8.e s, S8.f s, S8.g s, S8.h s] (nat_lit 3) (0 : Int) + IntKind.wrap IntKind.u32 (IntKind.wrap IntKind.u32 (IntKind.wrap IntKind.u32 (IntKind.wrap IntKind.u32 (List.getD [S8.a s, S8.b s, S8.c s, S8.d s, S8.e s, S8.f s, S8.g s, S8.h s] (nat_lit 7) (0 : Int) + ibits (fun x x_1 y => x_1 ^^^ y) IntKind.u32 (ibits (fun x x_1 y => x_1 ^^^ y) IntKind.u32 (rr32 (List.getD [S8.a s, S8.b s, S8.c s, S8.d s, S8.e s, S8.f s, S8.g s, S8.h s] (nat_lit 4) (0 : Int)) (6 : Int)) (rr32 (List.getD [S8.a s, S8.b s, S8.c s, S8.d s, S8.e s, S8.f s, S8.g s, S8.h s] (nat_lit 4) (0 : Int)) (11 : Int))) (rr32 (List.getD [S8.a s, S8.b s, S8.c s, S8.d s, S8.e s, S8.f s, S8.g s, S8.h s] (nat_lit 4) (0 : Int)) (25 : Int))) + ibits (fun x x_1 y => x_1 ^^^ y) IntKind.u32 (ibits (fun x x_1 y => x_1 &&& y) IntKind.u32 (List.getD [S8.a s, S8.b s, S8.c s, S8.d s, S8.e s, S8.f s, S8.g s, S8.h s] (nat_lit 4) (0 : Int)) (List.getD [S8.a s, S8.b s, S8.c s, S8.d s, S8.e s, S8.f s, S8.g s, S8.h s] (nat_lit 5) (0 : Int))) (ibits (fun x x_1 y => x_1 &&& y) IntKind.u32 (ibits (fun x x_1 y => x_1 ^^^ y) IntKind.u32 (4294967295 : Int) (List.getD [S8.a s, S8.b s, S8.c s, S8.d s, S8.e s, S8.f s, S8.g s, S8.h s] (nat_lit 4) (0 : Int))) (List.getD [S8.a s, S8.b s, S8.c s, S8.d s, S8.e s, S8.f s, S8.g s, S8.h s] (nat_lit 6) (0 : Int)))) + kN (Int.toNat (↑t : Int))) + List.getD w ((0 : Nat) + Int.toNat (↑t : Int)) (0 : Int))), List.getD [S8.a s, S8.b s, S8.c s, S8.d s, S8.e s, S8.f s, S8.g s, S8.h s] (nat_lit 4) (0 : Int), List.getD [S8.a s, S8.b s, S8.c s, S8.d s, S8.e s, S8.f s, S8.g s, S8.h s] (nat_lit 5) (0 : Int), List.getD [S8.a s, S8.b s, S8.c s, S8.d s, S8.e s, S8.f s, S8.g s, S8.h s] (nat_lit 6) (0 : Int)] = [S8.a s2, S8.b s2, S8.c s2, S8.d s2, S8.e s2, S8.f s2, S8.g s2, S8.h s2], q0, q0, q0, q0, q0, q0, q0, q0, q0, q0, q0, q0, (↑t : Int) + (1 : Int) = (↑(t + (1 : Nat)) : Int)]) : Option (Exit × St × List Prop)) := by kernel_rfl
theorem pcTk_p0 (h : List Int) (w : List Int) (s : S8) (t : Nat) (s2 : S8) :
  alongPc Try.prog (pcTk h w s t s2) [false] = (some (.exit 4, St.mk [.any, .any, .ptr (.o 0) 0 0 0 0, .any, .ptr (.o 2) 0 0 0 0, .ptr (.o 1) 0 0 0 0, .any, .any, .any, .any, .ptr (.o 3) 0 0 0 0, .int .i64 64, .any, .any, .any, .any, .any, .any, .any, .any, .any, .any, .any, .any, .any, .any, .any, .any, .any, .any, .any, .any, .any, .any, .any, .any, .any, .any, .any, .any, .any, .any, .any, .any, .any, .any, .any, .any, .any, .any, .any, .any, .any, .any, .any, .any, .any, .any, .any, .any, .any, .any, .any, .any, .any, .any, .any, .any, .any, .any, .any, .any, .any, .any, .any, .any, .any, .any, .any, .any, .any, .any, .any, .any, .any, .any, .any, .any, .any, .any, .any, .any, .any, .any, .any, .any, .any, .any, .any, .any, .any, .any, .any, .any, .any, .any, .any, .any, .any, .any, .any, .any, .any, .any, .any, .any, .any, .any, .any, .any, .any, .any, .any, .any, .any, .any, .any, .any, .any, .any, .any, .any, .any, .any, .any, .any, .any, .any, .any, .any, .any, .any, .any, .any, .any, .any, .any, .any, .any, .any, .any, .any, .any, .any, .any, .any, .any, .any, .any, .any, .any, .any, .any, .any, .any, .any, .any, .any, .any, .any, .any, .any, .any, .any, .any, .any, .any, .any, .any, .any, .any, .any, .any, .any, .any, .any, .any, .any, .any, .any, .any] [(.o 0, .flat [.seg .u32 8 h]), (.o 1, .flat [.seg .u32 64 w]), (.o 2, .flat [.seg .u32 8 [(0 : Int), (0 : Int), (0 : Int), (0 : Int), (0 : Int), (0 : Int), (0 : Int), (0 : Int)]]), (.o 3, .flat [.seg .u32 8 [S8.a s, S8.b s, S8.c s, S8.d s, S8.e s, S8.f s, S8.g s, S8.h s]])] 4 [], [decide ((↑t : Int) < (64 : Int)) = false, q (8 : Nat), q h, q (64 : Nat), q w, q (8 : Nat), q ([(0 : Int), (0 : Int), (0 : Int), (0 : Int), (0 : Int), (0 : Int), (0 : Int), (0 : Int)]), q (8 : Nat), q ([S8.a s, S8.b s, S8.c s, S8.d s, S8.e s, S8.f s, S8.g s, S8.h s]), q0, q0, q0, q0, q0, q0, q0, q0, q0, q0, q0, q0, (↑t : Int) = (64 : Int)]) : Option (Exit × St × List Prop)) := by kernel_rfl

theorem pcTl_p1 (h : List Int) (l : List Int) (i : Nat) (h2 : List Int) :
  alongPc Try.prog (pcTl h l i h2) [true] = (some (.normal, St.mk [.any, .any, .ptr (.o 0) 0 0 0 0, .any, .ptr (.o 2) 0 0 0 0, .any, .any, .any, .any, .any, .ptr (.o 3) 0 0 0 0, .any, .any, .any, .any, .any, .int .i64 (↑(i + 1) : Int), .any, .any, .any, .any, .any, .any, .any, .any, .any, .any, .any, .any, .any, .any, .any, .any, .any, .any, .any, .any, .any, .any, .any, .any, .any, .any, .any, .any, .any, .any, .any, .any, .any, .any, .any, .any, .any, .any, .any, .any, .any, .any, .any, .any, .any, .any, .any, .any, .any, .any, .any, .any, .any, .any, .any, .any, .any, .any, .any, .any, .any, .any, .any, .any, .any, .any, .any, .any, .any, .any, .any, .any, .any, .any, .any, .any, .any, .any, .any, .any, .any, .any, .any, .any, .any, .any, .any, .any, .any, .any, .any, .any, .any, .any, .any, .any, .any, .any, .any, .any, .any, .any, .any, .any, .any, .any, .any, .any, .any, .any, .any, .any, .any, .any, .any, .any, .any, .any, .any, .any, .any, .any, .any, .any, .any, .any, .any, .any, .any, .any, .any, .any, .any, .any, .any, .any, .any, .any, .any, .any, .any, .any, .any, .any, .any, .any, .any, .any, .any, .any, .any, .any, .any, .any, .any, .any, .any, .any, .any, .any, .any, .any, .any, .any, .any, .any, .any, .any, .any, .any, .any, .any, .any, .any] [(.o 0, .flat [.seg .u32 8 h2]), (.o 2, .flat [.seg .u32 8 [(0 : Int), (0 : Int), (0 : Int), (0 : Int), (0 : Int), (0 : Int), (0 : Int), (0 : Int)]]), (.o 3, .flat [.seg .u32 8 l])] 4 [], [decide ((↑i : Int) < (8 : Int)) = true, (0 : Int) ≤ (↑i : Int) ∧ (↑i : Int) < (8 : Int), (0 : Nat) + Int.toNat (↑i : Int) < (8 : Nat), (0 : Int) ≤ (↑i : Int) ∧ (↑i : Int) < (8 : Int), (0 : Nat) + Int.toNat (↑i : Int) < (8 : Nat), (0 : Int) ≤ (↑i : Int) ∧ (↑i : Int) < (8 : Int), (0 : Nat) + Int.toNat (↑i : Int) < (8 : Nat), InR IntKind.i64 ((↑i : Int) + (1 : Int)), q (8 : Nat), List.set h ((0 : Nat) + Int.toNat (↑i : Int)) (IntKind.wrap IntKind.u32 (List.getD h ((0 : Nat) + Int.toNat (↑i : Int)) (0 : Int) + List.getD l ((0 : Nat) + Int.toNat (↑i : Int)) (0 : Int))) = h2, q (8 : Nat), q ([(0 : Int), (0 : Int), (0 : Int), (0 : Int), (0 : Int), (0 : Int), (0 : Int), (0 : Int)]), q (8 : Nat), q l, q0, q0, q0, q0, q0, q0, q0, q0, q0, (↑i : Int) + (1 : Int) = (↑(i + (1 : Nat)) : Int)]) : Option (Exit × St × List Prop)) := by kernel_rfl
theorem pcTl_p0 (h : List Int) (l : List Int) (i : Nat) (h2 : List Int) :
  alongPc Try.prog (pcTl h l i h2) [false] = (some (.exit 6, St.mk [.any, .any, .ptr (.o 0) 0 0 0 0, .any, .ptr (.o 2) 0 0 0 0, .any, .any, .any, .any, .any, .ptr (.o 3) 0 0 0 0, .any, .any, .any, .any, .any, .int .i64 8, .any, .any, .any, .any, .any, .any, .any, .any, .any, .any, .any, .any, .any, .any, .any, .any, .any, .any, .any, .any, .any, .any, .any, .any, .any, .any, .any, .any, .any, .any, .any, .any, .any, .any, .any, .any, .any, .any, .any, .any, .any, .any, .any, .any, .any, .any, .any, .any, .any, .any, .any, .any, .any, .any, .any, .any, .any, .any, .any, .any, .any, .any, .any, .any, .any, .any, .any, .any, .any, .any, .any, .any, .any, .any, .any, .any, .any, .any, .any, .any, .any, .any, .any, .any, .any, .any, .any, .any, .any, .any, .any, .any, .any, .any, .any, .any, .any, .any, .any, .any, .any, .any, .any, .any, .any, .any, .any, .any, .any, .any, .any, .any, .any, .any, .any, .any, .any, .any, .any, .any, .any, .any, .any, .any, .any, .any, .any, .any, .any, .any, .any, .any, .any, .any, .any, .any, .any, .any, .any, .any, .any, .any, .any, .any, .any, .any, .any, .any, .any, .any, .any, .any, .any, .any, .any, .any, .any, .any, .any, .any, .any, .any, .any, .any, .any, .any, .any, .any, .any, .any, .any, .any, .any, .any] [(.o 0, .flat [.seg .u32 8 h]), (.o 2, .flat [.seg .u32 8 [(0 : Int), (0 : Int), (0 : Int), (0 : Int), (0 : Int), (0 : Int), (0 : Int), (0 : Int)]]), (.o 3, .flat [.seg .u32 8 l])] 4 [], [decide ((↑i : Int) < (8 : Int)) = false, q (8 : Nat), q h, q (8 : Nat), q ([(0 : Int), (0 : Int), (0 : Int), (0 : Int), (0 : Int), (0 : Int), (0 : Int), (0 : Int)]), q (8 : Nat), q l, q0, q0, q0, q0, q0, q0, q0, q0, q0, (↑i : Int) = (8 : Int)]) : Option (Exit × St × List Prop)) := by kernel_rfl

theorem solb (v : Int) (k : Nat) (hk : k < 1) : solid (getL [[V.int .u8 v]] k) = true := by
 have : k = 0 := by omega
 subst this; rfl
theorem T_pa (l : List Int) (hb : l.length ≤ 10000000000) : T Try.prog 106 [rb l] [] (obS 0 (padL l)) [(.o 0, obB (padL l))] := by
 have hz : padZ (l.length + 1) < 64 := by unfold padZ; omega
 have hA : RLoop Try.prog none 0 (cB (cB (cL (cR (cR (bodyOf Try.f106)))))) (padZ (l.length + 1) + 1) (paI l (l ++ [128] ++ List.replicate 0 0)) (.exit 0) (paI l (l ++ [128] ++ List.replicate (padZ (l.length + 1)) 0)) := by
  have hl : ∀ k, (l ++ [128] ++ List.replicate k (0 : Int)).length = l.length + 1 + k := fun k => by simp; omega
  have hstep : ∀ k, k < padZ (l.length + 1) → R Try.prog none 0 (cB (cB (cL (cR (cR (bodyOf Try.f106)))))) (paI l (l ++ [128] ++ List.replicate k 0)) .normal (paI l (l ++ [128] ++ List.replicate (k + 1) 0)) := by
   intro k hk
   have h1 := padZ_lt hk
   have hlk := hl k
   have hlk1 := hl (k + 1)
   have e : (!decide (((l ++ [128] ++ List.replicate k (0 : Int)).length : Int) % 64 = 56)) = true := by rw [hlk, decide_eq_false (by omega)]; rfl
   have hc := ctb (l ++ [128] ++ List.replicate k 0) 0
   rw [show l ++ [128] ++ List.replicate k (0 : Int) ++ [0] = l ++ [128] ++ List.replicate (k + 1) 0 by rw [List.append_assoc (l ++ [128]), ← List.replicate_succ']] at hc
   refine R_alongPc NG MO _ (pcPi_p1 l (l ++ [128] ++ List.replicate k 0) (l ++ [128] ++ List.replicate (k + 1) 0)) ?_ (Nat.zero_le _)
   simp only [All]; and_intros
   all_goals first
    | exact True.intro
    | exact e
    | exact hc
    | (intro j hj; rw [Nat.zero_add]; exact solb 0 j hj)
    | (with_reducible assumption)
    | (rw [decide_eq_true_eq]; omega)
    | (rw [decide_eq_false_iff_not]; omega)
    | with_reducible rfl
    | (intro _ _; exact True.intro)
    | (intro _ _; with_reducible rfl)
    | (intro _ _; rfl)
    | (simp only [IntKind.min, IntKind.max, IntKind.signed, IntKind.bits, if_true]; omega)
    | omega
    | (intro h; exact h)
    | (intro h; cases h; done)
    | exact .inl rfl
    | exact .inl True.intro
    | exact .inr rfl
    | (simp; done)
  have hend : R Try.prog none 0 (cB (cB (cL (cR (cR (bodyOf Try.f106)))))) (paI l (l ++ [128] ++ List.replicate (padZ (l.length + 1)) 0)) (.exit 0) (paI l (l ++ [128] ++ List.replicate (padZ (l.length + 1)) 0)) := by
   have h1 := padZ_at (l.length + 1)
   have hlk := hl (padZ (l.length + 1))
   have e : (!decide (((l ++ [128] ++ List.replicate (padZ (l.length + 1)) (0 : Int)).length : Int) % 64 = 56)) = false := by rw [hlk, decide_eq_true (by omega)]; rfl
   refine R_alongPc NG MO _ (pcPi_p0 l (l ++ [128] ++ List.replicate (padZ (l.length + 1)) 0) []) ?_ (Nat.zero_le _)
   simp only [All]; and_intros
   all_goals first
    | exact True.intro
    | exact e
    | (with_reducible assumption)
    | (rw [decide_eq_true_eq]; omega)
    | (rw [decide_eq_false_iff_not]; omega)
    | with_reducible rfl
    | (intro _ _; exact True.intro)
    | (intro _ _; with_reducible rfl)
    | (intro _ _; rfl)
    | (simp only [IntKind.min, IntKind.max, IntKind.signed, IntKind.bits, if_true]; omega)
    | omega
    | (intro h; exact h)
    | (intro h; cases h; done)
    | exact .inl rfl
    | exact .inl True.intro
    | exact .inr rfl
    | (simp; done)
  exact RLoop.inv (fun k => paI l (l ++ [128] ++ List.replicate k 0)) (padZ (l.length + 1)) hstep hend (by simp)
 have hB : ∀ L : List Int, L.length ≤ 20000000000 → RLoop Try.prog none 0 (cB (cB (cR (cL (cR (cR (cR (cR (bodyOf Try.f106))))))))) (8 + 1) (paJ l (L ++ lenP (8 * (l.length : Int)) 0) 0) (.exit 2) (paJ l (L ++ lenP (8 * (l.length : Int)) 8) 8) := by
  intro L hL
  have hl : ∀ j, (L ++ lenP (8 * (l.length : Int)) j).length = L.length + j := fun j => by simp [lenP]
  have hstep : ∀ j, j < 8 → R Try.prog none 0 (cB (cB (cR (cL (cR (cR (cR (cR (bodyOf Try.f106))))))))) (paJ l (L ++ lenP (8 * (l.length : Int)) j) j) .normal (paJ l (L ++ lenP (8 * (l.length : Int)) (j + 1)) (j + 1)) := by
   intro j hj
   have hlj := hl j
   have hlj1 := hl (j + 1)
   have e1 : Int.toNat (8 * (7 - (j : Int))) = 56 - 8 * j := by omega
   have hc := ctb (L ++ lenP (8 * (l.length : Int)) j) (IntKind.wrap .u8 (8 * (l.length : Int) / 2 ^ (56 - 8 * j)))
   rw [show L ++ lenP (8 * (l.length : Int)) j ++ [IntKind.wrap .u8 (8 * (l.length : Int) / 2 ^ (56 - 8 * j))] = L ++ lenP (8 * (l.length : Int)) (j + 1) by rw [lenP_succ, List.append_assoc]; rfl] at hc
   refine R_alongPc NG MO _ (pcPj_p1 l (L ++ lenP (8 * (l.length : Int)) j) j (L ++ lenP (8 * (l.length : Int)) (j + 1))) ?_ (Nat.zero_le _)
   simp only [All, e1]; and_intros
   all_goals first
    | exact True.intro
    | exact hc
    | (intro j hj; rw [Nat.zero_add]; exact solb _ j hj)
    | (with_reducible assumption)
    | (rw [decide_eq_true_eq]; omega)
    | (rw [decide_eq_false_iff_not]; omega)
    | with_reducible rfl
    | (intro _ _; exact True.intro)
    | (intro _ _; with_reducible rfl)
    | (intro _ _; rfl)
    | (simp only [IntKind.min, IntKind.max, IntKind.signed, IntKind.bits, if_true]; omega)
    | omega
    | (intro h; exact h)
    | (intro h; cases h; done)
    | exact .inl rfl
    | exact .inl True.intro
    | exact .inr rfl
    | (simp; done)
  have hend : R Try.prog none 0 (cB (cB (cR (cL (cR (cR (cR (cR (bodyOf Try.f106))))))))) (paJ l (L ++ lenP (8 * (l.length : Int)) 8) 8) (.exit 2) (paJ l (L ++ lenP (8 * (l.length : Int)) 8) 8) := by
   refine R_alongPc NG MO _ (pcPj_p0 l (L ++ lenP (8 * (l.length : Int)) 8) 8 []) ?_ (Nat.zero_le _)
   simp only [All]; and_intros
   all_goals first
    | exact True.intro
    | (with_reducible assumption)
    | (rw [decide_eq_true_eq]; omega)
    | (rw [decide_eq_false_iff_not]; omega)
    | with_reducible rfl
    | (intro _ _; exact True.intro)
    | (intro _ _; with_reducible rfl)
    | (intro _ _; rfl)
    | (simp only [IntKind.min, IntKind.max, IntKind.signed, IntKind.bits, if_true]; omega)
    | omega
    | (intro h; exact h)
    | (intro h; cases h; done)
    | exact .inl rfl
    | exact .inl True.intro
    | exact .inr rfl
    | (simp; done)
  exact RLoop.inv (fun j => paJ l (L ++ lenP (8 * (l.length : Int)) j) j) 8 hstep hend (by simp)
 have hB1 := hB (l ++ [128] ++ List.replicate (padZ (l.length + 1)) 0) (by simp; omega)
 rw [List.replicate_zero, List.append_nil] at hA
 rw [show lenP (8 * (l.length : Int)) 0 = [] from rfl, List.append_nil] at hB1
 have hl0 : (l ++ [(128 : Int)]).length = l.length + 1 := by simp
 have hc0 := ctb l 128
 refine T_al (bdPa_p l (l ++ [128]) (padZ (l.length + 1)) (l ++ [128] ++ List.replicate (padZ (l.length + 1)) 0) (padL l)) Try.func106 ?_
 simp only [All, cat0, Nat.zero_add]; and_intros
 all_goals first
  | exact True.intro
  | exact hA
  | exact hB1
  | (intro k hk; have := hc0 k hk; simp only [Nat.zero_add] at this; exact this)
  | (intro j hj; exact solb 128 j hj)
  | (with_reducible assumption)
  | (rw [decide_eq_true_eq]; omega)
  | (rw [decide_eq_false_iff_not]; omega)
  | with_reducible rfl
  | (intro _ _; exact True.intro)
  | (intro _ _; with_reducible rfl)
  | (intro _ _; rfl)
  | (simp only [IntKind.min, IntKind.max, IntKind.signed, IntKind.bits, if_true]; omega)
  | omega
  | (intro h; exact h)
  | (intro h; cases h; done)
  | exact .inl rfl
  | exact .inl True.intro
  | exact .inr rfl
  | (simp; done)
theorem T_bt {h b : List Int} (hh : h.length = 8) (hb : b.length = 64) : T Try.prog 107 [.agg [.seg .u32 8 h], rb b] [] (.agg [.seg .u32 8 (blk h b)]) [] := by
 have hA : RLoop Try.prog none 0 (cB (cB (cR (cL (cR (cR (bodyOf Try.f107))))))) (16 + 1) (btI h b (wA b 0) 0) (.exit 0) (btI h b (wA b 16) 16) := by
  have hstep : ∀ i, i < 16 → R Try.prog none 0 (cB (cB (cR (cL (cR (cR (bodyOf Try.f107))))))) (btI h b (wA b i) i) .normal (btI h b (wA b (i + 1)) (i + 1)) := by
   intro i hi
   obtain ⟨e0, e1, e2, e3⟩ := tn4 i
   refine R_alongPc NG MO _ (pcTi_p1 h b (wA b i) i (wA b (i + 1))) ?_ (Nat.zero_le _)
   simp only [All, e0, e1, e2, e3, hb, Nat.zero_add, Int.toNat_natCast]; and_intros
   all_goals first
    | exact True.intro
    | rfl
    | (with_reducible assumption)
    | (rw [decide_eq_true_eq]; omega)
    | (rw [decide_eq_false_iff_not]; omega)
    | with_reducible rfl
    | (intro _ _; exact True.intro)
    | (intro _ _; with_reducible rfl)
    | (intro _ _; rfl)
    | (simp only [IntKind.min, IntKind.max, IntKind.signed, IntKind.bits, if_true]; omega)
    | omega
    | (intro h; exact h)
    | (intro h; cases h; done)
    | exact .inl rfl
    | exact .inl True.intro
    | exact .inr rfl
    | (simp; done)
  have hend : R Try.prog none 0 (cB (cB (cR (cL (cR (cR (bodyOf Try.f107))))))) (btI h b (wA b 16) 16) (.exit 0) (btI h b (wA b 16) 16) := by
   refine R_alongPc NG MO _ (pcTi_p0 h b (wA b 16) 16 []) ?_ (Nat.zero_le _)
   simp only [All]; and_intros
   all_goals first
    | exact True.intro
    | (with_reducible assumption)
    | (rw [decide_eq_true_eq]; omega)
    | (rw [decide_eq_false_iff_not]; omega)
    | with_reducible rfl
    | (intro _ _; exact True.intro)
    | (intro _ _; with_reducible rfl)
    | (intro _ _; rfl)
    | (simp only [IntKind.min, IntKind.max, IntKind.signed, IntKind.bits, if_true]; omega)
    | omega
    | (intro h; exact h)
    | (intro h; cases h; done)
    | exact .inl rfl
    | exact .inl True.intro
    | exact .inr rfl
    | (simp; done)
  exact RLoop.inv (fun i => btI h b (wA b i) i) 16 hstep hend (by simp)
 have hB : RLoop Try.prog none 0 (cB (cB (cR (cL (cR (cR (cR (bodyOf Try.f107)))))))) (48 + 1) (btJ h (wB b 0) 0) (.exit 2) (btJ h (wB b 48) 48) := by
  have hstep : ∀ k, k < 48 → R Try.prog none 0 (cB (cB (cR (cL (cR (cR (cR (bodyOf Try.f107)))))))) (btJ h (wB b k) k) .normal (btJ h (wB b (k + 1)) (k + 1)) := by
   intro k hk
   obtain ⟨e0, e1, e2, e3⟩ := tn16 k
   have h1 := T_rr ((wB b k).getD (k + 1) 0) (n := 7) (by decide)
   have h2 := T_rr ((wB b k).getD (k + 1) 0) (n := 18) (by decide)
   have h3 := T_rr ((wB b k).getD (k + 14) 0) (n := 17) (by decide)
   have h4 := T_rr ((wB b k).getD (k + 14) 0) (n := 19) (by decide)
   refine R_alongPc NG MO _ (pcTj_p1 h (wB b k) k (wB b (k + 1))) ?_ (Nat.zero_le _)
   simp only [All, e0, e1, e2, e3, Nat.zero_add, Int.toNat_natCast]; and_intros
   all_goals first
    | exact True.intro
    | exact h1
    | exact h2
    | exact h3
    | exact h4
    | rfl
    | (with_reducible assumption)
    | (rw [decide_eq_true_eq]; omega)
    | (rw [decide_eq_false_iff_not]; omega)
    | with_reducible rfl
    | (intro _ _; exact True.intro)
    | (intro _ _; with_reducible rfl)
    | (intro _ _; rfl)
    | (simp only [IntKind.min, IntKind.max, IntKind.signed, IntKind.bits, if_true]; omega)
    | omega
    | (intro h; exact h)
    | (intro h; cases h; done)
    | exact .inl rfl
    | exact .inl True.intro
    | exact .inr rfl
    | (simp; done)
  have hend : R Try.prog none 0 (cB (cB (cR (cL (cR (cR (cR (bodyOf Try.f107)))))))) (btJ h (wB b 48) 48) (.exit 2) (btJ h (wB b 48) 48) := by
   refine R_alongPc NG MO _ (pcTj_p0 h (wB b 48) 48 []) ?_ (Nat.zero_le _)
   simp only [All]; and_intros
   all_goals first
    | exact True.intro
    | (with_reducible assumption)
    | (rw [decide_eq_true_eq]; omega)
    | (rw [decide_eq_false_iff_not]; omega)
    | with_reducible rfl
    | (intro _ _; exact True.intro)
    | (intro _ _; with_reducible rfl)
    | (intro _ _; rfl)
    | (simp only [IntKind.min, IntKind.max, IntKind.signed, IntKind.bits, if_true]; omega)
    | omega
    | (intro h; exact h)
    | (intro h; cases h; done)
    | exact .inl rfl
    | exact .inl True.intro
    | exact .inr rfl
    | (simp; done)
  exact RLoop.inv (fun k => btJ h (wB b k) k) 48 hstep hend (by simp)
 have hC : ∀ w, RLoop Try.prog none 0 (cB (cB (cR (cL (cR (cR (cR (cR (cR (bodyOf Try.f107)))))))))) (64 + 1) (btK h w (rnd w (S8.of h) 0) 0) (.exit 4) (btK h w (rnd w (S8.of h) 64) 64) := by
  intro w
  have hstep : ∀ t, t < 64 → R Try.prog none 0 (cB (cB (cR (cL (cR (cR (cR (cR (cR (bodyOf Try.f107)))))))))) (btK h w (rnd w (S8.of h) t) t) .normal (btK h w (rnd w (S8.of h) (t + 1)) (t + 1)) := by
   intro t ht
   have h1 := T_rr (rnd w (S8.of h) t).e (n := 6) (by decide)
   have h2 := T_rr (rnd w (S8.of h) t).e (n := 11) (by decide)
   have h3 := T_rr (rnd w (S8.of h) t).e (n := 25) (by decide)
   have h4 := T_rr (rnd w (S8.of h) t).a (n := 2) (by decide)
   have h5 := T_rr (rnd w (S8.of h) t).a (n := 13) (by decide)
   have h6 := T_rr (rnd w (S8.of h) t).a (n := 22) (by decide)
   have h7 := T_kc ht
   refine R_alongPc NG MO _ (pcTk_p1 h w (rnd w (S8.of h) t) t (rnd w (S8.of h) (t + 1))) ?_ (Nat.zero_le _)
   simp only [All, Nat.zero_add, Int.toNat_natCast]; and_intros
   all_goals first
    | exact True.intro
    | exact h1
    | exact h2
    | exact h3
    | exact h4
    | exact h5
    | exact h6
    | exact h7
    | rfl
    | (with_reducible assumption)
    | (rw [decide_eq_true_eq]; omega)
    | (rw [decide_eq_false_iff_not]; omega)
    | with_reducible rfl
    | (intro _ _; exact True.intro)
    | (intro _ _; with_reducible rfl)
    | (intro _ _; rfl)
    | (simp only [IntKind.min, IntKind.max, IntKind.signed, IntKind.bits, if_true]; omega)
    | omega
    | (intro h; exact h)
    | (intro h; cases h; done)
    | exact .inl rfl
    | exact .inl True.intro
    | exact .inr rfl
    | (simp; done)
  have hend : R Try.prog none 0 (cB (cB (cR (cL (cR (cR (cR (cR (cR (bodyOf Try.f107)))))))))) (btK h w (rnd w (S8.of h) 64) 64) (.exit 4) (btK h w (rnd w (S8.of h) 64) 64) := by
   refine R_alongPc NG MO _ (pcTk_p0 h w (rnd w (S8.of h) 64) 64 ⟨0, 0, 0, 0, 0, 0, 0, 0⟩) ?_ (Nat.zero_le _)
   simp only [All]; and_intros
   all_goals first
    | exact True.intro
    | (with_reducible assumption)
    | (rw [decide_eq_true_eq]; omega)
    | (rw [decide_eq_false_iff_not]; omega)
    | with_reducible rfl
    | (intro _ _; exact True.intro)
    | (intro _ _; with_reducible rfl)
    | (intro _ _; rfl)
    | (simp only [IntKind.min, IntKind.max, IntKind.signed, IntKind.bits, if_true]; omega)
    | omega
    | (intro h; exact h)
    | (intro h; cases h; done)
    | exact .inl rfl
    | exact .inl True.intro
    | exact .inr rfl
    | (simp; done)
  exact RLoop.inv (fun t => btK h w (rnd w (S8.of h) t) t) 64 hstep hend (by simp)
 have hD : ∀ l, RLoop Try.prog none 0 (cB (cB (cR (cL (cR (cR (cR (cR (cR (cR (bodyOf Try.f107))))))))))) (8 + 1) (btL (hF h l 0) l 0) (.exit 6) (btL (hF h l 8) l 8) := by
  intro l
  have hstep : ∀ i, i < 8 → R Try.prog none 0 (cB (cB (cR (cL (cR (cR (cR (cR (cR (cR (bodyOf Try.f107))))))))))) (btL (hF h l i) l i) .normal (btL (hF h l (i + 1)) l (i + 1)) := by
   intro i hi
   refine R_alongPc NG MO _ (pcTl_p1 (hF h l i) l i (hF h l (i + 1))) ?_ (Nat.zero_le _)
   simp only [All, Nat.zero_add, Int.toNat_natCast]; and_intros
   all_goals first
    | exact True.intro
    | rfl
    | (with_reducible assumption)
    | (rw [decide_eq_true_eq]; omega)
    | (rw [decide_eq_false_iff_not]; omega)
    | with_reducible rfl
    | (intro _ _; exact True.intro)
    | (intro _ _; with_reducible rfl)
    | (intro _ _; rfl)
    | (simp only [IntKind.min, IntKind.max, IntKind.signed, IntKind.bits, if_true]; omega)
    | omega
    | (intro h; exact h)
    | (intro h; cases h; done)
    | exact .inl rfl
    | exact .inl True.intro
    | exact .inr rfl
    | (simp; done)
  have hend : R Try.prog none 0 (cB (cB (cR (cL (cR (cR (cR (cR (cR (cR (bodyOf Try.f107))))))))))) (btL (hF h l 8) l 8) (.exit 6) (btL (hF h l 8) l 8) := by
   refine R_alongPc NG MO _ (pcTl_p0 (hF h l 8) l 8 []) ?_ (Nat.zero_le _)
   simp only [All]; and_intros
   all_goals first
    | exact True.intro
    | (with_reducible assumption)
    | (rw [decide_eq_true_eq]; omega)
    | (rw [decide_eq_false_iff_not]; omega)
    | with_reducible rfl
    | (intro _ _; exact True.intro)
    | (intro _ _; with_reducible rfl)
    | (intro _ _; rfl)
    | (simp only [IntKind.min, IntKind.max, IntKind.signed, IntKind.bits, if_true]; omega)
    | omega
    | (intro h; exact h)
    | (intro h; cases h; done)
    | exact .inl rfl
    | exact .inl True.intro
    | exact .inr rfl
    | (simp; done)
  exact RLoop.inv (fun i => btL (hF h l i) l i) 8 hstep hend (by simp)
 have hC1 := hC (wB b 48)
 have hD1 := hD (rnd (wB b 48) (S8.of h) 64).l
 have hbk : hF h (rnd (wB b 48) (S8.of h) 64).l 8 = blk h b := rfl
 rw [hbk] at hD1
 have h8 : h = [(S8.of h).a, (S8.of h).b, (S8.of h).c, (S8.of h).d, (S8.of h).e, (S8.of h).f, (S8.of h).g, (S8.of h).h] := of8 hh
 generalize hw : wB b 48 = w at hB hC1 hD1
 generalize hs : rnd w (S8.of h) 64 = s at hC1 hD1
 generalize hwA : wA b 16 = w16 at hA
 generalize hs0 : S8.of h = s0 at hC1 h8
 have hB1 : RLoop Try.prog none 0 (cB (cB (cR (cL (cR (cR (cR (bodyOf Try.f107)))))))) (48 + 1) (btJ h w16 0) (.exit 2) (btJ h w 48) := by rw [← hwA]; exact hB
 refine T_al (bdBt_p h b w16 w s0 s (blk h b)) Try.func107 ?_
 simp only [All]; and_intros
 all_goals first
  | exact True.intro
  | exact hA
  | exact hB1
  | exact hC1
  | exact hD1
  | exact h8
  | (with_reducible assumption)
  | (rw [decide_eq_true_eq]; omega)
  | (rw [decide_eq_false_iff_not]; omega)
  | with_reducible rfl
  | (intro _ _; exact True.intro)
  | (intro _ _; with_reducible rfl)
  | (intro _ _; rfl)
  | (simp only [IntKind.min, IntKind.max, IntKind.signed, IntKind.bits, if_true]; omega)
  | omega
  | (intro h; exact h)
  | (intro h; cases h; done)
  | exact .inl rfl
  | exact .inl True.intro
  | exact .inr rfl
  | (simp; done)
end Go.Proofs.Ytpallipnhmoipaa
namespace Go.Proofs.Ytpallipnhmoipaa
open Go Sy Go.Proofs
def duI (p h : List Int) (i : Nat) : St := ⟨mkT 47 [(2, p0 2), (3, p0 0), (4, obS 1 p), (5, .int .i64 (64 * (i : Nat)))], [(.o 0, .flat [.seg .u32 8 h]), (.o 1, obB p), (.o 2, .flat [.seg .u8 32 z32L])], 3, []⟩
def duJ (h d : List Int) (i : Nat) : St := ⟨mkT 47 [(2, p0 2), (3, p0 0), (6, p0 3), (7, .int .i64 (i : Nat))], [(.o 0, .flat [.seg .u32 8 h]), (.o 2, .flat [.seg .u8 32 z32L]), (.o 3, .flat [.seg .u8 32 d])], 4, []⟩
def duK (h d : List Int) (i k : Nat) : St := ⟨mkT 47 [(2, p0 2), (3, p0 0), (6, p0 3), (7, .int .i64 (i : Nat)), (8, .int .i64 (k : Nat))], [(.o 0, .flat [.seg .u32 8 h]), (.o 2, .flat [.seg .u8 32 z32L]), (.o 3, .flat [.seg .u8 32 d])], 4, []⟩
noncomputable def bdDu (l p h : List Int) (n : Nat) (d : List Int) : Bd := { f := Try.f97, args := [rb l], kb := { db := dbQ [(106, fun _ _ lo => [{ val := obS lo p, post := [(.o lo, obB p)] }])], lp := fun id t => bif Nat.beq id 0 then [(True, .loop (n + 1) (wToS [(.o 0, nmV (getV t.tmps 3)), (.o 1, nmV (getV t.tmps 4)), (.o 2, nmV (getV t.tmps 2))] (duI p iv 0)) (.exit 0) (duI p h n))] else [(True, .loop (8 + 1) (wToS [(.o 3, nmV (getV t.tmps 6))] (duJ h z32L 0)) (.exit 2) (duJ h d 8))] } }
noncomputable def pcUi (p h : List Int) (i : Nat) (h2 : List Int) (n : Nat) : Pc := { c := cB (cB (cR (cL (cR (cR (cR (bodyOf Try.f97))))))), st := duI p h i, kb := { db := dbQ [(107, fun _ _ _ => [{ rd := [.o 1], val := .agg [.seg .u32 8 h2] }])] }, k := fun x_ _ => match x_ with
 | .normal => some (wTo (duI p h2 (i + 1)))
 | _ => some (wTo (duI p h n)) }
noncomputable def duC : Code := cB (cB (cR (cL (cR (cR (cR (cR (cR (bodyOf Try.f97)))))))))
noncomputable def pcUj (h d : List Int) (i : Nat) (d2 : List Int) : Pc := { c := duC, st := duJ h d i, kb := { db := fun _ _ _ _ => [], lp := fun _ _ => [(True, .loop (4 + 1) (wTo (duK h d i 0)) (.exit 4) (duK h d2 i 4))] }, k := fun x_ _ => match x_ with
 | .normal => some (wTo (duJ h d2 (i + 1)))
 | _ => some (wTo (duJ h d 8)) }
noncomputable def pcUk (h d : List Int) (i k : Nat) (d2 : List Int) : Pc := { c := cB (cB (cR (cB (cL (cR duC))))), st := duK h d i k, kb := kb0, k := fun x_ _ => match x_ with
 | .normal => some (wTo (duK h d2 i (k + 1)))
 | _ => some (wTo (duK h d i 4)) }
end Go.Proofs.Ytpallipnhmoipaa
namespace Go.Proofs.Ytpallipnhmoipaa
open Go Sy Go.Proofs
theorem bdDu_p (l : List Int) (p : List Int) (h : List Int) (n : Nat) (d : List Int) :
  along Try.prog (bdDu l p h n d) [] = (some (.agg [.seg .u8 32 d], [], [T Try.prog 106 [.ros 1 (List.length l) (ib l) false] [] (.sl (.o 320) 1 0 0 0 (List.length p) none) [(.o 320, .rows 1 (List.length p) (ib p) true)], RLoop Try.prog none 0 (cB (cB (cR (cL (cR (cR (cR (bodyOf (Bd.f (bdDu l p h n d)))))))))) (n + 1) (St.mk [.any, .any, .ptr (.o 2) 0 0 0 0, .ptr (.o 0) 0 0 0 0, .sl (.o 1) 1 0 0 0 (List.length p) none, .int .i64 0, .any, .any, .any, .any, .any, .any, .any, .any, .any, .any, .any, .any, .any, .any, .any, .any, .any, .any, .any, .any, .any, .any, .any, .any, .any, .any, .any, .any, .any, .any, .any, .any, .any, .any, .any, .any, .any, .any, .any, .any, .any] [(.o 0, .flat [.seg .u32 8 [(1779033703 : Int), (3144134277 : Int), (1013904242 : Int), (2773480762 : Int), (1359893119 : Int), (2600822924 : Int), (528734635 : Int), (1541459225 : Int)]]), (.o 1, .rows 1 (List.length p) (ib p) true), (.o 2, .flat [.seg .u8 32 z32L])] 3 []) (.exit 0) (St.mk [.any, .any, .ptr (.o 2) 0 0 0 0, .ptr (.o 0) 0 0 0 0, .sl (.o 1) 1 0 0 0 (List.length p) none, .int .i64 ((64 : Int) * (↑n : Int)), .any, .any, .any, .any, .any, .any, .any, .any, .any, .any, .any, .any, .any, .any, .any, .any, .any, .any, .any, .any, .any, .any, .any, .any, .any, .any, .any, .any, .any, .any, .any, .any, .any, .any, .any, .any, .any, .any, .any, .any, .any] [(.o 0, .flat [.seg .u32 8 h]), (.o 1, .rows 1 (List.length p) (ib p) true), (.o 2, .flat [.seg .u8 32 z32L])] 3 []), q (8 : Nat), q ([(1779033703 : Int), (3144134277 : Int), (1013904242 : Int), (2773480762 : Int), (1359893119 : Int), (2600822924 : Int), (528734635 : Int), (1541459225 : Int)]), q (List.length p), ∀ (k : Nat), k < List.length p → [V.int IntKind.u8 (List.getD p k (0 : Int))] = [V.int IntKind.u8 (List.getD p k (0 : Int))], true = false → true = false, q (32 : Nat), z32 = z32L, q0, q0, q0, q0, q0, q0, q0, q0, q0, q (List.length p), (none : Option Nat) = none ∨ (none : Option Nat) = none, q1, RLoop Try.prog none 0 (cB (cB (cR (cL (cR (cR (cR (cR (cR (bodyOf (Bd.f (bdDu l p h n d)))))))))))) 9 (St.mk [.any, .any, .ptr (.o 2) 0 0 0 0, .ptr (.o 0) 0 0 0 0, .any, .any, .ptr (.o 3) 0 0 0 0, .int .i64 0, .any, .any, .any, .any, .any, .any, .any, .any, .any, .any, .any, .any, .any, .any, .any, .any, .any, .any, .any, .any, .any, .any, .any, .any, .any, .any, .any, .any, .any, .any, .any, .any, .any, .any, .any, .any, .any, .any, .any] [(.o 0, .flat [.seg .u32 8 h]), (.o 2, .flat [.seg .u8 32 z32L]), (.o 3, .flat [.seg .u8 32 z32L])] 4 []) (.exit 2) (St.mk [.any, .any, .ptr (.o 2) 0 0 0 0, .ptr (.o 0) 0 0 0 0, .any, .any, .ptr (.o 3) 0 0 0 0, .int .i64 8, .any, .any, .any, .any, .any, .any, .any, .any, .any, .any, .any, .any, .any, .any, .any, .any, .any, .any, .any, .any, .any, .any, .any, .any, .any, .any, .any, .any, .any, .any, .any, .any, .any, .any, .any, .any, .any, .any, .any] [(.o 0, .flat [.seg .u32 8 h]), (.o 2, .flat [.seg .u8 32 z32L]), (.o 3, .flat [.seg .u8 32 d])] 4 []), q (8 : Nat), q h, q (32 : Nat), q z32L, q (32 : Nat), z32 = z32L, q0, q0, q0, q0, q0, q0, q0, q0, q0, q1]) : Option (V × Heap × List Prop)) := by kernel_rfl

theorem pcUi_p1 (p : List Int) (h : List Int) (i : Nat) (h2 : List Int) (n : Nat) :
  alongPc Try.prog (pcUi p h i h2 n) [true] = (some (.normal, St.mk [.any, .any, .ptr (.o 2) 0 0 0 0, .ptr (.o 0) 0 0 0 0, .sl (.o 1) 1 0 0 0 (List.length p) none, .int .i64 ((64 : Int) * (↑(i + 1) : Int)), .any, .any, .any, .any, .any, .any, .any, .any, .any, .any, .any, .any, .any, .any, .any, .any, .any, .any, .any, .any, .any, .any, .any, .any, .any, .any, .any, .any, .any, .any, .any, .any, .any, .any, .any, .any, .any, .any, .any, .any, .any] [(.o 0, .flat [.seg .u32 8 h2]), (.o 1, .rows 1 (List.length p) (ib p) true), (.o 2, .flat [.seg .u8 32 z32L])] 3 [], [decide ((64 : Int) * (↑i : Int) < (↑(List.length p) : Int)) = true, InR IntKind.i64 ((64 : Int) * (↑i : Int) + (64 : Int)), (0 : Int) ≤ (64 : Int) * (↑i : Int) + (64 : Int) ∧ (64 : Int) * (↑i : Int) + (64 : Int) ≤ (↑(natO none (List.length p)) : Int), (0 : Int) ≤ (64 : Int) * (↑i : Int) ∧ (64 : Int) * (↑i : Int) ≤ (↑(natO (some ((64 : Int) * (↑i : Int) + (64 : Int))) (List.length p)) : Int), Int.toNat ((64 : Int) * (↑i : Int)) = (0 : Nat) ∨ Int.toNat ((64 : Int) * (↑i : Int)) < natO none (List.length p), T Try.prog 107 [.agg [.seg .u32 8 h], .sl (.o 1) 1 (addO 0 (some ((64 : Int) * (↑i : Int)))) 0 0 (natO (some ((64 : Int) * (↑i : Int) + (64 : Int))) (List.length p) - natO (some ((64 : Int) * (↑i : Int))) 0) none] [(.o 1, .rows 1 (List.length p) (ib p) true)] (.agg [.seg .u32 8 h2]) [(.o 1, .rows 1 (List.length p) (ib p) true)], InR IntKind.i64 ((64 : Int) * (↑i : Int) + (64 : Int)), q (8 : Nat), q h2, q (List.length p), ∀ (k : Nat), k < List.length p → [V.int IntKind.u8 (List.getD p k (0 : Int))] = [V.int IntKind.u8 (List.getD p k (0 : Int))], true = false → true = false, q (32 : Nat), q z32L, q0, q0, q0, q0, q0, q0, q0, q0, q0, q (List.length p), (none : Option Nat) = none ∨ (none : Option Nat) = none, (64 : Int) * (↑i : Int) + (64 : Int) = (64 : Int) * (↑(i + (1 : Nat)) : Int)]) : Option (Exit × St × List Prop)) := by kernel_rfl
theorem pcUi_p0 (p : List Int) (h : List Int) (i : Nat) (h2 : List Int) (n : Nat) :
  alongPc Try.prog (pcUi p h i h2 n) [false] = (some (.exit 0, St.mk [.any, .any, .ptr (.o 2) 0 0 0 0, .ptr (.o 0) 0 0 0 0, .sl (.o 1) 1 0 0 0 (List.length p) none, .int .i64 ((64 : Int) * (↑n : Int)), .any, .any, .any, .any, .any, .any, .any, .any, .any, .any, .any, .any, .any, .any, .any, .any, .any, .any, .any, .any, .any, .any, .any, .any, .any, .any, .any, .any, .any, .any, .any, .any, .any, .any, .any, .any, .any, .any, .any, .any, .any] [(.o 0, .flat [.seg .u32 8 h]), (.o 1, .rows 1 (List.length p) (ib p) true), (.o 2, .flat [.seg .u8 32 z32L])] 3 [], [decide ((64 : Int) * (↑i : Int) < (↑(List.length p) : Int)) = false, q (8 : Nat), q h, q (List.length p), ∀ (k : Nat), k < List.length p → [V.int IntKind.u8 (List.getD p k (0 : Int))] = [V.int IntKind.u8 (List.getD p k (0 : Int))], true = false → true = false, q (32 : Nat), q z32L, q0, q0, q0, q0, q0, q0, q0, q0, q0, q (List.length p), (none : Option Nat) = none ∨ (none : Option Nat) = none, (64 : Int) * (↑i : Int) = (64 : Int) * (↑n : Int)]) : Option (Exit × St × List Prop)) := by kernel_rfl

theorem pcUj_p1 (h : List Int) (d : List Int) (i : Nat) (d2 : List Int) :
  alongPc Try.prog (pcUj h d i d2) [true] = (some (.normal, St.mk [.any, .any, .ptr (.o 2) 0 0 0 0, .ptr (.o 0) 0 0 0 0, .any, .any, .ptr (.o 3) 0 0 0 0, .int .i64 (↑(i + 1) : Int), .any, .any, .any, .any, .any, .any, .any, .any, .any, .any, .any, .any, .any, .any, .any, .any, .any, .any, .any, .any, .any, .any, .any, .any, .any, .any, .any, .any, .any, .any, .any, .any, .any, .any, .any, .any, .any, .any, .any] [(.o 0, .flat [.seg .u32 8 h]), (.o 2, .flat [.seg .u8 32 z32L]), (.o 3, .flat [.seg .u8 32 d2])] 4 [], [decide ((↑i : Int) < (8 : Int)) = true, RLoop Try.prog none 0 (cB (cB (cR (cB (cL (cR (Pc.c (pcUj h d i d2)))))))) 5 (St.mk [.any, .any, .ptr (.o 2) 0 0 0 0, .ptr (.o 0) 0 0 0 0, .any, .any, .ptr (.o 3) 0 0 0 0, .int .i64 ↑i, .int .i64 0, .any, .any, .any, .any, .any, .any, .any, .any, .any, .any, .any, .any, .any, .any, .any, .any, .any, .any, .any, .any, .any, .any, .any, .any, .any, .any, .any, .any, .any, .any, .any, .any, .any, .any, .any, .any, .any, .any] [(.o 0, .flat [.seg .u32 8 h]), (.o 2, .flat [.seg .u8 32 z32L]), (.o 3, .flat [.seg .u8 32 d])] 4 []) (.exit 4) (St.mk [.any, .any, .ptr (.o 2) 0 0 0 0, .ptr (.o 0) 0 0 0 0, .any, .any, .ptr (.o 3) 0 0 0 0, .int .i64 ↑i, .int .i64 4, .any, .any, .any, .any, .any, .any, .any, .any, .any, .any, .any, .any, .any, .any, .any, .any, .any, .any, .any, .any, .any, .any, .any, .any, .any, .any, .any, .any, .any, .any, .any, .any, .any, .any, .any, .any, .any, .any] [(.o 0, .flat [.seg .u32 8 h]), (.o 2, .flat [.seg .u8 32 z32L]), (.o 3, .flat [.seg .u8 32 d2])] 4 []), q (8 : Nat), q h, q (32 : Nat), q z32L, q (32 : Nat), q d, q0, q0, q0, q0, q0, q0, q0, q0, q0, q (↑i : Int), q1, InR IntKind.i64 ((↑i : Int) + (1 : Int)), q (8 : Nat), q h, q (32 : Nat), q z32L, q (32 : Nat), q d2, q0, q0, q0, q0, q0, q0, q0, q0, q0, (↑i : Int) + (1 : Int) = (↑(i + (1 : Nat)) : Int)]) : Option (Exit × St × List Prop)) := by kernel_rfl
theorem pcUj_p0 (h : List Int) (d : List Int) (i : Nat) (d2 : List Int) :
  alongPc Try.prog (pcUj h d i d2) [false] = (some (.exit 2, St.mk [.any, .any, .ptr (.o 2) 0 0 0 0, .ptr (.o 0) 0 0 0 0, .any, .any, .ptr (.o 3) 0 0 0 0, .int .i64 8, .any, .any, .any, .any, .any, .any, .any, .any, .any, .any, .any, .any, .any, .any, .any, .any, .any, .any, .any, .any, .any, .any, .any, .any, .any, .any, .any, .any, .any, .any, .any, .any, .any, .any, .any, .any, .any, .any, .any] [(.o 0, .flat [.seg .u32 8 h]), (.o 2, .flat [.seg .u8 32 z32L]), (.o 3, .flat [.seg .u8 32 d])] 4 [], [decide ((↑i : Int) < (8 : Int)) = false, q (8 : Nat), q h, q (32 : Nat), q z32L, q (32 : Nat), q d, q0, q0, q0, q0, q0, q0, q0, q0, q0, (↑i : Int) = (8 : Int)]) : Option (Exit × St × List Prop)) := by kernel_rfl

theorem pcUk_p1 (h : List Int) (d : List Int) (i : Nat) (k : Nat) (d2 : List Int) :
  alongPc Try.prog (pcUk h d i k d2) [true] = (some (.normal, St.mk [.any, .any, .ptr (.o 2) 0 0 0 0, .ptr (.o 0) 0 0 0 0, .any, .any, .ptr (.o 3) 0 0 0 0, .int .i64 ↑i, .int .i64 (↑(k + 1) : Int), .any, .any, .any, .any, .any, .any, .any, .any, .any, .any, .any, .any, .any, .any, .any, .any, .any, .any, .any, .any, .any, .any, .any, .any, .any, .any, .any, .any, .any, .any, .any, .any, .any, .any, .any, .any, .any, .any] [(.o 0, .flat [.seg .u32 8 h]), (.o 2, .flat [.seg .u8 32 z32L]), (.o 3, .flat [.seg .u8 32 d2])] 4 [], [decide ((↑k : Int) < (4 : Int)) = true, InR IntKind.i64 ((4 : Int) * (↑i : Int)), InR IntKind.i64 ((4 : Int) * (↑i : Int) + (↑k : Int)), (0 : Int) ≤ (↑i : Int) ∧ (↑i : Int) < (8 : Int), (0 : Nat) + Int.toNat (↑i : Int) < (8 : Nat), InR IntKind.i64 ((8 : Int) * (↑k : Int)), InR IntKind.i64 ((24 : Int) - (8 : Int) * (↑k : Int)), (0 : Int) ≤ (24 : Int) - (8 : Int) * (↑k : Int) ∧ (24 : Int) - (8 : Int) * (↑k : Int) ≤ (32 : Int), (0 : Int) ≤ (4 : Int) * (↑i : Int) + (↑k : Int) ∧ (4 : Int) * (↑i : Int) + (↑k : Int) < (32 : Int), (0 : Nat) + Int.toNat ((4 : Int) * (↑i : Int) + (↑k : Int)) < (32 : Nat), InR IntKind.i64 ((↑k : Int) + (1 : Int)), q (8 : Nat), q h, q (32 : Nat), q z32L, q (32 : Nat), List.set d ((0 : Nat) + Int.toNat ((4 : Int) * (↑i : Int) + (↑k : Int))) (IntKind.wrap IntKind.u8 (List.getD h ((0 : Nat) + Int.toNat (↑i : Int)) (0 : Int) / (2 : Int) ^ Int.toNat ((24 : Int) - (8 : Int) * (↑k : Int)))) = d2, q0, q0, q0, q0, q0, q0, q0, q0, q0, q (↑i : Int), (↑k : Int) + (1 : Int) = (↑(k + (1 : Nat)) : Int)]) : Option (Exit × St × List Prop)) := by kernel_rfl
theorem pcUk_p0 (h : List Int) (d : List Int) (i : Nat) (k : Nat) (d2 : List Int) :
  alongPc Try.prog (pcUk h d i k d2) [false] = (some (.exit 4, St.mk [.any, .any, .ptr (.o 2) 0 0 0 0, .ptr (.o 0) 0 0 0 0, .any, .any, .ptr (.o 3) 0 0 0 0, .int .i64 ↑i, .int .i64 4, .any, .any, .any, .any, .any, .any, .any, .any, .any, .any, .any, .any, .any, .any, .any, .any, .any, .any, .any, .any, .any, .any, .any, .any, .any, .any, .any, .any, .any, .any, .any, .any, .any, .any, .any, .any, .any, .any] [(.o 0, .flat [.seg .u32 8 h]), (.o 2, .flat [.seg .u8 32 z32L]), (.o 3, .flat [.seg .u8 32 d])] 4 [], [decide ((↑k : Int) < (4 : Int)) = false, q (8 : Nat), q h, q (32 : Nat), q z32L, q (32 : Nat), q d, q0, q0, q0, q0, q0, q0, q0, q0, q0, q (↑i : Int), (↑k : Int) = (4 : Int)]) : Option (Exit × St × List Prop)) := by kernel_rfl

theorem T_btL {p h : List Int} (hh : h.length = 8) {i X Y : Nat} (hX : X = 64 * i) (hY : Y = 64) (hp : 64 * i + 64 ≤ p.length) : T Try.prog 107 [.agg [.seg .u32 8 h], .sl (.o 1) 1 X 0 0 Y none] [(.o 1, obB p)] (.agg [.seg .u32 8 (blk h (cutB p i))]) [(.o 1, obB p)] := by
 have hl := cutB_len p i
 refine T.lendG (T_bt hh hl) rfl ?_ (FreeV.agg rfl) (by simp) (by rintro n ⟨b, hb⟩; cases hb)
 simp only [All, hl]; and_intros
 all_goals first
  | exact True.intro
  | (intro k hk; show [V.int .u8 (p.getD (X + k) 0)] = [V.int .u8 ((cutB p i).getD k 0)]; rw [cutB_get (by omega), hX])
  | (with_reducible assumption)
  | (rw [decide_eq_true_eq]; omega)
  | (rw [decide_eq_false_iff_not]; omega)
  | with_reducible rfl
  | (intro _ _; exact True.intro)
  | (intro _ _; with_reducible rfl)
  | (intro _ _; rfl)
  | (simp only [IntKind.min, IntKind.max, IntKind.signed, IntKind.bits, if_true]; omega)
  | omega
  | (intro h; exact h)
  | (intro h; cases h; done)
  | exact .inl rfl
  | exact .inl True.intro
  | exact .inr rfl
  | (simp; done)
theorem duKL (h d : List Int) (i : Nat) (hi : i < 8) : RLoop Try.prog none 0 (cB (cB (cR (cB (cL (cR duC)))))) (4 + 1) (duK h (dA h (4 * i + 0)) i 0) (.exit 4) (duK h (dA h (4 * i + 4)) i 4) := by
 have hstep : ∀ k, k < 4 → R Try.prog none 0 (cB (cB (cR (cB (cL (cR duC)))))) (duK h (dA h (4 * i + k)) i k) .normal (duK h (dA h (4 * i + (k + 1))) i (k + 1)) := by
  intro k hk
  have e1 : Int.toNat (4 * (i : Int) + (k : Int)) = 4 * i + k := by omega
  have e2 : Int.toNat (24 - 8 * (k : Int)) = 24 - 8 * k := by omega
  have e3 : dA h (4 * i + (k + 1)) = (dA h (4 * i + k)).set (4 * i + k) (IntKind.wrap .u8 (h.getD i 0 / 2 ^ (24 - 8 * k))) := by
   show (dA h (4 * i + k)).set (4 * i + k) (w8 (h.getD ((4 * i + k) / 4) 0 / 2 ^ (24 - 8 * ((4 * i + k) % 4)))) = _
   rw [show (4 * i + k) / 4 = i by omega, show (4 * i + k) % 4 = k by omega]; rfl
  refine R_alongPc NG MO _ (pcUk_p1 h (dA h (4 * i + k)) i k (dA h (4 * i + (k + 1)))) ?_ (Nat.zero_le _)
  simp only [All, e1, e2, Int.toNat_natCast, Nat.zero_add]; and_intros
  all_goals first
   | exact True.intro
   | exact e3.symm
   | (with_reducible assumption)
   | (rw [decide_eq_true_eq]; omega)
   | (rw [decide_eq_false_iff_not]; omega)
   | with_reducible rfl
   | (intro _ _; exact True.intro)
   | (intro _ _; with_reducible rfl)
   | (intro _ _; rfl)
   | (simp only [IntKind.min, IntKind.max, IntKind.signed, IntKind.bits, if_true]; omega)
   | omega
   | (intro h; exact h)
   | (intro h; cases h; done)
   | exact .inl rfl
   | exact .inl True.intro
   | exact .inr rfl
   | (simp; done)
 have hend : R Try.prog none 0 (cB (cB (cR (cB (cL (cR duC)))))) (duK h (dA h (4 * i + 4)) i 4) (.exit 4) (duK h (dA h (4 * i + 4)) i 4) := by
  refine R_alongPc NG MO _ (pcUk_p0 h (dA h (4 * i + 4)) i 4 []) ?_ (Nat.zero_le _)
  simp only [All]; and_intros
  all_goals first
   | exact True.intro
   | (with_reducible assumption)
   | (rw [decide_eq_true_eq]; omega)
   | (rw [decide_eq_false_iff_not]; omega)
   | with_reducible rfl
   | (intro _ _; exact True.intro)
   | (intro _ _; with_reducible rfl)
   | (intro _ _; rfl)
   | (simp only [IntKind.min, IntKind.max, IntKind.signed, IntKind.bits, if_true]; omega)
   | omega
   | (intro h; exact h)
   | (intro h; cases h; done)
   | exact .inl rfl
   | exact .inl True.intro
   | exact .inr rfl
   | (simp; done)
 exact RLoop.inv (fun k => duK h (dA h (4 * i + k)) i k) 4 hstep hend (by simp)
theorem duJL (h : List Int) : RLoop Try.prog none 0 duC (8 + 1) (duJ h (dA h (4 * 0)) 0) (.exit 2) (duJ h (dA h (4 * 8)) 8) := by
 have hstep : ∀ i, i < 8 → R Try.prog none 0 duC (duJ h (dA h (4 * i)) i) .normal (duJ h (dA h (4 * (i + 1))) (i + 1)) := by
  intro i hi
  have hK := duKL h [] i hi
  refine R_alongPc NG MO _ (pcUj_p1 h (dA h (4 * i)) i (dA h (4 * (i + 1)))) ?_ (Nat.zero_le _)
  simp only [All]; and_intros
  all_goals first
   | exact True.intro
   | exact hK
   | (with_reducible assumption)
   | (rw [decide_eq_true_eq]; omega)
   | (rw [decide_eq_false_iff_not]; omega)
   | with_reducible rfl
   | (intro _ _; exact True.intro)
   | (intro _ _; with_reducible rfl)
   | (intro _ _; rfl)
   | (simp only [IntKind.min, IntKind.max, IntKind.signed, IntKind.bits, if_true]; omega)
   | omega
   | (intro h; exact h)
   | (intro h; cases h; done)
   | exact .inl rfl
   | exact .inl True.intro
   | exact .inr rfl
   | (simp; done)
 have hend : R Try.prog none 0 duC (duJ h (dA h (4 * 8)) 8) (.exit 2) (duJ h (dA h (4 * 8)) 8) := by
  refine R_alongPc NG MO _ (pcUj_p0 h (dA h (4 * 8)) 8 []) ?_ (Nat.zero_le _)
  simp only [All]; and_intros
  all_goals first
   | exact True.intro
   | (with_reducible assumption)
   | (rw [decide_eq_true_eq]; omega)
   | (rw [decide_eq_false_iff_not]; omega)
   | with_reducible rfl
   | (intro _ _; exact True.intro)
   | (intro _ _; with_reducible rfl)
   | (intro _ _; rfl)
   | (simp only [IntKind.min, IntKind.max, IntKind.signed, IntKind.bits, if_true]; omega)
   | omega
   | (intro h; exact h)
   | (intro h; cases h; done)
   | exact .inl rfl
   | exact .inl True.intro
   | exact .inr rfl
   | (simp; done)
 exact RLoop.inv (fun i => duJ h (dA h (4 * i)) i) 8 hstep hend (by simp)
theorem T_du (l : List Int) (hb : l.length ≤ 10000000000) : T Try.prog 97 [rb l] [] (.agg [.seg .u8 32 (shaV l)]) [] := by
 have hP : T Try.prog 106 [rb l] [] (obS 320 (padL l)) [(.o 320, obB (padL l))] := by
  obtain ⟨σ, hσ, h3⟩ := T.at (T_pa l hb) [.o 0] [.o 320] (by decide) (by decide) rfl
  simp only [List.map_cons, List.map_nil, List.cons.injEq, and_true] at hσ
  simpa [V.rens, V.ren, Heap.ren, Sy.B.ren, obS, obB, rb, hσ] using h3
 have hlen := padL_len l
 have hpl : (padL l).length ≤ 20000000000 := by
  have : padZ (l.length + 1) < 64 := by unfold padZ; omega
  simp only [padL, List.length_append, List.length_replicate, List.length_cons, List.length_nil, lenB_len]
  omega
 have hs : shaV l = dA (hK (padL l) ((padL l).length / 64)) (4 * 8) := rfl
 generalize padL l = p at hP hlen hpl hs
 have hA : RLoop Try.prog none 0 (cB (cB (cR (cL (cR (cR (cR (bodyOf Try.f97)))))))) (p.length / 64 + 1) (duI p (hK p 0) 0) (.exit 0) (duI p (hK p (p.length / 64)) (p.length / 64)) := by
  have hstep : ∀ i, i < p.length / 64 → R Try.prog none 0 (cB (cB (cR (cL (cR (cR (cR (bodyOf Try.f97)))))))) (duI p (hK p i) i) .normal (duI p (hK p (i + 1)) (i + 1)) := by
   intro i hi
   have e1 : addO 0 (some (64 * (i : Int))) = 64 * i := by show 0 + (64 * (i : Int)).toNat = _; omega
   have e2 : natO (some (64 * (i : Int) + 64)) p.length = 64 * i + 64 := by show (64 * (i : Int) + 64).toNat = _; omega
   have e3 : natO (some (64 * (i : Int))) 0 = 64 * i := by show (64 * (i : Int)).toNat = _; omega
   have e4 : natO (none : Option Int) p.length = p.length := rfl
   have hB := T_btL (p := p) (hK_len p i) (i := i) (X := 64 * i) (Y := 64 * i + 64 - 64 * i) rfl (by omega) (by omega)
   refine R_alongPc NG MO _ (pcUi_p1 p (hK p i) i (hK p (i + 1)) 0) ?_ (Nat.zero_le _)
   simp only [All, e1, e2, e3, e4]; and_intros
   all_goals first
    | exact True.intro
    | exact hB
    | (with_reducible assumption)
    | (rw [decide_eq_true_eq]; omega)
    | (rw [decide_eq_false_iff_not]; omega)
    | with_reducible rfl
    | (intro _ _; exact True.intro)
    | (intro _ _; with_reducible rfl)
    | (intro _ _; rfl)
    | (simp only [IntKind.min, IntKind.max, IntKind.signed, IntKind.bits, if_true]; omega)
    | omega
    | (intro h; exact h)
    | (intro h; cases h; done)
    | exact .inl rfl
    | exact .inl True.intro
    | exact .inr rfl
    | (simp; done)
  have hend : R Try.prog none 0 (cB (cB (cR (cL (cR (cR (cR (bodyOf Try.f97)))))))) (duI p (hK p (p.length / 64)) (p.length / 64)) (.exit 0) (duI p (hK p (p.length / 64)) (p.length / 64)) := by
   refine R_alongPc NG MO _ (pcUi_p0 p (hK p (p.length / 64)) (p.length / 64) [] (p.length / 64)) ?_ (Nat.zero_le _)
   simp only [All]; and_intros
   all_goals first
    | exact True.intro
    | (with_reducible assumption)
    | (rw [decide_eq_true_eq]; omega)
    | (rw [decide_eq_false_iff_not]; omega)
    | with_reducible rfl
    | (intro _ _; exact True.intro)
    | (intro _ _; with_reducible rfl)
    | (intro _ _; rfl)
    | (simp only [IntKind.min, IntKind.max, IntKind.signed, IntKind.bits, if_true]; omega)
    | omega
    | (intro h; exact h)
    | (intro h; cases h; done)
    | exact .inl rfl
    | exact .inl True.intro
    | exact .inr rfl
    | (simp; done)
  exact RLoop.inv (fun i => duI p (hK p i) i) (p.length / 64) hstep hend (by simp)
 have hJ := duJL (hK p (p.length / 64))
 rw [← hs] at hJ
 generalize hK p (p.length / 64) = h at hA hJ
 generalize p.length / 64 = n at hA
 generalize shaV l = d at hJ
 refine T_al (bdDu_p l p h n d) Try.func97 ?_
 simp only [All]; and_intros
 all_goals first
  | exact True.intro
  | exact hP
  | exact hA
  | exact hJ
  | rfl
  | (with_reducible assumption)
  | (rw [decide_eq_true_eq]; omega)
  | (rw [decide_eq_false_iff_not]; omega)
  | with_reducible rfl
  | (intro _ _; exact True.intro)
  | (intro _ _; with_reducible rfl)
  | (intro _ _; rfl)
  | (simp only [IntKind.min, IntKind.max, IntKind.signed, IntKind.bits, if_true]; omega)
  | omega
  | (intro h; exact h)
  | (intro h; cases h; done)
  | exact .inl rfl
  | exact .inl True.intro
  | exact .inr rfl
  | (simp; done)
end Go.Proofs.Ytpallipnhmoipaa
namespace Go.Proofs.Ytpallipnhmoipaa
open Go Sy Go.Proofs
def rbs (n : Nat) (ls : Nat → List Int) : V := .ros 1 n (fun k => [rb (ls k)]) false
noncomputable def bdR1 (ls : Nat → List Int) (H1 W1 : List Int) (n1 : Int) (d H3 W3 : List Int) (n3 : Int) : Bd := { f := Try.f54, args := [rbs 1 ls], base := 1, kb := { db := suDb H1 W1 n1 H1 W1 n1 d H3 W3 n3, lp := fun _ _ => [(True, .rounds 2)], lit := true } }
noncomputable def bdR2 (ls : Nat → List Int) (H1 W1 : List Int) (n1 : Int) (H2 W2 : List Int) (n2 : Int) (d H3 W3 : List Int) (n3 : Int) : Bd := { f := Try.f54, args := [rbs 2 ls], base := 1, kb := { db := suDb H1 W1 n1 H2 W2 n2 d H3 W3 n3, lp := fun _ _ => [(True, .rounds 3)], lit := true } }
def byI (d L : List Int) (k : Nat) : St := ⟨mkT 16 [(1, p0 0), (3, obS 1 L), (4, .int .i64 (k : Nat))], [(.o 0, .flat [.seg .u8 32 d]), (.o 1, obB L)], 2, []⟩
noncomputable def bdBy (d : List Int) : Bd := { f := Try.f99, args := [.agg [.seg .u8 32 d]], kb := { db := fun _ _ _ _ => [], fx := fun id _ => bif Nat.beq id 2 then [.virt 3 1] else [], lp := fun _ t => [(True, .loop (32 + 1) (wToS [(.o 0, nmV (getV t.tmps 1)), (.o 1, nmV (getV t.tmps 3))] (byI d [] 0)) (.exit 0) (byI d d 32))] }, names := fun _ => [.o 1] }
noncomputable def pcBy (d L : List Int) (k : Nat) (L2 : List Int) : Pc := { c := cB (cB (cR (cL (cR (cR (bodyOf Try.f99)))))), st := byI d L k, kb := kb0, k := fun x_ t => match x_ with
 | .normal => some (wToS [(.o 1, nmV (getV t.tmps 3))] (byI d L2 (k + 1)))
 | _ => some (wTo (byI d L 32)) }
end Go.Proofs.Ytpallipnhmoipaa
namespace Go.Proofs.Ytpallipnhmoipaa
open Go Sy Go.Proofs
theorem bdR1_p (ls : Nat → List Int) (H1 : List Int) (W1 : List Int) (n1 : Int) (d : List Int) (H3 : List Int) (W3 : List Int) (n3 : Int) :
  along Try.prog (bdR1 ls H1 W1 n1 d H3 W3 n3) [] = (some (.agg [.seg .u8 32 d], [], [T Try.prog 65 [] [] (.ptr (.o 65) 0 0 0 0) [(.o 65, .flat [.seg .u32 8 [(1779033703 : Int), (3144134277 : Int), (1013904242 : Int), (2773480762 : Int), (1359893119 : Int), (2600822924 : Int), (528734635 : Int), (1541459225 : Int)], .seg .u8 64 z64L, .int .i64 0])], q2, (0 : Int) ≤ (0 : Int) ∧ (0 : Int) < (1 : Int), T Try.prog 66 [.ptr (.o 65) 0 0 0 0, .ros 1 (List.length (ls 0)) (ib (ls 0)) false] [(.o 65, .flat [.seg .u32 8 [(1779033703 : Int), (3144134277 : Int), (1013904242 : Int), (2773480762 : Int), (1359893119 : Int), (2600822924 : Int), (528734635 : Int), (1541459225 : Int)], .seg .u8 64 z64L, .int .i64 0])] (.tup []) [(.o 65, .flat [.seg .u32 8 H1, .seg .u8 64 W1, .int .i64 n1])], InR IntKind.i64 (1 : Int), q false, T Try.prog 67 [.ptr (.o 65) 0 0 0 0] [(.o 65, .flat [.seg .u32 8 H1, .seg .u8 64 W1, .int .i64 n1])] (.agg [.seg .u8 32 d]) [(.o 65, .flat [.seg .u32 8 H3, .seg .u8 64 W3, .int .i64 n3])]]) : Option (V × Heap × List Prop)) := by kernel_rfl

theorem bdR2_p (ls : Nat → List Int) (H1 : List Int) (W1 : List Int) (n1 : Int) (H2 : List Int) (W2 : List Int) (n2 : Int) (d : List Int) (H3 : List Int) (W3 : List Int) (n3 : Int) :
  along Try.prog (bdR2 ls H1 W1 n1 H2 W2 n2 d H3 W3 n3) [] = (some (.agg [.seg .u8 32 d], [], [T Try.prog 65 [] [] (.ptr (.o 65) 0 0 0 0) [(.o 65, .flat [.seg .u32 8 [(1779033703 : Int), (3144134277 : Int), (1013904242 : Int), (2773480762 : Int), (1359893119 : Int), (2600822924 : Int), (528734635 : Int), (1541459225 : Int)], .seg .u8 64 z64L, .int .i64 0])], q2, (0 : Int) ≤ (0 : Int) ∧ (0 : Int) < (2 : Int), T Try.prog 66 [.ptr (.o 65) 0 0 0 0, .ros 1 (List.length (ls 0)) (ib (ls 0)) false] [(.o 65, .flat [.seg .u32 8 [(1779033703 : Int), (3144134277 : Int), (1013904242 : Int), (2773480762 : Int), (1359893119 : Int), (2600822924 : Int), (528734635 : Int), (1541459225 : Int)], .seg .u8 64 z64L, .int .i64 0])] (.tup []) [(.o 65, .flat [.seg .u32 8 H1, .seg .u8 64 W1, .int .i64 n1])], InR IntKind.i64 (1 : Int), q2, (0 : Int) ≤ (1 : Int) ∧ (1 : Int) < (2 : Int), T Try.prog 66 [.ptr (.o 65) 0 0 0 0, .ros 1 (List.length (ls 1)) (ib (ls 1)) false] [(.o 65, .flat [.seg .u32 8 H1, .seg .u8 64 W1, .int .i64 n1])] (.tup []) [(.o 65, .flat [.seg .u32 8 H2, .seg .u8 64 W2, .int .i64 n2])], InR IntKind.i64 (2 : Int), q false, T Try.prog 67 [.ptr (.o 65) 0 0 0 0] [(.o 65, .flat [.seg .u32 8 H2, .seg .u8 64 W2, .int .i64 n2])] (.agg [.seg .u8 32 d]) [(.o 65, .flat [.seg .u32 8 H3, .seg .u8 64 W3, .int .i64 n3])]]) : Option (V × Heap × List Prop)) := by kernel_rfl

theorem bdBy_p (d : List Int) :
  along Try.prog (bdBy d) [] = (some (.sl (.o 1) 1 0 0 0 (List.length d) none, [(.o 1, .rows 1 (List.length d) (ib d) true)], [RLoop Try.prog none 0 (cB (cB (cR (cL (cR (cR (bodyOf (Bd.f (bdBy d))))))))) 33 (St.mk [.any, .ptr (.o 0) 0 0 0 0, .any, .sl (.o 1) 1 0 0 0 0 none, .int .i64 0, .any, .any, .any, .any, .any, .any, .any, .any, .any, .any, .any] [(.o 0, .flat [.seg .u8 32 d]), (.o 1, .rows 1 0 (ib []) true)] 2 []) (.exit 0) (St.mk [.any, .ptr (.o 0) 0 0 0 0, .any, .sl (.o 1) 1 0 0 0 (List.length d) none, .int .i64 32, .any, .any, .any, .any, .any, .any, .any, .any, .any, .any, .any] [(.o 0, .flat [.seg .u8 32 d]), (.o 1, .rows 1 (List.length d) (ib d) true)] 2 []), q (32 : Nat), q d, (0 : Nat) = nat_lit 0, ∀ (k : Nat), k < (0 : Nat) → [] = [V.int IntKind.u8 (0 : Int)], true = false → true = false, q0, q0, q0, q0, q0, q0, (0 : Nat) = nat_lit 0, (none : Option Nat) = none ∨ (none : Option Nat) = none, q1]) : Option (V × Heap × List Prop)) := by kernel_rfl

theorem pcBy_p1 (d : List Int) (L : List Int) (k : Nat) (L2 : List Int) :
  alongPc Try.prog (pcBy d L k L2) [true] = (some (.normal, St.mk [.any, .ptr (.o 0) 0 0 0 0, .any, .sl (.o 1) 1 0 0 0 (List.length L2) none, .int .i64 (↑(k + 1) : Int), .any, .any, .any, .any, .any, .any, .any, .any, .any, .any, .any] [(.o 0, .flat [.seg .u8 32 d]), (.o 1, .rows 1 (List.length L2) (ib L2) true)] 2 [], [decide ((↑k : Int) < (32 : Int)) = true, (0 : Int) ≤ (↑k : Int) ∧ (↑k : Int) < (32 : Int), (0 : Nat) + Int.toNat (↑k : Int) < (32 : Nat), q (List.length L), nat_lit 1 ≤ (1 : Nat), ∀ (k_1 : Nat), k_1 < (1 : Nat) → solid (getL [[V.int IntKind.u8 (List.getD d ((0 : Nat) + Int.toNat (↑k : Int)) (0 : Int))]] ((0 : Nat) + k_1)) = true, (List.length L + (1 : Nat)) * (1 : Nat) ≤ (140737488355328 : Nat), InR IntKind.i64 ((↑k : Int) + (1 : Int)), q (32 : Nat), q d, List.length L + (1 : Nat) = List.length L2, ∀ (k_1 : Nat), k_1 < List.length L + (1 : Nat) → catF (List.length L) (ib L) (fun k_2 => getL [[V.int IntKind.u8 (List.getD d ((0 : Nat) + Int.toNat (↑k : Int)) (0 : Int))]] ((0 : Nat) + k_2)) k_1 = [V.int IntKind.u8 (List.getD L2 k_1 (0 : Int))], true = false → true = false, q0, q0, q0, q0, q0, q0, List.length L + (1 : Nat) = List.length L2, (none : Option Nat) = none ∨ (none : Option Nat) = none, (↑k : Int) + (1 : Int) = (↑(k + (1 : Nat)) : Int)]) : Option (Exit × St × List Prop)) := by kernel_rfl
theorem pcBy_p0 (d : List Int) (L : List Int) (k : Nat) (L2 : List Int) :
  alongPc Try.prog (pcBy d L k L2) [false] = (some (.exit 0, St.mk [.any, .ptr (.o 0) 0 0 0 0, .any, .sl (.o 1) 1 0 0 0 (List.length L) none, .int .i64 32, .any, .any, .any, .any, .any, .any, .any, .any, .any, .any, .any] [(.o 0, .flat [.seg .u8 32 d]), (.o 1, .rows 1 (List.length L) (ib L) true)] 2 [], [decide ((↑k : Int) < (32 : Int)) = false, q (32 : Nat), q d, q (List.length L), ∀ (k : Nat), k < List.length L → [V.int IntKind.u8 (List.getD L k (0 : Int))] = [V.int IntKind.u8 (List.getD L k (0 : Int))], true = false → true = false, q0, q0, q0, q0, q0, q0, q (List.length L), (none : Option Nat) = none ∨ (none : Option Nat) = none, (↑k : Int) = (32 : Int)]) : Option (Exit × St × List Prop)) := by kernel_rfl

theorem T_sr1 (ls : Nat → List Int) (hb : (ls 0).length ≤ 10000000000) : T Try.prog 54 [rbs 1 ls] [] (.agg [.seg .u8 32 (shaV (ls 0))]) [] := by
 have hB := T_be
 obtain ⟨H1, W1, hI1, hT1⟩ := T_wrA (inv_nil (W := z64L) (by simp [z64L])) (ls 0) (by simp; omega) 65
 rw [List.nil_append] at hI1
 rw [List.length_nil, Nat.zero_add] at hT1
 obtain ⟨H3, W3, n3, hT3⟩ := T_enA hI1 hb 65
 refine T_al (bdR1_p ls H1 W1 ((ls 0).length : Nat) (shaV (ls 0)) H3 W3 n3) Try.func54 ?_
 simp only [All]; and_intros
 all_goals first
  | exact True.intro
  | exact hB
  | exact hT1
  | exact hT3
  | (with_reducible assumption)
  | (rw [decide_eq_true_eq]; omega)
  | (rw [decide_eq_false_iff_not]; omega)
  | with_reducible rfl
  | (intro _ _; exact True.intro)
  | (intro _ _; with_reducible rfl)
  | (intro _ _; rfl)
  | (simp only [IntKind.min, IntKind.max, IntKind.signed, IntKind.bits, if_true]; omega)
  | omega
  | (intro h; exact h)
  | (intro h; cases h; done)
  | exact .inl rfl
  | exact .inl True.intro
  | exact .inr rfl
  | (simp; done)
theorem T_sr2 (ls : Nat → List Int) (hb : (ls 0).length + (ls 1).length ≤ 10000000000) : T Try.prog 54 [rbs 2 ls] [] (.agg [.seg .u8 32 (shaV (ls 0 ++ ls 1))]) [] := by
 have hB := T_be
 obtain ⟨H1, W1, hI1, hT1⟩ := T_wrA (inv_nil (W := z64L) (by simp [z64L])) (ls 0) (by simp; omega) 65
 rw [List.nil_append] at hI1
 rw [List.length_nil, Nat.zero_add] at hT1
 obtain ⟨H2, W2, hI2, hT2⟩ := T_wrA hI1 (ls 1) (by omega) 65
 obtain ⟨H3, W3, n3, hT3⟩ := T_enA hI2 (by rw [List.length_append]; omega) 65
 rw [List.length_append] at hT3
 refine T_al (bdR2_p ls H1 W1 ((ls 0).length : Nat) H2 W2 (((ls 0).length + (ls 1).length : Nat) : Int) (shaV (ls 0 ++ ls 1)) H3 W3 n3) Try.func54 ?_
 simp only [All]; and_intros
 all_goals first
  | exact True.intro
  | exact hB
  | exact hT1
  | exact hT2
  | exact hT3
  | (with_reducible assumption)
  | (rw [decide_eq_true_eq]; omega)
  | (rw [decide_eq_false_iff_not]; omega)
  | with_reducible rfl
  | (intro _ _; exact True.intro)
  | (intro _ _; with_reducible rfl)
  | (intro _ _; rfl)
  | (simp only [IntKind.min, IntKind.max, IntKind.signed, IntKind.bits, if_true]; omega)
  | omega
  | (intro h; exact h)
  | (intro h; cases h; done)
  | exact .inl rfl
  | exact .inl True.intro
  | exact .inr rfl
  | (simp; done)
theorem T_by {d : List Int} (hd : d.length = 32) : T Try.prog 99 [.agg [.seg .u8 32 d]] [] (obS 1 d) [(.o 1, obB d)] := by
 have hl : ∀ k, k ≤ 32 → (d.take k).length = k := fun k hk => by rw [List.length_take]; omega
 have hL : RLoop Try.prog none 0 (cB (cB (cR (cL (cR (cR (bodyOf Try.f99))))))) (32 + 1) (byI d (d.take 0) 0) (.exit 0) (byI d (d.take 32) 32) := by
  have hstep : ∀ k, k < 32 → R Try.prog none 0 (cB (cB (cR (cL (cR (cR (bodyOf Try.f99))))))) (byI d (d.take k) k) .normal (byI d (d.take (k + 1)) (k + 1)) := by
   intro k hk
   have e1 := hl k (by omega)
   have e2 := hl (k + 1) (by omega)
   have hc := ctb (d.take k) (d.getD k 0)
   rw [show d.take k ++ [d.getD k 0] = d.take (k + 1) by rw [List.getD_eq_getElem?_getD, List.getElem?_eq_getElem (by omega), Option.getD_some, List.take_append_getElem]] at hc
   simp only [Nat.zero_add] at hc
   refine R_alongPc NG MO _ (pcBy_p1 d (d.take k) k (d.take (k + 1))) ?_ (Nat.zero_le _)
   simp only [All, Int.toNat_natCast, Nat.zero_add]; and_intros
   all_goals first
    | exact True.intro
    | (intro j hj; exact hc j hj)
    | (intro j hj; rw [Nat.zero_add] at *; exact hc j hj)
    | (intro j hj; rw [Nat.zero_add]; exact solb _ j hj)
    | (intro j hj; exact solb _ j hj)
    | (with_reducible assumption)
    | (rw [decide_eq_true_eq]; omega)
    | (rw [decide_eq_false_iff_not]; omega)
    | with_reducible rfl
    | (intro _ _; exact True.intro)
    | (intro _ _; with_reducible rfl)
    | (intro _ _; rfl)
    | (simp only [IntKind.min, IntKind.max, IntKind.signed, IntKind.bits, if_true]; omega)
    | omega
    | (intro h; exact h)
    | (intro h; cases h; done)
    | exact .inl rfl
    | exact .inl True.intro
    | exact .inr rfl
    | (simp; done)
  have hend : R Try.prog none 0 (cB (cB (cR (cL (cR (cR (bodyOf Try.f99))))))) (byI d (d.take 32) 32) (.exit 0) (byI d (d.take 32) 32) := by
   refine R_alongPc NG MO _ (pcBy_p0 d (d.take 32) 32 []) ?_ (Nat.zero_le _)
   simp only [All]; and_intros
   all_goals first
    | exact True.intro
    | (with_reducible assumption)
    | (rw [decide_eq_true_eq]; omega)
    | (rw [decide_eq_false_iff_not]; omega)
    | with_reducible rfl
    | (intro _ _; exact True.intro)
    | (intro _ _; with_reducible rfl)
    | (intro _ _; rfl)
    | (simp only [IntKind.min, IntKind.max, IntKind.signed, IntKind.bits, if_true]; omega)
    | omega
    | (intro h; exact h)
    | (intro h; cases h; done)
    | exact .inl rfl
    | exact .inl True.intro
    | exact .inr rfl
    | (simp; done)
  exact RLoop.inv (fun k => byI d (d.take k) k) 32 hstep hend (by simp)
 rw [List.take_zero, show d.take 32 = d from List.take_of_length_le (by omega)] at hL
 refine T_al (bdBy_p d) Try.func99 ?_
 simp only [All]; and_intros
 all_goals first
  | exact True.intro
  | exact hL
  | (with_reducible assumption)
  | (rw [decide_eq_true_eq]; omega)
  | (rw [decide_eq_false_iff_not]; omega)
  | with_reducible rfl
  | (intro _ _; exact True.intro)
  | (intro _ _; with_reducible rfl)
  | (intro _ _; rfl)
  | (simp only [IntKind.min, IntKind.max, IntKind.signed, IntKind.bits, if_true]; omega)
  | omega
  | (intro h; exact h)
  | (intro h; cases h; done)
  | exact .inl rfl
  | exact .inl True.intro
  | exact .inr rfl
  | (simp; done)
end Go.Proofs.Ytpallipnhmoipaa
namespace Go.Proofs.Ytpallipnhmoipaa
open Go Sy Go.Proofs
/-- Bytes, as a slice's elements. -/
def bl (l : List UInt8) : Nat → List V := fun i => [.int .u8 ((l.getD i 0).toNat : Int)]
def bs (l : List UInt8) : B := .rows 1 l.length (bl l) true
def sb (m : Nm) (l : List UInt8) : V := .sl m 1 0 0 0 l.length none
def digs : Nat → Nat → List UInt8
 | 0, _ => []
 | f + 1, n => if n = 0 then [] else digs f (n / 256) ++ [UInt8.ofNat (n % 256)]
/-- A number's bytes: how many digits, the digits. -/
def putN (n : Nat) : List UInt8 := UInt8.ofNat (digs 8 n).length :: digs 8 n
def sizeI (n : Nat) (k : Nat) : St := ⟨mkT 13 [(0, .int .i64 (n / 256 ^ k : Nat)), (3, .int .i64 (k + 1 : Nat))], [], 0, []⟩
noncomputable def bdSize (n m : Nat) : Bd := { f := Try.f68, args := [.int .i64 n], kb := { db := fun _ _ _ _ => [], lp := fun _ _ => [(True, .loop (m + 1) (wTo (sizeI n 0)) (.exit 0) (sizeI n m))] } }
noncomputable def pcSize (n m k : Nat) : Pc := { c := cB (cB (cL (cR (cR (cR (bodyOf Try.f68)))))), st := sizeI n k, kb := kb0, k := fun e _ => match e with
 | .normal => some (wTo (sizeI n (k + 1)))
 | _ => some (wTo (sizeI n m)) }
def dbSize (m : Nat) : Nat → List V → Heap → Nat → List Cl
 | 68, _, _, _ => [{ val := .int .i64 (m + 1 : Nat) }]
 | _, _, _, _ => []
/-- Behind so many digits. -/
def putJ (n : Nat) (l : List UInt8) (k : Nat) : St := ⟨mkT 41 [(0, sb (.o 1) (l ++ (putN n).take (k + 1))), (1, .int .i64 n), (5, .int .i64 (digs 8 n).length), (24, .int .i64 (digs 8 n).length), (25, .int .i64 k)], [(.o 1, bs (l ++ (putN n).take (k + 1)))], 2, []⟩
def lpPutJ (n : Nat) (l : List UInt8) : Nat → St → List (Prop × Hint) := fun _ st => match getV st.tmps 0 with
 | .sl a _ _ _ _ _ _ => [(True, .loop ((digs 8 n).length + 1) (wToS [(.o 1, a)] (putJ n l 0)) (.exit 0) (putJ n l (digs 8 n).length))]
 | _ => []
def kPutJ (n : Nat) (l : List UInt8) : Exit → St → Option W := fun _ st => some ⟨[], [(4, .set (sb (.o 1) (l ++ putN n)))], [(.o 1, .set (bs (l ++ putN n)))], none, st.next⟩
noncomputable def bdPut (n : Nat) (l : List UInt8) : Bd := { f := Try.f56, args := [sb (.o 0) l, .int .i64 n], pre := [(.o 0, bs l)], base := 1, kb := { db := dbSize (digs 8 n).length, lp := lpPutJ n l }, k := kPutJ n l, names := fun _ => [.o 1] }
noncomputable def bdPut0 (n : Nat) : Bd := { f := Try.f56, args := [.snil, .int .i64 n], base := 1, kb := { db := dbSize (digs 8 n).length, lp := lpPutJ n [] }, k := kPutJ n [], names := fun _ => [.o 1] }
noncomputable def pcPutJ (n : Nat) (l : List UInt8) (k : Nat) : Pc := { c := cB (cB (cR (cL (cR (cR (cR (cR (cR (bodyOf Try.f56))))))))), st := putJ n l k, p := 1, kb := kb0, k := fun e st => match e with
 | .normal => match getV st.tmps 0 with
  | .sl a _ _ _ _ _ _ => some (wToS [(.o 1, a)] (putJ n l (k + 1)))
  | _ => none
 | _ => some (wTo (putJ n l (digs 8 n).length)) }
end Go.Proofs.Ytpallipnhmoipaa
namespace Go.Proofs.Ytpallipnhmoipaa
open Go Sy Go.Proofs
theorem bdSize_p0 (n : Nat) (m : Nat) :
  along Try.prog (bdSize n m) [false] = (some (.int .i64 (↑(m + 1) : Int), [], [q false, RLoop Try.prog none 0 (cB (cB (cL (cR (cR (cR (bodyOf (Bd.f (bdSize n m))))))))) (m + 1) (St.mk [.int .i64 (↑(n / nat_lit 1) : Int), .any, .any, .int .i64 1, .any, .any, .any, .any, .any, .any, .any, .any, .any] [] 0 []) (.exit 0) (St.mk [.int .i64 (↑(n / 256 ^ m) : Int), .any, .any, .int .i64 (↑(m + 1) : Int), .any, .any, .any, .any, .any, .any, .any, .any, .any] [] 0 []), (↑n : Int) = (↑(n / nat_lit 1) : Int), q (1 : Int)]) : Option (V × Heap × List Prop)) := by kernel_rfl

theorem pcSize_p1 (n : Nat) (m : Nat) (k : Nat) :
  alongPc Try.prog (pcSize n m k) [true] = (some (.normal, St.mk [.int .i64 (↑(n / 256 ^ (k + 1)) : Int), .any, .any, .int .i64 (↑(k + 1 + 1) : Int), .any, .any, .any, .any, .any, .any, .any, .any, .any] [] 0 [], [decide ((0 : Int) < (↑(n / (256 : Nat) ^ k) : Int)) = true, InR IntKind.i64 ((↑(k + (1 : Nat)) : Int) + (1 : Int)), (0 : Int) ≤ (8 : Int) ∧ (8 : Int) ≤ (64 : Int), (↑(n / (256 : Nat) ^ k) : Int) / (256 : Int) = (↑(n / (256 : Nat) ^ (k + (1 : Nat))) : Int), (↑(k + (1 : Nat)) : Int) + (1 : Int) = (↑(k + (1 : Nat) + (1 : Nat)) : Int)]) : Option (Exit × St × List Prop)) := by kernel_rfl
theorem pcSize_p0 (n : Nat) (m : Nat) (k : Nat) :
  alongPc Try.prog (pcSize n m k) [false] = (some (.exit 0, St.mk [.int .i64 (↑(n / 256 ^ m) : Int), .any, .any, .int .i64 (↑(m + 1) : Int), .any, .any, .any, .any, .any, .any, .any, .any, .any] [] 0 [], [decide ((0 : Int) < (↑(n / (256 : Nat) ^ k) : Int)) = false, (↑(n / (256 : Nat) ^ k) : Int) = (↑(n / (256 : Nat) ^ m) : Int), (↑(k + (1 : Nat)) : Int) = (↑(m + (1 : Nat)) : Int)]) : Option (Exit × St × List Prop)) := by kernel_rfl

theorem bdPut0_p0 (n : Nat) :
  along Try.prog (bdPut0 n) [false] = (some (.sl (.o 1) 1 0 0 0 (List.length ([] ++ putN n)) none, [(.o 1, bs ([] ++ putN n))], [(0 : Int) ≤ (0 : Int) ∧ (0 : Int) ≤ (0 : Int), (0 : Int) ≤ (0 : Int) ∧ (0 : Int) ≤ (0 : Int), q false, T Try.prog 68 [.int .i64 ↑n] [] (.int .i64 (↑(List.length (digs 8 n) + 1) : Int)) [], InR IntKind.i64 ((↑(List.length (digs (8 : Nat) n) + (1 : Nat)) : Int) - (1 : Int)), nat_lit 1 ≤ (1 : Nat), ∀ (k : Nat), k < (1 : Nat) → solid (getL [[V.int IntKind.u8 (IntKind.wrap IntKind.u8 ((↑(List.length (digs (8 : Nat) n) + (1 : Nat)) : Int) - (1 : Int)))]] ((0 : Nat) + k)) = true, nat_lit 1 ≤ (140737488355328 : Nat), RLoop Try.prog none 1 (cB (cB (cR (cL (cR (cR (cR (cR (cR (bodyOf (Bd.f (bdPut0 n)))))))))))) (List.length (digs 8 n) + 1) (St.mk [.sl (.o 1) 1 0 0 0 1 none, .int .i64 ↑n, .any, .any, .any, .int .i64 (↑(List.length (digs 8 n)) : Int), .any, .any, .any, .any, .any, .any, .any, .any, .any, .any, .any, .any, .any, .any, .any, .any, .any, .any, .int .i64 (↑(List.length (digs 8 n)) : Int), .int .i64 0, .any, .any, .any, .any, .any, .any, .any, .any, .any, .any, .any, .any, .any, .any, .any] [(.o 1, bs ([] ++ List.take 1 (putN n)))] 2 []) (.exit 0) (St.mk [.sl (.o 1) 1 0 0 0 (List.length ([] ++ List.take (List.length (digs 8 n) + 1) (putN n))) none, .int .i64 ↑n, .any, .any, .any, .int .i64 (↑(List.length (digs 8 n)) : Int), .any, .any, .any, .any, .any, .any, .any, .any, .any, .any, .any, .any, .any, .any, .any, .any, .any, .any, .int .i64 (↑(List.length (digs 8 n)) : Int), .int .i64 (↑(List.length (digs 8 n)) : Int), .any, .any, .any, .any, .any, .any, .any, .any, .any, .any, .any, .any, .any, .any, .any] [(.o 1, bs ([] ++ List.take (List.length (digs 8 n) + 1) (putN n)))] 2 []), q (nat_lit 1), ∀ (k : Nat), k < nat_lit 1 → catF (0 : Nat) (fun x => []) (fun k => getL [[V.int IntKind.u8 (IntKind.wrap IntKind.u8 ((↑(List.length (digs (8 : Nat) n) + (1 : Nat)) : Int) - (1 : Int)))]] ((0 : Nat) + k)) k = bl ([] ++ List.take (nat_lit 1) (putN n)) k, true = false → true = false, q0, q0, q0, q (nat_lit 1), (none : Option Nat) = none ∨ (none : Option Nat) = none, q (↑n : Int), (↑(List.length (digs (8 : Nat) n) + (1 : Nat)) : Int) - (1 : Int) = (↑(List.length (digs (8 : Nat) n)) : Int), (↑(List.length (digs (8 : Nat) n) + (1 : Nat)) : Int) - (1 : Int) = (↑(List.length (digs (8 : Nat) n)) : Int), q1, List.length ([] ++ List.take (List.length (digs (8 : Nat) n) + (1 : Nat)) (putN n)) = List.length ([] ++ putN n), ∀ (k : Nat), k < List.length ([] ++ List.take (List.length (digs (8 : Nat) n) + (1 : Nat)) (putN n)) → bl ([] ++ List.take (List.length (digs (8 : Nat) n) + (1 : Nat)) (putN n)) k = bl ([] ++ putN n) k, true = false → true = false, q0, q0, q0, List.length ([] ++ List.take (List.length (digs (8 : Nat) n) + (1 : Nat)) (putN n)) = List.length ([] ++ putN n), (none : Option Nat) = none ∨ (none : Option Nat) = none]) : Option (V × Heap × List Prop)) := by kernel_rfl

theorem bdPut_p0 (n : Nat) (l : List UInt8) :
  along Try.prog (bdPut n l) [false] = (some (.sl (.o 1) 1 0 0 0 (List.length (l ++ putN n)) none, [(.o 1, bs (l ++ putN n))], [(0 : Int) ≤ (↑(List.length l) : Int) ∧ (↑(List.length l) : Int) ≤ (↑(List.length l) : Int), (0 : Int) ≤ (↑(List.length l) : Int) ∧ (↑(List.length l) : Int) ≤ (↑(natO (some (↑(List.length l) : Int)) (List.length l)) : Int), q false, T Try.prog 68 [.int .i64 ↑n] [] (.int .i64 (↑(List.length (digs 8 n) + 1) : Int)) [], InR IntKind.i64 ((↑(List.length (digs (8 : Nat) n) + (1 : Nat)) : Int) - (1 : Int)), natO (some (↑(List.length l) : Int)) (List.length l) - nat_lit 0 = List.length l, nat_lit 1 ≤ (1 : Nat), ∀ (k : Nat), k < (1 : Nat) → solid (getL [[V.int IntKind.u8 (IntKind.wrap IntKind.u8 ((↑(List.length (digs (8 : Nat) n) + (1 : Nat)) : Int) - (1 : Int)))]] ((0 : Nat) + k)) = true, (natO (some (↑(List.length l) : Int)) (List.length l) - nat_lit 0 + (1 : Nat)) * (1 : Nat) ≤ (140737488355328 : Nat), RLoop Try.prog none 1 (cB (cB (cR (cL (cR (cR (cR (cR (cR (bodyOf (Bd.f (bdPut n l)))))))))))) (List.length (digs 8 n) + 1) (St.mk [.sl (.o 1) 1 0 0 0 (List.length (l ++ List.take 1 (putN n))) none, .int .i64 ↑n, .any, .any, .any, .int .i64 (↑(List.length (digs 8 n)) : Int), .any, .any, .any, .any, .any, .any, .any, .any, .any, .any, .any, .any, .any, .any, .any, .any, .any, .any, .int .i64 (↑(List.length (digs 8 n)) : Int), .int .i64 0, .any, .any, .any, .any, .any, .any, .any, .any, .any, .any, .any, .any, .any, .any, .any] [(.o 1, bs (l ++ List.take 1 (putN n)))] 2 []) (.exit 0) (St.mk [.sl (.o 1) 1 0 0 0 (List.length (l ++ List.take (List.length (digs 8 n) + 1) (putN n))) none, .int .i64 ↑n, .any, .any, .any, .int .i64 (↑(List.length (digs 8 n)) : Int), .any, .any, .any, .any, .any, .any, .any, .any, .any, .any, .any, .any, .any, .any, .any, .any, .any, .any, .int .i64 (↑(List.length (digs 8 n)) : Int), .int .i64 (↑(List.length (digs 8 n)) : Int), .any, .any, .any, .any, .any, .any, .any, .any, .any, .any, .any, .any, .any, .any, .any] [(.o 1, bs (l ++ List.take (List.length (digs 8 n) + 1) (putN n)))] 2 []), natO (some (↑(List.length l) : Int)) (List.length l) - nat_lit 0 + (1 : Nat) = List.length (l ++ List.take (nat_lit 1) (putN n)), ∀ (k : Nat), k < natO (some (↑(List.length l) : Int)) (List.length l) - nat_lit 0 + (1 : Nat) → catF (natO (some (↑(List.length l) : Int)) (List.length l) - nat_lit 0) (bl l) (fun k => getL [[V.int IntKind.u8 (IntKind.wrap IntKind.u8 ((↑(List.length (digs (8 : Nat) n) + (1 : Nat)) : Int) - (1 : Int)))]] ((0 : Nat) + k)) k = bl (l ++ List.take (nat_lit 1) (putN n)) k, true = false → true = false, q0, q0, q0, natO (some (↑(List.length l) : Int)) (List.length l) - nat_lit 0 + (1 : Nat) = List.length (l ++ List.take (nat_lit 1) (putN n)), (none : Option Nat) = none ∨ (none : Option Nat) = none, q (↑n : Int), (↑(List.length (digs (8 : Nat) n) + (1 : Nat)) : Int) - (1 : Int) = (↑(List.length (digs (8 : Nat) n)) : Int), (↑(List.length (digs (8 : Nat) n) + (1 : Nat)) : Int) - (1 : Int) = (↑(List.length (digs (8 : Nat) n)) : Int), q1, List.length (l ++ List.take (List.length (digs (8 : Nat) n) + (1 : Nat)) (putN n)) = List.length (l ++ putN n), ∀ (k : Nat), k < List.length (l ++ List.take (List.length (digs (8 : Nat) n) + (1 : Nat)) (putN n)) → bl (l ++ List.take (List.length (digs (8 : Nat) n) + (1 : Nat)) (putN n)) k = bl (l ++ putN n) k, true = false → true = false, q0, q0, q0, List.length (l ++ List.take (List.length (digs (8 : Nat) n) + (1 : Nat)) (putN n)) = List.length (l ++ putN n), (none : Option Nat) = none ∨ (none : Option Nat) = none]) : Option (V × Heap × List Prop)) := by kernel_rfl

theorem pcPutJ_p1 (n : Nat) (l : List UInt8) (k : Nat) :
  alongPc Try.prog (pcPutJ n l k) [true] = (some (.normal, St.mk [.sl (.o 1) 1 0 0 0 (List.length (l ++ List.take (k + 1 + 1) (putN n))) none, .int .i64 ↑n, .any, .any, .any, .int .i64 (↑(List.length (digs 8 n)) : Int), .any, .any, .any, .any, .any, .any, .any, .any, .any, .any, .any, .any, .any, .any, .any, .any, .any, .any, .int .i64 (↑(List.length (digs 8 n)) : Int), .int .i64 (↑(k + 1) : Int), .any, .any, .any, .any, .any, .any, .any, .any, .any, .any, .any, .any, .any, .any, .any] [(.o 1, bs (l ++ List.take (k + 1 + 1) (putN n)))] 2 [], [decide ((↑k : Int) < (↑(List.length (digs (8 : Nat) n)) : Int)) = true, InR IntKind.i64 ((↑(List.length (digs (8 : Nat) n)) : Int) - (1 : Int)), InR IntKind.i64 ((↑(List.length (digs (8 : Nat) n)) : Int) - (1 : Int) - (↑k : Int)), InR IntKind.i64 ((8 : Int) * ((↑(List.length (digs (8 : Nat) n)) : Int) - (1 : Int) - (↑k : Int))), (0 : Int) ≤ (8 : Int) * ((↑(List.length (digs (8 : Nat) n)) : Int) - (1 : Int) - (↑k : Int)) ∧ (8 : Int) * ((↑(List.length (digs (8 : Nat) n)) : Int) - (1 : Int) - (↑k : Int)) ≤ (64 : Int), q (List.length (l ++ List.take (k + (1 : Nat)) (putN n))), nat_lit 1 ≤ (1 : Nat), ∀ (k_1 : Nat), k_1 < (1 : Nat) → solid (getL [[V.int IntKind.u8 (IntKind.wrap IntKind.u8 ((↑n : Int) / (2 : Int) ^ Int.toNat ((8 : Int) * ((↑(List.length (digs (8 : Nat) n)) : Int) - (1 : Int) - (↑k : Int)))))]] ((0 : Nat) + k_1)) = true, (List.length (l ++ List.take (k + (1 : Nat)) (putN n)) + (1 : Nat)) * (1 : Nat) ≤ (140737488355328 : Nat), InR IntKind.i64 ((↑k : Int) + (1 : Int)), List.length (l ++ List.take (k + (1 : Nat)) (putN n)) + (1 : Nat) = List.length (l ++ List.take (k + (1 : Nat) + (1 : Nat)) (putN n)), ∀ (k_1 : Nat), k_1 < List.length (l ++ List.take (k + (1 : Nat)) (putN n)) + (1 : Nat) → catF (List.length (l ++ List.take (k + (1 : Nat)) (putN n))) (bl (l ++ List.take (k + (1 : Nat)) (putN n))) (fun k_2 => getL [[V.int IntKind.u8 (IntKind.wrap IntKind.u8 ((↑n : Int) / (2 : Int) ^ Int.toNat ((8 : Int) * ((↑(List.length (digs (8 : Nat) n)) : Int) - (1 : Int) - (↑k : Int)))))]] ((0 : Nat) + k_2)) k_1 = bl (l ++ List.take (k + (1 : Nat) + (1 : Nat)) (putN n)) k_1, true = false → true = false, q0, q0, q0, List.length (l ++ List.take (k + (1 : Nat)) (putN n)) + (1 : Nat) = List.length (l ++ List.take (k + (1 : Nat) + (1 : Nat)) (putN n)), (none : Option Nat) = none ∨ (none : Option Nat) = none, q (↑n : Int), q (↑(List.length (digs (8 : Nat) n)) : Int), q (↑(List.length (digs (8 : Nat) n)) : Int), (↑k : Int) + (1 : Int) = (↑(k + (1 : Nat)) : Int)]) : Option (Exit × St × List Prop)) := by kernel_rfl
theorem pcPutJ_p0 (n : Nat) (l : List UInt8) (k : Nat) :
  alongPc Try.prog (pcPutJ n l k) [false] = (some (.exit 0, St.mk [.sl (.o 1) 1 0 0 0 (List.length (l ++ List.take (List.length (digs 8 n) + 1) (putN n))) none, .int .i64 ↑n, .any, .any, .any, .int .i64 (↑(List.length (digs 8 n)) : Int), .any, .any, .any, .any, .any, .any, .any, .any, .any, .any, .any, .any, .any, .any, .any, .any, .any, .any, .int .i64 (↑(List.length (digs 8 n)) : Int), .int .i64 (↑(List.length (digs 8 n)) : Int), .any, .any, .any, .any, .any, .any, .any, .any, .any, .any, .any, .any, .any, .any, .any] [(.o 1, bs (l ++ List.take (List.length (digs 8 n) + 1) (putN n)))] 2 [], [decide ((↑k : Int) < (↑(List.length (digs (8 : Nat) n)) : Int)) = false, List.length (l ++ List.take (k + (1 : Nat)) (putN n)) = List.length (l ++ List.take (List.length (digs (8 : Nat) n) + (1 : Nat)) (putN n)), ∀ (k_1 : Nat), k_1 < List.length (l ++ List.take (k + (1 : Nat)) (putN n)) → bl (l ++ List.take (k + (1 : Nat)) (putN n)) k_1 = bl (l ++ List.take (List.length (digs (8 : Nat) n) + (1 : Nat)) (putN n)) k_1, true = false → true = false, q0, q0, q0, List.length (l ++ List.take (k + (1 : Nat)) (putN n)) = List.length (l ++ List.take (List.length (digs (8 : Nat) n) + (1 : Nat)) (putN n)), (none : Option Nat) = none ∨ (none : Option Nat) = none, q (↑n : Int), q (↑(List.length (digs (8 : Nat) n)) : Int), q (↑(List.length (digs (8 : Nat) n)) : Int), (↑k : Int) = (↑(List.length (digs (8 : Nat) n)) : Int)]) : Option (Exit × St × List Prop)) := by kernel_rfl

theorem digs_len : ∀ f n, n < 256 ^ f → (digs f n).length ≤ f ∧ n / 256 ^ (digs f n).length = 0 ∧ ∀ k, k < (digs f n).length → 0 < n / 256 ^ k
 | 0, n, h => by simp at h; subst h; simp [digs]
 | f + 1, n, h => by
  rw [digs]
  split
  ·rename_i h0; subst h0; simp
  ·have ih := digs_len f (n / 256) (by rw [Nat.pow_succ] at h; omega)
   simp only [List.length_append, List.length_singleton]
   refine ⟨by omega, ?_, fun k hk => ?_⟩
   ·rw [Nat.pow_succ', ← Nat.div_div_eq_div_mul]; exact ih.2.1
   ·cases k with
    | zero => simp; omega
    | succ k => rw [Nat.pow_succ', ← Nat.div_div_eq_div_mul]; exact ih.2.2 k (by omega)
theorem digs_get : ∀ f n k, n < 256 ^ f → k < (digs f n).length → (digs f n)[k]? = some (UInt8.ofNat (n / 256 ^ ((digs f n).length - 1 - k) % 256))
 | 0, n, k, _, h => by simp [digs] at h
 | f + 1, n, k, hn, h => by
  rw [digs] at h ⊢
  split at h
  ·simp at h
  ·rename_i h0
   rw [if_neg h0]
   have hn' : n / 256 < 256 ^ f := by rw [Nat.pow_succ] at hn; omega
   simp only [List.length_append, List.length_singleton] at h ⊢
   rcases Nat.lt_or_ge k (digs f (n / 256)).length with h1 | h1
   ·rw [List.getElem?_append_left h1, digs_get f (n / 256) k hn' h1, Nat.div_div_eq_div_mul, ← Nat.pow_succ']
    congr 5; omega
   ·have : k = (digs f (n / 256)).length := by omega
    subst this
    rw [List.getElem?_append_right (Nat.le_refl _)]; simp
theorem digs8 {n : Nat} (h : n < 9223372036854775808) : n < 256 ^ 8 := by omega
theorem putN_len {n : Nat} (h : n < 9223372036854775808) : (putN n).length ≤ 9 := by
 have := (digs_len 8 n (digs8 h)).1
 simp [putN]; omega
theorem bl_append (l r : List UInt8) : bl (l ++ r) = catF l.length (bl l) (bl r) := by
 funext k
 unfold bl catF
 cases h : Nat.blt k l.length
 ·have h1 : l.length ≤ k := by
   rcases Nat.lt_or_ge k l.length with h2 | h2
   ·rw [← Nat.blt_eq] at h2; rw [h2] at h; cases h
   ·exact h2
  simp [List.getD_eq_getElem?_getD, List.getElem?_append_right h1]
 ·rw [Nat.blt_eq] at h
  simp [List.getD_eq_getElem?_getD, List.getElem?_append_left h]
theorem catF_bl1 (l : List UInt8) (v : Int) (x : UInt8) (h : v = (x.toNat : Int)) : ∀ k, k < l.length + 1 → catF l.length (bl l) (fun k => getL [[V.int .u8 v]] (0 + k)) k = bl (l ++ [x]) k := by
 intro k hk
 rw [bl_append]
 unfold catF
 cases hb : Nat.blt k l.length
 ·have h1 : l.length ≤ k := by
   rcases Nat.lt_or_ge k l.length with h2 | h2
   ·rw [← Nat.blt_eq] at h2; rw [h2] at hb; cases hb
   ·exact h2
  have : k - l.length = 0 := by omega
  simp only [cond_false, this]
  subst h
  simp [getL, bl]
 ·rfl

theorem wrap8 (m : Nat) : IntKind.wrap IntKind.u8 (m : Int) = ((UInt8.ofNat m).toNat : Int) := by
 simp only [IntKind.wrap, IntKind.signed, IntKind.bits, UInt8.toNat_ofNat']
 simp
theorem wrap8' (m : Nat) : IntKind.wrap IntKind.u8 (m : Int) = ((UInt8.ofNat (m % 256)).toNat : Int) := by
 rw [wrap8]; simp
theorem T_size {n : Nat} (h : n < 9223372036854775808) : T Try.prog 68 [.int .i64 n] [] (.int .i64 ((digs 8 n).length + 1 : Nat)) [] := by
 obtain ⟨h1, h2, h3⟩ := digs_len 8 n (digs8 h)
 refine T_al (bdSize_p0 n (digs 8 n).length) Try.func68 ⟨by simp, RLoop.inv (sizeI n) (digs 8 n).length (fun k hk => ?_) (R_alongPc NG MO _ (pcSize_p0 n _ (digs 8 n).length) ?_ (Nat.zero_le _)) (by simp), by simp, rfl, trivial⟩
 ·refine R_alongPc NG MO _ (pcSize_p1 n 0 k) ?_ (Nat.zero_le _)
  have h4 := h3 k hk
  have e : n / 256 ^ (k + 1) = n / 256 ^ k / 256 := by rw [Nat.pow_succ, Nat.div_div_eq_div_mul]
  refine ⟨by rw [decide_eq_true_eq]; exact_mod_cast h4, by rw [InR64]; omega, by decide, by rw [e]; omega, by omega, trivial⟩
 ·simp [All, h2]
theorem T_putAny {n : Nat} (h : n < 9223372036854775808) {l : List UInt8} (hl : l.length ≤ 70368744177664) :
  RLoop Try.prog none 1 (cB (cB (cR (cL (cR (cR (cR (cR (cR (bodyOf Try.f56)))))))))) ((digs 8 n).length + 1) (putJ n l 0) (.exit 0) (putJ n l (digs 8 n).length) := by
 have h1 := digs_len 8 n (digs8 h)
 refine RLoop.inv (putJ n l) (digs 8 n).length (fun k hk => ?_) (R_alongPc NG MO _ (pcPutJ_p0 n l (digs 8 n).length) (by simp [All]) (Nat.le_succ _)) (by simp)
 refine R_alongPc NG MO _ (pcPutJ_p1 n l k) ?_ (Nat.le_succ _)
 have hg := digs_get 8 n k (digs8 h) hk
 have ht : l ++ List.take (k + 1 + 1) (putN n) = (l ++ List.take (k + 1) (putN n)) ++ [UInt8.ofNat (n / 256 ^ ((digs 8 n).length - 1 - k) % 256)] := by
  rw [List.append_assoc]; congr 1
  rw [putN, List.take_succ_cons, List.take_succ_cons, List.cons_append, List.take_add_one, hg]; rfl
 have hlen : (l ++ List.take (k + 1) (putN n)).length ≤ l.length + 9 := by
  have := putN_len h
  simp only [List.length_append, List.length_take]; omega
 have hpl : (putN n).length = (digs 8 n).length + 1 := by simp [putN]
 have hv : IntKind.wrap IntKind.u8 ((n : Int) / 2 ^ Int.toNat (8 * (((digs 8 n).length : Int) - 1 - (k : Int)))) = ((UInt8.ofNat (n / 256 ^ ((digs 8 n).length - 1 - k) % 256)).toNat : Int) := by
  have e : Int.toNat (8 * (((digs 8 n).length : Int) - 1 - (k : Int))) = 8 * ((digs 8 n).length - 1 - k) := by omega
  have e2 : ((2 : Int) ^ (8 * ((digs 8 n).length - 1 - k))) = ((256 ^ ((digs 8 n).length - 1 - k) : Nat) : Int) := by
   rw [show (256 : Nat) = 2 ^ 8 from rfl, ← Nat.pow_mul]; norm_cast
  rw [e, e2]
  rw [show (n : Int) / ((256 ^ ((digs 8 n).length - 1 - k) : Nat) : Int) = ((n / 256 ^ ((digs 8 n).length - 1 - k) : Nat) : Int) from rfl, wrap8']
 simp only [All]
 and_intros
 all_goals first
  | omega
  | (simp only [List.length_append, List.length_take]; omega)
  | (rw [ht]; exact catF_bl1 _ _ _ hv)
  | (rw [ht]; simp; done)
  | (simp [hk, IntKind.min, IntKind.max, IntKind.signed, IntKind.bits] <;> omega)
  | (intro k hk; rw [show k = 0 by omega]; rfl)
theorem T_put0 {n : Nat} (h : n < 9223372036854775808) : T Try.prog 56 [.snil, .int .i64 n] [] (sb (.o 1) (putN n)) [(.o 1, bs (putN n))] := by
 have h1 := digs_len 8 n (digs8 h)
 have hv : IntKind.wrap IntKind.u8 ((((digs 8 n).length + 1 : Nat) : Int) - 1) = ((UInt8.ofNat (digs 8 n).length).toNat : Int) := by
  rw [show (((digs 8 n).length + 1 : Nat) : Int) - 1 = (((digs 8 n).length : Nat) : Int) by omega, wrap8]
 have hc := catF_bl1 [] _ _ hv
 refine T_al (bdPut0_p0 n) Try.func56 ?_
 simp only [All]
 and_intros
 all_goals first
  | exact T_size h
  | exact T_putAny h (l := []) (by simp)
  | (intro k hk; rw [show k = 0 by omega]; exact hc 0 (by simp))
  | (simp [putN, IntKind.min, IntKind.max, IntKind.signed, IntKind.bits] <;> omega)
  | (intro k hk; rw [show k = 0 by omega]; rfl)
/-- Where one slice goes, another comes. -/
theorem T_put1 {n : Nat} (h : n < 9223372036854775808) {l : List UInt8} (hl : l.length ≤ 70368744177664) : T Try.prog 56 [sb (.o 0) l, .int .i64 n] [(.o 0, bs l)] (sb (.o 1) (l ++ putN n)) [(.o 1, bs (l ++ putN n))] := by
 have h1 := digs_len 8 n (digs8 h)
 have hv : IntKind.wrap IntKind.u8 ((((digs 8 n).length + 1 : Nat) : Int) - 1) = ((UInt8.ofNat (digs 8 n).length).toNat : Int) := by
  rw [show (((digs 8 n).length + 1 : Nat) : Int) - 1 = (((digs 8 n).length : Nat) : Int) by omega, wrap8]
 have hc := catF_bl1 l _ _ hv
 refine T_al (bdPut_p0 n l) Try.func56 ?_
 simp only [All]
 and_intros
 all_goals first
  | exact T_size h
  | exact T_putAny h hl
  | (simp only [natO, Int.toNat_natCast, Nat.sub_zero]; exact hc)
  | (simp [putN, natO, IntKind.min, IntKind.max, IntKind.signed, IntKind.bits] <;> omega)
  | (intro k hk; rw [show k = 0 by omega]; rfl)
end Go.Proofs.Ytpallipnhmoipaa
namespace Go.Proofs.Ytpallipnhmoipaa
open Go Sy Go.Proofs
def putZ (z : Int) : List UInt8 := putN z.toNat
def num63 (z : Int) : Prop := 0 ≤ z ∧ z < 9223372036854775808
theorem T_put {z : Int} (h : num63 z) {l : List UInt8} (hl : l.length ≤ 70368744177664) {a m : Nat} (hne : a ≠ m) : T Try.prog 56 [sb (.o a) l, .int .i64 z] [(.o a, bs l)] (sb (.o m) (l ++ putZ z)) [(.o m, bs (l ++ putZ z))] := by
 have e : ((z.toNat : Nat) : Int) = z := Int.toNat_of_nonneg h.1
 have h0 := T_put1 (n := z.toNat) (by have := h.2; omega) hl
 rw [e] at h0
 obtain ⟨σ, hσ, h1⟩ := T.at h0 [.o 0, .o 1] [.o a, .o m] (by simp) (by simp [hne]) rfl
 simp only [List.map_cons, List.map_nil, List.cons.injEq, and_true] at hσ
 simpa [V.rens, V.ren, sb, bs, Heap.ren, B.ren, hσ.1, hσ.2, putZ] using h1
theorem T_putNil {z : Int} (h : num63 z) {m : Nat} : T Try.prog 56 [.snil, .int .i64 z] [] (sb (.o m) (putZ z)) [(.o m, bs (putZ z))] := by
 have e : ((z.toNat : Nat) : Int) = z := Int.toNat_of_nonneg h.1
 have h0 := T_put0 (n := z.toNat) (by have := h.2; omega)
 rw [e] at h0
 obtain ⟨σ, hσ, h1⟩ := T.at h0 [.o 1] [.o m] (by simp) (by simp) rfl
 simp only [List.map_cons, List.map_nil, List.cons.injEq, and_true] at hσ
 simpa [V.rens, V.ren, sb, bs, Heap.ren, B.ren, hσ, putZ] using h1

def lookS {α : Type} : List (Nat × α) → Nat → Option α
 | [], _ => none
 | p :: r, n => bif Nat.beq p.1 n then some p.2 else lookS r n
/-- Calls by their operation's place behind the beginning. -/
def dbSeq (base : Nat) (l : List (Nat × (List V → Nat → List Cl))) : Nat → List V → Heap → Nat → List Cl := fun _ args _ lo => match lookS l ((lo - base) / 64) with
 | some f => f args lo
 | none => []
/-- A slice goes, another one comes: with these bytes. -/
def cNew (l : List UInt8) : List V → Nat → List Cl := fun args lo => match args with
 | .sl a _ _ _ _ _ _ :: _ => [{ pre := [a], val := sb (.o lo) l, post := [(.o lo, bs l)] }]
 | .snil :: _ => [{ val := sb (.o lo) l, post := [(.o lo, bs l)] }]
 | _ => []
/-- The result is a slice with these bytes; its block's new name. -/
def kSb (t nm : Nat) (l : List UInt8) : Exit → St → Option W := fun _ st => match getV st.tmps t with
 | .sl a _ _ _ _ _ _ => some ⟨[(.o nm, a)], [(t, .set (sb (.o nm) l))], [(.o nm, .set (bs l))], none, st.next⟩
 | _ => none
def strB (s : ByteArray) : List UInt8 := s.data.toList
def segB (xs : List Int) : List UInt8 := xs.map fun x => UInt8.ofNat x.toNat
def textB (s : ByteArray) : List UInt8 := putN s.size ++ strB s
noncomputable def bdText (l : List UInt8) (s : ByteArray) : Bd := { f := Try.f55, args := [sb (.o 0) l, .str s], pre := [(.o 0, bs l)], base := 1, kb := { db := dbSeq 1 [(4, cNew (l ++ putZ s.size))] }, k := kSb 4 63 (l ++ textB s), names := fun _ => [.o 63] }
end Go.Proofs.Ytpallipnhmoipaa
namespace Go.Proofs.Ytpallipnhmoipaa
open Go Sy Go.Proofs
theorem bdText_p (l : List UInt8) (s : ByteArray) :
  along Try.prog (bdText l s) [] = (some (.sl (.o 63) 1 0 0 0 (List.length (l ++ textB s)) none, [(.o 63, bs (l ++ textB s))], [T Try.prog 56 [.sl (.o 0) 1 0 0 0 (List.length l) none, .int .i64 (↑(ByteArray.size s) : Int)] [(.o 0, bs l)] (sb (.o 257) (l ++ putZ (↑(ByteArray.size s) : Int))) [(.o 257, bs (l ++ putZ (↑(ByteArray.size s) : Int)))], q (List.length (l ++ putZ (↑(ByteArray.size s) : Int))), (List.length (l ++ putZ (↑(ByteArray.size s) : Int)) + ByteArray.size s) * (1 : Nat) ≤ (140737488355328 : Nat), List.length (l ++ putZ (↑(ByteArray.size s) : Int)) + ByteArray.size s = List.length (l ++ textB s), ∀ (k : Nat), k < List.length (l ++ putZ (↑(ByteArray.size s) : Int)) + ByteArray.size s → catF (List.length (l ++ putZ (↑(ByteArray.size s) : Int))) (bl (l ++ putZ (↑(ByteArray.size s) : Int))) (fun k => [V.int IntKind.u8 (byteAt s k)]) k = bl (l ++ textB s) k, true = false → true = false, q0, q0, q0, List.length (l ++ putZ (↑(ByteArray.size s) : Int)) + ByteArray.size s = List.length (l ++ textB s), (none : Option Nat) = none ∨ (none : Option Nat) = none]) : Option (V × Heap × List Prop)) := by kernel_rfl

structure SegOk (n : Nat) (xs : List Int) : Prop where
 len : xs.length = n
 rng : ∀ x ∈ xs, 0 ≤ x ∧ x ≤ 255
theorem segB_len (xs : List Int) : (segB xs).length = xs.length := by simp [segB]
theorem segB_fn {n : Nat} {xs : List Int} (h : SegOk n xs) : (fun q => [V.int .u8 (xs.getD (0 + q) 0)]) = bl (segB xs) := by
 funext q
 unfold bl segB
 rw [Nat.zero_add]
 simp only [List.getD_eq_getElem?_getD, List.getElem?_map]
 cases hq : xs[q]? with
 | none => simp
 | some x =>
  have hx := h.rng x (List.mem_of_getElem? hq)
  simp only [Option.map_some, Option.getD_some, UInt8.toNat_ofNat']
  congr 2
  omega
theorem strB_len (s : ByteArray) : (strB s).length = s.size := rfl
theorem putZ_len {z : Int} (h : num63 z) : (putZ z).length ≤ 9 := putN_len (by have := h.1; have := h.2; omega)
theorem num63_nat {n : Nat} (h : n < 9223372036854775808) : num63 (n : Int) := ⟨by omega, by omega⟩
theorem textB_eq (s : ByteArray) : textB s = putZ s.size ++ strB s := by simp [textB, putZ]
theorem textB_len {s : ByteArray} (h : s.size ≤ 1099511627776) : (textB s).length ≤ 9 + s.size := by
 have := putZ_len (num63_nat (n := s.size) (by omega))
 rw [textB_eq, List.length_append, strB_len]; omega
theorem T_text1 {l : List UInt8} {s : ByteArray} (hl : l.length ≤ 17592186044416) (hs : s.size ≤ 1099511627776) : T Try.prog 55 [sb (.o 0) l, .str s] [(.o 0, bs l)] (sb (.o 63) (l ++ textB s)) [(.o 63, bs (l ++ textB s))] := by
 have hz := num63_nat (n := s.size) (by omega)
 have e : l ++ textB s = (l ++ putZ s.size) ++ strB s := by rw [textB_eq, List.append_assoc]
 have h9 := putZ_len hz
 have hlen : (l ++ putZ (s.size : Int)).length ≤ l.length + 9 := by rw [List.length_append]; omega
 have hle : (l ++ putZ (s.size : Int)).length + s.size = (l ++ textB s).length := by rw [e, List.length_append (bs := strB s), strB_len]
 refine T_al (bdText_p l s) Try.func55 ?_
 simp only [All]
 and_intros
 all_goals first
  | exact T_put hz (by omega) (by decide)
  | exact hle
  | omega
  | (rw [e, bl_append (l ++ putZ (s.size : Int)) (strB s)]; intro k _; rfl)
  | simp
theorem T_text {l : List UInt8} {s : ByteArray} (hl : l.length ≤ 17592186044416) (hs : s.size ≤ 1099511627776) {a m : Nat} (hne : a ≠ m) : T Try.prog 55 [sb (.o a) l, .str s] [(.o a, bs l)] (sb (.o m) (l ++ textB s)) [(.o m, bs (l ++ textB s))] := by
 obtain ⟨σ, hσ, h1⟩ := T.at (T_text1 hl hs) [.o 0, .o 63] [.o a, .o m] (by simp) (by simp [hne]) rfl
 simp only [List.map_cons, List.map_nil, List.cons.injEq, and_true] at hσ
 simpa [V.rens, V.ren, sb, bs, Heap.ren, B.ren, hσ.1, hσ.2] using h1
end Go.Proofs.Ytpallipnhmoipaa
