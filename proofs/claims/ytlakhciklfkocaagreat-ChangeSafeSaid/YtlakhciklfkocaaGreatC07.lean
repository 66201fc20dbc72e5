/-
  Contracts and laws that the claim's theorem leans on, joined out of the texts Ka6 Ka7D Ka7 SySeal Pb1D Pb1 Pl0D Pl0 Pe0D (own work of this seat): Contracts: the digest by the document: padding, one block; Contracts: the digest by the document; Contracts: the digest by the document; Macs and tags, plainly; Contracts: a batch's digest by the document; unlike batches; Contracts: a batch's digest by the document; unlike batches; Contracts: which batch is not too much; Contracts: which batch is not too much; Contracts: ChangeSafe.
-/
import Derived.Test.YtlakhciklfkocaaGreatC04
import Derived.Test.YtlakhciklfkocaaGreatC05
import Derived.Test.YtlakhciklfkocaaGreatC06
set_option linter.unusedVariables false
set_option linter.unusedSimpArgs false
set_option maxHeartbeats 1000000
namespace Go.Proofs.YtlakhciklfkocaaGreat
open Go Sy Go.Proofs
theorem bdPa_p (l : List Int) (L0 : List Int) (z : Nat) (L1 : List Int) (L2 : List Int) :
  along Tryz.prog (bdPa l L0 z L1 L2) [] = (some (.sl (.o 0) 1 0 0 0 (List.length L2) none, [(.o 0, .rows 1 (List.length L2) (ib L2) true)], [q0, ∀ (k : Nat), k < List.length l → true = true, ((0 : Nat) + List.length l) * (1 : Nat) ≤ (140737488355328 : Nat), q ((0 : Nat) + List.length l), nat_lit 1 ≤ (1 : Nat), ∀ (k : Nat), k < (1 : Nat) → solid (getL [[V.int IntKind.u8 (128 : Int)]] ((0 : Nat) + k)) = true, ((0 : Nat) + List.length l + (1 : Nat)) * (1 : Nat) ≤ (140737488355328 : Nat), RLoop Tryz.prog none 0 (cB (cB (cL (cR (cR (bodyOf (Bd.f (bdPa l L0 z L1 L2)))))))) (z + 1) (St.mk [.ros 1 (List.length l) (ib l) false, .any, .any, .sl (.o 0) 1 0 0 0 (List.length L0) none, .any, .any, .any, .any, .any, .any, .any, .any, .any, .any, .any, .any, .any, .any, .any, .any, .any, .any, .any, .any, .any, .any, .any, .any, .any, .any, .any, .any, .any, .any] [(.o 0, .rows 1 (List.length L0) (ib L0) true)] 1 []) (.exit 0) (St.mk [.ros 1 (List.length l) (ib l) false, .any, .any, .sl (.o 0) 1 0 0 0 (List.length L1) none, .any, .any, .any, .any, .any, .any, .any, .any, .any, .any, .any, .any, .any, .any, .any, .any, .any, .any, .any, .any, .any, .any, .any, .any, .any, .any, .any, .any, .any, .any] [(.o 0, .rows 1 (List.length L1) (ib L1) true)] 1 []), (0 : Nat) + List.length l + (1 : Nat) = List.length L0, ∀ (k : Nat), k < (0 : Nat) + List.length l + (1 : Nat) → catF ((0 : Nat) + List.length l) (catF (0 : Nat) (getL []) (ib l)) (fun k => getL [[V.int IntKind.u8 (128 : Int)]] ((0 : Nat) + k)) k = [V.int IntKind.u8 (List.getD L0 k (0 : Int))], true = false → true = false, q (List.length l), ∀ (k : Nat), k < List.length l → [V.int IntKind.u8 (List.getD l k (0 : Int))] = [V.int IntKind.u8 (List.getD l k (0 : Int))], false = true → false = true, q0, q0, q0, (0 : Nat) + List.length l + (1 : Nat) = List.length L0, (none : Option Nat) = none ∨ (none : Option Nat) = none, InR IntKind.i64 ((8 : Int) * (↑(List.length l) : Int)), RLoop Tryz.prog none 0 (cB (cB (cR (cL (cR (cR (cR (cR (bodyOf (Bd.f (bdPa l L0 z L1 L2))))))))))) 9 (St.mk [.ros 1 (List.length l) (ib l) false, .any, .any, .sl (.o 0) 1 0 0 0 (List.length L1) none, .int .i64 ((8 : Int) * (↑(List.length l) : Int)), .int .i64 7, .any, .any, .any, .any, .any, .any, .any, .any, .any, .any, .any, .any, .any, .any, .any, .any, .any, .any, .any, .any, .any, .any, .any, .any, .any, .any, .any, .any] [(.o 0, .rows 1 (List.length L1) (ib L1) true)] 1 []) (.exit 2) (St.mk [.ros 1 (List.length l) (ib l) false, .any, .any, .sl (.o 0) 1 0 0 0 (List.length L2) none, .int .i64 ((8 : Int) * (↑(List.length l) : Int)), .int .i64 ((7 : Int) - (8 : Int)), .any, .any, .any, .any, .any, .any, .any, .any, .any, .any, .any, .any, .any, .any, .any, .any, .any, .any, .any, .any, .any, .any, .any, .any, .any, .any, .any, .any] [(.o 0, .rows 1 (List.length L2) (ib L2) true)] 1 []), q (List.length L1), ∀ (k : Nat), k < List.length L1 → [V.int IntKind.u8 (List.getD L1 k (0 : Int))] = [V.int IntKind.u8 (List.getD L1 k (0 : Int))], true = false → true = false, q (List.length l), ∀ (k : Nat), k < List.length l → [V.int IntKind.u8 (List.getD l k (0 : Int))] = [V.int IntKind.u8 (List.getD l k (0 : Int))], false = true → false = true, q0, q0, q0, q (List.length L1), (none : Option Nat) = none ∨ (none : Option Nat) = none, q ((8 : Int) * (↑(List.length l) : Int)), q (7 : Int)]) : Option (V × Heap × List Prop)) := by kernel_rfl

theorem pcPi_p1 (l : List Int) (L : List Int) (L2 : List Int) :
  alongPc Tryz.prog (pcPi l L L2) [true] = (some (.normal, St.mk [.ros 1 (List.length l) (ib l) false, .any, .any, .sl (.o 0) 1 0 0 0 (List.length L2) none, .any, .any, .any, .any, .any, .any, .any, .any, .any, .any, .any, .any, .any, .any, .any, .any, .any, .any, .any, .any, .any, .any, .any, .any, .any, .any, .any, .any, .any, .any] [(.o 0, .rows 1 (List.length L2) (ib L2) true)] 1 [], [(0 : Int) ≤ (↑(List.length L) : Int) ∧ (0 : Int) < (64 : Int), (!decide ((↑(List.length L) : Int) % (64 : Int) = (56 : Int))) = true, q (List.length L), nat_lit 1 ≤ (1 : Nat), ∀ (k : Nat), k < (1 : Nat) → solid (getL [[V.int IntKind.u8 (0 : Int)]] ((0 : Nat) + k)) = true, (List.length L + (1 : Nat)) * (1 : Nat) ≤ (140737488355328 : Nat), List.length L + (1 : Nat) = List.length L2, ∀ (k : Nat), k < List.length L + (1 : Nat) → catF (List.length L) (ib L) (fun k => getL [[V.int IntKind.u8 (0 : Int)]] ((0 : Nat) + k)) k = [V.int IntKind.u8 (List.getD L2 k (0 : Int))], true = false → true = false, q (List.length l), ∀ (k : Nat), k < List.length l → [V.int IntKind.u8 (List.getD l k (0 : Int))] = [V.int IntKind.u8 (List.getD l k (0 : Int))], false = true → false = true, q0, q0, q0, List.length L + (1 : Nat) = List.length L2, (none : Option Nat) = none ∨ (none : Option Nat) = none]) : Option (Exit × St × List Prop)) := by kernel_rfl
theorem pcPi_p0 (l : List Int) (L : List Int) (L2 : List Int) :
  alongPc Tryz.prog (pcPi l L L2) [false] = (some (.exit 0, St.mk [.ros 1 (List.length l) (ib l) false, .any, .any, .sl (.o 0) 1 0 0 0 (List.length L) none, .any, .any, .any, .any, .any, .any, .any, .any, .any, .any, .any, .any, .any, .any, .any, .any, .any, .any, .any, .any, .any, .any, .any, .any, .any, .any, .any, .any, .any, .any] [(.o 0, .rows 1 (List.length L) (ib L) true)] 1 [], [(0 : Int) ≤ (↑(List.length L) : Int) ∧ (0 : Int) < (64 : Int), (!decide ((↑(List.length L) : Int) % (64 : Int) = (56 : Int))) = false, q (List.length L), ∀ (k : Nat), k < List.length L → [V.int IntKind.u8 (List.getD L k (0 : Int))] = [V.int IntKind.u8 (List.getD L k (0 : Int))], true = false → true = false, q (List.length l), ∀ (k : Nat), k < List.length l → [V.int IntKind.u8 (List.getD l k (0 : Int))] = [V.int IntKind.u8 (List.getD l k (0 : Int))], false = true → false = true, q0, q0, q0, q (List.length L), (none : Option Nat) = none ∨ (none : Option Nat) = none]) : Option (Exit × St × List Prop)) := by kernel_rfl

theorem pcPj_p1 (l : List Int) (L : List Int) (j : Nat) (L2 : List Int) :
  alongPc Tryz.prog (pcPj l L j L2) [true] = (some (.normal, St.mk [.ros 1 (List.length l) (ib l) false, .any, .any, .sl (.o 0) 1 0 0 0 (List.length L2) none, .int .i64 ((8 : Int) * (↑(List.length l) : Int)), .int .i64 ((7 : Int) - (↑(j + 1) : Int)), .any, .any, .any, .any, .any, .any, .any, .any, .any, .any, .any, .any, .any, .any, .any, .any, .any, .any, .any, .any, .any, .any, .any, .any, .any, .any, .any, .any] [(.o 0, .rows 1 (List.length L2) (ib L2) true)] 1 [], [decide ((0 : Int) ≤ (7 : Int) - (↑j : Int)) = true, InR IntKind.i64 ((8 : Int) * ((7 : Int) - (↑j : Int))), (0 : Int) ≤ (8 : Int) * ((7 : Int) - (↑j : Int)) ∧ (8 : Int) * ((7 : Int) - (↑j : Int)) ≤ (64 : Int), q (List.length L), nat_lit 1 ≤ (1 : Nat), ∀ (k : Nat), k < (1 : Nat) → solid (getL [[V.int IntKind.u8 (IntKind.wrap IntKind.u8 ((8 : Int) * (↑(List.length l) : Int) / (2 : Int) ^ Int.toNat ((8 : Int) * ((7 : Int) - (↑j : Int)))))]] ((0 : Nat) + k)) = true, (List.length L + (1 : Nat)) * (1 : Nat) ≤ (140737488355328 : Nat), InR IntKind.i64 ((7 : Int) - (↑j : Int) - (1 : Int)), List.length L + (1 : Nat) = List.length L2, ∀ (k : Nat), k < List.length L + (1 : Nat) → catF (List.length L) (ib L) (fun k => getL [[V.int IntKind.u8 (IntKind.wrap IntKind.u8 ((8 : Int) * (↑(List.length l) : Int) / (2 : Int) ^ Int.toNat ((8 : Int) * ((7 : Int) - (↑j : Int)))))]] ((0 : Nat) + k)) k = [V.int IntKind.u8 (List.getD L2 k (0 : Int))], true = false → true = false, q (List.length l), ∀ (k : Nat), k < List.length l → [V.int IntKind.u8 (List.getD l k (0 : Int))] = [V.int IntKind.u8 (List.getD l k (0 : Int))], false = true → false = true, q0, q0, q0, List.length L + (1 : Nat) = List.length L2, (none : Option Nat) = none ∨ (none : Option Nat) = none, q ((8 : Int) * (↑(List.length l) : Int)), (7 : Int) - (↑j : Int) - (1 : Int) = (7 : Int) - (↑(j + (1 : Nat)) : Int)]) : Option (Exit × St × List Prop)) := by kernel_rfl
theorem pcPj_p0 (l : List Int) (L : List Int) (j : Nat) (L2 : List Int) :
  alongPc Tryz.prog (pcPj l L j L2) [false] = (some (.exit 2, St.mk [.ros 1 (List.length l) (ib l) false, .any, .any, .sl (.o 0) 1 0 0 0 (List.length L) none, .int .i64 ((8 : Int) * (↑(List.length l) : Int)), .int .i64 ((7 : Int) - (8 : Int)), .any, .any, .any, .any, .any, .any, .any, .any, .any, .any, .any, .any, .any, .any, .any, .any, .any, .any, .any, .any, .any, .any, .any, .any, .any, .any, .any, .any] [(.o 0, .rows 1 (List.length L) (ib L) true)] 1 [], [decide ((0 : Int) ≤ (7 : Int) - (↑j : Int)) = false, q (List.length L), ∀ (k : Nat), k < List.length L → [V.int IntKind.u8 (List.getD L k (0 : Int))] = [V.int IntKind.u8 (List.getD L k (0 : Int))], true = false → true = false, q (List.length l), ∀ (k : Nat), k < List.length l → [V.int IntKind.u8 (List.getD l k (0 : Int))] = [V.int IntKind.u8 (List.getD l k (0 : Int))], false = true → false = true, q0, q0, q0, q (List.length L), (none : Option Nat) = none ∨ (none : Option Nat) = none, q ((8 : Int) * (↑(List.length l) : Int)), (7 : Int) - (↑j : Int) = (7 : Int) - (8 : Int)]) : Option (Exit × St × List Prop)) := by kernel_rfl

theorem bdBt_p (h : List Int) (b : List Int) (w : List Int) (w2 : List Int) (s0 : S8) (s : S8) (h2 : List Int) :
  along Tryz.prog (bdBt h b w w2 s0 s h2) [] = (some (.agg [.seg .u32 8 h2], [], [RLoop Tryz.prog none 0 (cB (cB (cR (cL (cR (cR (bodyOf (Bd.f (bdBt h b w w2 s0 s h2))))))))) 17 (St.mk [.any, .ros 1 (List.length b) (ib b) false, .ptr (.o 0) 0 0 0 0, .any, .ptr (.o 2) 0 0 0 0, .ptr (.o 1) 0 0 0 0, .int .i64 0, .any, .any, .any, .any, .any, .any, .any, .any, .any, .any, .any, .any, .any, .any, .any, .any, .any, .any, .any, .any, .any, .any, .any, .any, .any, .any, .any, .any, .any, .any, .any, .any, .any, .any, .any, .any, .any, .any, .any, .any, .any, .any, .any, .any, .any, .any, .any, .any, .any, .any, .any, .any, .any, .any, .any, .any, .any, .any, .any, .any, .any, .any, .any, .any, .any, .any, .any, .any, .any, .any, .any, .any, .any, .any, .any, .any, .any, .any, .any, .any, .any, .any, .any, .any, .any, .any, .any, .any, .any, .any, .any, .any, .any, .any, .any, .any, .any, .any, .any, .any, .any, .any, .any, .any, .any, .any, .any, .any, .any, .any, .any, .any, .any, .any, .any, .any, .any, .any, .any, .any, .any, .any, .any, .any, .any, .any, .any, .any, .any, .any, .any, .any, .any, .any, .any, .any, .any, .any, .any, .any, .any, .any, .any, .any, .any, .any, .any, .any, .any, .any, .any, .any, .any, .any, .any, .any, .any, .any, .any, .any, .any, .any, .any, .any, .any, .any, .any, .any, .any, .any, .any, .any, .any, .any, .any, .any, .any, .any, .any, .any, .any, .any, .any, .any] [(.o 0, .flat [.seg .u32 8 h]), (.o 1, .flat [.seg .u32 64 [(0 : Int), (0 : Int), (0 : Int), (0 : Int), (0 : Int), (0 : Int), (0 : Int), (0 : Int), (0 : Int), (0 : Int), (0 : Int), (0 : Int), (0 : Int), (0 : Int), (0 : Int), (0 : Int), (0 : Int), (0 : Int), (0 : Int), (0 : Int), (0 : Int), (0 : Int), (0 : Int), (0 : Int), (0 : Int), (0 : Int), (0 : Int), (0 : Int), (0 : Int), (0 : Int), (0 : Int), (0 : Int), (0 : Int), (0 : Int), (0 : Int), (0 : Int), (0 : Int), (0 : Int), (0 : Int), (0 : Int), (0 : Int), (0 : Int), (0 : Int), (0 : Int), (0 : Int), (0 : Int), (0 : Int), (0 : Int), (0 : Int), (0 : Int), (0 : Int), (0 : Int), (0 : Int), (0 : Int), (0 : Int), (0 : Int), (0 : Int), (0 : Int), (0 : Int), (0 : Int), (0 : Int), (0 : Int), (0 : Int), (0 : Int)]]), (.o 2, .flat [.seg .u32 8 [(0 : Int), (0 : Int), (0 : Int), (0 : Int), (0 : Int), (0 : Int), (0 : Int), (0 : Int)]])] 3 []) (.exit 0) (St.mk [.any, .ros 1 (List.length b) (ib b) false, .ptr (.o 0) 0 0 0 0, .any, .ptr (.o 2) 0 0 0 0, .ptr (.o 1) 0 0 0 0, .int .i64 16, .any, .any, .any, .any, .any, .any, .any, .any, .any, .any, .any, .any, .any, .any, .any, .any, .any, .any, .any, .any, .any, .any, .any, .any, .any, .any, .any, .any, .any, .any, .any, .any, .any, .any, .any, .any, .any, .any, .any, .any, .any, .any, .any, .any, .any, .any, .any, .any, .any, .any, .any, .any, .any, .any, .any, .any, .any, .any, .any, .any, .any, .any, .any, .any, .any, .any, .any, .any, .any, .any, .any, .any, .any, .any, .any, .any, .any, .any, .any, .any, .any, .any, .any, .any, .any, .any, .any, .any, .any, .any, .any, .any, .any, .any, .any, .any, .any, .any, .any, .any, .any, .any, .any, .any, .any, .any, .any, .any, .any, .any, .any, .any, .any, .any, .any, .any, .any, .any, .any, .any, .any, .any, .any, .any, .any, .any, .any, .any, .any, .any, .any, .any, .any, .any, .any, .any, .any, .any, .any, .any, .any, .any, .any, .any, .any, .any, .any, .any, .any, .any, .any, .any, .any, .any, .any, .any, .any, .any, .any, .any, .any, .any, .any, .any, .any, .any, .any, .any, .any, .any, .any, .any, .any, .any, .any, .any, .any, .any, .any, .any, .any, .any, .any, .any] [(.o 0, .flat [.seg .u32 8 h]), (.o 1, .flat [.seg .u32 64 w]), (.o 2, .flat [.seg .u32 8 [(0 : Int), (0 : Int), (0 : Int), (0 : Int), (0 : Int), (0 : Int), (0 : Int), (0 : Int)]])] 3 []), q (8 : Nat), q h, q (64 : Nat), q ([(0 : Int), (0 : Int), (0 : Int), (0 : Int), (0 : Int), (0 : Int), (0 : Int), (0 : Int), (0 : Int), (0 : Int), (0 : Int), (0 : Int), (0 : Int), (0 : Int), (0 : Int), (0 : Int), (0 : Int), (0 : Int), (0 : Int), (0 : Int), (0 : Int), (0 : Int), (0 : Int), (0 : Int), (0 : Int), (0 : Int), (0 : Int), (0 : Int), (0 : Int), (0 : Int), (0 : Int), (0 : Int), (0 : Int), (0 : Int), (0 : Int), (0 : Int), (0 : Int), (0 : Int), (0 : Int), (0 : Int), (0 : Int), (0 : Int), (0 : Int), (0 : Int), (0 : Int), (0 : Int), (0 : Int), (0 : Int), (0 : Int), (0 : Int), (0 : Int), (0 : Int), (0 : Int), (0 : Int), (0 : Int), (0 : Int), (0 : Int), (0 : Int), (0 : Int), (0 : Int), (0 : Int), (0 : Int), (0 : Int), (0 : Int)]), q (8 : Nat), q ([(0 : Int), (0 : Int), (0 : Int), (0 : Int), (0 : Int), (0 : Int), (0 : Int), (0 : Int)]), q (List.length b), ∀ (k : Nat), k < List.length b → [V.int IntKind.u8 (List.getD b k (0 : Int))] = [V.int IntKind.u8 (List.getD b k (0 : Int))], false = true → false = true, q0, q0, q0, q0, q0, q0, q0, q0, q0, q1, RLoop Tryz.prog none 0 (cB (cB (cR (cL (cR (cR (cR (bodyOf (Bd.f (bdBt h b w w2 s0 s h2)))))))))) 49 (St.mk [.any, .any, .ptr (.o 0) 0 0 0 0, .any, .ptr (.o 2) 0 0 0 0, .ptr (.o 1) 0 0 0 0, .any, .int .i64 16, .any, .any, .any, .any, .any, .any, .any, .any, .any, .any, .any, .any, .any, .any, .any, .any, .any, .any, .any, .any, .any, .any, .any, .any, .any, .any, .any, .any, .any, .any, .any, .any, .any, .any, .any, .any, .any, .any, .any, .any, .any, .any, .any, .any, .any, .any, .any, .any, .any, .any, .any, .any, .any, .any, .any, .any, .any, .any, .any, .any, .any, .any, .any, .any, .any, .any, .any, .any, .any, .any, .any, .any, .any, .any, .any, .any, .any, .any, .any, .any, .any, .any, .any, .any, .any, .any, .any, .any, .any, .any, .any, .any, .any, .any, .any, .any, .any, .any, .any, .any, .any, .any, .any, .any, .any, .any, .any, .any, .any, .any, .any, .any, .any, .any, .any, .any, .any, .any, .any, .any, .any, .any, .any, .any, .any, .any, .any, .any, .any, .any, .any, .any, .any, .any, .any, .any, .any, .any, .any, .any, .any, .any, .any, .any, .any, .any, .any, .any, .any, .any, .any, .any, .any, .any, .any, .any, .any, .any, .any, .any, .any, .any, .any, .any, .any, .any, .any, .any, .any, .any, .any, .any, .any, .any, .any, .any, .any, .any, .any, .any, .any, .any, .any] [(.o 0, .flat [.seg .u32 8 h]), (.o 1, .flat [.seg .u32 64 w]), (.o 2, .flat [.seg .u32 8 [(0 : Int), (0 : Int), (0 : Int), (0 : Int), (0 : Int), (0 : Int), (0 : Int), (0 : Int)]])] 3 []) (.exit 2) (St.mk [.any, .any, .ptr (.o 0) 0 0 0 0, .any, .ptr (.o 2) 0 0 0 0, .ptr (.o 1) 0 0 0 0, .any, .int .i64 64, .any, .any, .any, .any, .any, .any, .any, .any, .any, .any, .any, .any, .any, .any, .any, .any, .any, .any, .any, .any, .any, .any, .any, .any, .any, .any, .any, .any, .any, .any, .any, .any, .any, .any, .any, .any, .any, .any, .any, .any, .any, .any, .any, .any, .any, .any, .any, .any, .any, .any, .any, .any, .any, .any, .any, .any, .any, .any, .any, .any, .any, .any, .any, .any, .any, .any, .any, .any, .any, .any, .any, .any, .any, .any, .any, .any, .any, .any, .any, .any, .any, .any, .any, .any, .any, .any, .any, .any, .any, .any, .any, .any, .any, .any, .any, .any, .any, .any, .any, .any, .any, .any, .any, .any, .any, .any, .any, .any, .any, .any, .any, .any, .any, .any, .any, .any, .any, .any, .any, .any, .any, .any, .any, .any, .any, .any, .any, .any, .any, .any, .any, .any, .any, .any, .any, .any, .any, .any, .any, .any, .any, .any, .any, .any, .any, .any, .any, .any, .any, .any, .any, .any, .any, .any, .any, .any, .any, .any, .any, .any, .any, .any, .any, .any, .any, .any, .any, .any, .any, .any, .any, .any, .any, .any, .any, .any, .any, .any, .any, .any, .any, .any, .any] [(.o 0, .flat [.seg .u32 8 h]), (.o 1, .flat [.seg .u32 64 w2]), (.o 2, .flat [.seg .u32 8 [(0 : Int), (0 : Int), (0 : Int), (0 : Int), (0 : Int), (0 : Int), (0 : Int), (0 : Int)]])] 3 []), q (8 : Nat), q h, q (64 : Nat), q w, q (8 : Nat), q ([(0 : Int), (0 : Int), (0 : Int), (0 : Int), (0 : Int), (0 : Int), (0 : Int), (0 : Int)]), q0, q0, q0, q0, q0, q0, q0, q0, q0, q (16 : Int), RLoop Tryz.prog none 0 (cB (cB (cR (cL (cR (cR (cR (cR (cR (bodyOf (Bd.f (bdBt h b w w2 s0 s h2)))))))))))) 65 (St.mk [.any, .any, .ptr (.o 0) 0 0 0 0, .any, .ptr (.o 2) 0 0 0 0, .ptr (.o 1) 0 0 0 0, .any, .any, .any, .any, .ptr (.o 3) 0 0 0 0, .int .i64 0, .any, .any, .any, .any, .any, .any, .any, .any, .any, .any, .any, .any, .any, .any, .any, .any, .any, .any, .any, .any, .any, .any, .any, .any, .any, .any, .any, .any, .any, .any, .any, .any, .any, .any, .any, .any, .any, .any, .any, .any, .any, .any, .any, .any, .any, .any, .any, .any, .any, .any, .any, .any, .any, .any, .any, .any, .any, .any, .any, .any, .any, .any, .any, .any, .any, .any, .any, .any, .any, .any, .any, .any, .any, .any, .any, .any, .any, .any, .any, .any, .any, .any, .any, .any, .any, .any, .any, .any, .any, .any, .any, .any, .any, .any, .any, .any, .any, .any, .any, .any, .any, .any, .any, .any, .any, .any, .any, .any, .any, .any, .any, .any, .any, .any, .any, .any, .any, .any, .any, .any, .any, .any, .any, .any, .any, .any, .any, .any, .any, .any, .any, .any, .any, .any, .any, .any, .any, .any, .any, .any, .any, .any, .any, .any, .any, .any, .any, .any, .any, .any, .any, .any, .any, .any, .any, .any, .any, .any, .any, .any, .any, .any, .any, .any, .any, .any, .any, .any, .any, .any, .any, .any, .any, .any, .any, .any, .any, .any, .any] [(.o 0, .flat [.seg .u32 8 h]), (.o 1, .flat [.seg .u32 64 w2]), (.o 2, .flat [.seg .u32 8 [(0 : Int), (0 : Int), (0 : Int), (0 : Int), (0 : Int), (0 : Int), (0 : Int), (0 : Int)]]), (.o 3, .flat [.seg .u32 8 [S8.a s0, S8.b s0, S8.c s0, S8.d s0, S8.e s0, S8.f s0, S8.g s0, S8.h s0]])] 4 []) (.exit 4) (St.mk [.any, .any, .ptr (.o 0) 0 0 0 0, .any, .ptr (.o 2) 0 0 0 0, .ptr (.o 1) 0 0 0 0, .any, .any, .any, .any, .ptr (.o 3) 0 0 0 0, .int .i64 64, .any, .any, .any, .any, .any, .any, .any, .any, .any, .any, .any, .any, .any, .any, .any, .any, .any, .any, .any, .any, .any, .any, .any, .any, .any, .any, .any, .any, .any, .any, .any, .any, .any, .any, .any, .any, .any, .any, .any, .any, .any, .any, .any, .any, .any, .any, .any, .any, .any, .any, .any, .any, .any, .any, .any, .any, .any, .any, .any, .any, .any, .any, .any, .any, .any, .any, .any, .any, .any, .any, .any, .any, .any, .any, .any, .any, .any, .any, .any, .any, .any, .any, .any, .any, .any, .any, .any, .any, .any, .any, .any, .any, .any, .any, .any, .any, .any, .any, .any, .any, .any, .any, .any, .any, .any, .any, .any, .any, .any, .any, .any, .any, .any, .any, .any, .any, .any, .any, .any, .any, .any, .any, .any, .any, .any, .any, .any, .any, .any, .any, .any, .any, .any, .any, .any, .any, .any, .any, .any, .any, .any, .any, .any, .any, .any, .any, .any, .any, .any, .any, .any, .any, .any, .any, .any, .any, .any, .any, .any, .any, .any, .any, .any, .any, .any, .any, .any, .any, .any, .any, .any, .any, .any, .any, .any, .any, .any, .any, .any] [(.o 0, .flat [.seg .u32 8 h]), (.o 1, .flat [.seg .u32 64 w2]), (.o 2, .flat [.seg .u32 8 [(0 : Int), (0 : Int), (0 : Int), (0 : Int), (0 : Int), (0 : Int), (0 : Int), (0 : Int)]]), (.o 3, .flat [.seg .u32 8 [S8.a s, S8.b s, S8.c s, S8.d s, S8.e s, S8.f s, S8.g s, S8.h s]])] 4 []), q (8 : Nat), q h, q (64 : Nat), q w2, q (8 : Nat), q ([(0 : Int), (0 : Int), (0 : Int), (0 : Int), (0 : Int), (0 : Int), (0 : Int), (0 : Int)]), q (8 : Nat), h = [S8.a s0, S8.b s0, S8.c s0, S8.d s0, S8.e s0, S8.f s0, S8.g s0, S8.h s0], q0, q0, q0, q0, q0, q0, q0, q0, q0, q0, q0, q0, q1, RLoop Tryz.prog none 0 (cB (cB (cR (cL (cR (cR (cR (cR (cR (cR (bodyOf (Bd.f (bdBt h b w w2 s0 s h2))))))))))))) 9 (St.mk [.any, .any, .ptr (.o 0) 0 0 0 0, .any, .ptr (.o 2) 0 0 0 0, .any, .any, .any, .any, .any, .ptr (.o 3) 0 0 0 0, .any, .any, .any, .any, .any, .int .i64 0, .any, .any, .any, .any, .any, .any, .any, .any, .any, .any, .any, .any, .any, .any, .any, .any, .any, .any, .any, .any, .any, .any, .any, .any, .any, .any, .any, .any, .any, .any, .any, .any, .any, .any, .any, .any, .any, .any, .any, .any, .any, .any, .any, .any, .any, .any, .any, .any, .any, .any, .any, .any, .any, .any, .any, .any, .any, .any, .any, .any, .any, .any, .any, .any, .any, .any, .any, .any, .any, .any, .any, .any, .any, .any, .any, .any, .any, .any, .any, .any, .any, .any, .any, .any, .any, .any, .any, .any, .any, .any, .any, .any, .any, .any, .any, .any, .any, .any, .any, .any, .any, .any, .any, .any, .any, .any, .any, .any, .any, .any, .any, .any, .any, .any, .any, .any, .any, .any, .any, .any, .any, .any, .any, .any, .any, .any, .any, .any, .any, .any, .any, .any, .any, .any, .any, .any, .any, .any, .any, .any, .any, .any, .any, .any, .any, .any, .any, .any, .any, .any, .any, .any, .any, .any, .any, .any, .any, .any, .any, .any, .any, .any, .any, .any, .any, .any, .any, .any, .any, .any, .any, .any, .any, .any] [(.o 0, .flat [.seg .u32 8 h]), (.o 2, .flat [.seg .u32 8 [(0 : Int), (0 : Int), (0 : Int), (0 : Int), (0 : Int), (0 : Int), (0 : Int), (0 : Int)]]), (.o 3, .flat [.seg .u32 8 [S8.a s, S8.b s, S8.c s, S8.d s, S8.e s, S8.f s, S8.g s, S8.h s]])] 4 []) (.exit 6) (St.mk [.any, .any, .ptr (.o 0) 0 0 0 0, .any, .ptr (.o 2) 0 0 0 0, .any, .any, .any, .any, .any, .ptr (.o 3) 0 0 0 0, .any, .any, .any, .any, .any, .int .i64 8, .any, .any, .any, .any, .any, .any, .any, .any, .any, .any, .any, .any, .any, .any, .any, .any, .any, .any, .any, .any, .any, .any, .any, .any, .any, .any, .any, .any, .any, .any, .any, .any, .any, .any, .any, .any, .any, .any, .any, .any, .any, .any, .any, .any, .any, .any, .any, .any, .any, .any, .any, .any, .any, .any, .any, .any, .any, .any, .any, .any, .any, .any, .any, .any, .any, .any, .any, .any, .any, .any, .any, .any, .any, .any, .any, .any, .any, .any, .any, .any, .any, .any, .any, .any, .any, .any, .any, .any, .any, .any, .any, .any, .any, .any, .any, .any, .any, .any, .any, .any, .any, .any, .any, .any, .any, .any, .any, .any, .any, .any, .any, .any, .any, .any, .any, .any, .any, .any, .any, .any, .any, .any, .any, .any, .any, .any, .any, .any, .any, .any, .any, .any, .any, .any, .any, .any, .any, .any, .any, .any, .any, .any, .any, .any, .any, .any, .any, .any, .any, .any, .any, .any, .any, .any, .any, .any, .any, .any, .any, .any, .any, .any, .any, .any, .any, .any, .any, .any, .any, .any, .any, .any, .any, .any] [(.o 0, .flat [.seg .u32 8 h2]), (.o 2, .flat [.seg .u32 8 [(0 : Int), (0 : Int), (0 : Int), (0 : Int), (0 : Int), (0 : Int), (0 : Int), (0 : Int)]]), (.o 3, .flat [.seg .u32 8 [S8.a s, S8.b s, S8.c s, S8.d s, S8.e s, S8.f s, S8.g s, S8.h s]])] 4 []), q (8 : Nat), q h, q (8 : Nat), q ([(0 : Int), (0 : Int), (0 : Int), (0 : Int), (0 : Int), (0 : Int), (0 : Int), (0 : Int)]), q (8 : Nat), q ([S8.a s, S8.b s, S8.c s, S8.d s, S8.e s, S8.f s, S8.g s, S8.h s]), q0, q0, q0, q0, q0, q0, q0, q0, q0, q1]) : Option (V × Heap × List Prop)) := by kernel_rfl

theorem pcTi_p1 (h : List Int) (b : List Int) (w : List Int) (i : Nat) (w2 : List Int) :
  alongPc Tryz.prog (pcTi h b w i w2) [true] = (some (.normal, St.mk [.any, .ros 1 (List.length b) (ib b) false, .ptr (.o 0) 0 0 0 0, .any, .ptr (.o 2) 0 0 0 0, .ptr (.o 1) 0 0 0 0, .int .i64 (↑(i + 1) : Int), .any, .any, .any, .any, .any, .any, .any, .any, .any, .any, .any, .any, .any, .any, .any, .any, .any, .any, .any, .any, .any, .any, .any, .any, .any, .any, .any, .any, .any, .any, .any, .any, .any, .any, .any, .any, .any, .any, .any, .any, .any, .any, .any, .any, .any, .any, .any, .any, .any, .any, .any, .any, .any, .any, .any, .any, .any, .any, .any, .any, .any, .any, .any, .any, .any, .any, .any, .any, .any, .any, .any, .any, .any, .any, .any, .any, .any, .any, .any, .any, .any, .any, .any, .any, .any, .any, .any, .any, .any, .any, .any, .any, .any, .any, .any, .any, .any, .any, .any, .any, .any, .any, .any, .any, .any, .any, .any, .any, .any, .any, .any, .any, .any, .any, .any, .any, .any, .any, .any, .any, .any, .any, .any, .any, .any, .any, .any, .any, .any, .any, .any, .any, .any, .any, .any, .any, .any, .any, .any, .any, .any, .any, .any, .any, .any, .any, .any, .any, .any, .any, .any, .any, .any, .any, .any, .any, .any, .any, .any, .any, .any, .any, .any, .any, .any, .any, .any, .any, .any, .any, .any, .any, .any, .any, .any, .any, .any, .any, .any, .any, .any, .any, .any, .any] [(.o 0, .flat [.seg .u32 8 h]), (.o 1, .flat [.seg .u32 64 w2]), (.o 2, .flat [.seg .u32 8 [(0 : Int), (0 : Int), (0 : Int), (0 : Int), (0 : Int), (0 : Int), (0 : Int), (0 : Int)]])] 3 [], [decide ((↑i : Int) < (16 : Int)) = true, InR IntKind.i64 ((4 : Int) * (↑i : Int)), (0 : Int) ≤ (4 : Int) * (↑i : Int) ∧ (4 : Int) * (↑i : Int) < (↑(List.length b) : Int), (0 : Int) ≤ (24 : Int) ∧ (24 : Int) ≤ (32 : Int), InR IntKind.i64 ((4 : Int) * (↑i : Int)), InR IntKind.i64 ((4 : Int) * (↑i : Int) + (1 : Int)), (0 : Int) ≤ (4 : Int) * (↑i : Int) + (1 : Int) ∧ (4 : Int) * (↑i : Int) + (1 : Int) < (↑(List.length b) : Int), (0 : Int) ≤ (16 : Int) ∧ (16 : Int) ≤ (32 : Int), InR IntKind.i64 ((4 : Int) * (↑i : Int)), InR IntKind.i64 ((4 : Int) * (↑i : Int) + (2 : Int)), (0 : Int) ≤ (4 : Int) * (↑i : Int) + (2 : Int) ∧ (4 : Int) * (↑i : Int) + (2 : Int) < (↑(List.length b) : Int), (0 : Int) ≤ (8 : Int) ∧ (8 : Int) ≤ (32 : Int), InR IntKind.i64 ((4 : Int) * (↑i : Int)), InR IntKind.i64 ((4 : Int) * (↑i : Int) + (3 : Int)), (0 : Int) ≤ (4 : Int) * (↑i : Int) + (3 : Int) ∧ (4 : Int) * (↑i : Int) + (3 : Int) < (↑(List.length b) : Int), (0 : Int) ≤ (↑i : Int) ∧ (↑i : Int) < (64 : Int), (0 : Nat) + Int.toNat (↑i : Int) < (64 : Nat), InR IntKind.i64 ((↑i : Int) + (1 : Int)), q (8 : Nat), q h, q (64 : Nat), List.set w ((0 : Nat) + Int.toNat (↑i : Int)) (ibits (fun x x_1 y => x_1 ||| y) IntKind.u32 (ibits (fun x x_1 y => x_1 ||| y) IntKind.u32 (ibits (fun x x_1 y => x_1 ||| y) IntKind.u32 (IntKind.wrap IntKind.u32 (IntKind.wrap IntKind.u32 (List.getD b (Int.toNat ((4 : Int) * (↑i : Int))) (0 : Int)) * (16777216 : Int))) (IntKind.wrap IntKind.u32 (IntKind.wrap IntKind.u32 (List.getD b (Int.toNat ((4 : Int) * (↑i : Int) + (1 : Int))) (0 : Int)) * (65536 : Int)))) (IntKind.wrap IntKind.u32 (IntKind.wrap IntKind.u32 (List.getD b (Int.toNat ((4 : Int) * (↑i : Int) + (2 : Int))) (0 : Int)) * (256 : Int)))) (IntKind.wrap IntKind.u32 (List.getD b (Int.toNat ((4 : Int) * (↑i : Int) + (3 : Int))) (0 : Int)))) = w2, q (8 : Nat), q ([(0 : Int), (0 : Int), (0 : Int), (0 : Int), (0 : Int), (0 : Int), (0 : Int), (0 : Int)]), q (List.length b), ∀ (k : Nat), k < List.length b → [V.int IntKind.u8 (List.getD b k (0 : Int))] = [V.int IntKind.u8 (List.getD b k (0 : Int))], false = true → false = true, q0, q0, q0, q0, q0, q0, q0, q0, q0, (↑i : Int) + (1 : Int) = (↑(i + (1 : Nat)) : Int)]) : Option (Exit × St × List Prop)) := by kernel_rfl
theorem pcTi_p0 (h : List Int) (b : List Int) (w : List Int) (i : Nat) (w2 : List Int) :
  alongPc Tryz.prog (pcTi h b w i w2) [false] = (some (.exit 0, St.mk [.any, .ros 1 (List.length b) (ib b) false, .ptr (.o 0) 0 0 0 0, .any, .ptr (.o 2) 0 0 0 0, .ptr (.o 1) 0 0 0 0, .int .i64 16, .any, .any, .any, .any, .any, .any, .any, .any, .any, .any, .any, .any, .any, .any, .any, .any, .any, .any, .any, .any, .any, .any, .any, .any, .any, .any, .any, .any, .any, .any, .any, .any, .any, .any, .any, .any, .any, .any, .any, .any, .any, .any, .any, .any, .any, .any, .any, .any, .any, .any, .any, .any, .any, .any, .any, .any, .any, .any, .any, .any, .any, .any, .any, .any, .any, .any, .any, .any, .any, .any, .any, .any, .any, .any, .any, .any, .any, .any, .any, .any, .any, .any, .any, .any, .any, .any, .any, .any, .any, .any, .any, .any, .any, .any, .any, .any, .any, .any, .any, .any, .any, .any, .any, .any, .any, .any, .any, .any, .any, .any, .any, .any, .any, .any, .any, .any, .any, .any, .any, .any, .any, .any, .any, .any, .any, .any, .any, .any, .any, .any, .any, .any, .any, .any, .any, .any, .any, .any, .any, .any, .any, .any, .any, .any, .any, .any, .any, .any, .any, .any, .any, .any, .any, .any, .any, .any, .any, .any, .any, .any, .any, .any, .any, .any, .any, .any, .any, .any, .any, .any, .any, .any, .any, .any, .any, .any, .any, .any, .any, .any, .any, .any, .any, .any] [(.o 0, .flat [.seg .u32 8 h]), (.o 1, .flat [.seg .u32 64 w]), (.o 2, .flat [.seg .u32 8 [(0 : Int), (0 : Int), (0 : Int), (0 : Int), (0 : Int), (0 : Int), (0 : Int), (0 : Int)]])] 3 [], [decide ((↑i : Int) < (16 : Int)) = false, q (8 : Nat), q h, q (64 : Nat), q w, q (8 : Nat), q ([(0 : Int), (0 : Int), (0 : Int), (0 : Int), (0 : Int), (0 : Int), (0 : Int), (0 : Int)]), q (List.length b), ∀ (k : Nat), k < List.length b → [V.int IntKind.u8 (List.getD b k (0 : Int))] = [V.int IntKind.u8 (List.getD b k (0 : Int))], false = true → false = true, q0, q0, q0, q0, q0, q0, q0, q0, q0, (↑i : Int) = (16 : Int)]) : Option (Exit × St × List Prop)) := by kernel_rfl

theorem pcTj_p1 (h : List Int) (w : List Int) (k : Nat) (w2 : List Int) :
  alongPc Tryz.prog (pcTj h w k w2) [true] = (some (.normal, St.mk [.any, .any, .ptr (.o 0) 0 0 0 0, .any, .ptr (.o 2) 0 0 0 0, .ptr (.o 1) 0 0 0 0, .any, .int .i64 (↑(16 + (k + 1)) : Int), .any, .any, .any, .any, .any, .any, .any, .any, .any, .any, .any, .any, .any, .any, .any, .any, .any, .any, .any, .any, .any, .any, .any, .any, .any, .any, .any, .any, .any, .any, .any, .any, .any, .any, .any, .any, .any, .any, .any, .any, .any, .any, .any, .any, .any, .any, .any, .any, .any, .any, .any, .any, .any, .any, .any, .any, .any, .any, .any, .any, .any, .any, .any, .any, .any, .any, .any, .any, .any, .any, .any, .any, .any, .any, .any, .any, .any, .any, .any, .any, .any, .any, .any, .any, .any, .any, .any, .any, .any, .any, .any, .any, .any, .any, .any, .any, .any, .any, .any, .any, .any, .any, .any, .any, .any, .any, .any, .any, .any, .any, .any, .any, .any, .any, .any, .any, .any, .any, .any, .any, .any, .any, .any, .any, .any, .any, .any, .any, .any, .any, .any, .any, .any, .any, .any, .any, .any, .any, .any, .any, .any, .any, .any, .any, .any, .any, .any, .any, .any, .any, .any, .any, .any, .any, .any, .any, .any, .any, .any, .any, .any, .any, .any, .any, .any, .any, .any, .any, .any, .any, .any, .any, .any, .any, .any, .any, .any, .any, .any, .any, .any, .any, .any] [(.o 0, .flat [.seg .u32 8 h]), (.o 1, .flat [.seg .u32 64 w2]), (.o 2, .flat [.seg .u32 8 [(0 : Int), (0 : Int), (0 : Int), (0 : Int), (0 : Int), (0 : Int), (0 : Int), (0 : Int)]])] 3 [], [decide ((↑((16 : Nat) + k) : Int) < (64 : Int)) = true, InR IntKind.i64 ((↑((16 : Nat) + k) : Int) - (15 : Int)), (0 : Int) ≤ (↑((16 : Nat) + k) : Int) - (15 : Int) ∧ (↑((16 : Nat) + k) : Int) - (15 : Int) < (64 : Int), (0 : Nat) + Int.toNat ((↑((16 : Nat) + k) : Int) - (15 : Int)) < (64 : Nat), InR IntKind.i64 ((↑((16 : Nat) + k) : Int) - (2 : Int)), (0 : Int) ≤ (↑((16 : Nat) + k) : Int) - (2 : Int) ∧ (↑((16 : Nat) + k) : Int) - (2 : Int) < (64 : Int), (0 : Nat) + Int.toNat ((↑((16 : Nat) + k) : Int) - (2 : Int)) < (64 : Nat), InR IntKind.i64 ((↑((16 : Nat) + k) : Int) - (16 : Int)), (0 : Int) ≤ (↑((16 : Nat) + k) : Int) - (16 : Int) ∧ (↑((16 : Nat) + k) : Int) - (16 : Int) < (64 : Int), (0 : Nat) + Int.toNat ((↑((16 : Nat) + k) : Int) - (16 : Int)) < (64 : Nat), T Tryz.prog 126 [.int .u32 (List.getD w (0 + Int.toNat ((↑(16 + k) : Int) - (15 : Int))) (0 : Int)), .int .i64 7] [] (.int .u32 (rr32 (List.getD w (0 + Int.toNat ((↑(16 + k) : Int) - (15 : Int))) (0 : Int)) (7 : Int))) [], T Tryz.prog 126 [.int .u32 (List.getD w (0 + Int.toNat ((↑(16 + k) : Int) - (15 : Int))) (0 : Int)), .int .i64 18] [] (.int .u32 (rr32 (List.getD w (0 + Int.toNat ((↑(16 + k) : Int) - (15 : Int))) (0 : Int)) (18 : Int))) [], (0 : Int) ≤ (3 : Int) ∧ (3 : Int) ≤ (32 : Int), InR IntKind.i64 ((↑((16 : Nat) + k) : Int) - (7 : Int)), (0 : Int) ≤ (↑((16 : Nat) + k) : Int) - (7 : Int) ∧ (↑((16 : Nat) + k) : Int) - (7 : Int) < (64 : Int), (0 : Nat) + Int.toNat ((↑((16 : Nat) + k) : Int) - (7 : Int)) < (64 : Nat), T Tryz.prog 126 [.int .u32 (List.getD w (0 + Int.toNat ((↑(16 + k) : Int) - (2 : Int))) (0 : Int)), .int .i64 17] [] (.int .u32 (rr32 (List.getD w (0 + Int.toNat ((↑(16 + k) : Int) - (2 : Int))) (0 : Int)) (17 : Int))) [], T Tryz.prog 126 [.int .u32 (List.getD w (0 + Int.toNat ((↑(16 + k) : Int) - (2 : Int))) (0 : Int)), .int .i64 19] [] (.int .u32 (rr32 (List.getD w (0 + Int.toNat ((↑(16 + k) : Int) - (2 : Int))) (0 : Int)) (19 : Int))) [], (0 : Int) ≤ (10 : Int) ∧ (10 : Int) ≤ (32 : Int), (0 : Int) ≤ (↑((16 : Nat) + k) : Int) ∧ (↑((16 : Nat) + k) : Int) < (64 : Int), (0 : Nat) + Int.toNat (↑((16 : Nat) + k) : Int) < (64 : Nat), InR IntKind.i64 ((↑((16 : Nat) + k) : Int) + (1 : Int)), q (8 : Nat), q h, q (64 : Nat), List.set w ((0 : Nat) + Int.toNat (↑((16 : Nat) + k) : Int)) (IntKind.wrap IntKind.u32 (IntKind.wrap IntKind.u32 (IntKind.wrap IntKind.u32 (List.getD w ((0 : Nat) + Int.toNat ((↑((16 : Nat) + k) : Int) - (16 : Int))) (0 : Int) + ibits (fun x x_1 y => x_1 ^^^ y) IntKind.u32 (ibits (fun x x_1 y => x_1 ^^^ y) IntKind.u32 (rr32 (List.getD w ((0 : Nat) + Int.toNat ((↑((16 : Nat) + k) : Int) - (15 : Int))) (0 : Int)) (7 : Int)) (rr32 (List.getD w ((0 : Nat) + Int.toNat ((↑((16 : Nat) + k) : Int) - (15 : Int))) (0 : Int)) (18 : Int))) (List.getD w ((0 : Nat) + Int.toNat ((↑((16 : Nat) + k) : Int) - (15 : Int))) (0 : Int) / (8 : Int))) + List.getD w ((0 : Nat) + Int.toNat ((↑((16 : Nat) + k) : Int) - (7 : Int))) (0 : Int)) + ibits (fun x x_1 y => x_1 ^^^ y) IntKind.u32 (ibits (fun x x_1 y => x_1 ^^^ y) IntKind.u32 (rr32 (List.getD w ((0 : Nat) + Int.toNat ((↑((16 : Nat) + k) : Int) - (2 : Int))) (0 : Int)) (17 : Int)) (rr32 (List.getD w ((0 : Nat) + Int.toNat ((↑((16 : Nat) + k) : Int) - (2 : Int))) (0 : Int)) (19 : Int))) (List.getD w ((0 : Nat) + Int.toNat ((↑((16 : Nat) + k) : Int) - (2 : Int))) (0 : Int) / (1024 : Int)))) = w2, q (8 : Nat), q ([(0 : Int), (0 : Int), (0 : Int), (0 : Int), (0 : Int), (0 : Int), (0 : Int), (0 : Int)]), q0, q0, q0, q0, q0, q0, q0, q0, q0, (↑((16 : Nat) + k) : Int) + (1 : Int) = (↑((16 : Nat) + (k + (1 : Nat))) : Int)]) : Option (Exit × St × List Prop)) := by kernel_rfl
theorem pcTj_p0 (h : List Int) (w : List Int) (k : Nat) (w2 : List Int) :
  alongPc Tryz.prog (pcTj h w k w2) [false] = (some (.exit 2, St.mk [.any, .any, .ptr (.o 0) 0 0 0 0, .any, .ptr (.o 2) 0 0 0 0, .ptr (.o 1) 0 0 0 0, .any, .int .i64 64, .any, .any, .any, .any, .any, .any, .any, .any, .any, .any, .any, .any, .any, .any, .any, .any, .any, .any, .any, .any, .any, .any, .any, .any, .any, .any, .any, .any, .any, .any, .any, .any, .any, .any, .any, .any, .any, .any, .any, .any, .any, .any, .any, .any, .any, .any, .any, .any, .any, .any, .any, .any, .any, .any, .any, .any, .any, .any, .any, .any, .any, .any, .any, .any, .any, .any, .any, .any, .any, .any, .any, .any, .any, .any, .any, .any, .any, .any, .any, .any, .any, .any, .any, .any, .any, .any, .any, .any, .any, .any, .any, .any, .any, .any, .any, .any, .any, .any, .any, .any, .any, .any, .any, .any, .any, .any, .any, .any, .any, .any, .any, .any, .any, .any, .any, .any, .any, .any, .any, .any, .any, .any, .any, .any, .any, .any, .any, .any, .any, .any, .any, .any, .any, .any, .any, .any, .any, .any, .any, .any, .any, .any, .any, .any, .any, .any, .any, .any, .any, .any, .any, .any, .any, .any, .any, .any, .any, .any, .any, .any, .any, .any, .any, .any, .any, .any, .any, .any, .any, .any, .any, .any, .any, .any, .any, .any, .any, .any, .any, .any, .any, .any, .any] [(.o 0, .flat [.seg .u32 8 h]), (.o 1, .flat [.seg .u32 64 w]), (.o 2, .flat [.seg .u32 8 [(0 : Int), (0 : Int), (0 : Int), (0 : Int), (0 : Int), (0 : Int), (0 : Int), (0 : Int)]])] 3 [], [decide ((↑((16 : Nat) + k) : Int) < (64 : Int)) = false, q (8 : Nat), q h, q (64 : Nat), q w, q (8 : Nat), q ([(0 : Int), (0 : Int), (0 : Int), (0 : Int), (0 : Int), (0 : Int), (0 : Int), (0 : Int)]), q0, q0, q0, q0, q0, q0, q0, q0, q0, (↑((16 : Nat) + k) : Int) = (64 : Int)]) : Option (Exit × St × List Prop)) := by kernel_rfl

theorem pcTk_p1 (h : List Int) (w : List Int) (s : S8) (t : Nat) (s2 : S8) :
  alongPc Tryz.prog (pcTk h w s t s2) [true] = (some (.normal, St.mk [.any, .any, .ptr (.o 0) 0 0 0 0, .any, .ptr (.o 2) 0 0 0 0, .ptr (.o 1) 0 0 0 0, .any, .any, .any, .any, .ptr (.o 3) 0 0 0 0, .int .i64 (↑(t + 1) : Int), .any, .any, .any, .any, .any, .any, .any, .any, .any, .any, .any, .any, .any, .any, .any, .any, .any, .any, .any, .any, .any, .any, .any, .any, .any, .any, .any, .any, .any, .any, .any, .any, .any, .any, .any, .any, .any, .any, .any, .any, .any, .any, .any, .any, .any, .any, .any, .any, .any, .any, .any, .any, .any, .any, .any, .any, .any, .any, .any, .any, .any, .any, .any, .any, .any, .any, .any, .any, .any, .any, .any, .any, .any, .any, .any, .any, .any, .any, .any, .any, .any, .any, .any, .any, .any, .any, .any, .any, .any, .any, .any, .any, .any, .any, .any, .any, .any, .any, .any, .any, .any, .any, .any, .any, .any, .any, .any, .any, .any, .any, .any, .any, .any, .any, .any, .any, .any, .any, .any, .any, .any, .any, .any, .any, .any, .any, .any, .any, .any, .any, .any, .any, .any, .any, .any, .any, .any, .any, .any, .any, .any, .any, .any, .any, .any, .any, .any, .any, .any, .any, .any, .any, .any, .any, .any, .any, .any, .any, .any, .any, .any, .any, .any, .any, .any, .any, .any, .any, .any, .any, .any, .any, .any, .any, .any, .any, .any, .any, .any] [(.o 0, .flat [.seg .u32 8 h]), (.o 1, .flat [.seg .u32 64 w]), (.o 2, .flat [.seg .u32 8 [(0 : Int), (0 : Int), (0 : Int), (0 : Int), (0 : Int), (0 : Int), (0 : Int), (0 : Int)]]), (.o 3, .flat [.seg .u32 8 [S8.a s2, S8.b s2, S8.c s2, S8.d s2, S8.e s2, S8.f s2, S8.g s2, S8.h s2]])] 4 [], [decide ((↑t : Int) < (64 : Int)) = true, (0 : Int) ≤ (0 : Int) ∧ (0 : Int) < (8 : Int), nat_lit 0 < (8 : Nat), (0 : Int) ≤ (4 : Int) ∧ (4 : Int) < (8 : Int), nat_lit 4 < (8 : Nat), (0 : Int) ≤ (7 : Int) ∧ (7 : Int) < (8 : Int), nat_lit 7 < (8 : Nat), T Tryz.prog 126 [.int .u32 (List.getD [S8.a s, S8.b s, S8.c s, S8.d s, S8.e s, S8.f s, S8.g s, S8.h s] 4 (0 : Int)), .int .i64 6] [] (.int .u32 (rr32 (List.getD [S8.a s, S8.b s, S8.c s, S8.d s, S8.e s, S8.f s, S8.g s, S8.h s] 4 (0 : Int)) (6 : Int))) [], T Tryz.prog 126 [.int .u32 (List.getD [S8.a s, S8.b s, S8.c s, S8.d s, S8.e s, S8.f s, S8.g s, S8.h s] 4 (0 : Int)), .int .i64 11] [] (.int .u32 (rr32 (List.getD [S8.a s, S8.b s, S8.c s, S8.d s, S8.e s, S8.f s, S8.g s, S8.h s] 4 (0 : Int)) (11 : Int))) [], T Tryz.prog 126 [.int .u32 (List.getD [S8.a s, S8.b s, S8.c s, S8.d s, S8.e s, S8.f s, S8.g s, S8.h s] 4 (0 : Int)), .int .i64 25] [] (.int .u32 (rr32 (List.getD [S8.a s, S8.b s, S8.c s, S8.d s, S8.e s, S8.f s, S8.g s, S8.h s] 4 (0 : Int)) (25 : Int))) [], (0 : Int) ≤ (5 : Int) ∧ (5 : Int) < (8 : Int), nat_lit 5 < (8 : Nat), (0 : Int) ≤ (6 : Int) ∧ (6 : Int) < (8 : Int), nat_lit 6 < (8 : Nat), T Tryz.prog 127 [.int .i64 ↑t] [] (.int .u32 (kN (Int.toNat (↑t : Int)))) [], (0 : Int) ≤ (↑t : Int) ∧ (↑t : Int) < (64 : Int), (0 : Nat) + Int.toNat (↑t : Int) < (64 : Nat), T Tryz.prog 126 [.int .u32 (List.getD [S8.a s, S8.b s, S8.c s, S8.d s, S8.e s, S8.f s, S8.g s, S8.h s] 0 (0 : Int)), .int .i64 2] [] (.int .u32 (rr32 (List.getD [S8.a s, S8.b s, S8.c s, S8.d s, S8.e s, S8.f s, S8.g s, S8.h s] 0 (0 : Int)) (2 : Int))) [], T Tryz.prog 126 [.int .u32 (List.getD [S8.a s, S8.b s, S8.c s, S8.d s, S8.e s, S8.f s, S8.g s, S8.h s] 0 (0 : Int)), .int .i64 13] [] (.int .u32 (rr32 (List.getD [S8.a s, S8.b s, S8.c s, S8.d s, S8.e s, S8.f s, S8.g s, S8.h s] 0 (0 : Int)) (13 : Int))) [], T Tryz.prog 126 [.int .u32 (List.getD [S8.a s, S8.b s, S8.c s, S8.d s, S8.e s, S8.f s, S8.g s, S8.h s] 0 (0 : Int)), .int .i64 22] [] (.int .u32 (rr32 (List.getD [S8.a s, S8.b s, S8.c s, S8.d s, S8.e s, S8.f s, S8.g s, S8.h s] 0 (0 : Int)) (22 : Int))) [], (0 : Int) ≤ (1 : Int) ∧ (1 : Int) < (8 : Int), nat_lit 1 < (8 : Nat), (0 : Int) ≤ (2 : Int) ∧ (2 : Int) < (8 : Int), nat_lit 2 < (8 : Nat), (0 : Int) ≤ (1 : Int) ∧ (1 : Int) < (8 : Int), nat_lit 1 < (8 : Nat), (0 : Int) ≤ (2 : Int) ∧ (2 : Int) < (8 : Int), nat_lit 2 < (8 : Nat), (0 : Int) ≤ (1 : Int) ∧ (1 : Int) < (8 : Int), nat_lit 1 < (8 : Nat), (0 : Int) ≤ (2 : Int) ∧ (2 : Int) < (8 : Int), nat_lit 2 < (8 : Nat), (0 : Int) ≤ (3 : Int) ∧ (3 : Int) < (8 : Int), nat_lit 3 < (8 : Nat), (0 : Int) ≤ (5 : Int) ∧ (5 : Int) < (8 : Int), nat_lit 5 < (8 : Nat), (0 : Int) ≤ (6 : Int) ∧ (6 : Int) < (8 : Int), nat_lit 6 < (8 : Nat), InR IntKind.i64 ((↑t : Int) + (1 : Int)), q (8 : Nat), q h, q (64 : Nat), q w, q (8 : Nat), q ([(0 : Int), (0 : Int), (0 : Int), (0 : Int), (0 : Int), (0 : Int), (0 : Int), (0 : Int)]), q (8 : Nat), [IntKind.wrap IntKind.u32 (IntKind.wrap IntKind.u32 (IntKind.wrap IntKind.u32 (IntKind.wrap IntKind.u32 (IntKind.wrap IntKind.u32 (List.getD [S8.a s, S8.b s, S8.c s, S8.d s, S8.e s, S8.f s, S8.g s, S8.h s] (nat_lit 7) (0 : Int) + ibits (fun x x_1 y => x_1 ^^^ y) IntKind.u32 (ibits (fun x x_1 y => x_1 ^^^ y) IntKind.u32 (rr32 (List.getD [S8.a s, S8.b s, S8.c s, S8.d s, S8.e s, S8.f s, S8.g s, S8.h s] (nat_lit 4) (0 : Int)) (6 : Int)) (rr32 (List.getD [S8.a s, S8.b s, S8.c s, S8.d s, S8.e s, S8.f s, S8.g s, S8.h s] (nat_lit 4) (0 : Int)) (11 : Int))) (rr32 (List.getD [S8.a s, S8.b s, S8.c s, S8.d s, S8.e s, S8.f s, S8.g s, S8.h s] (nat_lit 4) (0 : Int)) (25 : Int))) + ibits (fun x x_1 y => x_1 ^^^ y) IntKind.u32 (ibits (fun x x_1 y => x_1 &&& y) IntKind.u32 (List.getD [S8.a s, S8.b s, S8.c s, S8.d s, S8.e s, S8.f s, S8.g s, S8.h s] (nat_lit 4) (0 : Int)) (List.getD [S8.a s, S8.b s, S8.c s, S8.d s, S8.e s, S8.f s, S8.g s, S8.h s] (nat_lit 5) (0 : Int))) (ibits (fun x x_1 y => x_1 &&& y) IntKind.u32 (ibits (fun x x_1 y => x_1 ^^^ y) IntKind.u32 (4294967295 : Int) (List.getD [S8.a s, S8.b s, S8.c s, S8.d s, S8.e s, S8.f s, S8.g s, S8.h s] (nat_lit 4) (0 : Int))) (List.getD [S8.a s, S8.b s, S8.c s, S8.d s, S8.e s, S8.f s, S8.g s, S8.h s] (nat_lit 6) (0 : Int)))) + kN (Int.toNat (↑t : Int))) + List.getD w ((0 : Nat) + Int.toNat (↑t : Int)) (0 : Int)) + IntKind.wrap IntKind.u32 (ibits (fun x x_1 y => x_1 ^^^ y) IntKind.u32 (ibits (fun x x_1 y => x_1 ^^^ y) IntKind.u32 (rr32 (List.getD [S8.a s, S8.b s, S8.c s, S8.d s, S8.e s, S8.f s, S8.g s, S8.h s] (nat_lit 0) (0 : Int)) (2 : Int)) (rr32 (List.getD [S8.a s, S8.b s, S8.c s, S8.d s, S8.e s, S8.f s, S8.g s, S8.h s] (nat_lit 0) (0 : Int)) (13 : Int))) (rr32 (List.getD [S8.a s, S8.b s, S8.c s, S8.d s, S8.e s, S8.f s, S8.g s, S8.h s] (nat_lit 0) (0 : Int)) (22 : Int)) + ibits (fun x x_1 y => x_1 ^^^ y) IntKind.u32 (ibits (fun x x_1 y => x_1 ^^^ y) IntKind.u32 (ibits (fun x x_1 y => x_1 &&& y) IntKind.u32 (List.getD [S8.a s, S8.b s, S8.c s, S8.d s, S8.e s, S8.f s, S8.g s, S8.h s] (nat_lit 0) (0 : Int)) (List.getD [S8.a s, S8.b s, S8.c s, S8.d s, S8.e s, S8.f s, S8.g s, S8.h s] (nat_lit 1) (0 : Int))) (ibits (fun x x_1 y => x_1 &&& y) IntKind.u32 (List.getD [S8.a s, S8.b s, S8.c s, S8.d s, S8.e s, S8.f s, S8.g s, S8.h s] (nat_lit 0) (0 : Int)) (List.getD [S8.a s, S8.b s, S8.c s, S8.d s, S8.e s, S8.f s, S8.g s, S8.h s] (nat_lit 2) (0 : Int)))) (ibits (fun x x_1 y => x_1 &&& y) IntKind.u32 (List.getD [S8.a s, S8.b s, S8.c s, S8.d s, S8.e s, S8.f s, S8.g s, S8.h s] (nat_lit 1) (0 : Int)) (List.getD [S8.a s, S8.b s, S8.c s, S8.d s, S8.e s, S8.f s, S8.g s, S8.h s] (nat_lit 2) (0 : Int))))), List.getD [S8.a s, S8.b s, S8.c s, S8.d s, S8.e s, S8.f s, S8.g s, S8.h s] (nat_lit 0) (0 : Int), List.getD [S8.a s, S8.b s, S8.c s, S8.d s, S8.e s, S8.f s, S8.g s, S8.h s] (nat_lit 1) (0 : Int), List.getD [S8.a s, S8.b s, S8.c s, S8.d s, S8.e s, S8.f s, S8.g s, S8.h s] (nat_lit 2) (0 : Int), IntKind.wrap IntKind.u32 (List.getD [S8.a s, S8.b s, S8.c s, S8.d s, S8.e s, S8.f s, S8.g s, S8.h s] (nat_lit 3) (0 : Int) + IntKind.wrap IntKind.u32 (IntKind.wrap IntKind.u32 (IntKind.wrap IntKind.u32 (IntKind.wrap IntKind.u32 (List.getD [S8.a s, S8.b s, S8.c s, S8.d s, S8.e s, S8.f s, S8.g s, S8.h s] (nat_lit 7) (0 : Int) + ibits (fun x x_1 y => x_1 ^^^ y) IntKind.u32 (ibits (fun x x_1 y => x_1 ^^^ y) IntKind.u32 (rr32 (List.getD [S8.a s, S8.b s, S8.c s, S8.d s, S8.e s, S8.f s, S8.g s, S8.h s] (nat_lit 4) (0 : Int)) (6 : Int)) (rr32 (List.getD [S8.a s, S8.b s, S8.c s, S8.d s, S8.e s, S8.f s, S8.g s, S8.h s] (nat_lit 4) (0 : Int)) (11 : Int))) (rr32 (List.getD [S8.a s, S8.b s, S8.c s, S8.d s, S8.e s, S8.f s, S8.g s, S8.h s] (nat_lit 4) (0 : Int)) (25 : Int))) + ibits (fun x x_1 y => x_1 ^^^ y) IntKind.u32 (ibits (fun x x_1 y => x_1 &&& y) IntKind.u32 (List.getD [S8.a s, S8.b s, S8.c s, S8.d s, S8.e s, S8.f s, S8.g s, S8.h s] (nat_lit 4) (0 : Int)) (List.getD [S8.a s, S8.b s, S8.c s, S8.d s, S8.e s, S8.f s, S8.g s, S8.h s] (nat_lit 5) (0 : Int))) (ibits (fun x x_1 y => x_1 &&& y) IntKind.u32 (ibits (fun x x_1 y => x_1 ^^^ y) IntKind.u32 (4294967295 : Int) (List.getD [S8.a s, S8.b s, S8.c s, S8.d s, S8.e s, S8.f s, S8.g s, S8.h s] (nat_lit 4) (0 : Int))) (List.getD [S8.a s, S8.b s, S8.c s, S8.d s, S8.e s, S8.f s, S8.g s, S8.h s] (nat_lit 6) (0 : Int)))) + kN (Int.toNat (↑t : Int))) + List.getD w ((0 : Nat) + Int.toNat (↑t : Int)) (0 : Int))), List.getD [S8.a s, S8.b s, S8.c s, S8.d s, S8.e s, S8.f s, S8.g s, S8.h s] (nat_lit 4) (0 : Int), List.getD [S8.a s, S8.b s, S8.c s, S8.d s, S8.e s, S8.f s, S8.g s, S8.h s] (nat_lit 5) (0 : Int), List.getD [S8.a s, S8.b s, S8.c s, S8.d s, S8.e s, S8.f s, S8.g s, S8.h s] (nat_lit 6) (0 : Int)] = [S8.a s2, S8.b s2, S8.c s2, S8.d s2, S8.e s2, S8.f s2, S8.g s2, S8.h s2], q0, q0, q0, q0, q0, q0, q0, q0, q0, q0, q0, q0, (↑t : Int) + (1 : Int) = (↑(t + (1 : Nat)) : Int)]) : Option (Exit × St × List Prop)) := by kernel_rfl
theorem pcTk_p0 (h : List Int) (w : List Int) (s : S8) (t : Nat) (s2 : S8) :
  alongPc Tryz.prog (pcTk h w s t s2) [false] = (some (.exit 4, St.mk [.any, .any, .ptr (.o 0) 0 0 0 0, .any, .ptr (.o 2) 0 0 0 0, .ptr (.o 1) 0 0 0 0, .any, .any, .any, .any, .ptr (.o 3) 0 0 0 0, .int .i64 64, .any, .any, .any, .any, .any, .any, .any, .any, .any, .any, .any, .any, .any, .any, .any, .any, .any, .any, .any, .any, .any, .any, .any, .any, .any, .any, .any, .any, .any, .any, .any, .any, .any, .any, .any, .any, .any, .any, .any, .any, .any, .any, .any, .any, .any, .any, .any, .any, .any, .any, .any, .any, .any, .any, .any, .any, .any, .any, .any, .any, .any, .any, .any, .any, .any, .any, .any, .any, .any, .any, .any, .any, .any, .any, .any, .any, .any, .any, .any, .any, .any, .any, .any, .any, .any, .any, .any, .any, .any, .any, .any, .any, .any, .any, .any, .any, .any, .any, .any, .any, .any, .any, .any, .any, .any, .any, .any, .any, .any, .any, .any, .any, .any, .any, .any, .any, .any, .any, .any, .any, .any, .any, .any, .any, .any, .any, .any, .any, .any, .any, .any, .any, .any, .any, .any, .any, .any, .any, .any, .any, .any, .any, .any, .any, .any, .any, .any, .any, .any, .any, .any, .any, .any, .any, .any, .any, .any, .any, .any, .any, .any, .any, .any, .any, .any, .any, .any, .any, .any, .any, .any, .any, .any, .any, .any, .any, .any, .any, .any] [(.o 0, .flat [.seg .u32 8 h]), (.o 1, .flat [.seg .u32 64 w]), (.o 2, .flat [.seg .u32 8 [(0 : Int), (0 : Int), (0 : Int), (0 : Int), (0 : Int), (0 : Int), (0 : Int), (0 : Int)]]), (.o 3, .flat [.seg .u32 8 [S8.a s, S8.b s, S8.c s, S8.d s, S8.e s, S8.f s, S8.g s, S8.h s]])] 4 [], [decide ((↑t : Int) < (64 : Int)) = false, q (8 : Nat), q h, q (64 : Nat), q w, q (8 : Nat), q ([(0 : Int), (0 : Int), (0 : Int), (0 : Int), (0 : Int), (0 : Int), (0 : Int), (0 : Int)]), q (8 : Nat), q ([S8.a s, S8.b s, S8.c s, S8.d s, S8.e s, S8.f s, S8.g s, S8.h s]), q0, q0, q0, q0, q0, q0, q0, q0, q0, q0, q0, q0, (↑t : Int) = (64 : Int)]) : Option (Exit × St × List Prop)) := by kernel_rfl

theorem pcTl_p1 (h : List Int) (l : List Int) (i : Nat) (h2 : List Int) :
  alongPc Tryz.prog (pcTl h l i h2) [true] = (some (.normal, St.mk [.any, .any, .ptr (.o 0) 0 0 0 0, .any, .ptr (.o 2) 0 0 0 0, .any, .any, .any, .any, .any, .ptr (.o 3) 0 0 0 0, .any, .any, .any, .any, .any, .int .i64 (↑(i + 1) : Int), .any, .any, .any, .any, .any, .any, .any, .any, .any, .any, .any, .any, .any, .any, .any, .any, .any, .any, .any, .any, .any, .any, .any, .any, .any, .any, .any, .any, .any, .any, .any, .any, .any, .any, .any, .any, .any, .any, .any, .any, .any, .any, .any, .any, .any, .any, .any, .any, .any, .any, .any, .any, .any, .any, .any, .any, .any, .any, .any, .any, .any, .any, .any, .any, .any, .any, .any, .any, .any, .any, .any, .any, .any, .any, .any, .any, .any, .any, .any, .any, .any, .any, .any, .any, .any, .any, .any, .any, .any, .any, .any, .any, .any, .any, .any, .any, .any, .any, .any, .any, .any, .any, .any, .any, .any, .any, .any, .any, .any, .any, .any, .any, .any, .any, .any, .any, .any, .any, .any, .any, .any, .any, .any, .any, .any, .any, .any, .any, .any, .any, .any, .any, .any, .any, .any, .any, .any, .any, .any, .any, .any, .any, .any, .any, .any, .any, .any, .any, .any, .any, .any, .any, .any, .any, .any, .any, .any, .any, .any, .any, .any, .any, .any, .any, .any, .any, .any, .any, .any, .any, .any, .any, .any, .any] [(.o 0, .flat [.seg .u32 8 h2]), (.o 2, .flat [.seg .u32 8 [(0 : Int), (0 : Int), (0 : Int), (0 : Int), (0 : Int), (0 : Int), (0 : Int), (0 : Int)]]), (.o 3, .flat [.seg .u32 8 l])] 4 [], [decide ((↑i : Int) < (8 : Int)) = true, (0 : Int) ≤ (↑i : Int) ∧ (↑i : Int) < (8 : Int), (0 : Nat) + Int.toNat (↑i : Int) < (8 : Nat), (0 : Int) ≤ (↑i : Int) ∧ (↑i : Int) < (8 : Int), (0 : Nat) + Int.toNat (↑i : Int) < (8 : Nat), (0 : Int) ≤ (↑i : Int) ∧ (↑i : Int) < (8 : Int), (0 : Nat) + Int.toNat (↑i : Int) < (8 : Nat), InR IntKind.i64 ((↑i : Int) + (1 : Int)), q (8 : Nat), List.set h ((0 : Nat) + Int.toNat (↑i : Int)) (IntKind.wrap IntKind.u32 (List.getD h ((0 : Nat) + Int.toNat (↑i : Int)) (0 : Int) + List.getD l ((0 : Nat) + Int.toNat (↑i : Int)) (0 : Int))) = h2, q (8 : Nat), q ([(0 : Int), (0 : Int), (0 : Int), (0 : Int), (0 : Int), (0 : Int), (0 : Int), (0 : Int)]), q (8 : Nat), q l, q0, q0, q0, q0, q0, q0, q0, q0, q0, (↑i : Int) + (1 : Int) = (↑(i + (1 : Nat)) : Int)]) : Option (Exit × St × List Prop)) := by kernel_rfl
theorem pcTl_p0 (h : List Int) (l : List Int) (i : Nat) (h2 : List Int) :
  alongPc Tryz.prog (pcTl h l i h2) [false] = (some (.exit 6, St.mk [.any, .any, .ptr (.o 0) 0 0 0 0, .any, .ptr (.o 2) 0 0 0 0, .any, .any, .any, .any, .any, .ptr (.o 3) 0 0 0 0, .any, .any, .any, .any, .any, .int .i64 8, .any, .any, .any, .any, .any, .any, .any, .any, .any, .any, .any, .any, .any, .any, .any, .any, .any, .any, .any, .any, .any, .any, .any, .any, .any, .any, .any, .any, .any, .any, .any, .any, .any, .any, .any, .any, .any, .any, .any, .any, .any, .any, .any, .any, .any, .any, .any, .any, .any, .any, .any, .any, .any, .any, .any, .any, .any, .any, .any, .any, .any, .any, .any, .any, .any, .any, .any, .any, .any, .any, .any, .any, .any, .any, .any, .any, .any, .any, .any, .any, .any, .any, .any, .any, .any, .any, .any, .any, .any, .any, .any, .any, .any, .any, .any, .any, .any, .any, .any, .any, .any, .any, .any, .any, .any, .any, .any, .any, .any, .any, .any, .any, .any, .any, .any, .any, .any, .any, .any, .any, .any, .any, .any, .any, .any, .any, .any, .any, .any, .any, .any, .any, .any, .any, .any, .any, .any, .any, .any, .any, .any, .any, .any, .any, .any, .any, .any, .any, .any, .any, .any, .any, .any, .any, .any, .any, .any, .any, .any, .any, .any, .any, .any, .any, .any, .any, .any, .any, .any, .any, .any, .any, .any, .any] [(.o 0, .flat [.seg .u32 8 h]), (.o 2, .flat [.seg .u32 8 [(0 : Int), (0 : Int), (0 : Int), (0 : Int), (0 : Int), (0 : Int), (0 : Int), (0 : Int)]]), (.o 3, .flat [.seg .u32 8 l])] 4 [], [decide ((↑i : Int) < (8 : Int)) = false, q (8 : Nat), q h, q (8 : Nat), q ([(0 : Int), (0 : Int), (0 : Int), (0 : Int), (0 : Int), (0 : Int), (0 : Int), (0 : Int)]), q (8 : Nat), q l, q0, q0, q0, q0, q0, q0, q0, q0, q0, (↑i : Int) = (8 : Int)]) : Option (Exit × St × List Prop)) := by kernel_rfl

theorem solb (v : Int) (k : Nat) (hk : k < 1) : solid (getL [[V.int .u8 v]] k) = true := by
 have : k = 0 := by omega
 subst this; rfl
theorem T_pa (l : List Int) (hb : l.length ≤ 10000000000) : T Tryz.prog 83 [rb l] [] (obS 0 (padL l)) [(.o 0, obB (padL l))] := by
 have hz : padZ (l.length + 1) < 64 := by unfold padZ; omega
 have hA : RLoop Tryz.prog none 0 (cB (cB (cL (cR (cR (bodyOf Tryz.f83)))))) (padZ (l.length + 1) + 1) (paI l (l ++ [128] ++ List.replicate 0 0)) (.exit 0) (paI l (l ++ [128] ++ List.replicate (padZ (l.length + 1)) 0)) := by
  have hl : ∀ k, (l ++ [128] ++ List.replicate k (0 : Int)).length = l.length + 1 + k := fun k => by simp; omega
  have hstep : ∀ k, k < padZ (l.length + 1) → R Tryz.prog none 0 (cB (cB (cL (cR (cR (bodyOf Tryz.f83)))))) (paI l (l ++ [128] ++ List.replicate k 0)) .normal (paI l (l ++ [128] ++ List.replicate (k + 1) 0)) := by
   intro k hk
   have h1 := padZ_lt hk
   have hlk := hl k
   have hlk1 := hl (k + 1)
   have e : (!decide (((l ++ [128] ++ List.replicate k (0 : Int)).length : Int) % 64 = 56)) = true := by rw [hlk, decide_eq_false (by omega)]; rfl
   have hc := ctb (l ++ [128] ++ List.replicate k 0) 0
   rw [show l ++ [128] ++ List.replicate k (0 : Int) ++ [0] = l ++ [128] ++ List.replicate (k + 1) 0 by rw [List.append_assoc (l ++ [128]), ← List.replicate_succ']] at hc
   refine R_alongPc NG MO _ (pcPi_p1 l (l ++ [128] ++ List.replicate k 0) (l ++ [128] ++ List.replicate (k + 1) 0)) ?_ (Nat.zero_le _)
   simp only [All]; and_intros
   all_goals first
    | exact True.intro
    | exact e
    | exact hc
    | (intro j hj; rw [Nat.zero_add]; exact solb 0 j hj)
    | (with_reducible assumption)
    | (rw [decide_eq_true_eq]; omega)
    | (rw [decide_eq_false_iff_not]; omega)
    | with_reducible rfl
    | (intro _ _; exact True.intro)
    | (intro _ _; with_reducible rfl)
    | (intro _ _; rfl)
    | (simp only [IntKind.min, IntKind.max, IntKind.signed, IntKind.bits, if_true]; omega)
    | omega
    | (intro h; exact h)
    | (intro h; cases h; done)
    | exact .inl rfl
    | exact .inl True.intro
    | exact .inr rfl
    | (simp; done)
  have hend : R Tryz.prog none 0 (cB (cB (cL (cR (cR (bodyOf Tryz.f83)))))) (paI l (l ++ [128] ++ List.replicate (padZ (l.length + 1)) 0)) (.exit 0) (paI l (l ++ [128] ++ List.replicate (padZ (l.length + 1)) 0)) := by
   have h1 := padZ_at (l.length + 1)
   have hlk := hl (padZ (l.length + 1))
   have e : (!decide (((l ++ [128] ++ List.replicate (padZ (l.length + 1)) (0 : Int)).length : Int) % 64 = 56)) = false := by rw [hlk, decide_eq_true (by omega)]; rfl
   refine R_alongPc NG MO _ (pcPi_p0 l (l ++ [128] ++ List.replicate (padZ (l.length + 1)) 0) []) ?_ (Nat.zero_le _)
   simp only [All]; and_intros
   all_goals first
    | exact True.intro
    | exact e
    | (with_reducible assumption)
    | (rw [decide_eq_true_eq]; omega)
    | (rw [decide_eq_false_iff_not]; omega)
    | with_reducible rfl
    | (intro _ _; exact True.intro)
    | (intro _ _; with_reducible rfl)
    | (intro _ _; rfl)
    | (simp only [IntKind.min, IntKind.max, IntKind.signed, IntKind.bits, if_true]; omega)
    | omega
    | (intro h; exact h)
    | (intro h; cases h; done)
    | exact .inl rfl
    | exact .inl True.intro
    | exact .inr rfl
    | (simp; done)
  exact RLoop.inv (fun k => paI l (l ++ [128] ++ List.replicate k 0)) (padZ (l.length + 1)) hstep hend (by simp)
 have hB : ∀ L : List Int, L.length ≤ 20000000000 → RLoop Tryz.prog none 0 (cB (cB (cR (cL (cR (cR (cR (cR (bodyOf Tryz.f83))))))))) (8 + 1) (paJ l (L ++ lenP (8 * (l.length : Int)) 0) 0) (.exit 2) (paJ l (L ++ lenP (8 * (l.length : Int)) 8) 8) := by
  intro L hL
  have hl : ∀ j, (L ++ lenP (8 * (l.length : Int)) j).length = L.length + j := fun j => by simp [lenP]
  have hstep : ∀ j, j < 8 → R Tryz.prog none 0 (cB (cB (cR (cL (cR (cR (cR (cR (bodyOf Tryz.f83))))))))) (paJ l (L ++ lenP (8 * (l.length : Int)) j) j) .normal (paJ l (L ++ lenP (8 * (l.length : Int)) (j + 1)) (j + 1)) := by
   intro j hj
   have hlj := hl j
   have hlj1 := hl (j + 1)
   have e1 : Int.toNat (8 * (7 - (j : Int))) = 56 - 8 * j := by omega
   have hc := ctb (L ++ lenP (8 * (l.length : Int)) j) (IntKind.wrap .u8 (8 * (l.length : Int) / 2 ^ (56 - 8 * j)))
   rw [show L ++ lenP (8 * (l.length : Int)) j ++ [IntKind.wrap .u8 (8 * (l.length : Int) / 2 ^ (56 - 8 * j))] = L ++ lenP (8 * (l.length : Int)) (j + 1) by rw [lenP_succ, List.append_assoc]; rfl] at hc
   refine R_alongPc NG MO _ (pcPj_p1 l (L ++ lenP (8 * (l.length : Int)) j) j (L ++ lenP (8 * (l.length : Int)) (j + 1))) ?_ (Nat.zero_le _)
   simp only [All, e1]; and_intros
   all_goals first
    | exact True.intro
    | exact hc
    | (intro j hj; rw [Nat.zero_add]; exact solb _ j hj)
    | (with_reducible assumption)
    | (rw [decide_eq_true_eq]; omega)
    | (rw [decide_eq_false_iff_not]; omega)
    | with_reducible rfl
    | (intro _ _; exact True.intro)
    | (intro _ _; with_reducible rfl)
    | (intro _ _; rfl)
    | (simp only [IntKind.min, IntKind.max, IntKind.signed, IntKind.bits, if_true]; omega)
    | omega
    | (intro h; exact h)
    | (intro h; cases h; done)
    | exact .inl rfl
    | exact .inl True.intro
    | exact .inr rfl
    | (simp; done)
  have hend : R Tryz.prog none 0 (cB (cB (cR (cL (cR (cR (cR (cR (bodyOf Tryz.f83))))))))) (paJ l (L ++ lenP (8 * (l.length : Int)) 8) 8) (.exit 2) (paJ l (L ++ lenP (8 * (l.length : Int)) 8) 8) := by
   refine R_alongPc NG MO _ (pcPj_p0 l (L ++ lenP (8 * (l.length : Int)) 8) 8 []) ?_ (Nat.zero_le _)
   simp only [All]; and_intros
   all_goals first
    | exact True.intro
    | (with_reducible assumption)
    | (rw [decide_eq_true_eq]; omega)
    | (rw [decide_eq_false_iff_not]; omega)
    | with_reducible rfl
    | (intro _ _; exact True.intro)
    | (intro _ _; with_reducible rfl)
    | (intro _ _; rfl)
    | (simp only [IntKind.min, IntKind.max, IntKind.signed, IntKind.bits, if_true]; omega)
    | omega
    | (intro h; exact h)
    | (intro h; cases h; done)
    | exact .inl rfl
    | exact .inl True.intro
    | exact .inr rfl
    | (simp; done)
  exact RLoop.inv (fun j => paJ l (L ++ lenP (8 * (l.length : Int)) j) j) 8 hstep hend (by simp)
 have hB1 := hB (l ++ [128] ++ List.replicate (padZ (l.length + 1)) 0) (by simp; omega)
 rw [List.replicate_zero, List.append_nil] at hA
 rw [show lenP (8 * (l.length : Int)) 0 = [] from rfl, List.append_nil] at hB1
 have hl0 : (l ++ [(128 : Int)]).length = l.length + 1 := by simp
 have hc0 := ctb l 128
 refine T_al (bdPa_p l (l ++ [128]) (padZ (l.length + 1)) (l ++ [128] ++ List.replicate (padZ (l.length + 1)) 0) (padL l)) Tryz.func83 ?_
 simp only [All, cat0, Nat.zero_add]; and_intros
 all_goals first
  | exact True.intro
  | exact hA
  | exact hB1
  | (intro k hk; have := hc0 k hk; simp only [Nat.zero_add] at this; exact this)
  | (intro j hj; exact solb 128 j hj)
  | (with_reducible assumption)
  | (rw [decide_eq_true_eq]; omega)
  | (rw [decide_eq_false_iff_not]; omega)
  | with_reducible rfl
  | (intro _ _; exact True.intro)
  | (intro _ _; with_reducible rfl)
  | (intro _ _; rfl)
  | (simp only [IntKind.min, IntKind.max, IntKind.signed, IntKind.bits, if_true]; omega)
  | omega
  | (intro h; exact h)
  | (intro h; cases h; done)
  | exact .inl rfl
  | exact .inl True.intro
  | exact .inr rfl
  | (simp; done)
theorem T_bt {h b : List Int} (hh : h.length = 8) (hb : b.length = 64) : T Tryz.prog 84 [.agg [.seg .u32 8 h], rb b] [] (.agg [.seg .u32 8 (blk h b)]) [] := by
 have hA : RLoop Tryz.prog none 0 (cB (cB (cR (cL (cR (cR (bodyOf Tryz.f84))))))) (16 + 1) (btI h b (wA b 0) 0) (.exit 0) (btI h b (wA b 16) 16) := by
  have hstep : ∀ i, i < 16 → R Tryz.prog none 0 (cB (cB (cR (cL (cR (cR (bodyOf Tryz.f84))))))) (btI h b (wA b i) i) .normal (btI h b (wA b (i + 1)) (i + 1)) := by
   intro i hi
   obtain ⟨e0, e1, e2, e3⟩ := tn4 i
   refine R_alongPc NG MO _ (pcTi_p1 h b (wA b i) i (wA b (i + 1))) ?_ (Nat.zero_le _)
   simp only [All, e0, e1, e2, e3, hb, Nat.zero_add, Int.toNat_natCast]; and_intros
   all_goals first
    | exact True.intro
    | rfl
    | (with_reducible assumption)
    | (rw [decide_eq_true_eq]; omega)
    | (rw [decide_eq_false_iff_not]; omega)
    | with_reducible rfl
    | (intro _ _; exact True.intro)
    | (intro _ _; with_reducible rfl)
    | (intro _ _; rfl)
    | (simp only [IntKind.min, IntKind.max, IntKind.signed, IntKind.bits, if_true]; omega)
    | omega
    | (intro h; exact h)
    | (intro h; cases h; done)
    | exact .inl rfl
    | exact .inl True.intro
    | exact .inr rfl
    | (simp; done)
  have hend : R Tryz.prog none 0 (cB (cB (cR (cL (cR (cR (bodyOf Tryz.f84))))))) (btI h b (wA b 16) 16) (.exit 0) (btI h b (wA b 16) 16) := by
   refine R_alongPc NG MO _ (pcTi_p0 h b (wA b 16) 16 []) ?_ (Nat.zero_le _)
   simp only [All]; and_intros
   all_goals first
    | exact True.intro
    | (with_reducible assumption)
    | (rw [decide_eq_true_eq]; omega)
    | (rw [decide_eq_false_iff_not]; omega)
    | with_reducible rfl
    | (intro _ _; exact True.intro)
    | (intro _ _; with_reducible rfl)
    | (intro _ _; rfl)
    | (simp only [IntKind.min, IntKind.max, IntKind.signed, IntKind.bits, if_true]; omega)
    | omega
    | (intro h; exact h)
    | (intro h; cases h; done)
    | exact .inl rfl
    | exact .inl True.intro
    | exact .inr rfl
    | (simp; done)
  exact RLoop.inv (fun i => btI h b (wA b i) i) 16 hstep hend (by simp)
 have hB : RLoop Tryz.prog none 0 (cB (cB (cR (cL (cR (cR (cR (bodyOf Tryz.f84)))))))) (48 + 1) (btJ h (wB b 0) 0) (.exit 2) (btJ h (wB b 48) 48) := by
  have hstep : ∀ k, k < 48 → R Tryz.prog none 0 (cB (cB (cR (cL (cR (cR (cR (bodyOf Tryz.f84)))))))) (btJ h (wB b k) k) .normal (btJ h (wB b (k + 1)) (k + 1)) := by
   intro k hk
   obtain ⟨e0, e1, e2, e3⟩ := tn16 k
   have h1 := T_rr ((wB b k).getD (k + 1) 0) (n := 7) (by decide)
   have h2 := T_rr ((wB b k).getD (k + 1) 0) (n := 18) (by decide)
   have h3 := T_rr ((wB b k).getD (k + 14) 0) (n := 17) (by decide)
   have h4 := T_rr ((wB b k).getD (k + 14) 0) (n := 19) (by decide)
   refine R_alongPc NG MO _ (pcTj_p1 h (wB b k) k (wB b (k + 1))) ?_ (Nat.zero_le _)
   simp only [All, e0, e1, e2, e3, Nat.zero_add, Int.toNat_natCast]; and_intros
   all_goals first
    | exact True.intro
    | exact h1
    | exact h2
    | exact h3
    | exact h4
    | rfl
    | (with_reducible assumption)
    | (rw [decide_eq_true_eq]; omega)
    | (rw [decide_eq_false_iff_not]; omega)
    | with_reducible rfl
    | (intro _ _; exact True.intro)
    | (intro _ _; with_reducible rfl)
    | (intro _ _; rfl)
    | (simp only [IntKind.min, IntKind.max, IntKind.signed, IntKind.bits, if_true]; omega)
    | omega
    | (intro h; exact h)
    | (intro h; cases h; done)
    | exact .inl rfl
    | exact .inl True.intro
    | exact .inr rfl
    | (simp; done)
  have hend : R Tryz.prog none 0 (cB (cB (cR (cL (cR (cR (cR (bodyOf Tryz.f84)))))))) (btJ h (wB b 48) 48) (.exit 2) (btJ h (wB b 48) 48) := by
   refine R_alongPc NG MO _ (pcTj_p0 h (wB b 48) 48 []) ?_ (Nat.zero_le _)
   simp only [All]; and_intros
   all_goals first
    | exact True.intro
    | (with_reducible assumption)
    | (rw [decide_eq_true_eq]; omega)
    | (rw [decide_eq_false_iff_not]; omega)
    | with_reducible rfl
    | (intro _ _; exact True.intro)
    | (intro _ _; with_reducible rfl)
    | (intro _ _; rfl)
    | (simp only [IntKind.min, IntKind.max, IntKind.signed, IntKind.bits, if_true]; omega)
    | omega
    | (intro h; exact h)
    | (intro h; cases h; done)
    | exact .inl rfl
    | exact .inl True.intro
    | exact .inr rfl
    | (simp; done)
  exact RLoop.inv (fun k => btJ h (wB b k) k) 48 hstep hend (by simp)
 have hC : ∀ w, RLoop Tryz.prog none 0 (cB (cB (cR (cL (cR (cR (cR (cR (cR (bodyOf Tryz.f84)))))))))) (64 + 1) (btK h w (rnd w (S8.of h) 0) 0) (.exit 4) (btK h w (rnd w (S8.of h) 64) 64) := by
  intro w
  have hstep : ∀ t, t < 64 → R Tryz.prog none 0 (cB (cB (cR (cL (cR (cR (cR (cR (cR (bodyOf Tryz.f84)))))))))) (btK h w (rnd w (S8.of h) t) t) .normal (btK h w (rnd w (S8.of h) (t + 1)) (t + 1)) := by
   intro t ht
   have h1 := T_rr (rnd w (S8.of h) t).e (n := 6) (by decide)
   have h2 := T_rr (rnd w (S8.of h) t).e (n := 11) (by decide)
   have h3 := T_rr (rnd w (S8.of h) t).e (n := 25) (by decide)
   have h4 := T_rr (rnd w (S8.of h) t).a (n := 2) (by decide)
   have h5 := T_rr (rnd w (S8.of h) t).a (n := 13) (by decide)
   have h6 := T_rr (rnd w (S8.of h) t).a (n := 22) (by decide)
   have h7 := T_kc ht
   refine R_alongPc NG MO _ (pcTk_p1 h w (rnd w (S8.of h) t) t (rnd w (S8.of h) (t + 1))) ?_ (Nat.zero_le _)
   simp only [All, Nat.zero_add, Int.toNat_natCast]; and_intros
   all_goals first
    | exact True.intro
    | exact h1
    | exact h2
    | exact h3
    | exact h4
    | exact h5
    | exact h6
    | exact h7
    | rfl
    | (with_reducible assumption)
    | (rw [decide_eq_true_eq]; omega)
    | (rw [decide_eq_false_iff_not]; omega)
    | with_reducible rfl
    | (intro _ _; exact True.intro)
    | (intro _ _; with_reducible rfl)
    | (intro _ _; rfl)
    | (simp only [IntKind.min, IntKind.max, IntKind.signed, IntKind.bits, if_true]; omega)
    | omega
    | (intro h; exact h)
    | (intro h; cases h; done)
    | exact .inl rfl
    | exact .inl True.intro
    | exact .inr rfl
    | (simp; done)
  have hend : R Tryz.prog none 0 (cB (cB (cR (cL (cR (cR (cR (cR (cR (bodyOf Tryz.f84)))))))))) (btK h w (rnd w (S8.of h) 64) 64) (.exit 4) (btK h w (rnd w (S8.of h) 64) 64) := by
   refine R_alongPc NG MO _ (pcTk_p0 h w (rnd w (S8.of h) 64) 64 ⟨0, 0, 0, 0, 0, 0, 0, 0⟩) ?_ (Nat.zero_le _)
   simp only [All]; and_intros
   all_goals first
    | exact True.intro
    | (with_reducible assumption)
    | (rw [decide_eq_true_eq]; omega)
    | (rw [decide_eq_false_iff_not]; omega)
    | with_reducible rfl
    | (intro _ _; exact True.intro)
    | (intro _ _; with_reducible rfl)
    | (intro _ _; rfl)
    | (simp only [IntKind.min, IntKind.max, IntKind.signed, IntKind.bits, if_true]; omega)
    | omega
    | (intro h; exact h)
    | (intro h; cases h; done)
    | exact .inl rfl
    | exact .inl True.intro
    | exact .inr rfl
    | (simp; done)
  exact RLoop.inv (fun t => btK h w (rnd w (S8.of h) t) t) 64 hstep hend (by simp)
 have hD : ∀ l, RLoop Tryz.prog none 0 (cB (cB (cR (cL (cR (cR (cR (cR (cR (cR (bodyOf Tryz.f84))))))))))) (8 + 1) (btL (hF h l 0) l 0) (.exit 6) (btL (hF h l 8) l 8) := by
  intro l
  have hstep : ∀ i, i < 8 → R Tryz.prog none 0 (cB (cB (cR (cL (cR (cR (cR (cR (cR (cR (bodyOf Tryz.f84))))))))))) (btL (hF h l i) l i) .normal (btL (hF h l (i + 1)) l (i + 1)) := by
   intro i hi
   refine R_alongPc NG MO _ (pcTl_p1 (hF h l i) l i (hF h l (i + 1))) ?_ (Nat.zero_le _)
   simp only [All, Nat.zero_add, Int.toNat_natCast]; and_intros
   all_goals first
    | exact True.intro
    | rfl
    | (with_reducible assumption)
    | (rw [decide_eq_true_eq]; omega)
    | (rw [decide_eq_false_iff_not]; omega)
    | with_reducible rfl
    | (intro _ _; exact True.intro)
    | (intro _ _; with_reducible rfl)
    | (intro _ _; rfl)
    | (simp only [IntKind.min, IntKind.max, IntKind.signed, IntKind.bits, if_true]; omega)
    | omega
    | (intro h; exact h)
    | (intro h; cases h; done)
    | exact .inl rfl
    | exact .inl True.intro
    | exact .inr rfl
    | (simp; done)
  have hend : R Tryz.prog none 0 (cB (cB (cR (cL (cR (cR (cR (cR (cR (cR (bodyOf Tryz.f84))))))))))) (btL (hF h l 8) l 8) (.exit 6) (btL (hF h l 8) l 8) := by
   refine R_alongPc NG MO _ (pcTl_p0 (hF h l 8) l 8 []) ?_ (Nat.zero_le _)
   simp only [All]; and_intros
   all_goals first
    | exact True.intro
    | (with_reducible assumption)
    | (rw [decide_eq_true_eq]; omega)
    | (rw [decide_eq_false_iff_not]; omega)
    | with_reducible rfl
    | (intro _ _; exact True.intro)
    | (intro _ _; with_reducible rfl)
    | (intro _ _; rfl)
    | (simp only [IntKind.min, IntKind.max, IntKind.signed, IntKind.bits, if_true]; omega)
    | omega
    | (intro h; exact h)
    | (intro h; cases h; done)
    | exact .inl rfl
    | exact .inl True.intro
    | exact .inr rfl
    | (simp; done)
  exact RLoop.inv (fun i => btL (hF h l i) l i) 8 hstep hend (by simp)
 have hC1 := hC (wB b 48)
 have hD1 := hD (rnd (wB b 48) (S8.of h) 64).l
 have hbk : hF h (rnd (wB b 48) (S8.of h) 64).l 8 = blk h b := rfl
 rw [hbk] at hD1
 have h8 : h = [(S8.of h).a, (S8.of h).b, (S8.of h).c, (S8.of h).d, (S8.of h).e, (S8.of h).f, (S8.of h).g, (S8.of h).h] := of8 hh
 generalize hw : wB b 48 = w at hB hC1 hD1
 generalize hs : rnd w (S8.of h) 64 = s at hC1 hD1
 generalize hwA : wA b 16 = w16 at hA
 generalize hs0 : S8.of h = s0 at hC1 h8
 have hB1 : RLoop Tryz.prog none 0 (cB (cB (cR (cL (cR (cR (cR (bodyOf Tryz.f84)))))))) (48 + 1) (btJ h w16 0) (.exit 2) (btJ h w 48) := by rw [← hwA]; exact hB
 refine T_al (bdBt_p h b w16 w s0 s (blk h b)) Tryz.func84 ?_
 simp only [All]; and_intros
 all_goals first
  | exact True.intro
  | exact hA
  | exact hB1
  | exact hC1
  | exact hD1
  | exact h8
  | (with_reducible assumption)
  | (rw [decide_eq_true_eq]; omega)
  | (rw [decide_eq_false_iff_not]; omega)
  | with_reducible rfl
  | (intro _ _; exact True.intro)
  | (intro _ _; with_reducible rfl)
  | (intro _ _; rfl)
  | (simp only [IntKind.min, IntKind.max, IntKind.signed, IntKind.bits, if_true]; omega)
  | omega
  | (intro h; exact h)
  | (intro h; cases h; done)
  | exact .inl rfl
  | exact .inl True.intro
  | exact .inr rfl
  | (simp; done)
end Go.Proofs.YtlakhciklfkocaaGreat
namespace Go.Proofs.YtlakhciklfkocaaGreat
open Go Sy Go.Proofs
def duI (p h : List Int) (i : Nat) : St := ⟨mkT 47 [(2, p0 2), (3, p0 0), (4, obS 1 p), (5, .int .i64 (64 * (i : Nat)))], [(.o 0, .flat [.seg .u32 8 h]), (.o 1, obB p), (.o 2, .flat [.seg .u8 32 z32L])], 3, []⟩
def duJ (h d : List Int) (i : Nat) : St := ⟨mkT 47 [(2, p0 2), (3, p0 0), (6, p0 3), (7, .int .i64 (i : Nat))], [(.o 0, .flat [.seg .u32 8 h]), (.o 2, .flat [.seg .u8 32 z32L]), (.o 3, .flat [.seg .u8 32 d])], 4, []⟩
def duK (h d : List Int) (i k : Nat) : St := ⟨mkT 47 [(2, p0 2), (3, p0 0), (6, p0 3), (7, .int .i64 (i : Nat)), (8, .int .i64 (k : Nat))], [(.o 0, .flat [.seg .u32 8 h]), (.o 2, .flat [.seg .u8 32 z32L]), (.o 3, .flat [.seg .u8 32 d])], 4, []⟩
noncomputable def bdDu (l p h : List Int) (n : Nat) (d : List Int) : Bd := { f := Tryz.f51, args := [rb l], kb := { db := dbQ [(83, fun _ _ lo => [{ val := obS lo p, post := [(.o lo, obB p)] }])], lp := fun id t => bif Nat.beq id 0 then [(True, .loop (n + 1) (wToS [(.o 0, nmV (getV t.tmps 3)), (.o 1, nmV (getV t.tmps 4)), (.o 2, nmV (getV t.tmps 2))] (duI p iv 0)) (.exit 0) (duI p h n))] else [(True, .loop (8 + 1) (wToS [(.o 3, nmV (getV t.tmps 6))] (duJ h z32L 0)) (.exit 2) (duJ h d 8))] } }
noncomputable def pcUi (p h : List Int) (i : Nat) (h2 : List Int) (n : Nat) : Pc := { c := cB (cB (cR (cL (cR (cR (cR (bodyOf Tryz.f51))))))), st := duI p h i, kb := { db := dbQ [(84, fun _ _ _ => [{ rd := [.o 1], val := .agg [.seg .u32 8 h2] }])] }, k := fun x_ _ => match x_ with
 | .normal => some (wTo (duI p h2 (i + 1)))
 | _ => some (wTo (duI p h n)) }
noncomputable def duC : Code := cB (cB (cR (cL (cR (cR (cR (cR (cR (bodyOf Tryz.f51)))))))))
noncomputable def pcUj (h d : List Int) (i : Nat) (d2 : List Int) : Pc := { c := duC, st := duJ h d i, kb := { db := fun _ _ _ _ => [], lp := fun _ _ => [(True, .loop (4 + 1) (wTo (duK h d i 0)) (.exit 4) (duK h d2 i 4))] }, k := fun x_ _ => match x_ with
 | .normal => some (wTo (duJ h d2 (i + 1)))
 | _ => some (wTo (duJ h d 8)) }
noncomputable def pcUk (h d : List Int) (i k : Nat) (d2 : List Int) : Pc := { c := cB (cB (cR (cB (cL (cR duC))))), st := duK h d i k, kb := kb0, k := fun x_ _ => match x_ with
 | .normal => some (wTo (duK h d2 i (k + 1)))
 | _ => some (wTo (duK h d i 4)) }
end Go.Proofs.YtlakhciklfkocaaGreat
namespace Go.Proofs.YtlakhciklfkocaaGreat
open Go Sy Go.Proofs
theorem bdDu_p (l : List Int) (p : List Int) (h : List Int) (n : Nat) (d : List Int) :
  along Tryz.prog (bdDu l p h n d) [] = (some (.agg [.seg .u8 32 d], [], [T Tryz.prog 83 [.ros 1 (List.length l) (ib l) false] [] (.sl (.o 320) 1 0 0 0 (List.length p) none) [(.o 320, .rows 1 (List.length p) (ib p) true)], RLoop Tryz.prog none 0 (cB (cB (cR (cL (cR (cR (cR (bodyOf (Bd.f (bdDu l p h n d)))))))))) (n + 1) (St.mk [.any, .any, .ptr (.o 2) 0 0 0 0, .ptr (.o 0) 0 0 0 0, .sl (.o 1) 1 0 0 0 (List.length p) none, .int .i64 0, .any, .any, .any, .any, .any, .any, .any, .any, .any, .any, .any, .any, .any, .any, .any, .any, .any, .any, .any, .any, .any, .any, .any, .any, .any, .any, .any, .any, .any, .any, .any, .any, .any, .any, .any, .any, .any, .any, .any, .any, .any] [(.o 0, .flat [.seg .u32 8 [(1779033703 : Int), (3144134277 : Int), (1013904242 : Int), (2773480762 : Int), (1359893119 : Int), (2600822924 : Int), (528734635 : Int), (1541459225 : Int)]]), (.o 1, .rows 1 (List.length p) (ib p) true), (.o 2, .flat [.seg .u8 32 z32L])] 3 []) (.exit 0) (St.mk [.any, .any, .ptr (.o 2) 0 0 0 0, .ptr (.o 0) 0 0 0 0, .sl (.o 1) 1 0 0 0 (List.length p) none, .int .i64 ((64 : Int) * (↑n : Int)), .any, .any, .any, .any, .any, .any, .any, .any, .any, .any, .any, .any, .any, .any, .any, .any, .any, .any, .any, .any, .any, .any, .any, .any, .any, .any, .any, .any, .any, .any, .any, .any, .any, .any, .any, .any, .any, .any, .any, .any, .any] [(.o 0, .flat [.seg .u32 8 h]), (.o 1, .rows 1 (List.length p) (ib p) true), (.o 2, .flat [.seg .u8 32 z32L])] 3 []), q (8 : Nat), q ([(1779033703 : Int), (3144134277 : Int), (1013904242 : Int), (2773480762 : Int), (1359893119 : Int), (2600822924 : Int), (528734635 : Int), (1541459225 : Int)]), q (List.length p), ∀ (k : Nat), k < List.length p → [V.int IntKind.u8 (List.getD p k (0 : Int))] = [V.int IntKind.u8 (List.getD p k (0 : Int))], true = false → true = false, q (32 : Nat), z32 = z32L, q0, q0, q0, q0, q0, q0, q0, q0, q0, q (List.length p), (none : Option Nat) = none ∨ (none : Option Nat) = none, q1, RLoop Tryz.prog none 0 (cB (cB (cR (cL (cR (cR (cR (cR (cR (bodyOf (Bd.f (bdDu l p h n d)))))))))))) 9 (St.mk [.any, .any, .ptr (.o 2) 0 0 0 0, .ptr (.o 0) 0 0 0 0, .any, .any, .ptr (.o 3) 0 0 0 0, .int .i64 0, .any, .any, .any, .any, .any, .any, .any, .any, .any, .any, .any, .any, .any, .any, .any, .any, .any, .any, .any, .any, .any, .any, .any, .any, .any, .any, .any, .any, .any, .any, .any, .any, .any, .any, .any, .any, .any, .any, .any] [(.o 0, .flat [.seg .u32 8 h]), (.o 2, .flat [.seg .u8 32 z32L]), (.o 3, .flat [.seg .u8 32 z32L])] 4 []) (.exit 2) (St.mk [.any, .any, .ptr (.o 2) 0 0 0 0, .ptr (.o 0) 0 0 0 0, .any, .any, .ptr (.o 3) 0 0 0 0, .int .i64 8, .any, .any, .any, .any, .any, .any, .any, .any, .any, .any, .any, .any, .any, .any, .any, .any, .any, .any, .any, .any, .any, .any, .any, .any, .any, .any, .any, .any, .any, .any, .any, .any, .any, .any, .any, .any, .any, .any, .any] [(.o 0, .flat [.seg .u32 8 h]), (.o 2, .flat [.seg .u8 32 z32L]), (.o 3, .flat [.seg .u8 32 d])] 4 []), q (8 : Nat), q h, q (32 : Nat), q z32L, q (32 : Nat), z32 = z32L, q0, q0, q0, q0, q0, q0, q0, q0, q0, q1]) : Option (V × Heap × List Prop)) := by kernel_rfl

theorem pcUi_p1 (p : List Int) (h : List Int) (i : Nat) (h2 : List Int) (n : Nat) :
  alongPc Tryz.prog (pcUi p h i h2 n) [true] = (some (.normal, St.mk [.any, .any, .ptr (.o 2) 0 0 0 0, .ptr (.o 0) 0 0 0 0, .sl (.o 1) 1 0 0 0 (List.length p) none, .int .i64 ((64 : Int) * (↑(i + 1) : Int)), .any, .any, .any, .any, .any, .any, .any, .any, .any, .any, .any, .any, .any, .any, .any, .any, .any, .any, .any, .any, .any, .any, .any, .any, .any, .any, .any, .any, .any, .any, .any, .any, .any, .any, .any, .any, .any, .any, .any, .any, .any] [(.o 0, .flat [.seg .u32 8 h2]), (.o 1, .rows 1 (List.length p) (ib p) true), (.o 2, .flat [.seg .u8 32 z32L])] 3 [], [decide ((64 : Int) * (↑i : Int) < (↑(List.length p) : Int)) = true, InR IntKind.i64 ((64 : Int) * (↑i : Int) + (64 : Int)), (0 : Int) ≤ (64 : Int) * (↑i : Int) + (64 : Int) ∧ (64 : Int) * (↑i : Int) + (64 : Int) ≤ (↑(natO none (List.length p)) : Int), (0 : Int) ≤ (64 : Int) * (↑i : Int) ∧ (64 : Int) * (↑i : Int) ≤ (↑(natO (some ((64 : Int) * (↑i : Int) + (64 : Int))) (List.length p)) : Int), Int.toNat ((64 : Int) * (↑i : Int)) = (0 : Nat) ∨ Int.toNat ((64 : Int) * (↑i : Int)) < natO none (List.length p), T Tryz.prog 84 [.agg [.seg .u32 8 h], .sl (.o 1) 1 (addO 0 (some ((64 : Int) * (↑i : Int)))) 0 0 (natO (some ((64 : Int) * (↑i : Int) + (64 : Int))) (List.length p) - natO (some ((64 : Int) * (↑i : Int))) 0) none] [(.o 1, .rows 1 (List.length p) (ib p) true)] (.agg [.seg .u32 8 h2]) [(.o 1, .rows 1 (List.length p) (ib p) true)], InR IntKind.i64 ((64 : Int) * (↑i : Int) + (64 : Int)), q (8 : Nat), q h2, q (List.length p), ∀ (k : Nat), k < List.length p → [V.int IntKind.u8 (List.getD p k (0 : Int))] = [V.int IntKind.u8 (List.getD p k (0 : Int))], true = false → true = false, q (32 : Nat), q z32L, q0, q0, q0, q0, q0, q0, q0, q0, q0, q (List.length p), (none : Option Nat) = none ∨ (none : Option Nat) = none, (64 : Int) * (↑i : Int) + (64 : Int) = (64 : Int) * (↑(i + (1 : Nat)) : Int)]) : Option (Exit × St × List Prop)) := by kernel_rfl
theorem pcUi_p0 (p : List Int) (h : List Int) (i : Nat) (h2 : List Int) (n : Nat) :
  alongPc Tryz.prog (pcUi p h i h2 n) [false] = (some (.exit 0, St.mk [.any, .any, .ptr (.o 2) 0 0 0 0, .ptr (.o 0) 0 0 0 0, .sl (.o 1) 1 0 0 0 (List.length p) none, .int .i64 ((64 : Int) * (↑n : Int)), .any, .any, .any, .any, .any, .any, .any, .any, .any, .any, .any, .any, .any, .any, .any, .any, .any, .any, .any, .any, .any, .any, .any, .any, .any, .any, .any, .any, .any, .any, .any, .any, .any, .any, .any, .any, .any, .any, .any, .any, .any] [(.o 0, .flat [.seg .u32 8 h]), (.o 1, .rows 1 (List.length p) (ib p) true), (.o 2, .flat [.seg .u8 32 z32L])] 3 [], [decide ((64 : Int) * (↑i : Int) < (↑(List.length p) : Int)) = false, q (8 : Nat), q h, q (List.length p), ∀ (k : Nat), k < List.length p → [V.int IntKind.u8 (List.getD p k (0 : Int))] = [V.int IntKind.u8 (List.getD p k (0 : Int))], true = false → true = false, q (32 : Nat), q z32L, q0, q0, q0, q0, q0, q0, q0, q0, q0, q (List.length p), (none : Option Nat) = none ∨ (none : Option Nat) = none, (64 : Int) * (↑i : Int) = (64 : Int) * (↑n : Int)]) : Option (Exit × St × List Prop)) := by kernel_rfl

theorem pcUj_p1 (h : List Int) (d : List Int) (i : Nat) (d2 : List Int) :
  alongPc Tryz.prog (pcUj h d i d2) [true] = (some (.normal, St.mk [.any, .any, .ptr (.o 2) 0 0 0 0, .ptr (.o 0) 0 0 0 0, .any, .any, .ptr (.o 3) 0 0 0 0, .int .i64 (↑(i + 1) : Int), .any, .any, .any, .any, .any, .any, .any, .any, .any, .any, .any, .any, .any, .any, .any, .any, .any, .any, .any, .any, .any, .any, .any, .any, .any, .any, .any, .any, .any, .any, .any, .any, .any, .any, .any, .any, .any, .any, .any] [(.o 0, .flat [.seg .u32 8 h]), (.o 2, .flat [.seg .u8 32 z32L]), (.o 3, .flat [.seg .u8 32 d2])] 4 [], [decide ((↑i : Int) < (8 : Int)) = true, RLoop Tryz.prog none 0 (cB (cB (cR (cB (cL (cR (Pc.c (pcUj h d i d2)))))))) 5 (St.mk [.any, .any, .ptr (.o 2) 0 0 0 0, .ptr (.o 0) 0 0 0 0, .any, .any, .ptr (.o 3) 0 0 0 0, .int .i64 ↑i, .int .i64 0, .any, .any, .any, .any, .any, .any, .any, .any, .any, .any, .any, .any, .any, .any, .any, .any, .any, .any, .any, .any, .any, .any, .any, .any, .any, .any, .any, .any, .any, .any, .any, .any, .any, .any, .any, .any, .any, .any] [(.o 0, .flat [.seg .u32 8 h]), (.o 2, .flat [.seg .u8 32 z32L]), (.o 3, .flat [.seg .u8 32 d])] 4 []) (.exit 4) (St.mk [.any, .any, .ptr (.o 2) 0 0 0 0, .ptr (.o 0) 0 0 0 0, .any, .any, .ptr (.o 3) 0 0 0 0, .int .i64 ↑i, .int .i64 4, .any, .any, .any, .any, .any, .any, .any, .any, .any, .any, .any, .any, .any, .any, .any, .any, .any, .any, .any, .any, .any, .any, .any, .any, .any, .any, .any, .any, .any, .any, .any, .any, .any, .any, .any, .any, .any, .any] [(.o 0, .flat [.seg .u32 8 h]), (.o 2, .flat [.seg .u8 32 z32L]), (.o 3, .flat [.seg .u8 32 d2])] 4 []), q (8 : Nat), q h, q (32 : Nat), q z32L, q (32 : Nat), q d, q0, q0, q0, q0, q0, q0, q0, q0, q0, q (↑i : Int), q1, InR IntKind.i64 ((↑i : Int) + (1 : Int)), q (8 : Nat), q h, q (32 : Nat), q z32L, q (32 : Nat), q d2, q0, q0, q0, q0, q0, q0, q0, q0, q0, (↑i : Int) + (1 : Int) = (↑(i + (1 : Nat)) : Int)]) : Option (Exit × St × List Prop)) := by kernel_rfl
theorem pcUj_p0 (h : List Int) (d : List Int) (i : Nat) (d2 : List Int) :
  alongPc Tryz.prog (pcUj h d i d2) [false] = (some (.exit 2, St.mk [.any, .any, .ptr (.o 2) 0 0 0 0, .ptr (.o 0) 0 0 0 0, .any, .any, .ptr (.o 3) 0 0 0 0, .int .i64 8, .any, .any, .any, .any, .any, .any, .any, .any, .any, .any, .any, .any, .any, .any, .any, .any, .any, .any, .any, .any, .any, .any, .any, .any, .any, .any, .any, .any, .any, .any, .any, .any, .any, .any, .any, .any, .any, .any, .any] [(.o 0, .flat [.seg .u32 8 h]), (.o 2, .flat [.seg .u8 32 z32L]), (.o 3, .flat [.seg .u8 32 d])] 4 [], [decide ((↑i : Int) < (8 : Int)) = false, q (8 : Nat), q h, q (32 : Nat), q z32L, q (32 : Nat), q d, q0, q0, q0, q0, q0, q0, q0, q0, q0, (↑i : Int) = (8 : Int)]) : Option (Exit × St × List Prop)) := by kernel_rfl

theorem pcUk_p1 (h : List Int) (d : List Int) (i : Nat) (k : Nat) (d2 : List Int) :
  alongPc Tryz.prog (pcUk h d i k d2) [true] = (some (.normal, St.mk [.any, .any, .ptr (.o 2) 0 0 0 0, .ptr (.o 0) 0 0 0 0, .any, .any, .ptr (.o 3) 0 0 0 0, .int .i64 ↑i, .int .i64 (↑(k + 1) : Int), .any, .any, .any, .any, .any, .any, .any, .any, .any, .any, .any, .any, .any, .any, .any, .any, .any, .any, .any, .any, .any, .any, .any, .any, .any, .any, .any, .any, .any, .any, .any, .any, .any, .any, .any, .any, .any, .any] [(.o 0, .flat [.seg .u32 8 h]), (.o 2, .flat [.seg .u8 32 z32L]), (.o 3, .flat [.seg .u8 32 d2])] 4 [], [decide ((↑k : Int) < (4 : Int)) = true, InR IntKind.i64 ((4 : Int) * (↑i : Int)), InR IntKind.i64 ((4 : Int) * (↑i : Int) + (↑k : Int)), (0 : Int) ≤ (↑i : Int) ∧ (↑i : Int) < (8 : Int), (0 : Nat) + Int.toNat (↑i : Int) < (8 : Nat), InR IntKind.i64 ((8 : Int) * (↑k : Int)), InR IntKind.i64 ((24 : Int) - (8 : Int) * (↑k : Int)), (0 : Int) ≤ (24 : Int) - (8 : Int) * (↑k : Int) ∧ (24 : Int) - (8 : Int) * (↑k : Int) ≤ (32 : Int), (0 : Int) ≤ (4 : Int) * (↑i : Int) + (↑k : Int) ∧ (4 : Int) * (↑i : Int) + (↑k : Int) < (32 : Int), (0 : Nat) + Int.toNat ((4 : Int) * (↑i : Int) + (↑k : Int)) < (32 : Nat), InR IntKind.i64 ((↑k : Int) + (1 : Int)), q (8 : Nat), q h, q (32 : Nat), q z32L, q (32 : Nat), List.set d ((0 : Nat) + Int.toNat ((4 : Int) * (↑i : Int) + (↑k : Int))) (IntKind.wrap IntKind.u8 (List.getD h ((0 : Nat) + Int.toNat (↑i : Int)) (0 : Int) / (2 : Int) ^ Int.toNat ((24 : Int) - (8 : Int) * (↑k : Int)))) = d2, q0, q0, q0, q0, q0, q0, q0, q0, q0, q (↑i : Int), (↑k : Int) + (1 : Int) = (↑(k + (1 : Nat)) : Int)]) : Option (Exit × St × List Prop)) := by kernel_rfl
theorem pcUk_p0 (h : List Int) (d : List Int) (i : Nat) (k : Nat) (d2 : List Int) :
  alongPc Tryz.prog (pcUk h d i k d2) [false] = (some (.exit 4, St.mk [.any, .any, .ptr (.o 2) 0 0 0 0, .ptr (.o 0) 0 0 0 0, .any, .any, .ptr (.o 3) 0 0 0 0, .int .i64 ↑i, .int .i64 4, .any, .any, .any, .any, .any, .any, .any, .any, .any, .any, .any, .any, .any, .any, .any, .any, .any, .any, .any, .any, .any, .any, .any, .any, .any, .any, .any, .any, .any, .any, .any, .any, .any, .any, .any, .any, .any, .any] [(.o 0, .flat [.seg .u32 8 h]), (.o 2, .flat [.seg .u8 32 z32L]), (.o 3, .flat [.seg .u8 32 d])] 4 [], [decide ((↑k : Int) < (4 : Int)) = false, q (8 : Nat), q h, q (32 : Nat), q z32L, q (32 : Nat), q d, q0, q0, q0, q0, q0, q0, q0, q0, q0, q (↑i : Int), (↑k : Int) = (4 : Int)]) : Option (Exit × St × List Prop)) := by kernel_rfl

theorem T_btL {p h : List Int} (hh : h.length = 8) {i X Y : Nat} (hX : X = 64 * i) (hY : Y = 64) (hp : 64 * i + 64 ≤ p.length) : T Tryz.prog 84 [.agg [.seg .u32 8 h], .sl (.o 1) 1 X 0 0 Y none] [(.o 1, obB p)] (.agg [.seg .u32 8 (blk h (cutB p i))]) [(.o 1, obB p)] := by
 have hl := cutB_len p i
 refine T.lendG (T_bt hh hl) rfl ?_ (FreeV.agg rfl) (by simp) (by rintro n ⟨b, hb⟩; cases hb)
 simp only [All, hl]; and_intros
 all_goals first
  | exact True.intro
  | (intro k hk; show [V.int .u8 (p.getD (X + k) 0)] = [V.int .u8 ((cutB p i).getD k 0)]; rw [cutB_get (by omega), hX])
  | (with_reducible assumption)
  | (rw [decide_eq_true_eq]; omega)
  | (rw [decide_eq_false_iff_not]; omega)
  | with_reducible rfl
  | (intro _ _; exact True.intro)
  | (intro _ _; with_reducible rfl)
  | (intro _ _; rfl)
  | (simp only [IntKind.min, IntKind.max, IntKind.signed, IntKind.bits, if_true]; omega)
  | omega
  | (intro h; exact h)
  | (intro h; cases h; done)
  | exact .inl rfl
  | exact .inl True.intro
  | exact .inr rfl
  | (simp; done)
theorem duKL (h d : List Int) (i : Nat) (hi : i < 8) : RLoop Tryz.prog none 0 (cB (cB (cR (cB (cL (cR duC)))))) (4 + 1) (duK h (dA h (4 * i + 0)) i 0) (.exit 4) (duK h (dA h (4 * i + 4)) i 4) := by
 have hstep : ∀ k, k < 4 → R Tryz.prog none 0 (cB (cB (cR (cB (cL (cR duC)))))) (duK h (dA h (4 * i + k)) i k) .normal (duK h (dA h (4 * i + (k + 1))) i (k + 1)) := by
  intro k hk
  have e1 : Int.toNat (4 * (i : Int) + (k : Int)) = 4 * i + k := by omega
  have e2 : Int.toNat (24 - 8 * (k : Int)) = 24 - 8 * k := by omega
  have e3 : dA h (4 * i + (k + 1)) = (dA h (4 * i + k)).set (4 * i + k) (IntKind.wrap .u8 (h.getD i 0 / 2 ^ (24 - 8 * k))) := by
   show (dA h (4 * i + k)).set (4 * i + k) (w8 (h.getD ((4 * i + k) / 4) 0 / 2 ^ (24 - 8 * ((4 * i + k) % 4)))) = _
   rw [show (4 * i + k) / 4 = i by omega, show (4 * i + k) % 4 = k by omega]; rfl
  refine R_alongPc NG MO _ (pcUk_p1 h (dA h (4 * i + k)) i k (dA h (4 * i + (k + 1)))) ?_ (Nat.zero_le _)
  simp only [All, e1, e2, Int.toNat_natCast, Nat.zero_add]; and_intros
  all_goals first
   | exact True.intro
   | exact e3.symm
   | (with_reducible assumption)
   | (rw [decide_eq_true_eq]; omega)
   | (rw [decide_eq_false_iff_not]; omega)
   | with_reducible rfl
   | (intro _ _; exact True.intro)
   | (intro _ _; with_reducible rfl)
   | (intro _ _; rfl)
   | (simp only [IntKind.min, IntKind.max, IntKind.signed, IntKind.bits, if_true]; omega)
   | omega
   | (intro h; exact h)
   | (intro h; cases h; done)
   | exact .inl rfl
   | exact .inl True.intro
   | exact .inr rfl
   | (simp; done)
 have hend : R Tryz.prog none 0 (cB (cB (cR (cB (cL (cR duC)))))) (duK h (dA h (4 * i + 4)) i 4) (.exit 4) (duK h (dA h (4 * i + 4)) i 4) := by
  refine R_alongPc NG MO _ (pcUk_p0 h (dA h (4 * i + 4)) i 4 []) ?_ (Nat.zero_le _)
  simp only [All]; and_intros
  all_goals first
   | exact True.intro
   | (with_reducible assumption)
   | (rw [decide_eq_true_eq]; omega)
   | (rw [decide_eq_false_iff_not]; omega)
   | with_reducible rfl
   | (intro _ _; exact True.intro)
   | (intro _ _; with_reducible rfl)
   | (intro _ _; rfl)
   | (simp only [IntKind.min, IntKind.max, IntKind.signed, IntKind.bits, if_true]; omega)
   | omega
   | (intro h; exact h)
   | (intro h; cases h; done)
   | exact .inl rfl
   | exact .inl True.intro
   | exact .inr rfl
   | (simp; done)
 exact RLoop.inv (fun k => duK h (dA h (4 * i + k)) i k) 4 hstep hend (by simp)
theorem duJL (h : List Int) : RLoop Tryz.prog none 0 duC (8 + 1) (duJ h (dA h (4 * 0)) 0) (.exit 2) (duJ h (dA h (4 * 8)) 8) := by
 have hstep : ∀ i, i < 8 → R Tryz.prog none 0 duC (duJ h (dA h (4 * i)) i) .normal (duJ h (dA h (4 * (i + 1))) (i + 1)) := by
  intro i hi
  have hK := duKL h [] i hi
  refine R_alongPc NG MO _ (pcUj_p1 h (dA h (4 * i)) i (dA h (4 * (i + 1)))) ?_ (Nat.zero_le _)
  simp only [All]; and_intros
  all_goals first
   | exact True.intro
   | exact hK
   | (with_reducible assumption)
   | (rw [decide_eq_true_eq]; omega)
   | (rw [decide_eq_false_iff_not]; omega)
   | with_reducible rfl
   | (intro _ _; exact True.intro)
   | (intro _ _; with_reducible rfl)
   | (intro _ _; rfl)
   | (simp only [IntKind.min, IntKind.max, IntKind.signed, IntKind.bits, if_true]; omega)
   | omega
   | (intro h; exact h)
   | (intro h; cases h; done)
   | exact .inl rfl
   | exact .inl True.intro
   | exact .inr rfl
   | (simp; done)
 have hend : R Tryz.prog none 0 duC (duJ h (dA h (4 * 8)) 8) (.exit 2) (duJ h (dA h (4 * 8)) 8) := by
  refine R_alongPc NG MO _ (pcUj_p0 h (dA h (4 * 8)) 8 []) ?_ (Nat.zero_le _)
  simp only [All]; and_intros
  all_goals first
   | exact True.intro
   | (with_reducible assumption)
   | (rw [decide_eq_true_eq]; omega)
   | (rw [decide_eq_false_iff_not]; omega)
   | with_reducible rfl
   | (intro _ _; exact True.intro)
   | (intro _ _; with_reducible rfl)
   | (intro _ _; rfl)
   | (simp only [IntKind.min, IntKind.max, IntKind.signed, IntKind.bits, if_true]; omega)
   | omega
   | (intro h; exact h)
   | (intro h; cases h; done)
   | exact .inl rfl
   | exact .inl True.intro
   | exact .inr rfl
   | (simp; done)
 exact RLoop.inv (fun i => duJ h (dA h (4 * i)) i) 8 hstep hend (by simp)
theorem T_du (l : List Int) (hb : l.length ≤ 10000000000) : T Tryz.prog 51 [rb l] [] (.agg [.seg .u8 32 (shaV l)]) [] := by
 have hP : T Tryz.prog 83 [rb l] [] (obS 320 (padL l)) [(.o 320, obB (padL l))] := by
  obtain ⟨σ, hσ, h3⟩ := T.at (T_pa l hb) [.o 0] [.o 320] (by decide) (by decide) rfl
  simp only [List.map_cons, List.map_nil, List.cons.injEq, and_true] at hσ
  simpa [V.rens, V.ren, Heap.ren, Sy.B.ren, obS, obB, rb, hσ] using h3
 have hlen := padL_len l
 have hpl : (padL l).length ≤ 20000000000 := by
  have : padZ (l.length + 1) < 64 := by unfold padZ; omega
  simp only [padL, List.length_append, List.length_replicate, List.length_cons, List.length_nil, lenB_len]
  omega
 have hs : shaV l = dA (hK (padL l) ((padL l).length / 64)) (4 * 8) := rfl
 generalize padL l = p at hP hlen hpl hs
 have hA : RLoop Tryz.prog none 0 (cB (cB (cR (cL (cR (cR (cR (bodyOf Tryz.f51)))))))) (p.length / 64 + 1) (duI p (hK p 0) 0) (.exit 0) (duI p (hK p (p.length / 64)) (p.length / 64)) := by
  have hstep : ∀ i, i < p.length / 64 → R Tryz.prog none 0 (cB (cB (cR (cL (cR (cR (cR (bodyOf Tryz.f51)))))))) (duI p (hK p i) i) .normal (duI p (hK p (i + 1)) (i + 1)) := by
   intro i hi
   have e1 : addO 0 (some (64 * (i : Int))) = 64 * i := by show 0 + (64 * (i : Int)).toNat = _; omega
   have e2 : natO (some (64 * (i : Int) + 64)) p.length = 64 * i + 64 := by show (64 * (i : Int) + 64).toNat = _; omega
   have e3 : natO (some (64 * (i : Int))) 0 = 64 * i := by show (64 * (i : Int)).toNat = _; omega
   have e4 : natO (none : Option Int) p.length = p.length := rfl
   have hB := T_btL (p := p) (hK_len p i) (i := i) (X := 64 * i) (Y := 64 * i + 64 - 64 * i) rfl (by omega) (by omega)
   refine R_alongPc NG MO _ (pcUi_p1 p (hK p i) i (hK p (i + 1)) 0) ?_ (Nat.zero_le _)
   simp only [All, e1, e2, e3, e4]; and_intros
   all_goals first
    | exact True.intro
    | exact hB
    | (with_reducible assumption)
    | (rw [decide_eq_true_eq]; omega)
    | (rw [decide_eq_false_iff_not]; omega)
    | with_reducible rfl
    | (intro _ _; exact True.intro)
    | (intro _ _; with_reducible rfl)
    | (intro _ _; rfl)
    | (simp only [IntKind.min, IntKind.max, IntKind.signed, IntKind.bits, if_true]; omega)
    | omega
    | (intro h; exact h)
    | (intro h; cases h; done)
    | exact .inl rfl
    | exact .inl True.intro
    | exact .inr rfl
    | (simp; done)
  have hend : R Tryz.prog none 0 (cB (cB (cR (cL (cR (cR (cR (bodyOf Tryz.f51)))))))) (duI p (hK p (p.length / 64)) (p.length / 64)) (.exit 0) (duI p (hK p (p.length / 64)) (p.length / 64)) := by
   refine R_alongPc NG MO _ (pcUi_p0 p (hK p (p.length / 64)) (p.length / 64) [] (p.length / 64)) ?_ (Nat.zero_le _)
   simp only [All]; and_intros
   all_goals first
    | exact True.intro
    | (with_reducible assumption)
    | (rw [decide_eq_true_eq]; omega)
    | (rw [decide_eq_false_iff_not]; omega)
    | with_reducible rfl
    | (intro _ _; exact True.intro)
    | (intro _ _; with_reducible rfl)
    | (intro _ _; rfl)
    | (simp only [IntKind.min, IntKind.max, IntKind.signed, IntKind.bits, if_true]; omega)
    | omega
    | (intro h; exact h)
    | (intro h; cases h; done)
    | exact .inl rfl
    | exact .inl True.intro
    | exact .inr rfl
    | (simp; done)
  exact RLoop.inv (fun i => duI p (hK p i) i) (p.length / 64) hstep hend (by simp)
 have hJ := duJL (hK p (p.length / 64))
 rw [← hs] at hJ
 generalize hK p (p.length / 64) = h at hA hJ
 generalize p.length / 64 = n at hA
 generalize shaV l = d at hJ
 refine T_al (bdDu_p l p h n d) Tryz.func51 ?_
 simp only [All]; and_intros
 all_goals first
  | exact True.intro
  | exact hP
  | exact hA
  | exact hJ
  | rfl
  | (with_reducible assumption)
  | (rw [decide_eq_true_eq]; omega)
  | (rw [decide_eq_false_iff_not]; omega)
  | with_reducible rfl
  | (intro _ _; exact True.intro)
  | (intro _ _; with_reducible rfl)
  | (intro _ _; rfl)
  | (simp only [IntKind.min, IntKind.max, IntKind.signed, IntKind.bits, if_true]; omega)
  | omega
  | (intro h; exact h)
  | (intro h; cases h; done)
  | exact .inl rfl
  | exact .inl True.intro
  | exact .inr rfl
  | (simp; done)
end Go.Proofs.YtlakhciklfkocaaGreat
namespace Sy
open Go
theorem dA_len (H : List Int) : ∀ i, (dA H i).length = 32
 | 0 => by simp [dA]
 | i + 1 => by rw [dA, List.length_set, dA_len H i]
theorem shaV_len (B : List Int) : (shaV B).length = 32 := dA_len _ _
def uI (l : List UInt8) : List Int := l.map fun x => (x.toNat : Int)
theorem uI_len (l : List UInt8) : (uI l).length = l.length := by simp [uI]
theorem uI_get (l : List UInt8) (i : Nat) : (uI l).getD i 0 = ((l.getD i 0).toNat : Int) := by
 simp only [uI, List.getD_eq_getElem?_getD, List.getElem?_map]
 cases l[i]? <;> rfl
theorem ib_app (a b : List Int) : ib (a ++ b) = catF a.length (ib a) (ib b) := by
 funext k
 unfold ib catF
 cases h : Nat.blt k a.length
 ·have h1 : a.length ≤ k := by
   rcases Nat.lt_or_ge k a.length with h2 | h2
   ·rw [← Nat.blt_eq] at h2; rw [h2] at h; cases h
   ·exact h2
  simp [List.getD_eq_getElem?_getD, List.getElem?_append_right h1]
 ·rw [Nat.blt_eq] at h
  simp [List.getD_eq_getElem?_getD, List.getElem?_append_left h]
end Sy
namespace Go.Proofs.YtlakhciklfkocaaGreat
open Go Sy Go.Proofs
def agD (d : List Int) : V := .agg [.seg .u8 32 d]
def rdC (v : V) : List V → List Cl
 | .sl a _ _ _ _ _ _ :: _ => [{ rd := [a], val := v }]
 | _ => []
noncomputable def bdDg (b : SBatch) (l : List UInt8) (d : List Int) : Bd := { f := Tryz.f13, args := [.agg b.c], kb := { db := dbQ [(52, fun _ _ lo => [{ val := sb (.o lo) l, post := [(.o lo, bs l)] }]), (51, fun a _ _ => rdC (agD d) a)] } }
def smI (b : SBatch) (k : Nat) : St := ⟨mkT 38 [(2, .ptr (.o 0) 0 0 0 0), (3, .ptr (.o 1) 0 0 0 0), (5, .int .i64 (k : Nat))], [(.o 0, .flat b.c), (.o 1, .flat b.c)], 2, []⟩
noncomputable def bdSm2 (b : SBatch) : Bd := { f := Tryz.f17, args := [.agg b.c, .agg b.c], kb := { db := fun _ _ _ _ => [], lp := fun _ t => [(True, .loop (b.n + 1) (wToS [(.o 0, nmV (getV t.tmps 2)), (.o 1, nmV (getV t.tmps 3))] (smI b 0)) (.exit 0) (smI b b.n))] } }
noncomputable def pcSm2 (b : SBatch) (k : Nat) : Pc := { c := cB (cB (cR (cL (cR (cR (bodyOf Tryz.f17)))))), st := smI b k, kb := kb0, k := fun x_ _ => match x_ with
 | .normal => some (wTo (smI b (k + 1)))
 | _ => some (wTo (smI b b.n)) }
end Go.Proofs.YtlakhciklfkocaaGreat
namespace Go.Proofs.YtlakhciklfkocaaGreat
open Go Sy Go.Proofs
theorem bdDg_p (b : SBatch) (l : List UInt8) (d : List Int) :
  along Tryz.prog (bdDg b l d) [] = (some (.agg [.seg .u8 32 d], [], [T Tryz.prog 52 [.snil, .agg (SBatch.c b)] [] (sb (.o 320) l) [(.o 320, bs l)], q (1 : Nat), (0 : Nat) + List.length l ≤ List.length l, ∀ (k : Nat), k < List.length l → true = true, ((1 : Nat) + List.length l) * (1 : Nat) ≤ (140737488355328 : Nat), T Tryz.prog 51 [.sl (.o 384) 1 0 0 0 (1 + List.length l) none] [(.o 384, .rows 1 (1 + List.length l) (catF 1 (getL [[.int .u8 66]]) fun k => bl l (0 + k)) true)] (.agg [.seg .u8 32 d]) [(.o 384, .rows 1 (1 + List.length l) (catF 1 (getL [[.int .u8 66]]) fun k => bl l (0 + k)) true)]]) : Option (V × Heap × List Prop)) := by kernel_rfl

theorem bdSm2_p00 (b : SBatch) :
  along Tryz.prog (bdSm2 b) [false, false] = (some (.bool true, [], [(!SBatch.noop b == SBatch.noop b) = false, (!decide ((↑(SBatch.n b) : Int) = (↑(SBatch.n b) : Int))) = false, RLoop Tryz.prog none 0 (cB (cB (cR (cL (cR (cR (bodyOf (Bd.f (bdSm2 b))))))))) (SBatch.n b + 1) (St.mk [.any, .any, .ptr (.o 0) 0 0 0 0, .ptr (.o 1) 0 0 0 0, .any, .int .i64 0, .any, .any, .any, .any, .any, .any, .any, .any, .any, .any, .any, .any, .any, .any, .any, .any, .any, .any, .any, .any, .any, .any, .any, .any, .any, .any, .any, .any, .any, .any, .any, .any] [(.o 0, .flat (SBatch.c b)), (.o 1, .flat (SBatch.c b))] 2 []) (.exit 0) (St.mk [.any, .any, .ptr (.o 0) 0 0 0 0, .ptr (.o 1) 0 0 0 0, .any, .int .i64 (↑(SBatch.n b) : Int), .any, .any, .any, .any, .any, .any, .any, .any, .any, .any, .any, .any, .any, .any, .any, .any, .any, .any, .any, .any, .any, .any, .any, .any, .any, .any, .any, .any, .any, .any, .any, .any] [(.o 0, .flat (SBatch.c b)), (.o 1, .flat (SBatch.c b))] 2 []), q (SBatch.noop b), q (SBatch.n b), ∀ (k : Nat), k < SBatch.n b → SReq.c (SBatch.req b k) = SReq.c (SBatch.req b k), false = true → false = true, q (SBatch.noop b), q (SBatch.n b), ∀ (k : Nat), k < SBatch.n b → SReq.c (SBatch.req b k) = SReq.c (SBatch.req b k), false = true → false = true, q0, q0, q0, q0, q0, q0, q1]) : Option (V × Heap × List Prop)) := by kernel_rfl

theorem pcSm2_p10 (b : SBatch) (k : Nat) :
  alongPc Tryz.prog (pcSm2 b k) [true, false] = (some (.normal, St.mk [.any, .any, .ptr (.o 0) 0 0 0 0, .ptr (.o 1) 0 0 0 0, .any, .int .i64 (↑(k + 1) : Int), .any, .any, .any, .any, .any, .any, .any, .any, .any, .any, .any, .any, .any, .any, .any, .any, .any, .any, .any, .any, .any, .any, .any, .any, .any, .any, .any, .any, .any, .any, .any, .any] [(.o 0, .flat (SBatch.c b)), (.o 1, .flat (SBatch.c b))] 2 [], [decide ((↑k : Int) < (↑(SBatch.n b) : Int)) = true, (0 : Int) ≤ (↑k : Int) ∧ (↑k : Int) < (↑(SBatch.n b) : Int), (0 : Int) ≤ (↑k : Int) ∧ (↑k : Int) < (↑(SBatch.n b) : Int), (!(decide (SReq.client (SBatch.req b (Int.toNat (↑k : Int))) = SReq.client (SBatch.req b (Int.toNat (↑k : Int)))) && (decide (SReq.num (SBatch.req b (Int.toNat (↑k : Int))) = SReq.num (SBatch.req b (Int.toNat (↑k : Int)))) && (decide (SReq.data (SBatch.req b (Int.toNat (↑k : Int))) = SReq.data (SBatch.req b (Int.toNat (↑k : Int)))) && (decide (SReq.tag (SBatch.req b (Int.toNat (↑k : Int))) = SReq.tag (SBatch.req b (Int.toNat (↑k : Int)))) && true))))) = false, InR IntKind.i64 ((↑k : Int) + (1 : Int)), q (SBatch.noop b), q (SBatch.n b), ∀ (k : Nat), k < SBatch.n b → SReq.c (SBatch.req b k) = SReq.c (SBatch.req b k), false = true → false = true, q (SBatch.noop b), q (SBatch.n b), ∀ (k : Nat), k < SBatch.n b → SReq.c (SBatch.req b k) = SReq.c (SBatch.req b k), false = true → false = true, q0, q0, q0, q0, q0, q0, (↑k : Int) + (1 : Int) = (↑(k + (1 : Nat)) : Int)]) : Option (Exit × St × List Prop)) := by kernel_rfl
theorem pcSm2_p0 (b : SBatch) (k : Nat) :
  alongPc Tryz.prog (pcSm2 b k) [false] = (some (.exit 0, St.mk [.any, .any, .ptr (.o 0) 0 0 0 0, .ptr (.o 1) 0 0 0 0, .any, .int .i64 (↑(SBatch.n b) : Int), .any, .any, .any, .any, .any, .any, .any, .any, .any, .any, .any, .any, .any, .any, .any, .any, .any, .any, .any, .any, .any, .any, .any, .any, .any, .any, .any, .any, .any, .any, .any, .any] [(.o 0, .flat (SBatch.c b)), (.o 1, .flat (SBatch.c b))] 2 [], [decide ((↑k : Int) < (↑(SBatch.n b) : Int)) = false, q (SBatch.noop b), q (SBatch.n b), ∀ (k : Nat), k < SBatch.n b → SReq.c (SBatch.req b k) = SReq.c (SBatch.req b k), false = true → false = true, q (SBatch.noop b), q (SBatch.n b), ∀ (k : Nat), k < SBatch.n b → SReq.c (SBatch.req b k) = SReq.c (SBatch.req b k), false = true → false = true, q0, q0, q0, q0, q0, q0, (↑k : Int) = (↑(SBatch.n b) : Int)]) : Option (Exit × St × List Prop)) := by kernel_rfl

theorem T_pN (b : SBatch) (h : BatchOk b) (m : Nat) : T Tryz.prog 52 [.snil, .agg b.c] [] (sb (.o m) (batchB b)) [(.o m, bs (batchB b))] := by
 have hn := h.n
 have hz := num63_nat (n := b.n + 1) (by omega)
 cases hno : b.noop with
 | true =>
  have e : batchB b = putZ 0 := by simp [batchB, hno]
  have e2 : (bif b.noop then putZ 0 else putZ ((b.n + 1 : Nat) : Int)) = putZ 0 := by rw [hno]; rfl
  have h0 := T_rpNil (z := 0) (by decide) ⟨by decide, by decide⟩ (m := 320)
  have h1 : T Tryz.prog 52 [.snil, .agg b.c] [] (sb (.o 320) (batchB b)) [(.o 320, bs (batchB b))] := by
   rw [e, ← e2]
   refine T_al (bdPN_p1 b) Tryz.func52 ?_
   simp only [All, e2]; and_intros
   all_goals first
    | exact True.intro
    | exact hno
    | exact h0
    | (with_reducible assumption)
    | (rw [decide_eq_true_eq]; omega)
    | (rw [decide_eq_false_iff_not]; omega)
    | with_reducible rfl
    | (intro _ _; exact True.intro)
    | (intro _ _; with_reducible rfl)
    | (intro _ _; rfl)
    | (simp only [IntKind.min, IntKind.max, IntKind.signed, IntKind.bits, if_true]; omega)
    | omega
    | (intro h; exact h)
    | (intro h; cases h; done)
    | exact .inl rfl
    | exact .inl True.intro
    | exact .inr rfl
    | (simp; done)
  obtain ⟨σ, hσ, h3⟩ := T.at h1 [.o 320] [.o m] (by decide) (by simp) rfl
  simp only [List.map_cons, List.map_nil, List.cons.injEq, and_true] at hσ
  simpa [V.rens, V.ren, Heap.ren, Sy.B.ren, sb, bs, SBatch.c, rq, hσ] using h3
 | false =>
  have e : batchB b = [] ++ (putZ ((b.n + 1 : Nat) : Int) ++ reqsB b.req b.n) := by simp [batchB, hno]
  have e2 : (bif b.noop then putZ 0 else putZ ((b.n + 1 : Nat) : Int)) = putZ ((b.n + 1 : Nat) : Int) := by rw [hno]; rfl
  have hlen : ∀ k, k ≤ b.n → (([] : List UInt8) ++ (putZ ((b.n + 1 : Nat) : Int) ++ reqsB b.req k)).length ≤ 8796093022208 := fun k hk => by
   have h1 := reqsB_len h k hk
   have h2 := putZ_len hz
   rw [List.nil_append, List.length_append]; omega
  have hL : RLoop Tryz.prog none 1 (cB (cB (cR (cL (cR (cR (cR (bodyOf Tryz.f52)))))))) (b.n + 1) (rbI [] b 0) (.exit 0) (rbI [] b b.n) :=
   RLoop.inv (rbI [] b) b.n (fun k hk => by
    have hT := T_rw (hlen k (by omega)) (h.req k hk) (a := 1) (m := 707) (by decide)
    have e1 : ([] : List UInt8) ++ (putZ ((b.n + 1 : Nat) : Int) ++ reqsB b.req k) ++ reqB (b.req k) = [] ++ (putZ ((b.n + 1 : Nat) : Int) ++ reqsB b.req (k + 1)) := by simp [reqsB]
    rw [e1] at hT
    refine R_alongPc NG MO _ (pcPB_p1 [] b k) ?_ (show 1 ≤ 3 by decide)
    simp only [All, Int.toNat_natCast]
    and_intros
    all_goals first
     | exact hT
     | (simp [hk, IntKind.min, IntKind.max, IntKind.signed, IntKind.bits] <;> omega))
    (R_alongPc NG MO _ (pcPB_p0 [] b b.n) (by simp [All]) (show 1 ≤ 3 by decide)) (by simp)
  have h0 := T_rpNil (z := ((b.n + 1 : Nat) : Int)) (by omega) hz (m := 576)
  have e3 : ((b.n : Nat) : Int) + 1 = ((b.n + 1 : Nat) : Int) := by omega
  have h1 : T Tryz.prog 52 [.snil, .agg b.c] [] (sb (.o 1) (batchB b)) [(.o 1, bs (batchB b))] := by
   rw [e]
   have e4 : [] ++ (putZ ((b.n + 1 : Nat) : Int) ++ reqsB b.req 0) = putZ ((b.n + 1 : Nat) : Int) := by simp [reqsB]
   refine T_al (bdPN_p0 b) Tryz.func52 ?_
   have hL0 := hL.le (Nat.zero_le 1)
   simp only [All, e2, e3]; and_intros
   all_goals first
    | exact True.intro
    | exact hno
    | exact h0
    | exact hL0
    | (rw [e4]; done)
    | (rw [e4]; intro k _; rfl)
    | (with_reducible assumption)
    | (rw [decide_eq_true_eq]; omega)
    | (rw [decide_eq_false_iff_not]; omega)
    | with_reducible rfl
    | (intro _ _; exact True.intro)
    | (intro _ _; with_reducible rfl)
    | (intro _ _; rfl)
    | (simp only [IntKind.min, IntKind.max, IntKind.signed, IntKind.bits, if_true]; omega)
    | omega
    | (intro h; exact h)
    | (intro h; cases h; done)
    | exact .inl rfl
    | exact .inl True.intro
    | exact .inr rfl
    | (simp; done)
  obtain ⟨σ, hσ, h3⟩ := T.at h1 [.o 1] [.o m] (by decide) (by simp) rfl
  simp only [List.map_cons, List.map_nil, List.cons.injEq, and_true] at hσ
  simpa [V.rens, V.ren, Heap.ren, Sy.B.ren, sb, bs, SBatch.c, rq, hσ] using h3
theorem T_duC (l : List Int) (hb : l.length ≤ 10000000000) {n : Nat} (hn : n = l.length) {f : Nat → List V} (hf : ∀ k, k < n → f k = ib l k) (a : Nat) : T Tryz.prog 51 [.sl (.o a) 1 0 0 0 n none] [(.o a, .rows 1 n f true)] (agD (shaV l)) [(.o a, .rows 1 n f true)] := by
 have h : T Tryz.prog 51 [.sl (.o 1) 1 0 0 0 n none] [(.o 1, .rows 1 n f true)] (agD (shaV l)) [(.o 1, .rows 1 n f true)] := by
  refine T.lendG (T_du l hb) rfl ?_ (FreeV.agg rfl) (by simp) (by rintro n ⟨b, hb⟩; cases hb)
  and_intros
  all_goals first
   | exact True.intro
   | (intro k hk; rw [Nat.zero_add]; exact hf k hk)
   | (with_reducible assumption)
   | (rw [decide_eq_true_eq]; omega)
   | (rw [decide_eq_false_iff_not]; omega)
   | with_reducible rfl
   | (intro _ _; exact True.intro)
   | (intro _ _; with_reducible rfl)
   | (intro _ _; rfl)
   | (simp only [IntKind.min, IntKind.max, IntKind.signed, IntKind.bits, if_true]; omega)
   | omega
   | (intro h; exact h)
   | (intro h; cases h; done)
   | exact .inl rfl
   | exact .inl True.intro
   | exact .inr rfl
   | (simp; done)
 obtain ⟨σ, hσ, h3⟩ := T.at h [.o 1] [.o a] (by decide) (by simp) rfl
 simp only [List.map_cons, List.map_nil, List.cons.injEq, and_true] at hσ
 simpa [V.rens, V.ren, Heap.ren, Sy.B.ren, agD, hσ] using h3
theorem ib_uI (l : List UInt8) (k : Nat) : bl l k = ib (uI l) k := by
 show [V.int .u8 ((l.getD k 0).toNat : Int)] = [V.int .u8 ((uI l).getD k 0)]
 rw [uI_get]
theorem T_sm2 (b : SBatch) (hn : b.n ≤ 1000000) : T Tryz.prog 17 [.agg b.c, .agg b.c] [] (.bool true) [] := by
 have h0 : (!b.noop == b.noop) = false := by cases b.noop <;> rfl
 have hL : RLoop Tryz.prog none 0 (cB (cB (cR (cL (cR (cR (bodyOf Tryz.f17))))))) (b.n + 1) (smI b 0) (.exit 0) (smI b b.n) := by
  have hstep : ∀ k, k < b.n → R Tryz.prog none 0 (cB (cB (cR (cL (cR (cR (bodyOf Tryz.f17))))))) (smI b k) .normal (smI b (k + 1)) := by
   intro k hk
   refine R_alongPc NG MO _ (pcSm2_p10 b k) ?_ (Nat.zero_le _)
   simp only [All, Int.toNat_natCast]; and_intros
   all_goals first
    | exact True.intro
    | (simp; done)
    | (with_reducible assumption)
    | (rw [decide_eq_true_eq]; omega)
    | (rw [decide_eq_false_iff_not]; omega)
    | with_reducible rfl
    | (intro _ _; exact True.intro)
    | (intro _ _; with_reducible rfl)
    | (intro _ _; rfl)
    | (simp only [IntKind.min, IntKind.max, IntKind.signed, IntKind.bits, if_true]; omega)
    | omega
    | (intro h; exact h)
    | (intro h; cases h; done)
    | exact .inl rfl
    | exact .inl True.intro
    | exact .inr rfl
    | (simp; done)
  have hend : R Tryz.prog none 0 (cB (cB (cR (cL (cR (cR (bodyOf Tryz.f17))))))) (smI b b.n) (.exit 0) (smI b b.n) := by
   refine R_alongPc NG MO _ (pcSm2_p0 b b.n) ?_ (Nat.zero_le _)
   simp only [All, Int.toNat_natCast]; and_intros
   all_goals first
    | exact True.intro
    | (with_reducible assumption)
    | (rw [decide_eq_true_eq]; omega)
    | (rw [decide_eq_false_iff_not]; omega)
    | with_reducible rfl
    | (intro _ _; exact True.intro)
    | (intro _ _; with_reducible rfl)
    | (intro _ _; rfl)
    | (simp only [IntKind.min, IntKind.max, IntKind.signed, IntKind.bits, if_true]; omega)
    | omega
    | (intro h; exact h)
    | (intro h; cases h; done)
    | exact .inl rfl
    | exact .inl True.intro
    | exact .inr rfl
    | (simp; done)
  exact RLoop.inv (fun k => smI b k) b.n hstep hend (by simp)
 refine T_al (bdSm2_p00 b) Tryz.func17 ?_
 simp only [All]; and_intros
 all_goals first
  | exact True.intro
  | exact h0
  | exact hL
  | exact neg_t (decide_eq_true rfl)
  | (with_reducible assumption)
  | (rw [decide_eq_true_eq]; omega)
  | (rw [decide_eq_false_iff_not]; omega)
  | with_reducible rfl
  | (intro _ _; exact True.intro)
  | (intro _ _; with_reducible rfl)
  | (intro _ _; rfl)
  | (simp only [IntKind.min, IntKind.max, IntKind.signed, IntKind.bits, if_true]; omega)
  | omega
  | (intro h; exact h)
  | (intro h; cases h; done)
  | exact .inl rfl
  | exact .inl True.intro
  | exact .inr rfl
  | (simp; done)
theorem T_dg13 (b : SBatch) (h : BatchOk b) : ∃ d : List Int, d.length = 32 ∧ T Tryz.prog 13 [.agg b.c] [] (agD d) [] := by
 have hl := batchB_len h
 have h1 := T_pN b h 320
 generalize batchB b = l at *
 refine ⟨shaV ([66] ++ uI l), shaV_len _, ?_⟩
 have h2 := T_duC ([66] ++ uI l) (by rw [List.length_append, uI_len]; simp; omega) (n := 1 + l.length) (by rw [List.length_append, uI_len]; rfl) (f := catF 1 (getL [[V.int IntKind.u8 66]]) fun k => bl l (0 + k)) (fun k hk => by
  rw [ib_app]
  unfold catF
  cases hb : Nat.blt k 1 with
  | true =>
   have : k = 0 := by rw [Nat.blt_eq] at hb; omega
   subst this; rfl
  | false =>
   show bl l (0 + (k - 1)) = ib (uI l) (k - 1)
   rw [Nat.zero_add]; exact ib_uI l _) 384
 generalize shaV ([66] ++ uI l) = d at *
 refine T_al (bdDg_p b l d) Tryz.func13 ?_
 simp only [All]; and_intros
 all_goals first
  | exact True.intro
  | exact h1
  | exact h2
  | (with_reducible assumption)
  | (rw [decide_eq_true_eq]; omega)
  | (rw [decide_eq_false_iff_not]; omega)
  | with_reducible rfl
  | (intro _ _; exact True.intro)
  | (intro _ _; with_reducible rfl)
  | (intro _ _; rfl)
  | (simp only [IntKind.min, IntKind.max, IntKind.signed, IntKind.bits, if_true]; omega)
  | omega
  | (intro h; exact h)
  | (intro h; cases h; done)
  | exact .inl rfl
  | exact .inl True.intro
  | exact .inr rfl
  | (simp; done)
end Go.Proofs.YtlakhciklfkocaaGreat
namespace Go.Proofs.YtlakhciklfkocaaGreat
open Go Sy Go.Proofs
noncomputable def bdAdd (n more most : Int) : Bd := { f := Tryz.f46, args := [.int .i64 n, .int .i64 more, .int .i64 most], kb := kb0 }
def addS (n more most : Int) : Int := if most < n ∨ most < more ∨ most - more < n then most + 1 else n + more
/-- How much is counted of requests, of batches. -/
def lightR (n0 : Int) (r : Nat → SReq) : Nat → Int
 | 0 => n0
 | k + 1 => addS (addS (lightR n0 r k) 20 4000) (r k).data.size 4000
/-- One batch: as long as it isn't too much. -/
def light1I (b : SBatch) (n0 : Int) (k : Nat) : St := ⟨mkT 47 [(0, .sl (.o 0) 2 0 0 0 1 (some 1)), (3, .int .i64 (lightR n0 b.req k)), (4, .int .i64 0), (5, .int .i64 k)], [(.o 0, .rows 2 1 (getL [b.c]) false)], 1, []⟩
def dbAdd : Nat → List V → Heap → Nat → List Cl
 | 46, [.int _ a, .int _ c, _], _, _ => [{ val := .int .i64 (addS a c 4000) }]
 | _, _, _, _ => []
def lpLight (b : SBatch) (m : Nat) : Nat → St → List (Prop × Hint)
 | 0, _ => [(True, .rounds 2)]
 | _, _ => [(True, .loop (m + 1) (wTo (light1I b 5 0)) (.exit 2) (light1I b 5 m))]
noncomputable def pcLi (b : SBatch) (n0 : Int) (m k : Nat) : Pc := { c := cB (cB (cR (cR (cB (cL (cR (cB (cB (cR (cL (cR (cR (bodyOf Tryz.f10))))))))))))), st := light1I b n0 k, p := 1, kb := { db := dbAdd }, k := fun e _ => match e with
 | .normal => some (wTo (light1I b n0 (k + 1)))
 | _ => some (wTo (light1I b n0 m)) }
noncomputable def bdLight (b : SBatch) (m : Nat) : Bd := { f := Tryz.f10, args := [.sl (.o 0) 2 0 0 0 1 (some 1)], pre := [(.o 0, .rows 2 1 (getL [b.c]) false)], base := 1, kb := { db := dbAdd, lp := lpLight b m }, names := fun _ => [.o 0] }
end Go.Proofs.YtlakhciklfkocaaGreat
namespace Go.Proofs.YtlakhciklfkocaaGreat
open Go Sy Go.Proofs
theorem bdAdd_p111 (n : Int) (more : Int) (most : Int) :
  along Tryz.prog (bdAdd n more most) [true, true, true] = (some (.int .i64 (most + (1 : Int)), [], [decide (most < n) = true, q2, q2, InR IntKind.i64 (most + (1 : Int))]) : Option (V × Heap × List Prop)) := by kernel_rfl
theorem bdAdd_p011 (n : Int) (more : Int) (most : Int) :
  along Tryz.prog (bdAdd n more most) [false, true, true] = (some (.int .i64 (most + (1 : Int)), [], [decide (most < n) = false, decide (most < more) = true, q2, InR IntKind.i64 (most + (1 : Int))]) : Option (V × Heap × List Prop)) := by kernel_rfl
theorem bdAdd_p001 (n : Int) (more : Int) (most : Int) :
  along Tryz.prog (bdAdd n more most) [false, false, true] = (some (.int .i64 (most + (1 : Int)), [], [decide (most < n) = false, decide (most < more) = false, InR IntKind.i64 (most - more), decide (most - more < n) = true, InR IntKind.i64 (most + (1 : Int))]) : Option (V × Heap × List Prop)) := by kernel_rfl
theorem bdAdd_p000 (n : Int) (more : Int) (most : Int) :
  along Tryz.prog (bdAdd n more most) [false, false, false] = (some (.int .i64 (n + more), [], [decide (most < n) = false, decide (most < more) = false, InR IntKind.i64 (most - more), decide (most - more < n) = false, InR IntKind.i64 (n + more)]) : Option (V × Heap × List Prop)) := by kernel_rfl

theorem pcLi_p11 (b : SBatch) (n0 : Int) (m : Nat) (k : Nat) :
  alongPc Tryz.prog (pcLi b n0 m k) [true, true] = some (Exit.normal, St.mk [V.sl (Nm.o (0 : Nat)) (2 : Nat) (0 : Nat) (0 : Nat) (0 : Nat) (1 : Nat) (some (1 : Nat)), V.any, V.any, V.int IntKind.i64 (lightR n0 (SBatch.req b) (k + (1 : Nat))), V.int IntKind.i64 (0 : Int), V.int IntKind.i64 (↑(k + (1 : Nat)) : Int), V.any, V.any, V.any, V.any, V.any, V.any, V.any, V.any, V.any, V.any, V.any, V.any, V.any, V.any, V.any, V.any, V.any, V.any, V.any, V.any, V.any, V.any, V.any, V.any, V.any, V.any, V.any, V.any, V.any, V.any, V.any, V.any, V.any, V.any, V.any, V.any, V.any, V.any, V.any, V.any, V.any] [(Nm.o (0 : Nat), B.rows (2 : Nat) (1 : Nat) (getL [SBatch.c b]) false)] (1 : Nat) [], [(0 : Int) ≤ (0 : Int) ∧ (0 : Int) < (1 : Int), nat_lit 0 < (1 : Nat), decide ((↑k : Int) < (↑(SBatch.n b) : Int)) = true, decide (lightR n0 (SBatch.req b) k ≤ (4000 : Int)) = true, T Tryz.prog (46 : Nat) [V.int IntKind.i64 (lightR n0 (SBatch.req b) k), V.int IntKind.i64 (20 : Int), V.int IntKind.i64 (4000 : Int)] [] (V.int IntKind.i64 (addS (lightR n0 (SBatch.req b) k) (20 : Int) (4000 : Int))) [], (0 : Int) ≤ (0 : Int) ∧ (0 : Int) < (1 : Int), nat_lit 0 < (1 : Nat), (0 : Int) ≤ (↑k : Int) ∧ (↑k : Int) < (↑(SBatch.n b) : Int), T Tryz.prog (46 : Nat) [V.int IntKind.i64 (addS (lightR n0 (SBatch.req b) k) (20 : Int) (4000 : Int)), V.int IntKind.i64 (↑(ByteArray.size (SReq.data (SBatch.req b (Int.toNat (↑k : Int))))) : Int), V.int IntKind.i64 (4000 : Int)] [] (V.int IntKind.i64 (addS (addS (lightR n0 (SBatch.req b) k) (20 : Int) (4000 : Int)) (↑(ByteArray.size (SReq.data (SBatch.req b (Int.toNat (↑k : Int))))) : Int) (4000 : Int))) [], InR IntKind.i64 ((↑k : Int) + (1 : Int)), (1 : Nat) = (1 : Nat), ∀ (k : Nat), k < (1 : Nat) → getL [SBatch.c b] k = getL [SBatch.c b] k, false = false → false = false, (0 : Nat) = (0 : Nat), (0 : Nat) = (0 : Nat), (0 : Nat) = (0 : Nat), (1 : Nat) = (1 : Nat), some (1 : Nat) = none ∨ some (1 : Nat) = some (1 : Nat), addS (addS (lightR n0 (SBatch.req b) k) (20 : Int) (4000 : Int)) (↑(ByteArray.size (SReq.data (SBatch.req b (Int.toNat (↑k : Int))))) : Int) (4000 : Int) = lightR n0 (SBatch.req b) (k + (1 : Nat)), (0 : Int) = (0 : Int), (↑k : Int) + (1 : Int) = (↑(k + (1 : Nat)) : Int)]) := by kernel_rfl
theorem pcLi_p10 (b : SBatch) (n0 : Int) (m : Nat) (k : Nat) :
  alongPc Tryz.prog (pcLi b n0 m k) [true, false] = some (Exit.exit (2 : Nat), St.mk [V.sl (Nm.o (0 : Nat)) (2 : Nat) (0 : Nat) (0 : Nat) (0 : Nat) (1 : Nat) (some (1 : Nat)), V.any, V.any, V.int IntKind.i64 (lightR n0 (SBatch.req b) m), V.int IntKind.i64 (0 : Int), V.int IntKind.i64 (↑m : Int), V.any, V.any, V.any, V.any, V.any, V.any, V.any, V.any, V.any, V.any, V.any, V.any, V.any, V.any, V.any, V.any, V.any, V.any, V.any, V.any, V.any, V.any, V.any, V.any, V.any, V.any, V.any, V.any, V.any, V.any, V.any, V.any, V.any, V.any, V.any, V.any, V.any, V.any, V.any, V.any, V.any] [(Nm.o (0 : Nat), B.rows (2 : Nat) (1 : Nat) (getL [SBatch.c b]) false)] (1 : Nat) [], [(0 : Int) ≤ (0 : Int) ∧ (0 : Int) < (1 : Int), nat_lit 0 < (1 : Nat), decide ((↑k : Int) < (↑(SBatch.n b) : Int)) = true, decide (lightR n0 (SBatch.req b) k ≤ (4000 : Int)) = false, (1 : Nat) = (1 : Nat), ∀ (k : Nat), k < (1 : Nat) → getL [SBatch.c b] k = getL [SBatch.c b] k, false = false → false = false, (0 : Nat) = (0 : Nat), (0 : Nat) = (0 : Nat), (0 : Nat) = (0 : Nat), (1 : Nat) = (1 : Nat), some (1 : Nat) = none ∨ some (1 : Nat) = some (1 : Nat), lightR n0 (SBatch.req b) k = lightR n0 (SBatch.req b) m, (0 : Int) = (0 : Int), (↑k : Int) = (↑m : Int)]) := by kernel_rfl
theorem pcLi_p00 (b : SBatch) (n0 : Int) (m : Nat) (k : Nat) :
  alongPc Tryz.prog (pcLi b n0 m k) [false, false] = some (Exit.exit (2 : Nat), St.mk [V.sl (Nm.o (0 : Nat)) (2 : Nat) (0 : Nat) (0 : Nat) (0 : Nat) (1 : Nat) (some (1 : Nat)), V.any, V.any, V.int IntKind.i64 (lightR n0 (SBatch.req b) m), V.int IntKind.i64 (0 : Int), V.int IntKind.i64 (↑m : Int), V.any, V.any, V.any, V.any, V.any, V.any, V.any, V.any, V.any, V.any, V.any, V.any, V.any, V.any, V.any, V.any, V.any, V.any, V.any, V.any, V.any, V.any, V.any, V.any, V.any, V.any, V.any, V.any, V.any, V.any, V.any, V.any, V.any, V.any, V.any, V.any, V.any, V.any, V.any, V.any, V.any] [(Nm.o (0 : Nat), B.rows (2 : Nat) (1 : Nat) (getL [SBatch.c b]) false)] (1 : Nat) [], [(0 : Int) ≤ (0 : Int) ∧ (0 : Int) < (1 : Int), nat_lit 0 < (1 : Nat), decide ((↑k : Int) < (↑(SBatch.n b) : Int)) = false, false = false, (1 : Nat) = (1 : Nat), ∀ (k : Nat), k < (1 : Nat) → getL [SBatch.c b] k = getL [SBatch.c b] k, false = false → false = false, (0 : Nat) = (0 : Nat), (0 : Nat) = (0 : Nat), (0 : Nat) = (0 : Nat), (1 : Nat) = (1 : Nat), some (1 : Nat) = none ∨ some (1 : Nat) = some (1 : Nat), lightR n0 (SBatch.req b) k = lightR n0 (SBatch.req b) m, (0 : Int) = (0 : Int), (↑k : Int) = (↑m : Int)]) := by kernel_rfl

theorem bdLight_p1100 (b : SBatch) (m : Nat) :
  along Tryz.prog (bdLight b m) [true, true, false, false] = some (V.bool (decide (lightR (5 : Int) (SBatch.req b) m ≤ (4000 : Int))), [(Nm.o (0 : Nat), B.rows (2 : Nat) (1 : Nat) (getL [SBatch.c b]) false)], [true = true, true = true, T Tryz.prog (46 : Nat) [V.int IntKind.i64 (0 : Int), V.int IntKind.i64 (5 : Int), V.int IntKind.i64 (4000 : Int)] [] (V.int IntKind.i64 (5 : Int)) [], RLoop Tryz.prog none (1 : Nat) (cB (cB (cR (cR (cB (cL (cR (cB (cB (cR (cL (cR (cR (bodyOf (Bd.f (bdLight b m)))))))))))))))) (m + (1 : Nat)) (St.mk [V.sl (Nm.o (0 : Nat)) (2 : Nat) (0 : Nat) (0 : Nat) (0 : Nat) (1 : Nat) (some (1 : Nat)), V.any, V.any, V.int IntKind.i64 (5 : Int), V.int IntKind.i64 (0 : Int), V.int IntKind.i64 (0 : Int), V.any, V.any, V.any, V.any, V.any, V.any, V.any, V.any, V.any, V.any, V.any, V.any, V.any, V.any, V.any, V.any, V.any, V.any, V.any, V.any, V.any, V.any, V.any, V.any, V.any, V.any, V.any, V.any, V.any, V.any, V.any, V.any, V.any, V.any, V.any, V.any, V.any, V.any, V.any, V.any, V.any] [(Nm.o (0 : Nat), B.rows (2 : Nat) (1 : Nat) (getL [SBatch.c b]) false)] (1 : Nat) []) (Exit.exit (2 : Nat)) (St.mk [V.sl (Nm.o (0 : Nat)) (2 : Nat) (0 : Nat) (0 : Nat) (0 : Nat) (1 : Nat) (some (1 : Nat)), V.any, V.any, V.int IntKind.i64 (lightR (5 : Int) (SBatch.req b) m), V.int IntKind.i64 (0 : Int), V.int IntKind.i64 (↑m : Int), V.any, V.any, V.any, V.any, V.any, V.any, V.any, V.any, V.any, V.any, V.any, V.any, V.any, V.any, V.any, V.any, V.any, V.any, V.any, V.any, V.any, V.any, V.any, V.any, V.any, V.any, V.any, V.any, V.any, V.any, V.any, V.any, V.any, V.any, V.any, V.any, V.any, V.any, V.any, V.any, V.any] [(Nm.o (0 : Nat), B.rows (2 : Nat) (1 : Nat) (getL [SBatch.c b]) false)] (1 : Nat) []), (1 : Nat) = (1 : Nat), ∀ (k : Nat), k < (1 : Nat) → getL [SBatch.c b] k = getL [SBatch.c b] k, false = false → false = false, (0 : Nat) = (0 : Nat), (0 : Nat) = (0 : Nat), (0 : Nat) = (0 : Nat), (1 : Nat) = (1 : Nat), some (1 : Nat) = none ∨ some (1 : Nat) = some (1 : Nat), (5 : Int) = (5 : Int), (0 : Int) = (0 : Int), (0 : Int) = (0 : Int), InR IntKind.i64 (1 : Int), false = false, false = false]) := by kernel_rfl

theorem T_add {n more : Int} (h1 : 0 ≤ n) (h2 : 0 ≤ more) (h3 : more ≤ 9223372036854775807) : T Tryz.prog 46 [.int .i64 n, .int .i64 more, .int .i64 4000] [] (.int .i64 (addS n more 4000)) [] := by
 by_cases a : (4000 : Int) < n
 ·exact T.val (T_al (bdAdd_p111 n more 4000) Tryz.func46 (by simp [All, InR64, a])) (by simp [addS, a])
 by_cases b : (4000 : Int) < more
 ·exact T.val (T_al (bdAdd_p011 n more 4000) Tryz.func46 (by simp [All, InR64, a, b] <;> omega)) (by simp [addS, b])
 by_cases c : (4000 : Int) - more < n
 ·exact T.val (T_al (bdAdd_p001 n more 4000) Tryz.func46 (by simp [All, InR64, a, b, c] <;> omega)) (by simp [addS, c])
 ·exact T.val (T_al (bdAdd_p000 n more 4000) Tryz.func46 (by simp [All, InR64, a, b, c] <;> omega)) (by simp [addS, a, b, c])

theorem exists_stop (p : Nat → Prop) : ∀ n, ∃ m, m ≤ n ∧ (∀ k, k < m → p k) ∧ (m = n ∨ ¬ p m)
 | 0 => ⟨0, Nat.le_refl _, fun k h => absurd h (Nat.not_lt_zero k), .inl rfl⟩
 | n + 1 => by
  obtain ⟨m, h1, h2, h3⟩ := exists_stop p n
  rcases h3 with rfl | h3
  ·by_cases h : p m
   ·refine ⟨m + 1, Nat.le_refl _, fun k hk => ?_, .inl rfl⟩
    rcases Nat.lt_or_ge k m with h4 | h4
    ·exact h2 k h4
    ·have : k = m := by omega
     subst this; exact h
   ·exact ⟨m, Nat.le_succ _, h2, .inr h⟩
  ·exact ⟨m, Nat.le_succ_of_le h1, h2, .inr h3⟩

theorem addS_range {n more : Int} (h1 : 0 ≤ n) (h2 : 0 ≤ more) : 0 ≤ addS n more 4000 ∧ addS n more 4000 ≤ 4001 := by
 unfold addS; split <;> omega
theorem addS_le {n more : Int} (h : addS n more 4000 ≤ 4000) : n ≤ 4000 ∧ more ≤ 4000 ∧ addS n more 4000 = n + more := by
 unfold addS at h ⊢; split at h
 ·omega
 ·rename_i h'; simp only [not_or, Int.not_lt] at h'; rw [if_neg (by omega)]; omega
theorem lightR_range {n0 : Int} (h : 0 ≤ n0 ∧ n0 ≤ 4001) (r : Nat → SReq) : ∀ k, 0 ≤ lightR n0 r k ∧ lightR n0 r k ≤ 4001
 | 0 => h
 | k + 1 => by
  rw [lightR]
  exact addS_range (addS_range (lightR_range h r k).1 (by decide)).1 (by omega)
theorem lightR_up {n0 : Int} (r : Nat → SReq) : ∀ k, lightR n0 r k ≤ 4000 → n0 + 20 * k ≤ lightR n0 r k
 | 0, _ => by simp [lightR]
 | k + 1, h => by
  rw [lightR] at h ⊢
  have h1 := addS_le h
  have h2 := addS_le h1.1
  have := lightR_up r k h2.1
  rw [h1.2.2, h2.2.2]; omega
theorem lightR_over {n0 : Int} (r : Nat → SReq) {m : Nat} : ∀ k, m ≤ k → lightR n0 r k ≤ 4000 → lightR n0 r m ≤ 4000
 | 0, h, h1 => by have : m = 0 := by omega
                  subst this; exact h1
 | k + 1, h, h1 => by
  rcases Nat.lt_or_ge m (k + 1) with h2 | h2
  ·rw [lightR] at h1
   exact lightR_over r k (by omega) (addS_le (addS_le h1).1).1
  ·have : m = k + 1 := by omega
   subst this; exact h1
/-- Is a batch not too much? -/
def lightB (b : SBatch) : Bool := decide (lightR 5 b.req b.n ≤ 4000)
theorem lightB_n {b : SBatch} (h : lightB b = true) : b.n ≤ 200 := by
 have := of_decide_eq_true h
 have := lightR_up b.req b.n this
 omega

theorem L_li (b : SBatch) {m : Nat} (hm : m ≤ b.n) (hd : ∀ k, k < b.n → (b.req k).data.size ≤ 9223372036854775807) (h1 : ∀ k, k < m → lightR 5 b.req k ≤ 4000) (h2 : m = b.n ∨ ¬ lightR 5 b.req m ≤ 4000) (hn : b.n ≤ 9223372036854775807) :
  RLoop Tryz.prog none 1 (cB (cB (cR (cR (cB (cL (cR (cB (cB (cR (cL (cR (cR (bodyOf Tryz.f10)))))))))))))) (m + 1) (light1I b 5 0) (.exit 2) (light1I b 5 m) :=
 RLoop.inv (light1I b 5) m (fun k hk => by
  have h3 := h1 k hk
  have hkn : k < b.n := by omega
  have h4 := lightR_range (n0 := 5) (by decide) b.req k
  have h5 := addS_range h4.1 (more := 20) (by decide)
  have hdk : (((b.req (Int.toNat (k : Int))).data.size : Nat) : Int) ≤ 9223372036854775807 := by
   have := hd k hkn
   rw [Int.toNat_natCast]; omega
  refine R_alongPc NG MO _ (pcLi_p11 b 5 m k) ?_ (Nat.le_refl _)
  simp only [All]
  and_intros
  all_goals first
   | exact T_add h4.1 (by decide) (by decide)
   | exact T_add h5.1 (by omega) hdk
   | (simp [h3, hkn, lightR, IntKind.min, IntKind.max, IntKind.signed, IntKind.bits] <;> omega))
  (by
   rcases h2 with h2 | h2
   ·refine R_alongPc NG MO _ (pcLi_p00 b 5 m m) ?_ (Nat.le_refl _)
    simp [All, h2]
   ·by_cases h3 : m < b.n
    ·refine R_alongPc NG MO _ (pcLi_p10 b 5 m m) ?_ (Nat.le_refl _)
     simp [All, h2, h3]
    ·refine R_alongPc NG MO _ (pcLi_p00 b 5 m m) ?_ (Nat.le_refl _)
     simp [All, h3]) (by simp)
theorem T_light0 (b : SBatch) (hd : ∀ k, k < b.n → (b.req k).data.size ≤ 9223372036854775807) (hn : b.n ≤ 9223372036854775807) :
  T Tryz.prog 10 [.sl (.o 0) 2 0 0 0 1 (some 1)] [(.o 0, .rows 2 1 (getL [b.c]) false)] (.bool (lightB b)) [(.o 0, .rows 2 1 (getL [b.c]) false)] := by
 obtain ⟨m, h1, h2, h3⟩ := exists_stop (fun k => lightR 5 b.req k ≤ 4000) b.n
 refine T.bool (T_al (bdLight_p1100 b m) Tryz.func10 ?_) ?_
 ·simp only [All]
  and_intros
  all_goals first
   | exact T_add (n := 0) (more := 5) (by decide) (by decide) (by decide)
   | exact L_li b h1 hd h2 h3 hn
   | simp [IntKind.min, IntKind.max, IntKind.signed, IntKind.bits]
 ·unfold lightB
  rw [decide_eq_decide]
  rcases h3 with rfl | h3
  ·exact Iff.rfl
  ·exact ⟨fun h => absurd h h3, fun h => lightR_over b.req b.n h1 h⟩
theorem T_light (b : SBatch) (hd : ∀ k, k < b.n → (b.req k).data.size ≤ 9223372036854775807) (hn : b.n ≤ 9223372036854775807) (a : Nat) :
  T Tryz.prog 10 [.sl (.o a) 2 0 0 0 1 (some 1)] [(.o a, .rows 2 1 (getL [b.c]) false)] (.bool (lightB b)) [(.o a, .rows 2 1 (getL [b.c]) false)] :=
 T.conv (T.swap (.o 0) (.o a) (T_light0 b hd hn)) (by simp [V.rens, V.ren, Nm.swap]) (by simp [Heap.ren, B.ren, Nm.swap]) (by simp [V.ren]) (by simp [Heap.ren, B.ren, Nm.swap])
end Go.Proofs.YtlakhciklfkocaaGreat
namespace Go.Proofs.YtlakhciklfkocaaGreat
open Go Sy Go.Proofs
def mkC (e : SEp) (lead v : Int) (hs : List SHeld) : SChg := ⟨e.num, lead, v + 1, hs.length, fun g => hs.getD g {}⟩
def csl (a n : Nat) : V := .sl (.o a) 4 0 0 0 n none
def clB (n : Nat) (x : Nat → SChg) : B := .rows 4 n (fun i => (x i).c) true
/-- What all rounds have. -/
structure SCs where
 e : SEp := {}
 lead : Int := 0
 sl : List Int := []
 s : Int := 0
 v : Int := 0
 b : SBatch := {}
 held : SHeld := {}
 m : Nat := 0
 lie : Nat → SHeld := fun _ => {}
 N : Nat := 0
 H : Nat → Bool := fun _ => false
 A : Nat → Bool := fun _ => false
def caT (g : SCs) (k : Nat) (left : Int) (i : Nat) (y : List (Nat × V)) : List V := mkT 220 ([(7, hl g.m g.lie), (8, pO 0), (12, pO 1), (18, .int .i64 g.lead), (19, lr g.sl), (20, .int .i64 g.s), (21, .int .i64 g.v), (22, pO 2), (23, sX 3 g.N), (24, csl 4 k), (25, .int .i64 left), (112, sX 5 g.N), (113, .int .i64 (g.N : Nat)), (114, .int .i64 (i : Nat))] ++ y)
def caH (g : SCs) (k : Nat) (x : Nat → SChg) : Heap := [(.o 0, .flat g.e.c), (.o 1, .flat g.b.c), (.o 2, .flat g.held.c), (.o 3, bB g.N g.H), (.o 4, clB k x), (.o 5, bB g.N g.A)]
def caI (g : SCs) (k : Nat) (x : Nat → SChg) (left : Int) (i : Nat) : St := ⟨caT g k left i [], caH g k x, 6, []⟩
def caM (g : SCs) (k : Nat) (x : Nat → SChg) (left : Int) (i : Nat) (y : SChg) : St := ⟨caT g k left i [(28, pO 6)], caH g k x ++ [(.o 6, .flat y.c)], 7, []⟩
noncomputable def pcCa (g : SCs) (k : Nat) (x : Nat → SChg) (left : Int) (i : Nat) (y : SChg) (left2 : Int) (x2 : Nat → SChg) (k2 : Nat) : Pc := { c := cB (cB (cR (cL (cR (cR (cR (cR (cR (cR (cR (cR (cR (cR (cR (bodyOf Tryz.f3)))))))))))))))  , st := caI g k x left i, kb := { db := fun _ _ _ _ => [], fx := fun id t => bif Nat.beq id 27 then [.wk (wToS [(.o 6, nmV (getV t.tmps 28))] (caM g k x left2 i y))] else [] }, k := fun x_ t => match x_ with
 | .normal => some (wToS [(.o 4, nmV (getV t.tmps 24))] (caI g k2 x2 left2 (i + 1)))
 | _ => some (wTo (caI g k x left i)) }
def cfI (sl : List Int) (s : Int) (b : SBatch) (n : Nat) (O : Nat → SBatch) (i : Nat) : St := ⟨mkT 220 [(12, pO 0), (20, .int .i64 s), (30, bsl 1 n), (193, lr sl), (194, .int .i64 (sl.length : Nat)), (195, .int .i64 (i : Nat))], [(.o 0, .flat b.c), (.o 1, bsB n O)], 2, []⟩
noncomputable def pcCf (sl : List Int) (s : Int) (b : SBatch) (n : Nat) (O : Nat → SBatch) (i : Nat) : Pc := { c := cB (cB (cR (cL (cR (cR (cR (cR (cR (cR (cR (cR (cR (cR (cR (cR (cR (bodyOf Tryz.f3))))))))))))))))), st := cfI sl s b n O i, kb := { db := dbQ [(17, cVal (.bool true))] }, k := fun x_ _ => match x_ with
 | .normal => some (wTo (cfI sl s b n O (i + 1)))
 | _ => some (wTo (cfI sl s b n O i)) }
end Go.Proofs.YtlakhciklfkocaaGreat
