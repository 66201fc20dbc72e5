/-
  Contracts and laws that the claim's theorem leans on, joined out of the texts Tb2 Tb3D Tb3 Tb4D Tb4 Te0 Te1 Te2 (own work of this seat): Contracts: lists, certs and what was held are read; Contracts: certs, what was held and a message's fields are read; Contracts: certs, what was held and a message's fields are read; Contracts: a message is read; Contracts: a message is read; The plain law: what is put is read again, what is read was put. Numbers, texts, raw bytes; The plain law: texts, raw bytes, requests, batches, signs, envelopes, votes, lists; The plain law: signs, envelopes, votes, batches, certs, what was held.
-/
import Derived.Test.YtnmccoincblecaaGreatC08
set_option linter.unusedVariables false
set_option linter.unusedSimpArgs false
set_option maxHeartbeats 1000000
namespace Go.Proofs.YtnmccoincblecaaGreat
open Go Sy Go.Proofs
theorem bdGtSg_p (most : Int) (n : Nat) (m : Nat) (el : Nat → SSign) (st : Nat → RS) (s : RS) :
  along Tryz.prog (bdGtSg most n m el st s) [] = (some (.ros 17 m (fun i => SSign.c (el i)) false, [(.o 0, .flat [.ptr (.o 1) 0 0 0 0, .bool (RS.bad (st m))]), (.o 1, rdB (st m))], [T Tryz.prog 25 [.ptr (.o 1) 0 0 0 0, .int .i64 most] [(.o 1, rdB s)] (.int .i64 ↑n) [(.o 1, rdB (st 0))], RLoop Tryz.prog none 2 (cB (cB (cR (cL (cR (bodyOf (Bd.f (bdGtSg most n m el st s)))))))) (m + 1) (St.mk [.ptr (.o 0) 0 0 0 0, .any, .fn (.func (116 : FuncId)) [.ptr (.o 0) 0 0 0 0] [], .any, .any, .any, .sl (.o 2) 17 0 0 0 0 none, .any, .any, .any, .any, .any, .int .i64 ↑n, .int .i64 0, .any, .any, .any, .any, .any, .any, .any, .any, .any, .any, .any, .any, .any, .any] [(.o 0, .flat [.ptr (.o 1) 0 0 0 0, .bool (RS.bad (st 0))]), (.o 1, rdB (st 0)), (.o 2, .rows 17 0 (fun i => SSign.c (el i)) true)] 3 []) (.exit 0) (St.mk [.ptr (.o 0) 0 0 0 0, .any, .fn (.func (116 : FuncId)) [.ptr (.o 0) 0 0 0 0] [], .any, .any, .any, .sl (.o 2) 17 0 0 0 m none, .any, .any, .any, .any, .any, .int .i64 ↑n, .int .i64 ↑m, .any, .any, .any, .any, .any, .any, .any, .any, .any, .any, .any, .any, .any, .any] [(.o 0, .flat [.ptr (.o 1) 0 0 0 0, .bool (RS.bad (st m))]), (.o 1, rdB (st m)), (.o 2, .rows 17 m (fun i => SSign.c (el i)) true)] 3 []), q0, q0, q0, RS.bad s = RS.bad (st (0 : Nat)), q (List.length (RS.l (st (0 : Nat)))), ∀ (k : Nat), k < List.length (RS.l (st (0 : Nat))) → bl (RS.l (st (0 : Nat))) k = bl (RS.l (st (0 : Nat))) k, false = true → false = true, q (RS.e (st (0 : Nat))), q2, q0, ∀ (k : Nat), k < (0 : Nat) → [] = SSign.c (el k), true = false → true = false, q0, q0, q0, q0, q0, q0, q0, q0, q0, q0, (none : Option Nat) = none ∨ (none : Option Nat) = none, q (↑n : Int), q1, q0, q0, q0, q (RS.bad (st m)), q (List.length (RS.l (st m))), ∀ (k : Nat), k < List.length (RS.l (st m)) → bl (RS.l (st m)) k = bl (RS.l (st m)) k, false = true → false = true, q (RS.e (st m)), q2, q m, (0 : Nat) + m ≤ m, ∀ (k : Nat), k < m → SSign.c (el ((0 : Nat) + k)) = SSign.c (el k), false = true → none = some m]) : Option (V × Heap × List Prop)) := by kernel_rfl

theorem pcGtSg_p11 (n : Nat) (el : Nat → SSign) (st : Nat → RS) (k : Nat) :
  alongPc Tryz.prog (pcGtSg n el st k) [true, true] = (some (.exit 0, St.mk [.ptr (.o 0) 0 0 0 0, .any, .fn (.func (116 : FuncId)) [.ptr (.o 0) 0 0 0 0] [], .any, .any, .any, .sl (.o 2) 17 0 0 0 k none, .any, .any, .any, .any, .any, .int .i64 ↑n, .int .i64 ↑k, .any, .any, .any, .any, .any, .any, .any, .any, .any, .any, .any, .any, .any, .any] [(.o 0, .flat [.ptr (.o 1) 0 0 0 0, .bool (RS.bad (st k))]), (.o 1, rdB (st k)), (.o 2, .rows 17 k (fun i => SSign.c (el i)) true)] 3 [], [decide ((↑k : Int) < (↑n : Int)) = true, T Tryz.prog 78 [.ptr (.o 1) 0 0 0 0] [(.o 1, rdB (st k))] (.int .i64 (RS.e (st k))) [(.o 1, rdB (st k))], (!decide (RS.e (st k) = (0 : Int))) = true, q0, q0, q0, q (RS.bad (st k)), q (List.length (RS.l (st k))), ∀ (k_1 : Nat), k_1 < List.length (RS.l (st k)) → bl (RS.l (st k)) k_1 = bl (RS.l (st k)) k_1, false = true → false = true, q (RS.e (st k)), q2, q k, ∀ (k_1 : Nat), k_1 < k → SSign.c (el k_1) = SSign.c (el k_1), true = false → true = false, q0, q0, q0, q0, q0, q0, q0, q0, q0, q k, (none : Option Nat) = none ∨ (none : Option Nat) = none, q (↑n : Int), q (↑k : Int)]) : Option (Exit × St × List Prop)) := by kernel_rfl
theorem pcGtSg_p10 (n : Nat) (el : Nat → SSign) (st : Nat → RS) (k : Nat) :
  alongPc Tryz.prog (pcGtSg n el st k) [true, false] = (some (.normal, St.mk [.ptr (.o 0) 0 0 0 0, .any, .fn (.func (116 : FuncId)) [.ptr (.o 0) 0 0 0 0] [], .any, .any, .any, .sl (.o 2) 17 0 0 0 (k + 1) none, .any, .any, .any, .any, .any, .int .i64 ↑n, .int .i64 (↑(k + 1) : Int), .any, .any, .any, .any, .any, .any, .any, .any, .any, .any, .any, .any, .any, .any] [(.o 0, .flat [.ptr (.o 1) 0 0 0 0, .bool (RS.bad (st (k + 1)))]), (.o 1, rdB (st (k + 1))), (.o 2, .rows 17 (k + 1) (fun i => SSign.c (el i)) true)] 3 [], [decide ((↑k : Int) < (↑n : Int)) = true, T Tryz.prog 78 [.ptr (.o 1) 0 0 0 0] [(.o 1, rdB (st k))] (.int .i64 (RS.e (st k))) [(.o 1, rdB (st k))], (!decide (RS.e (st k) = (0 : Int))) = false, T Tryz.prog (116 : FuncId) [.ptr (.o 0) 0 0 0 0] [(.o 0, .flat [.ptr (.o 1) 0 0 0 0, .bool (RS.bad (st k))]), (.o 1, rdB (st k))] (.agg (SSign.c (el k))) [(.o 0, .flat [.ptr (.o 1) 0 0 0 0, .bool (RS.bad (st (k + 1)))]), (.o 1, rdB (st (k + 1)))], q k, nat_lit 1 ≤ (1 : Nat), ∀ (k_1 : Nat), k_1 < (1 : Nat) → solid (getL [[V.int IntKind.i64 (SSign.node (el k)), V.seg IntKind.u8 (16 : Nat) (SSign.tag (el k))]] ((0 : Nat) + k_1)) = true, (k + (1 : Nat)) * (24 : Nat) ≤ (140737488355328 : Nat), InR IntKind.i64 ((↑k : Int) + (1 : Int)), q0, q0, q0, q (RS.bad (st (k + (1 : Nat)))), q (List.length (RS.l (st (k + (1 : Nat))))), ∀ (k_1 : Nat), k_1 < List.length (RS.l (st (k + (1 : Nat)))) → bl (RS.l (st (k + (1 : Nat)))) k_1 = bl (RS.l (st (k + (1 : Nat)))) k_1, false = true → false = true, q (RS.e (st (k + (1 : Nat)))), q2, q (k + (1 : Nat)), ∀ (k_1 : Nat), k_1 < k + (1 : Nat) → catF k (fun i => SSign.c (el i)) (fun k_2 => getL [[V.int IntKind.i64 (SSign.node (el k)), V.seg IntKind.u8 (16 : Nat) (SSign.tag (el k))]] ((0 : Nat) + k_2)) k_1 = SSign.c (el k_1), true = false → true = false, q0, q0, q0, q0, q0, q0, q0, q0, q0, q (k + (1 : Nat)), (none : Option Nat) = none ∨ (none : Option Nat) = none, q (↑n : Int), (↑k : Int) + (1 : Int) = (↑(k + (1 : Nat)) : Int)]) : Option (Exit × St × List Prop)) := by kernel_rfl
theorem pcGtSg_p0 (n : Nat) (el : Nat → SSign) (st : Nat → RS) (k : Nat) :
  alongPc Tryz.prog (pcGtSg n el st k) [false] = (some (.exit 0, St.mk [.ptr (.o 0) 0 0 0 0, .any, .fn (.func (116 : FuncId)) [.ptr (.o 0) 0 0 0 0] [], .any, .any, .any, .sl (.o 2) 17 0 0 0 k none, .any, .any, .any, .any, .any, .int .i64 ↑n, .int .i64 ↑k, .any, .any, .any, .any, .any, .any, .any, .any, .any, .any, .any, .any, .any, .any] [(.o 0, .flat [.ptr (.o 1) 0 0 0 0, .bool (RS.bad (st k))]), (.o 1, rdB (st k)), (.o 2, .rows 17 k (fun i => SSign.c (el i)) true)] 3 [], [decide ((↑k : Int) < (↑n : Int)) = false, q0, q0, q0, q (RS.bad (st k)), q (List.length (RS.l (st k))), ∀ (k_1 : Nat), k_1 < List.length (RS.l (st k)) → bl (RS.l (st k)) k_1 = bl (RS.l (st k)) k_1, false = true → false = true, q (RS.e (st k)), q2, q k, ∀ (k_1 : Nat), k_1 < k → SSign.c (el k_1) = SSign.c (el k_1), true = false → true = false, q0, q0, q0, q0, q0, q0, q0, q0, q0, q k, (none : Option Nat) = none ∨ (none : Option Nat) = none, q (↑n : Int), q (↑k : Int)]) : Option (Exit × St × List Prop)) := by kernel_rfl

theorem bdGtNw_p (most : Int) (n : Nat) (m : Nat) (el : Nat → SEnv) (st : Nat → RS) (s : RS) :
  along Tryz.prog (bdGtNw most n m el st s) [] = (some (.ros 18 m (fun i => SEnv.c (el i)) false, [(.o 0, .flat [.ptr (.o 1) 0 0 0 0, .bool (RS.bad (st m))]), (.o 1, rdB (st m))], [T Tryz.prog 25 [.ptr (.o 1) 0 0 0 0, .int .i64 most] [(.o 1, rdB s)] (.int .i64 ↑n) [(.o 1, rdB (st 0))], RLoop Tryz.prog none 2 (cB (cB (cR (cL (cR (bodyOf (Bd.f (bdGtNw most n m el st s)))))))) (m + 1) (St.mk [.ptr (.o 0) 0 0 0 0, .any, .fn (.func (112 : FuncId)) [.ptr (.o 0) 0 0 0 0] [], .any, .any, .any, .sl (.o 2) 18 0 0 0 0 none, .any, .any, .any, .any, .any, .int .i64 ↑n, .int .i64 0, .any, .any, .any, .any, .any, .any, .any, .any, .any, .any, .any, .any, .any, .any] [(.o 0, .flat [.ptr (.o 1) 0 0 0 0, .bool (RS.bad (st 0))]), (.o 1, rdB (st 0)), (.o 2, .rows 18 0 (fun i => SEnv.c (el i)) true)] 3 []) (.exit 0) (St.mk [.ptr (.o 0) 0 0 0 0, .any, .fn (.func (112 : FuncId)) [.ptr (.o 0) 0 0 0 0] [], .any, .any, .any, .sl (.o 2) 18 0 0 0 m none, .any, .any, .any, .any, .any, .int .i64 ↑n, .int .i64 ↑m, .any, .any, .any, .any, .any, .any, .any, .any, .any, .any, .any, .any, .any, .any] [(.o 0, .flat [.ptr (.o 1) 0 0 0 0, .bool (RS.bad (st m))]), (.o 1, rdB (st m)), (.o 2, .rows 18 m (fun i => SEnv.c (el i)) true)] 3 []), q0, q0, q0, RS.bad s = RS.bad (st (0 : Nat)), q (List.length (RS.l (st (0 : Nat)))), ∀ (k : Nat), k < List.length (RS.l (st (0 : Nat))) → bl (RS.l (st (0 : Nat))) k = bl (RS.l (st (0 : Nat))) k, false = true → false = true, q (RS.e (st (0 : Nat))), q2, q0, ∀ (k : Nat), k < (0 : Nat) → [] = SEnv.c (el k), true = false → true = false, q0, q0, q0, q0, q0, q0, q0, q0, q0, q0, (none : Option Nat) = none ∨ (none : Option Nat) = none, q (↑n : Int), q1, q0, q0, q0, q (RS.bad (st m)), q (List.length (RS.l (st m))), ∀ (k : Nat), k < List.length (RS.l (st m)) → bl (RS.l (st m)) k = bl (RS.l (st m)) k, false = true → false = true, q (RS.e (st m)), q2, q m, (0 : Nat) + m ≤ m, ∀ (k : Nat), k < m → SEnv.c (el ((0 : Nat) + k)) = SEnv.c (el k), false = true → none = some m]) : Option (V × Heap × List Prop)) := by kernel_rfl

theorem pcGtNw_p11 (n : Nat) (el : Nat → SEnv) (st : Nat → RS) (k : Nat) :
  alongPc Tryz.prog (pcGtNw n el st k) [true, true] = (some (.exit 0, St.mk [.ptr (.o 0) 0 0 0 0, .any, .fn (.func (112 : FuncId)) [.ptr (.o 0) 0 0 0 0] [], .any, .any, .any, .sl (.o 2) 18 0 0 0 k none, .any, .any, .any, .any, .any, .int .i64 ↑n, .int .i64 ↑k, .any, .any, .any, .any, .any, .any, .any, .any, .any, .any, .any, .any, .any, .any] [(.o 0, .flat [.ptr (.o 1) 0 0 0 0, .bool (RS.bad (st k))]), (.o 1, rdB (st k)), (.o 2, .rows 18 k (fun i => SEnv.c (el i)) true)] 3 [], [decide ((↑k : Int) < (↑n : Int)) = true, T Tryz.prog 78 [.ptr (.o 1) 0 0 0 0] [(.o 1, rdB (st k))] (.int .i64 (RS.e (st k))) [(.o 1, rdB (st k))], (!decide (RS.e (st k) = (0 : Int))) = true, q0, q0, q0, q (RS.bad (st k)), q (List.length (RS.l (st k))), ∀ (k_1 : Nat), k_1 < List.length (RS.l (st k)) → bl (RS.l (st k)) k_1 = bl (RS.l (st k)) k_1, false = true → false = true, q (RS.e (st k)), q2, q k, ∀ (k_1 : Nat), k_1 < k → SEnv.c (el k_1) = SEnv.c (el k_1), true = false → true = false, q0, q0, q0, q0, q0, q0, q0, q0, q0, q k, (none : Option Nat) = none ∨ (none : Option Nat) = none, q (↑n : Int), q (↑k : Int)]) : Option (Exit × St × List Prop)) := by kernel_rfl
theorem pcGtNw_p10 (n : Nat) (el : Nat → SEnv) (st : Nat → RS) (k : Nat) :
  alongPc Tryz.prog (pcGtNw n el st k) [true, false] = (some (.normal, St.mk [.ptr (.o 0) 0 0 0 0, .any, .fn (.func (112 : FuncId)) [.ptr (.o 0) 0 0 0 0] [], .any, .any, .any, .sl (.o 2) 18 0 0 0 (k + 1) none, .any, .any, .any, .any, .any, .int .i64 ↑n, .int .i64 (↑(k + 1) : Int), .any, .any, .any, .any, .any, .any, .any, .any, .any, .any, .any, .any, .any, .any] [(.o 0, .flat [.ptr (.o 1) 0 0 0 0, .bool (RS.bad (st (k + 1)))]), (.o 1, rdB (st (k + 1))), (.o 2, .rows 18 (k + 1) (fun i => SEnv.c (el i)) true)] 3 [], [decide ((↑k : Int) < (↑n : Int)) = true, T Tryz.prog 78 [.ptr (.o 1) 0 0 0 0] [(.o 1, rdB (st k))] (.int .i64 (RS.e (st k))) [(.o 1, rdB (st k))], (!decide (RS.e (st k) = (0 : Int))) = false, T Tryz.prog (112 : FuncId) [.ptr (.o 0) 0 0 0 0] [(.o 0, .flat [.ptr (.o 1) 0 0 0 0, .bool (RS.bad (st k))]), (.o 1, rdB (st k))] (.agg (SEnv.c (el k))) [(.o 0, .flat [.ptr (.o 1) 0 0 0 0, .bool (RS.bad (st (k + 1)))]), (.o 1, rdB (st (k + 1)))], q k, nat_lit 1 ≤ (1 : Nat), ∀ (k_1 : Nat), k_1 < (1 : Nat) → solid (getL [[V.int IntKind.i64 (SEnv.src (el k)), V.str (SEnv.body (el k)), V.seg IntKind.u8 (16 : Nat) (SEnv.tag (el k))]] ((0 : Nat) + k_1)) = true, (k + (1 : Nat)) * (40 : Nat) ≤ (140737488355328 : Nat), InR IntKind.i64 ((↑k : Int) + (1 : Int)), q0, q0, q0, q (RS.bad (st (k + (1 : Nat)))), q (List.length (RS.l (st (k + (1 : Nat))))), ∀ (k_1 : Nat), k_1 < List.length (RS.l (st (k + (1 : Nat)))) → bl (RS.l (st (k + (1 : Nat)))) k_1 = bl (RS.l (st (k + (1 : Nat)))) k_1, false = true → false = true, q (RS.e (st (k + (1 : Nat)))), q2, q (k + (1 : Nat)), ∀ (k_1 : Nat), k_1 < k + (1 : Nat) → catF k (fun i => SEnv.c (el i)) (fun k_2 => getL [[V.int IntKind.i64 (SEnv.src (el k)), V.str (SEnv.body (el k)), V.seg IntKind.u8 (16 : Nat) (SEnv.tag (el k))]] ((0 : Nat) + k_2)) k_1 = SEnv.c (el k_1), true = false → true = false, q0, q0, q0, q0, q0, q0, q0, q0, q0, q (k + (1 : Nat)), (none : Option Nat) = none ∨ (none : Option Nat) = none, q (↑n : Int), (↑k : Int) + (1 : Int) = (↑(k + (1 : Nat)) : Int)]) : Option (Exit × St × List Prop)) := by kernel_rfl
theorem pcGtNw_p0 (n : Nat) (el : Nat → SEnv) (st : Nat → RS) (k : Nat) :
  alongPc Tryz.prog (pcGtNw n el st k) [false] = (some (.exit 0, St.mk [.ptr (.o 0) 0 0 0 0, .any, .fn (.func (112 : FuncId)) [.ptr (.o 0) 0 0 0 0] [], .any, .any, .any, .sl (.o 2) 18 0 0 0 k none, .any, .any, .any, .any, .any, .int .i64 ↑n, .int .i64 ↑k, .any, .any, .any, .any, .any, .any, .any, .any, .any, .any, .any, .any, .any, .any] [(.o 0, .flat [.ptr (.o 1) 0 0 0 0, .bool (RS.bad (st k))]), (.o 1, rdB (st k)), (.o 2, .rows 18 k (fun i => SEnv.c (el i)) true)] 3 [], [decide ((↑k : Int) < (↑n : Int)) = false, q0, q0, q0, q (RS.bad (st k)), q (List.length (RS.l (st k))), ∀ (k_1 : Nat), k_1 < List.length (RS.l (st k)) → bl (RS.l (st k)) k_1 = bl (RS.l (st k)) k_1, false = true → false = true, q (RS.e (st k)), q2, q k, ∀ (k_1 : Nat), k_1 < k → SEnv.c (el k_1) = SEnv.c (el k_1), true = false → true = false, q0, q0, q0, q0, q0, q0, q0, q0, q0, q k, (none : Option Nat) = none ∨ (none : Option Nat) = none, q (↑n : Int), q (↑k : Int)]) : Option (Exit × St × List Prop)) := by kernel_rfl

theorem bdGtHl_p (most : Int) (n : Nat) (m : Nat) (el : Nat → SHeld) (st : Nat → RS) (s : RS) :
  along Tryz.prog (bdGtHl most n m el st s) [] = (some (.ros 39 m (fun i => SHeld.c (el i)) false, [(.o 0, .flat [.ptr (.o 1) 0 0 0 0, .bool (RS.bad (st m))]), (.o 1, rdB (st m))], [T Tryz.prog 25 [.ptr (.o 1) 0 0 0 0, .int .i64 most] [(.o 1, rdB s)] (.int .i64 ↑n) [(.o 1, rdB (st 0))], RLoop Tryz.prog none 2 (cB (cB (cR (cL (cR (bodyOf (Bd.f (bdGtHl most n m el st s)))))))) (m + 1) (St.mk [.ptr (.o 0) 0 0 0 0, .any, .fn (.func (110 : FuncId)) [.ptr (.o 0) 0 0 0 0] [], .any, .any, .any, .sl (.o 2) 39 0 0 0 0 none, .any, .any, .any, .any, .any, .int .i64 ↑n, .int .i64 0, .any, .any, .any, .any, .any, .any, .any, .any, .any, .any, .any, .any, .any, .any] [(.o 0, .flat [.ptr (.o 1) 0 0 0 0, .bool (RS.bad (st 0))]), (.o 1, rdB (st 0)), (.o 2, .rows 39 0 (fun i => SHeld.c (el i)) true)] 3 []) (.exit 0) (St.mk [.ptr (.o 0) 0 0 0 0, .any, .fn (.func (110 : FuncId)) [.ptr (.o 0) 0 0 0 0] [], .any, .any, .any, .sl (.o 2) 39 0 0 0 m none, .any, .any, .any, .any, .any, .int .i64 ↑n, .int .i64 ↑m, .any, .any, .any, .any, .any, .any, .any, .any, .any, .any, .any, .any, .any, .any] [(.o 0, .flat [.ptr (.o 1) 0 0 0 0, .bool (RS.bad (st m))]), (.o 1, rdB (st m)), (.o 2, .rows 39 m (fun i => SHeld.c (el i)) true)] 3 []), q0, q0, q0, RS.bad s = RS.bad (st (0 : Nat)), q (List.length (RS.l (st (0 : Nat)))), ∀ (k : Nat), k < List.length (RS.l (st (0 : Nat))) → bl (RS.l (st (0 : Nat))) k = bl (RS.l (st (0 : Nat))) k, false = true → false = true, q (RS.e (st (0 : Nat))), q2, q0, ∀ (k : Nat), k < (0 : Nat) → [] = SHeld.c (el k), true = false → true = false, q0, q0, q0, q0, q0, q0, q0, q0, q0, q0, (none : Option Nat) = none ∨ (none : Option Nat) = none, q (↑n : Int), q1, q0, q0, q0, q (RS.bad (st m)), q (List.length (RS.l (st m))), ∀ (k : Nat), k < List.length (RS.l (st m)) → bl (RS.l (st m)) k = bl (RS.l (st m)) k, false = true → false = true, q (RS.e (st m)), q2, q m, (0 : Nat) + m ≤ m, ∀ (k : Nat), k < m → SHeld.c (el ((0 : Nat) + k)) = SHeld.c (el k), false = true → none = some m]) : Option (V × Heap × List Prop)) := by kernel_rfl

theorem pcGtHl_p11 (n : Nat) (el : Nat → SHeld) (st : Nat → RS) (k : Nat) :
  alongPc Tryz.prog (pcGtHl n el st k) [true, true] = (some (.exit 0, St.mk [.ptr (.o 0) 0 0 0 0, .any, .fn (.func (110 : FuncId)) [.ptr (.o 0) 0 0 0 0] [], .any, .any, .any, .sl (.o 2) 39 0 0 0 k none, .any, .any, .any, .any, .any, .int .i64 ↑n, .int .i64 ↑k, .any, .any, .any, .any, .any, .any, .any, .any, .any, .any, .any, .any, .any, .any] [(.o 0, .flat [.ptr (.o 1) 0 0 0 0, .bool (RS.bad (st k))]), (.o 1, rdB (st k)), (.o 2, .rows 39 k (fun i => SHeld.c (el i)) true)] 3 [], [decide ((↑k : Int) < (↑n : Int)) = true, T Tryz.prog 78 [.ptr (.o 1) 0 0 0 0] [(.o 1, rdB (st k))] (.int .i64 (RS.e (st k))) [(.o 1, rdB (st k))], (!decide (RS.e (st k) = (0 : Int))) = true, q0, q0, q0, q (RS.bad (st k)), q (List.length (RS.l (st k))), ∀ (k_1 : Nat), k_1 < List.length (RS.l (st k)) → bl (RS.l (st k)) k_1 = bl (RS.l (st k)) k_1, false = true → false = true, q (RS.e (st k)), q2, q k, ∀ (k_1 : Nat), k_1 < k → SHeld.c (el k_1) = SHeld.c (el k_1), true = false → true = false, q0, q0, q0, q0, q0, q0, q0, q0, q0, q k, (none : Option Nat) = none ∨ (none : Option Nat) = none, q (↑n : Int), q (↑k : Int)]) : Option (Exit × St × List Prop)) := by kernel_rfl
theorem pcGtHl_p10 (n : Nat) (el : Nat → SHeld) (st : Nat → RS) (k : Nat) :
  alongPc Tryz.prog (pcGtHl n el st k) [true, false] = (some (.normal, St.mk [.ptr (.o 0) 0 0 0 0, .any, .fn (.func (110 : FuncId)) [.ptr (.o 0) 0 0 0 0] [], .any, .any, .any, .sl (.o 2) 39 0 0 0 (k + 1) none, .any, .any, .any, .any, .any, .int .i64 ↑n, .int .i64 (↑(k + 1) : Int), .any, .any, .any, .any, .any, .any, .any, .any, .any, .any, .any, .any, .any, .any] [(.o 0, .flat [.ptr (.o 1) 0 0 0 0, .bool (RS.bad (st (k + 1)))]), (.o 1, rdB (st (k + 1))), (.o 2, .rows 39 (k + 1) (fun i => SHeld.c (el i)) true)] 3 [], [decide ((↑k : Int) < (↑n : Int)) = true, T Tryz.prog 78 [.ptr (.o 1) 0 0 0 0] [(.o 1, rdB (st k))] (.int .i64 (RS.e (st k))) [(.o 1, rdB (st k))], (!decide (RS.e (st k) = (0 : Int))) = false, T Tryz.prog (110 : FuncId) [.ptr (.o 0) 0 0 0 0] [(.o 0, .flat [.ptr (.o 1) 0 0 0 0, .bool (RS.bad (st k))]), (.o 1, rdB (st k))] (.agg (SHeld.c (el k))) [(.o 0, .flat [.ptr (.o 1) 0 0 0 0, .bool (RS.bad (st (k + 1)))]), (.o 1, rdB (st (k + 1)))], q k, nat_lit 1 ≤ (1 : Nat), ∀ (k_1 : Nat), k_1 < (1 : Nat) → solid (getL [[V.bool (SBatch.noop (SHeld.batch (el k))), rq (SBatch.n (SHeld.batch (el k))) (SBatch.req (SHeld.batch (el k))), V.int IntKind.i64 (SVote.kind (SCert.vote (SHeld.cert (el k)))), V.int IntKind.i64 (SVote.epoch (SCert.vote (SHeld.cert (el k)))), V.int IntKind.i64 (SVote.view (SCert.vote (SHeld.cert (el k)))), V.int IntKind.i64 (SVote.slot (SCert.vote (SHeld.cert (el k)))), V.seg IntKind.u8 (32 : Nat) (SVote.digest (SCert.vote (SHeld.cert (el k)))), sg (SCert.n (SHeld.cert (el k))) (SCert.sig (SHeld.cert (el k)))]] ((0 : Nat) + k_1)) = true, (k + (1 : Nat)) * (120 : Nat) ≤ (140737488355328 : Nat), InR IntKind.i64 ((↑k : Int) + (1 : Int)), q0, q0, q0, q (RS.bad (st (k + (1 : Nat)))), q (List.length (RS.l (st (k + (1 : Nat))))), ∀ (k_1 : Nat), k_1 < List.length (RS.l (st (k + (1 : Nat)))) → bl (RS.l (st (k + (1 : Nat)))) k_1 = bl (RS.l (st (k + (1 : Nat)))) k_1, false = true → false = true, q (RS.e (st (k + (1 : Nat)))), q2, q (k + (1 : Nat)), ∀ (k_1 : Nat), k_1 < k + (1 : Nat) → catF k (fun i => SHeld.c (el i)) (fun k_2 => getL [[V.bool (SBatch.noop (SHeld.batch (el k))), rq (SBatch.n (SHeld.batch (el k))) (SBatch.req (SHeld.batch (el k))), V.int IntKind.i64 (SVote.kind (SCert.vote (SHeld.cert (el k)))), V.int IntKind.i64 (SVote.epoch (SCert.vote (SHeld.cert (el k)))), V.int IntKind.i64 (SVote.view (SCert.vote (SHeld.cert (el k)))), V.int IntKind.i64 (SVote.slot (SCert.vote (SHeld.cert (el k)))), V.seg IntKind.u8 (32 : Nat) (SVote.digest (SCert.vote (SHeld.cert (el k)))), sg (SCert.n (SHeld.cert (el k))) (SCert.sig (SHeld.cert (el k)))]] ((0 : Nat) + k_2)) k_1 = SHeld.c (el k_1), true = false → true = false, q0, q0, q0, q0, q0, q0, q0, q0, q0, q (k + (1 : Nat)), (none : Option Nat) = none ∨ (none : Option Nat) = none, q (↑n : Int), (↑k : Int) + (1 : Int) = (↑(k + (1 : Nat)) : Int)]) : Option (Exit × St × List Prop)) := by kernel_rfl
theorem pcGtHl_p0 (n : Nat) (el : Nat → SHeld) (st : Nat → RS) (k : Nat) :
  alongPc Tryz.prog (pcGtHl n el st k) [false] = (some (.exit 0, St.mk [.ptr (.o 0) 0 0 0 0, .any, .fn (.func (110 : FuncId)) [.ptr (.o 0) 0 0 0 0] [], .any, .any, .any, .sl (.o 2) 39 0 0 0 k none, .any, .any, .any, .any, .any, .int .i64 ↑n, .int .i64 ↑k, .any, .any, .any, .any, .any, .any, .any, .any, .any, .any, .any, .any, .any, .any] [(.o 0, .flat [.ptr (.o 1) 0 0 0 0, .bool (RS.bad (st k))]), (.o 1, rdB (st k)), (.o 2, .rows 39 k (fun i => SHeld.c (el i)) true)] 3 [], [decide ((↑k : Int) < (↑n : Int)) = false, q0, q0, q0, q (RS.bad (st k)), q (List.length (RS.l (st k))), ∀ (k_1 : Nat), k_1 < List.length (RS.l (st k)) → bl (RS.l (st k)) k_1 = bl (RS.l (st k)) k_1, false = true → false = true, q (RS.e (st k)), q2, q k, ∀ (k_1 : Nat), k_1 < k → SHeld.c (el k_1) = SHeld.c (el k_1), true = false → true = false, q0, q0, q0, q0, q0, q0, q0, q0, q0, q k, (none : Option Nat) = none ∨ (none : Option Nat) = none, q (↑n : Int), q (↑k : Int)]) : Option (Exit × St × List Prop)) := by kernel_rfl

theorem cntR_le {α : Type} (one : RS → α × RS) : ∀ n s, cntR one n s ≤ n
 | 0, _ => Nat.le_refl _
 | n + 1, s => by
  unfold cntR
  split
  ·have := cntR_le one n (one s).2; omega
  ·omega
theorem stR_succ {α : Type} (one : RS → α × RS) (s : RS) : ∀ k, stR one (one s).2 k = stR one s (k + 1)
 | 0 => rfl
 | k + 1 => by show (one (stR one (one s).2 k)).2 = _; rw [stR_succ one s k]; rfl
theorem cntR_ok {α : Type} (one : RS → α × RS) : ∀ n s k, k < cntR one n s → (stR one s k).e = 0
 | 0, _, k, h => absurd h (Nat.not_lt_zero k)
 | n + 1, s, k, h => by
  unfold cntR at h
  split at h
  ·rename_i h1
   cases k with
   | zero => exact h1
   | succ k => rw [← stR_succ]; exact cntR_ok one n _ k (by omega)
  ·omega
theorem cntR_end {α : Type} (one : RS → α × RS) : ∀ n s, cntR one n s = n ∨ (stR one s (cntR one n s)).e ≠ 0
 | 0, _ => .inl rfl
 | n + 1, s => by
  unfold cntR
  split
  ·rcases cntR_end one n (one s).2 with h | h
   ·exact .inl (by omega)
   ·rw [stR_succ] at h; exact .inr h
  ·exact .inr ‹_›
theorem stR_aft {α : Type} {one : RS → α × RS} (h : ∀ s, Aft s (one s).2) (s : RS) : ∀ k, Aft s (stR one s k)
 | 0 => Aft.refl s
 | k + 1 => (stR_aft h s k).trans (h _)
theorem natZ {z : Int} (h : 0 ≤ z) : ((z.toNat : Nat) : Int) = z := Int.toNat_of_nonneg h
theorem catF_c1 {c : Nat → List V} {k : Nat} : ∀ j, j < k + 1 → catF k c (fun q => getL [c k] (0 + q)) j = c j := by
 intro j hj
 unfold catF
 cases hb : Nat.blt j k
 ·have h1 : k ≤ j := by
   rcases Nat.lt_or_ge j k with h2 | h2
   ·rw [← Nat.blt_eq] at h2; rw [h2] at hb; cases hb
   ·exact h2
  have e : j = k := by omega
  subst e
  simp [getL]
 ·rfl
theorem T_gtSg {most : Int} (hm : 0 ≤ most ∧ most ≤ 1000) (s : RS) (hl : s.l.length ≤ 1000000000) {el : Nat → SSign} {st : Nat → RS} (h0 : st 0 = (numR most s).2) (hs : ∀ k, k < (numR most s).1.toNat → (st k).l.length ≤ 1000000000 → T Tryz.prog 116 [p0] (mrH 0 1 (st k)) (.agg (el k).c) (mrH 0 1 (st (k + 1)))) (hle : ∀ k, (st k).l.length ≤ 1000000000) {m : Nat} (hmn : m ≤ (numR most s).1.toNat) (hz : ∀ k, k < m → (st k).e = 0) (hend : m = (numR most s).1.toNat ∨ (st m).e ≠ 0) :
  T Tryz.prog 115 [p0, .int .i64 most, .fn (.func 116) [p0] []] (mrH 0 1 s) (.ros 17 m (fun i => (el i).c) false) (mrH 0 1 (st m)) := by
 have hr := numR_rng hm.1 s
 have hn := natZ hr.1
 have hT := T_num 1 most s
 rw [← hn] at hT
 rw [← h0] at hT
 have hn64 : (numR most s).1.toNat ≤ 1000 := by omega
 have hb0 : (st 0).bad = s.bad := by rw [h0]; exact (numR_after most s).2.1
 refine T_al (bdGtSg_p most (numR most s).1.toNat m el st s) Tryz.func115 ?_
 have hL : RLoop Tryz.prog none 2 (cB (cB (cR (cL (cR (bodyOf Tryz.f115)))))) (m + 1) (gtSgI (numR most s).1.toNat el st 0) (.exit 0) (gtSgI (numR most s).1.toNat el st m) := by
  refine RLoop.inv (gtSgI (numR most s).1.toNat el st) m (fun k hk => ?_) ?_ (by simp)
  ·refine R_alongPc NG MO _ (pcGtSg_p10 (numR most s).1.toNat el st k) ?_ (show 2 ≤ 3 by decide)
   simp only [All, Int.toNat_natCast]; and_intros
   all_goals first
    | exact T_err 1 _
    | exact hs k (by omega) (hle k)
    | exact catF_c1
    | (rw [decide_eq_true_eq]; omega)
    | (simp [hz k hk]; done)
    | omega
    | trivial
    | rfl
    | (intro _ _; exact ⟨_, rfl⟩)
    | (intro _ _; rfl)
    | (intro j hj; rw [show j = 0 by omega]; rfl)
    | (simp [IntKind.min, IntKind.max, IntKind.signed, IntKind.bits] <;> omega)
  ·rcases hend with he | he
   ·refine R_alongPc NG MO _ (pcGtSg_p0 (numR most s).1.toNat el st m) ?_ (show 2 ≤ 3 by decide)
    simp only [All, Int.toNat_natCast]; and_intros
    all_goals first
     | (rw [decide_eq_false_iff_not]; omega)
     | trivial
     | rfl
     | (intro _ _; rfl)
     | (simp; done)
   ·by_cases he2 : m = (numR most s).1.toNat
    ·refine R_alongPc NG MO _ (pcGtSg_p0 (numR most s).1.toNat el st m) ?_ (show 2 ≤ 3 by decide)
     simp only [All, Int.toNat_natCast]; and_intros
     all_goals first
      | (rw [decide_eq_false_iff_not]; omega)
      | trivial
      | rfl
      | (intro _ _; rfl)
      | (simp; done)
    ·refine R_alongPc NG MO _ (pcGtSg_p11 (numR most s).1.toNat el st m) ?_ (show 2 ≤ 3 by decide)
     simp only [All, Int.toNat_natCast]; and_intros
     all_goals first
      | exact T_err 1 _
      | (rw [decide_eq_true_eq]; omega)
      | (simp [he]; done)
      | trivial
      | rfl
      | (intro _ _; rfl)
      | (simp; done)
 simp only [All, Int.toNat_natCast]; and_intros
 all_goals first
  | exact hT
  | exact hL
  | exact hb0.symm
  | exact hb0
  | omega
  | trivial
  | rfl
  | (intro j hj; exact absurd hj (Nat.not_lt_zero j))
  | (intro _ _; rfl)
  | (simp; done)
theorem T_gtNw {most : Int} (hm : 0 ≤ most ∧ most ≤ 1000) (s : RS) (hl : s.l.length ≤ 1000000000) {el : Nat → SEnv} {st : Nat → RS} (h0 : st 0 = (numR most s).2) (hs : ∀ k, k < (numR most s).1.toNat → (st k).l.length ≤ 1000000000 → T Tryz.prog 112 [p0] (mrH 0 1 (st k)) (.agg (el k).c) (mrH 0 1 (st (k + 1)))) (hle : ∀ k, (st k).l.length ≤ 1000000000) {m : Nat} (hmn : m ≤ (numR most s).1.toNat) (hz : ∀ k, k < m → (st k).e = 0) (hend : m = (numR most s).1.toNat ∨ (st m).e ≠ 0) :
  T Tryz.prog 111 [p0, .int .i64 most, .fn (.func 112) [p0] []] (mrH 0 1 s) (.ros 18 m (fun i => (el i).c) false) (mrH 0 1 (st m)) := by
 have hr := numR_rng hm.1 s
 have hn := natZ hr.1
 have hT := T_num 1 most s
 rw [← hn] at hT
 rw [← h0] at hT
 have hn64 : (numR most s).1.toNat ≤ 1000 := by omega
 have hb0 : (st 0).bad = s.bad := by rw [h0]; exact (numR_after most s).2.1
 refine T_al (bdGtNw_p most (numR most s).1.toNat m el st s) Tryz.func111 ?_
 have hL : RLoop Tryz.prog none 2 (cB (cB (cR (cL (cR (bodyOf Tryz.f111)))))) (m + 1) (gtNwI (numR most s).1.toNat el st 0) (.exit 0) (gtNwI (numR most s).1.toNat el st m) := by
  refine RLoop.inv (gtNwI (numR most s).1.toNat el st) m (fun k hk => ?_) ?_ (by simp)
  ·refine R_alongPc NG MO _ (pcGtNw_p10 (numR most s).1.toNat el st k) ?_ (show 2 ≤ 3 by decide)
   simp only [All, Int.toNat_natCast]; and_intros
   all_goals first
    | exact T_err 1 _
    | exact hs k (by omega) (hle k)
    | exact catF_c1
    | (rw [decide_eq_true_eq]; omega)
    | (simp [hz k hk]; done)
    | omega
    | trivial
    | rfl
    | (intro _ _; exact ⟨_, rfl⟩)
    | (intro _ _; rfl)
    | (intro j hj; rw [show j = 0 by omega]; rfl)
    | (simp [IntKind.min, IntKind.max, IntKind.signed, IntKind.bits] <;> omega)
  ·rcases hend with he | he
   ·refine R_alongPc NG MO _ (pcGtNw_p0 (numR most s).1.toNat el st m) ?_ (show 2 ≤ 3 by decide)
    simp only [All, Int.toNat_natCast]; and_intros
    all_goals first
     | (rw [decide_eq_false_iff_not]; omega)
     | trivial
     | rfl
     | (intro _ _; rfl)
     | (simp; done)
   ·by_cases he2 : m = (numR most s).1.toNat
    ·refine R_alongPc NG MO _ (pcGtNw_p0 (numR most s).1.toNat el st m) ?_ (show 2 ≤ 3 by decide)
     simp only [All, Int.toNat_natCast]; and_intros
     all_goals first
      | (rw [decide_eq_false_iff_not]; omega)
      | trivial
      | rfl
      | (intro _ _; rfl)
      | (simp; done)
    ·refine R_alongPc NG MO _ (pcGtNw_p11 (numR most s).1.toNat el st m) ?_ (show 2 ≤ 3 by decide)
     simp only [All, Int.toNat_natCast]; and_intros
     all_goals first
      | exact T_err 1 _
      | (rw [decide_eq_true_eq]; omega)
      | (simp [he]; done)
      | trivial
      | rfl
      | (intro _ _; rfl)
      | (simp; done)
 simp only [All, Int.toNat_natCast]; and_intros
 all_goals first
  | exact hT
  | exact hL
  | exact hb0.symm
  | exact hb0
  | omega
  | trivial
  | rfl
  | (intro j hj; exact absurd hj (Nat.not_lt_zero j))
  | (intro _ _; rfl)
  | (simp; done)
theorem T_gtHl {most : Int} (hm : 0 ≤ most ∧ most ≤ 1000) (s : RS) (hl : s.l.length ≤ 1000000000) {el : Nat → SHeld} {st : Nat → RS} (h0 : st 0 = (numR most s).2) (hs : ∀ k, k < (numR most s).1.toNat → (st k).l.length ≤ 1000000000 → T Tryz.prog 110 [p0] (mrH 0 1 (st k)) (.agg (el k).c) (mrH 0 1 (st (k + 1)))) (hle : ∀ k, (st k).l.length ≤ 1000000000) {m : Nat} (hmn : m ≤ (numR most s).1.toNat) (hz : ∀ k, k < m → (st k).e = 0) (hend : m = (numR most s).1.toNat ∨ (st m).e ≠ 0) :
  T Tryz.prog 109 [p0, .int .i64 most, .fn (.func 110) [p0] []] (mrH 0 1 s) (.ros 39 m (fun i => (el i).c) false) (mrH 0 1 (st m)) := by
 have hr := numR_rng hm.1 s
 have hn := natZ hr.1
 have hT := T_num 1 most s
 rw [← hn] at hT
 rw [← h0] at hT
 have hn64 : (numR most s).1.toNat ≤ 1000 := by omega
 have hb0 : (st 0).bad = s.bad := by rw [h0]; exact (numR_after most s).2.1
 refine T_al (bdGtHl_p most (numR most s).1.toNat m el st s) Tryz.func109 ?_
 have hL : RLoop Tryz.prog none 2 (cB (cB (cR (cL (cR (bodyOf Tryz.f109)))))) (m + 1) (gtHlI (numR most s).1.toNat el st 0) (.exit 0) (gtHlI (numR most s).1.toNat el st m) := by
  refine RLoop.inv (gtHlI (numR most s).1.toNat el st) m (fun k hk => ?_) ?_ (by simp)
  ·refine R_alongPc NG MO _ (pcGtHl_p10 (numR most s).1.toNat el st k) ?_ (show 2 ≤ 3 by decide)
   simp only [All, Int.toNat_natCast]; and_intros
   all_goals first
    | exact T_err 1 _
    | exact hs k (by omega) (hle k)
    | exact catF_c1
    | (rw [decide_eq_true_eq]; omega)
    | (simp [hz k hk]; done)
    | omega
    | trivial
    | rfl
    | (intro _ _; exact ⟨_, rfl⟩)
    | (intro _ _; rfl)
    | (intro j hj; rw [show j = 0 by omega]; rfl)
    | (simp [IntKind.min, IntKind.max, IntKind.signed, IntKind.bits] <;> omega)
  ·rcases hend with he | he
   ·refine R_alongPc NG MO _ (pcGtHl_p0 (numR most s).1.toNat el st m) ?_ (show 2 ≤ 3 by decide)
    simp only [All, Int.toNat_natCast]; and_intros
    all_goals first
     | (rw [decide_eq_false_iff_not]; omega)
     | trivial
     | rfl
     | (intro _ _; rfl)
     | (simp; done)
   ·by_cases he2 : m = (numR most s).1.toNat
    ·refine R_alongPc NG MO _ (pcGtHl_p0 (numR most s).1.toNat el st m) ?_ (show 2 ≤ 3 by decide)
     simp only [All, Int.toNat_natCast]; and_intros
     all_goals first
      | (rw [decide_eq_false_iff_not]; omega)
      | trivial
      | rfl
      | (intro _ _; rfl)
      | (simp; done)
    ·refine R_alongPc NG MO _ (pcGtHl_p11 (numR most s).1.toNat el st m) ?_ (show 2 ≤ 3 by decide)
     simp only [All, Int.toNat_natCast]; and_intros
     all_goals first
      | exact T_err 1 _
      | (rw [decide_eq_true_eq]; omega)
      | (simp [he]; done)
      | trivial
      | rfl
      | (intro _ _; rfl)
      | (simp; done)
 simp only [All, Int.toNat_natCast]; and_intros
 all_goals first
  | exact hT
  | exact hL
  | exact hb0.symm
  | exact hb0
  | omega
  | trivial
  | rfl
  | (intro j hj; exact absurd hj (Nat.not_lt_zero j))
  | (intro _ _; rfl)
  | (simp; done)
end Go.Proofs.YtnmccoincblecaaGreat
namespace Go.Proofs.YtnmccoincblecaaGreat
open Go Sy Go.Proofs
def getN {α : Type} (one : RS → α × RS) (most : Int) (s : RS) : Nat := cntR one (numR most s).1.toNat (numR most s).2
def getEl {α : Type} (one : RS → α × RS) (most : Int) (s : RS) (i : Nat) : α := (one (stR one (numR most s).2 i)).1
def getS {α : Type} (one : RS → α × RS) (most : Int) (s : RS) : RS := stR one (numR most s).2 (getN one most s)
def certR (s : RS) : SCert × RS := ({ vote := (voteR s).1, n := getN signR 64 (voteR s).2, sig := getEl signR 64 (voteR s).2 }, getS signR 64 (voteR s).2)
def heldR (s : RS) : SHeld × RS := ({ batch := (batchR s).1, cert := (certR (batchR s).2).1 }, (certR (batchR s).2).2)
noncomputable def bdCtR (s s1 s2 : RS) (v : SVote) (n : Nat) (g : Nat → SSign) : Bd := bdMr Tryz.f114 [] s [(108, 2, cMr (.agg v.c) s1), (115, 6, cMr (sg n g) s2)] (v.c ++ [sg n g]) s2
noncomputable def bdHdR (s s1 s2 : RS) (b : SBatch) (c : SCert) : Bd := bdMr Tryz.f110 [] s [(107, 5, cRd (.agg b.c) s1), (114, 7, cMr (.agg c.c) s2)] (b.c ++ c.c) s2
def n012 : St → List Nm := fun _ => [.o 0, .o 1, .o 2]
noncomputable def bdFl (m m' : SMsg) (s s' : RS) (db : List (Nat × Nat × (List V → Heap → Nat → List Cl))) : Bd := { f := Tryz.f84, args := [p0, .ptr (.o 2) 0 0 0 0], pre := mrH 0 1 s ++ [(.o 2, .flat m.c)], base := 3, kb := { db := dbSeqF 3 db }, names := n012, k := fun _ t => some ⟨[], [], hsetsOf (mrH 0 1 s' ++ [(.o 2, .flat m'.c)]), none, t.next⟩ }
def f1S1 (s : RS) : RS := (numR 1048576 s).2
def f1S2 (s : RS) : RS := (numR 1099511627776 (f1S1 s)).2
def f1S3 (s : RS) : RS := (batchR (f1S2 s)).2
def fld1 (m : SMsg) (s : RS) : SMsg × RS := ({ m with epoch := (numR 1048576 s).1, slot := (numR 1099511627776 (f1S1 s)).1, batch := (batchR (f1S2 s)).1 }, f1S3 s)
noncomputable def bdF1 (m : SMsg) (s t1 t2 t3 : RS) (x0 : Int) (x1 : Int) (x2 : SBatch) : Bd := bdFl m { m with epoch := x0, slot := x1, batch := x2 } s t3 [(25, 12, cRd (.int .i64 x0) t1), (25, 17, cRd (.int .i64 x1) t2), (107, 29, cRd (.agg x2.c) t3)]
def f2S1 (s : RS) : RS := (voteR s).2
def fld2 (m : SMsg) (s : RS) : SMsg × RS := ({ m with vote := (voteR s).1 }, f2S1 s)
noncomputable def bdF2 (m : SMsg) (s t1 : RS) (x0 : SVote) : Bd := bdFl m { m with vote := x0 } s t1 [(108, 10, cMr (.agg x0.c) t1)]
def f3S1 (s : RS) : RS := (numR 1048576 s).2
def f3S2 (s : RS) : RS := (numR 64 (f3S1 s)).2
def f3S3 (s : RS) : RS := (numR 1099511627776 (f3S2 s)).2
def f3S4 (s : RS) : RS := getS heldR 4 (f3S3 s)
def fld3 (m : SMsg) (s : RS) : SMsg × RS := ({ m with cepoch := (numR 1048576 s).1, cleader := (numR 64 (f3S1 s)).1, cview := (numR 1099511627776 (f3S2 s)).1, nheld := getN heldR 4 (f3S3 s), held := getEl heldR 4 (f3S3 s) }, f3S4 s)
noncomputable def bdF3 (m : SMsg) (s t1 t2 t3 t4 : RS) (n : Nat) (x0 : Int) (x1 : Int) (x2 : Int) (x3 : Nat → SHeld) : Bd := bdFl m { m with cepoch := x0, cleader := x1, cview := x2, nheld := n, held := x3 } s t4 [(25, 17, cRd (.int .i64 x0) t1), (25, 22, cRd (.int .i64 x1) t2), (25, 27, cRd (.int .i64 x2) t3), (109, 44, cMr (hl n x3) t4)]
def f4S1 (s : RS) : RS := (numR 1048576 s).2
def f4S2 (s : RS) : RS := (numR 64 (f4S1 s)).2
def f4S3 (s : RS) : RS := (numR 1099511627776 (f4S2 s)).2
def f4S4 (s : RS) : RS := getS envR 64 (f4S3 s)
def fld4 (m : SMsg) (s : RS) : SMsg × RS := ({ m with epoch := (numR 1048576 s).1, leader := (numR 64 (f4S1 s)).1, view := (numR 1099511627776 (f4S2 s)).1, nnews := getN envR 64 (f4S3 s), news := getEl envR 64 (f4S3 s) }, f4S4 s)
noncomputable def bdF4 (m : SMsg) (s t1 t2 t3 t4 : RS) (n : Nat) (x0 : Int) (x1 : Int) (x2 : Int) (x3 : Nat → SEnv) : Bd := bdFl m { m with epoch := x0, leader := x1, view := x2, nnews := n, news := x3 } s t4 [(25, 19, cRd (.int .i64 x0) t1), (25, 24, cRd (.int .i64 x1) t2), (25, 29, cRd (.int .i64 x2) t3), (111, 43, cMr (nw n x3) t4)]
def f5S1 (s : RS) : RS := (numR 1048576 s).2
def f5S2 (s : RS) : RS := (digR (f5S1 s)).2
def fld5 (m : SMsg) (s : RS) : SMsg × RS := ({ m with epoch := (numR 1048576 s).1, digest := (digR (f5S1 s)).1 }, f5S2 s)
noncomputable def bdF5 (m : SMsg) (s t1 t2 : RS) (x0 : Int) (x1 : List Int) : Bd := bdFl m { m with epoch := x0, digest := x1 } s t2 [(25, 19, cRd (.int .i64 x0) t1), (113, 25, cMr (.agg [.seg .u8 32 x1]) t2)]
def f6S1 (s : RS) : RS := (numR 1048576 s).2
def f6S2 (s : RS) : RS := (numR 1099511627776 (f6S1 s)).2
def fld6 (m : SMsg) (s : RS) : SMsg × RS := ({ m with epoch := (numR 1048576 s).1, slot := (numR 1099511627776 (f6S1 s)).1 }, f6S2 s)
noncomputable def bdF6 (m : SMsg) (s t1 t2 : RS) (x0 : Int) (x1 : Int) : Bd := bdFl m { m with epoch := x0, slot := x1 } s t2 [(25, 22, cRd (.int .i64 x0) t1), (25, 27, cRd (.int .i64 x1) t2)]
def f7S1 (s : RS) : RS := (batchR s).2
def f7S2 (s : RS) : RS := (certR (f7S1 s)).2
def fld7 (m : SMsg) (s : RS) : SMsg × RS := ({ m with batch := (batchR s).1, cert := (certR (f7S1 s)).1 }, f7S2 s)
noncomputable def bdF7 (m : SMsg) (s t1 t2 : RS) (x0 : SBatch) (x1 : SCert) : Bd := bdFl m { m with batch := x0, cert := x1 } s t2 [(107, 23, cRd (.agg x0.c) t1), (114, 29, cMr (.agg x1.c) t2)]
def f8S1 (s : RS) : RS := (textR 4194304 s).2
def f8S2 (s : RS) : RS := getS signR 64 (f8S1 s)
def fld8 (m : SMsg) (s : RS) : SMsg × RS := ({ m with state := (textR 4194304 s).1, n := getN signR 64 (f8S1 s), sig := getEl signR 64 (f8S1 s) }, f8S2 s)
noncomputable def bdF8 (m : SMsg) (s t1 t2 : RS) (n : Nat) (x0 : ByteArray) (x1 : Nat → SSign) : Bd := bdFl m { m with state := x0, n := n, sig := x1 } s t2 [(26, 25, cRd (.str x0) t1), (115, 33, cMr (sg n x1) t2)]
noncomputable def bdF9 (m : SMsg) (s : RS) : Bd := bdFl m m s s []
def fieldsR (m : SMsg) (s : RS) : SMsg × RS :=
 if m.kind = 1 then fld1 m s else if m.kind = 2 then fld2 m s else if m.kind = 3 then fld3 m s else if m.kind = 4 then fld4 m s else if m.kind = 5 then fld5 m s else if m.kind = 6 then fld6 m s else if m.kind = 7 then fld7 m s else if m.kind = 8 then fld8 m s else (m, s)
end Go.Proofs.YtnmccoincblecaaGreat
namespace Go.Proofs.YtnmccoincblecaaGreat
open Go Sy Go.Proofs
theorem bdCtR_p (s : RS) (s1 : RS) (s2 : RS) (v : SVote) (n : Nat) (g : Nat → SSign) :
  along Tryz.prog (bdCtR s s1 s2 v n g) [] = (some (.agg [.int .i64 (SVote.kind v), .int .i64 (SVote.epoch v), .int .i64 (SVote.view v), .int .i64 (SVote.slot v), .seg .u8 32 (SVote.digest v), sg n g], [(.o 0, .flat [.ptr (.o 1) 0 0 0 0, .bool (RS.bad s2)]), (.o 1, rdB s2)], [T Tryz.prog 108 [.ptr (.o 0) 0 0 0 0] [(.o 0, .flat [.ptr (.o 1) 0 0 0 0, .bool (RS.bad s)]), (.o 1, rdB s)] (.agg (SVote.c v)) [(.o 0, .flat [.ptr (.o 1) 0 0 0 0, .bool (RS.bad s1)]), (.o 1, rdB s1)], T Tryz.prog 115 [.ptr (.o 0) 0 0 0 0, .int .i64 64, .fn (.func 116) [.ptr (.o 0) 0 0 0 0] []] [(.o 0, .flat [.ptr (.o 1) 0 0 0 0, .bool (RS.bad s1)]), (.o 1, rdB s1)] (sg n g) [(.o 0, .flat [.ptr (.o 1) 0 0 0 0, .bool (RS.bad s2)]), (.o 1, rdB s2)], q0, q0, q0, q (RS.bad s2), q (List.length (RS.l s2)), ∀ (k : Nat), k < List.length (RS.l s2) → bl (RS.l s2) k = bl (RS.l s2) k, false = true → false = true, q (RS.e s2), q2, q (SVote.kind v), q (SVote.epoch v), q (SVote.view v), q (SVote.slot v), q (32 : Nat), q (SVote.digest v), q n, ∀ (k : Nat), k < n → SSign.c (g k) = SSign.c (g k), false = true → false = true, q0, q0, q0]) : Option (V × Heap × List Prop)) := by kernel_rfl

theorem bdHdR_p (s : RS) (s1 : RS) (s2 : RS) (b : SBatch) (c : SCert) :
  along Tryz.prog (bdHdR s s1 s2 b c) [] = (some (.agg [.bool (SBatch.noop b), rq (SBatch.n b) (SBatch.req b), .int .i64 (SVote.kind (SCert.vote c)), .int .i64 (SVote.epoch (SCert.vote c)), .int .i64 (SVote.view (SCert.vote c)), .int .i64 (SVote.slot (SCert.vote c)), .seg .u8 32 (SVote.digest (SCert.vote c)), sg (SCert.n c) (SCert.sig c)], [(.o 0, .flat [.ptr (.o 1) 0 0 0 0, .bool (RS.bad s2)]), (.o 1, rdB s2)], [T Tryz.prog 107 [.ptr (.o 1) 0 0 0 0] [(.o 1, rdB s)] (.agg (SBatch.c b)) [(.o 1, rdB s1)], T Tryz.prog 114 [.ptr (.o 0) 0 0 0 0] [(.o 0, .flat [.ptr (.o 1) 0 0 0 0, .bool (RS.bad s)]), (.o 1, rdB s1)] (.agg (SCert.c c)) [(.o 0, .flat [.ptr (.o 1) 0 0 0 0, .bool (RS.bad s2)]), (.o 1, rdB s2)], q0, q0, q0, q (RS.bad s2), q (List.length (RS.l s2)), ∀ (k : Nat), k < List.length (RS.l s2) → bl (RS.l s2) k = bl (RS.l s2) k, false = true → false = true, q (RS.e s2), q2, q (SBatch.noop b), q (SBatch.n b), ∀ (k : Nat), k < SBatch.n b → SReq.c (SBatch.req b k) = SReq.c (SBatch.req b k), false = true → false = true, q (SVote.kind (SCert.vote c)), q (SVote.epoch (SCert.vote c)), q (SVote.view (SCert.vote c)), q (SVote.slot (SCert.vote c)), q (32 : Nat), q (SVote.digest (SCert.vote c)), q (SCert.n c), ∀ (k : Nat), k < SCert.n c → SSign.c (SCert.sig c k) = SSign.c (SCert.sig c k), false = true → false = true, q0, q0, q0]) : Option (V × Heap × List Prop)) := by kernel_rfl

theorem bdF1_p1 (m : SMsg) (s : RS) (t1 : RS) (t2 : RS) (t3 : RS) (x0 : Int) (x1 : Int) (x2 : SBatch) :
  along Tryz.prog (bdF1 m s t1 t2 t3 x0 x1 x2) [true] = (some (.tup [], [(.o 0, .flat [.ptr (.o 1) 0 0 0 0, .bool (RS.bad t3)]), (.o 1, rdB t3), (.o 2, .flat (SMsg.c (SMsg.mk (SMsg.kind m) x0 (SMsg.leader m) (SMsg.view m) x1 x2 (SMsg.vote m) (SMsg.cepoch m) (SMsg.cleader m) (SMsg.cview m) (SMsg.nheld m) (SMsg.held m) (SMsg.nnews m) (SMsg.news m) (SMsg.digest m) (SMsg.cert m) (SMsg.state m) (SMsg.n m) (SMsg.sig m))))], [decide (SMsg.kind m = (1 : Int)) = true, T Tryz.prog 25 [.ptr (.o 1) 0 0 0 0, .int .i64 1048576] [(.o 1, rdB s)] (.int .i64 x0) [(.o 1, rdB t1)], T Tryz.prog 25 [.ptr (.o 1) 0 0 0 0, .int .i64 1099511627776] [(.o 1, rdB t1)] (.int .i64 x1) [(.o 1, rdB t2)], T Tryz.prog 107 [.ptr (.o 1) 0 0 0 0] [(.o 1, rdB t2)] (.agg (SBatch.c x2)) [(.o 1, rdB t3)], q0, q0, q0, RS.bad s = RS.bad t3, q (List.length (RS.l t3)), ∀ (k : Nat), k < List.length (RS.l t3) → bl (RS.l t3) k = bl (RS.l t3) k, false = true → false = true, q (RS.e t3), q2, q (SMsg.kind m), q x0, q (SMsg.leader m), q (SMsg.view m), q x1, q (SBatch.noop x2), q (SBatch.n x2), ∀ (k : Nat), k < SBatch.n x2 → SReq.c (SBatch.req x2 k) = SReq.c (SBatch.req x2 k), false = true → false = true, q (SVote.kind (SMsg.vote m)), q (SVote.epoch (SMsg.vote m)), q (SVote.view (SMsg.vote m)), q (SVote.slot (SMsg.vote m)), q (32 : Nat), q (SVote.digest (SMsg.vote m)), q (SMsg.cepoch m), q (SMsg.cleader m), q (SMsg.cview m), q (SMsg.nheld m), ∀ (k : Nat), k < SMsg.nheld m → SHeld.c (SMsg.held m k) = SHeld.c (SMsg.held (SMsg.mk (SMsg.kind m) x0 (SMsg.leader m) (SMsg.view m) x1 x2 (SMsg.vote m) (SMsg.cepoch m) (SMsg.cleader m) (SMsg.cview m) (SMsg.nheld m) (SMsg.held m) (SMsg.nnews m) (SMsg.news m) (SMsg.digest m) (SMsg.cert m) (SMsg.state m) (SMsg.n m) (SMsg.sig m)) k), false = true → false = true, q (SMsg.nnews m), ∀ (k : Nat), k < SMsg.nnews m → SEnv.c (SMsg.news m k) = SEnv.c (SMsg.news (SMsg.mk (SMsg.kind m) x0 (SMsg.leader m) (SMsg.view m) x1 x2 (SMsg.vote m) (SMsg.cepoch m) (SMsg.cleader m) (SMsg.cview m) (SMsg.nheld m) (SMsg.held m) (SMsg.nnews m) (SMsg.news m) (SMsg.digest m) (SMsg.cert m) (SMsg.state m) (SMsg.n m) (SMsg.sig m)) k), false = true → false = true, q (32 : Nat), q (SMsg.digest m), q (SVote.kind (SCert.vote (SMsg.cert m))), q (SVote.epoch (SCert.vote (SMsg.cert m))), q (SVote.view (SCert.vote (SMsg.cert m))), q (SVote.slot (SCert.vote (SMsg.cert m))), q (32 : Nat), q (SVote.digest (SCert.vote (SMsg.cert m))), q (SCert.n (SMsg.cert m)), ∀ (k : Nat), k < SCert.n (SMsg.cert m) → SSign.c (SCert.sig (SMsg.cert m) k) = SSign.c (SCert.sig (SMsg.cert m) k), false = true → false = true, q (SMsg.state m), q (SMsg.n m), ∀ (k : Nat), k < SMsg.n m → SSign.c (SMsg.sig m k) = SSign.c (SMsg.sig (SMsg.mk (SMsg.kind m) x0 (SMsg.leader m) (SMsg.view m) x1 x2 (SMsg.vote m) (SMsg.cepoch m) (SMsg.cleader m) (SMsg.cview m) (SMsg.nheld m) (SMsg.held m) (SMsg.nnews m) (SMsg.news m) (SMsg.digest m) (SMsg.cert m) (SMsg.state m) (SMsg.n m) (SMsg.sig m)) k), false = true → false = true]) : Option (V × Heap × List Prop)) := by kernel_rfl

theorem bdF2_p01 (m : SMsg) (s : RS) (t1 : RS) (x0 : SVote) :
  along Tryz.prog (bdF2 m s t1 x0) [false, true] = (some (.tup [], [(.o 0, .flat [.ptr (.o 1) 0 0 0 0, .bool (RS.bad t1)]), (.o 1, rdB t1), (.o 2, .flat (SMsg.c (SMsg.mk (SMsg.kind m) (SMsg.epoch m) (SMsg.leader m) (SMsg.view m) (SMsg.slot m) (SMsg.batch m) x0 (SMsg.cepoch m) (SMsg.cleader m) (SMsg.cview m) (SMsg.nheld m) (SMsg.held m) (SMsg.nnews m) (SMsg.news m) (SMsg.digest m) (SMsg.cert m) (SMsg.state m) (SMsg.n m) (SMsg.sig m))))], [decide (SMsg.kind m = (1 : Int)) = false, decide (SMsg.kind m = (2 : Int)) = true, T Tryz.prog 108 [.ptr (.o 0) 0 0 0 0] [(.o 0, .flat [.ptr (.o 1) 0 0 0 0, .bool (RS.bad s)]), (.o 1, rdB s)] (.agg (SVote.c x0)) [(.o 0, .flat [.ptr (.o 1) 0 0 0 0, .bool (RS.bad t1)]), (.o 1, rdB t1)], q0, q0, q0, q (RS.bad t1), q (List.length (RS.l t1)), ∀ (k : Nat), k < List.length (RS.l t1) → bl (RS.l t1) k = bl (RS.l t1) k, false = true → false = true, q (RS.e t1), q2, q (SMsg.kind m), q (SMsg.epoch m), q (SMsg.leader m), q (SMsg.view m), q (SMsg.slot m), q (SBatch.noop (SMsg.batch m)), q (SBatch.n (SMsg.batch m)), ∀ (k : Nat), k < SBatch.n (SMsg.batch m) → SReq.c (SBatch.req (SMsg.batch m) k) = SReq.c (SBatch.req (SMsg.batch m) k), false = true → false = true, q (SVote.kind x0), q (SVote.epoch x0), q (SVote.view x0), q (SVote.slot x0), q (32 : Nat), q (SVote.digest x0), q (SMsg.cepoch m), q (SMsg.cleader m), q (SMsg.cview m), q (SMsg.nheld m), ∀ (k : Nat), k < SMsg.nheld m → SHeld.c (SMsg.held m k) = SHeld.c (SMsg.held (SMsg.mk (SMsg.kind m) (SMsg.epoch m) (SMsg.leader m) (SMsg.view m) (SMsg.slot m) (SMsg.batch m) x0 (SMsg.cepoch m) (SMsg.cleader m) (SMsg.cview m) (SMsg.nheld m) (SMsg.held m) (SMsg.nnews m) (SMsg.news m) (SMsg.digest m) (SMsg.cert m) (SMsg.state m) (SMsg.n m) (SMsg.sig m)) k), false = true → false = true, q (SMsg.nnews m), ∀ (k : Nat), k < SMsg.nnews m → SEnv.c (SMsg.news m k) = SEnv.c (SMsg.news (SMsg.mk (SMsg.kind m) (SMsg.epoch m) (SMsg.leader m) (SMsg.view m) (SMsg.slot m) (SMsg.batch m) x0 (SMsg.cepoch m) (SMsg.cleader m) (SMsg.cview m) (SMsg.nheld m) (SMsg.held m) (SMsg.nnews m) (SMsg.news m) (SMsg.digest m) (SMsg.cert m) (SMsg.state m) (SMsg.n m) (SMsg.sig m)) k), false = true → false = true, q (32 : Nat), q (SMsg.digest m), q (SVote.kind (SCert.vote (SMsg.cert m))), q (SVote.epoch (SCert.vote (SMsg.cert m))), q (SVote.view (SCert.vote (SMsg.cert m))), q (SVote.slot (SCert.vote (SMsg.cert m))), q (32 : Nat), q (SVote.digest (SCert.vote (SMsg.cert m))), q (SCert.n (SMsg.cert m)), ∀ (k : Nat), k < SCert.n (SMsg.cert m) → SSign.c (SCert.sig (SMsg.cert m) k) = SSign.c (SCert.sig (SMsg.cert m) k), false = true → false = true, q (SMsg.state m), q (SMsg.n m), ∀ (k : Nat), k < SMsg.n m → SSign.c (SMsg.sig m k) = SSign.c (SMsg.sig (SMsg.mk (SMsg.kind m) (SMsg.epoch m) (SMsg.leader m) (SMsg.view m) (SMsg.slot m) (SMsg.batch m) x0 (SMsg.cepoch m) (SMsg.cleader m) (SMsg.cview m) (SMsg.nheld m) (SMsg.held m) (SMsg.nnews m) (SMsg.news m) (SMsg.digest m) (SMsg.cert m) (SMsg.state m) (SMsg.n m) (SMsg.sig m)) k), false = true → false = true]) : Option (V × Heap × List Prop)) := by kernel_rfl

theorem bdF3_p001 (m : SMsg) (s : RS) (t1 : RS) (t2 : RS) (t3 : RS) (t4 : RS) (n : Nat) (x0 : Int) (x1 : Int) (x2 : Int) (x3 : Nat → SHeld) :
  along Tryz.prog (bdF3 m s t1 t2 t3 t4 n x0 x1 x2 x3) [false, false, true] = (some (.tup [], [(.o 0, .flat [.ptr (.o 1) 0 0 0 0, .bool (RS.bad t4)]), (.o 1, rdB t4), (.o 2, .flat (SMsg.c (SMsg.mk (SMsg.kind m) (SMsg.epoch m) (SMsg.leader m) (SMsg.view m) (SMsg.slot m) (SMsg.batch m) (SMsg.vote m) x0 x1 x2 n x3 (SMsg.nnews m) (SMsg.news m) (SMsg.digest m) (SMsg.cert m) (SMsg.state m) (SMsg.n m) (SMsg.sig m))))], [decide (SMsg.kind m = (1 : Int)) = false, decide (SMsg.kind m = (2 : Int)) = false, decide (SMsg.kind m = (3 : Int)) = true, T Tryz.prog 25 [.ptr (.o 1) 0 0 0 0, .int .i64 1048576] [(.o 1, rdB s)] (.int .i64 x0) [(.o 1, rdB t1)], T Tryz.prog 25 [.ptr (.o 1) 0 0 0 0, .int .i64 64] [(.o 1, rdB t1)] (.int .i64 x1) [(.o 1, rdB t2)], T Tryz.prog 25 [.ptr (.o 1) 0 0 0 0, .int .i64 1099511627776] [(.o 1, rdB t2)] (.int .i64 x2) [(.o 1, rdB t3)], T Tryz.prog 109 [.ptr (.o 0) 0 0 0 0, .int .i64 4, .fn (.func 110) [.ptr (.o 0) 0 0 0 0] []] [(.o 0, .flat [.ptr (.o 1) 0 0 0 0, .bool (RS.bad s)]), (.o 1, rdB t3)] (hl n x3) [(.o 0, .flat [.ptr (.o 1) 0 0 0 0, .bool (RS.bad t4)]), (.o 1, rdB t4)], q0, q0, q0, q (RS.bad t4), q (List.length (RS.l t4)), ∀ (k : Nat), k < List.length (RS.l t4) → bl (RS.l t4) k = bl (RS.l t4) k, false = true → false = true, q (RS.e t4), q2, q (SMsg.kind m), q (SMsg.epoch m), q (SMsg.leader m), q (SMsg.view m), q (SMsg.slot m), q (SBatch.noop (SMsg.batch m)), q (SBatch.n (SMsg.batch m)), ∀ (k : Nat), k < SBatch.n (SMsg.batch m) → SReq.c (SBatch.req (SMsg.batch m) k) = SReq.c (SBatch.req (SMsg.batch m) k), false = true → false = true, q (SVote.kind (SMsg.vote m)), q (SVote.epoch (SMsg.vote m)), q (SVote.view (SMsg.vote m)), q (SVote.slot (SMsg.vote m)), q (32 : Nat), q (SVote.digest (SMsg.vote m)), q x0, q x1, q x2, q n, ∀ (k : Nat), k < n → SHeld.c (x3 k) = SHeld.c (SMsg.held (SMsg.mk (SMsg.kind m) (SMsg.epoch m) (SMsg.leader m) (SMsg.view m) (SMsg.slot m) (SMsg.batch m) (SMsg.vote m) x0 x1 x2 n x3 (SMsg.nnews m) (SMsg.news m) (SMsg.digest m) (SMsg.cert m) (SMsg.state m) (SMsg.n m) (SMsg.sig m)) k), false = true → false = true, q (SMsg.nnews m), ∀ (k : Nat), k < SMsg.nnews m → SEnv.c (SMsg.news m k) = SEnv.c (SMsg.news (SMsg.mk (SMsg.kind m) (SMsg.epoch m) (SMsg.leader m) (SMsg.view m) (SMsg.slot m) (SMsg.batch m) (SMsg.vote m) x0 x1 x2 n x3 (SMsg.nnews m) (SMsg.news m) (SMsg.digest m) (SMsg.cert m) (SMsg.state m) (SMsg.n m) (SMsg.sig m)) k), false = true → false = true, q (32 : Nat), q (SMsg.digest m), q (SVote.kind (SCert.vote (SMsg.cert m))), q (SVote.epoch (SCert.vote (SMsg.cert m))), q (SVote.view (SCert.vote (SMsg.cert m))), q (SVote.slot (SCert.vote (SMsg.cert m))), q (32 : Nat), q (SVote.digest (SCert.vote (SMsg.cert m))), q (SCert.n (SMsg.cert m)), ∀ (k : Nat), k < SCert.n (SMsg.cert m) → SSign.c (SCert.sig (SMsg.cert m) k) = SSign.c (SCert.sig (SMsg.cert m) k), false = true → false = true, q (SMsg.state m), q (SMsg.n m), ∀ (k : Nat), k < SMsg.n m → SSign.c (SMsg.sig m k) = SSign.c (SMsg.sig (SMsg.mk (SMsg.kind m) (SMsg.epoch m) (SMsg.leader m) (SMsg.view m) (SMsg.slot m) (SMsg.batch m) (SMsg.vote m) x0 x1 x2 n x3 (SMsg.nnews m) (SMsg.news m) (SMsg.digest m) (SMsg.cert m) (SMsg.state m) (SMsg.n m) (SMsg.sig m)) k), false = true → false = true]) : Option (V × Heap × List Prop)) := by kernel_rfl

theorem bdF4_p0001 (m : SMsg) (s : RS) (t1 : RS) (t2 : RS) (t3 : RS) (t4 : RS) (n : Nat) (x0 : Int) (x1 : Int) (x2 : Int) (x3 : Nat → SEnv) :
  along Tryz.prog (bdF4 m s t1 t2 t3 t4 n x0 x1 x2 x3) [false, false, false, true] = (some (.tup [], [(.o 0, .flat [.ptr (.o 1) 0 0 0 0, .bool (RS.bad t4)]), (.o 1, rdB t4), (.o 2, .flat (SMsg.c (SMsg.mk (SMsg.kind m) x0 x1 x2 (SMsg.slot m) (SMsg.batch m) (SMsg.vote m) (SMsg.cepoch m) (SMsg.cleader m) (SMsg.cview m) (SMsg.nheld m) (SMsg.held m) n x3 (SMsg.digest m) (SMsg.cert m) (SMsg.state m) (SMsg.n m) (SMsg.sig m))))], [decide (SMsg.kind m = (1 : Int)) = false, decide (SMsg.kind m = (2 : Int)) = false, decide (SMsg.kind m = (3 : Int)) = false, decide (SMsg.kind m = (4 : Int)) = true, T Tryz.prog 25 [.ptr (.o 1) 0 0 0 0, .int .i64 1048576] [(.o 1, rdB s)] (.int .i64 x0) [(.o 1, rdB t1)], T Tryz.prog 25 [.ptr (.o 1) 0 0 0 0, .int .i64 64] [(.o 1, rdB t1)] (.int .i64 x1) [(.o 1, rdB t2)], T Tryz.prog 25 [.ptr (.o 1) 0 0 0 0, .int .i64 1099511627776] [(.o 1, rdB t2)] (.int .i64 x2) [(.o 1, rdB t3)], T Tryz.prog 111 [.ptr (.o 0) 0 0 0 0, .int .i64 64, .fn (.func 112) [.ptr (.o 0) 0 0 0 0] []] [(.o 0, .flat [.ptr (.o 1) 0 0 0 0, .bool (RS.bad s)]), (.o 1, rdB t3)] (nw n x3) [(.o 0, .flat [.ptr (.o 1) 0 0 0 0, .bool (RS.bad t4)]), (.o 1, rdB t4)], q0, q0, q0, q (RS.bad t4), q (List.length (RS.l t4)), ∀ (k : Nat), k < List.length (RS.l t4) → bl (RS.l t4) k = bl (RS.l t4) k, false = true → false = true, q (RS.e t4), q2, q (SMsg.kind m), q x0, q x1, q x2, q (SMsg.slot m), q (SBatch.noop (SMsg.batch m)), q (SBatch.n (SMsg.batch m)), ∀ (k : Nat), k < SBatch.n (SMsg.batch m) → SReq.c (SBatch.req (SMsg.batch m) k) = SReq.c (SBatch.req (SMsg.batch m) k), false = true → false = true, q (SVote.kind (SMsg.vote m)), q (SVote.epoch (SMsg.vote m)), q (SVote.view (SMsg.vote m)), q (SVote.slot (SMsg.vote m)), q (32 : Nat), q (SVote.digest (SMsg.vote m)), q (SMsg.cepoch m), q (SMsg.cleader m), q (SMsg.cview m), q (SMsg.nheld m), ∀ (k : Nat), k < SMsg.nheld m → SHeld.c (SMsg.held m k) = SHeld.c (SMsg.held (SMsg.mk (SMsg.kind m) x0 x1 x2 (SMsg.slot m) (SMsg.batch m) (SMsg.vote m) (SMsg.cepoch m) (SMsg.cleader m) (SMsg.cview m) (SMsg.nheld m) (SMsg.held m) n x3 (SMsg.digest m) (SMsg.cert m) (SMsg.state m) (SMsg.n m) (SMsg.sig m)) k), false = true → false = true, q n, ∀ (k : Nat), k < n → SEnv.c (x3 k) = SEnv.c (SMsg.news (SMsg.mk (SMsg.kind m) x0 x1 x2 (SMsg.slot m) (SMsg.batch m) (SMsg.vote m) (SMsg.cepoch m) (SMsg.cleader m) (SMsg.cview m) (SMsg.nheld m) (SMsg.held m) n x3 (SMsg.digest m) (SMsg.cert m) (SMsg.state m) (SMsg.n m) (SMsg.sig m)) k), false = true → false = true, q (32 : Nat), q (SMsg.digest m), q (SVote.kind (SCert.vote (SMsg.cert m))), q (SVote.epoch (SCert.vote (SMsg.cert m))), q (SVote.view (SCert.vote (SMsg.cert m))), q (SVote.slot (SCert.vote (SMsg.cert m))), q (32 : Nat), q (SVote.digest (SCert.vote (SMsg.cert m))), q (SCert.n (SMsg.cert m)), ∀ (k : Nat), k < SCert.n (SMsg.cert m) → SSign.c (SCert.sig (SMsg.cert m) k) = SSign.c (SCert.sig (SMsg.cert m) k), false = true → false = true, q (SMsg.state m), q (SMsg.n m), ∀ (k : Nat), k < SMsg.n m → SSign.c (SMsg.sig m k) = SSign.c (SMsg.sig (SMsg.mk (SMsg.kind m) x0 x1 x2 (SMsg.slot m) (SMsg.batch m) (SMsg.vote m) (SMsg.cepoch m) (SMsg.cleader m) (SMsg.cview m) (SMsg.nheld m) (SMsg.held m) n x3 (SMsg.digest m) (SMsg.cert m) (SMsg.state m) (SMsg.n m) (SMsg.sig m)) k), false = true → false = true]) : Option (V × Heap × List Prop)) := by kernel_rfl

theorem bdF5_p00001 (m : SMsg) (s : RS) (t1 : RS) (t2 : RS) (x0 : Int) (x1 : List Int) :
  along Tryz.prog (bdF5 m s t1 t2 x0 x1) [false, false, false, false, true] = (some (.tup [], [(.o 0, .flat [.ptr (.o 1) 0 0 0 0, .bool (RS.bad t2)]), (.o 1, rdB t2), (.o 2, .flat (SMsg.c (SMsg.mk (SMsg.kind m) x0 (SMsg.leader m) (SMsg.view m) (SMsg.slot m) (SMsg.batch m) (SMsg.vote m) (SMsg.cepoch m) (SMsg.cleader m) (SMsg.cview m) (SMsg.nheld m) (SMsg.held m) (SMsg.nnews m) (SMsg.news m) x1 (SMsg.cert m) (SMsg.state m) (SMsg.n m) (SMsg.sig m))))], [decide (SMsg.kind m = (1 : Int)) = false, decide (SMsg.kind m = (2 : Int)) = false, decide (SMsg.kind m = (3 : Int)) = false, decide (SMsg.kind m = (4 : Int)) = false, decide (SMsg.kind m = (5 : Int)) = true, T Tryz.prog 25 [.ptr (.o 1) 0 0 0 0, .int .i64 1048576] [(.o 1, rdB s)] (.int .i64 x0) [(.o 1, rdB t1)], T Tryz.prog 113 [.ptr (.o 0) 0 0 0 0] [(.o 0, .flat [.ptr (.o 1) 0 0 0 0, .bool (RS.bad s)]), (.o 1, rdB t1)] (.agg [.seg .u8 32 x1]) [(.o 0, .flat [.ptr (.o 1) 0 0 0 0, .bool (RS.bad t2)]), (.o 1, rdB t2)], q0, q0, q0, q (RS.bad t2), q (List.length (RS.l t2)), ∀ (k : Nat), k < List.length (RS.l t2) → bl (RS.l t2) k = bl (RS.l t2) k, false = true → false = true, q (RS.e t2), q2, q (SMsg.kind m), q x0, q (SMsg.leader m), q (SMsg.view m), q (SMsg.slot m), q (SBatch.noop (SMsg.batch m)), q (SBatch.n (SMsg.batch m)), ∀ (k : Nat), k < SBatch.n (SMsg.batch m) → SReq.c (SBatch.req (SMsg.batch m) k) = SReq.c (SBatch.req (SMsg.batch m) k), false = true → false = true, q (SVote.kind (SMsg.vote m)), q (SVote.epoch (SMsg.vote m)), q (SVote.view (SMsg.vote m)), q (SVote.slot (SMsg.vote m)), q (32 : Nat), q (SVote.digest (SMsg.vote m)), q (SMsg.cepoch m), q (SMsg.cleader m), q (SMsg.cview m), q (SMsg.nheld m), ∀ (k : Nat), k < SMsg.nheld m → SHeld.c (SMsg.held m k) = SHeld.c (SMsg.held (SMsg.mk (SMsg.kind m) x0 (SMsg.leader m) (SMsg.view m) (SMsg.slot m) (SMsg.batch m) (SMsg.vote m) (SMsg.cepoch m) (SMsg.cleader m) (SMsg.cview m) (SMsg.nheld m) (SMsg.held m) (SMsg.nnews m) (SMsg.news m) x1 (SMsg.cert m) (SMsg.state m) (SMsg.n m) (SMsg.sig m)) k), false = true → false = true, q (SMsg.nnews m), ∀ (k : Nat), k < SMsg.nnews m → SEnv.c (SMsg.news m k) = SEnv.c (SMsg.news (SMsg.mk (SMsg.kind m) x0 (SMsg.leader m) (SMsg.view m) (SMsg.slot m) (SMsg.batch m) (SMsg.vote m) (SMsg.cepoch m) (SMsg.cleader m) (SMsg.cview m) (SMsg.nheld m) (SMsg.held m) (SMsg.nnews m) (SMsg.news m) x1 (SMsg.cert m) (SMsg.state m) (SMsg.n m) (SMsg.sig m)) k), false = true → false = true, q (32 : Nat), q x1, q (SVote.kind (SCert.vote (SMsg.cert m))), q (SVote.epoch (SCert.vote (SMsg.cert m))), q (SVote.view (SCert.vote (SMsg.cert m))), q (SVote.slot (SCert.vote (SMsg.cert m))), q (32 : Nat), q (SVote.digest (SCert.vote (SMsg.cert m))), q (SCert.n (SMsg.cert m)), ∀ (k : Nat), k < SCert.n (SMsg.cert m) → SSign.c (SCert.sig (SMsg.cert m) k) = SSign.c (SCert.sig (SMsg.cert m) k), false = true → false = true, q (SMsg.state m), q (SMsg.n m), ∀ (k : Nat), k < SMsg.n m → SSign.c (SMsg.sig m k) = SSign.c (SMsg.sig (SMsg.mk (SMsg.kind m) x0 (SMsg.leader m) (SMsg.view m) (SMsg.slot m) (SMsg.batch m) (SMsg.vote m) (SMsg.cepoch m) (SMsg.cleader m) (SMsg.cview m) (SMsg.nheld m) (SMsg.held m) (SMsg.nnews m) (SMsg.news m) x1 (SMsg.cert m) (SMsg.state m) (SMsg.n m) (SMsg.sig m)) k), false = true → false = true]) : Option (V × Heap × List Prop)) := by kernel_rfl

theorem bdF6_p000001 (m : SMsg) (s : RS) (t1 : RS) (t2 : RS) (x0 : Int) (x1 : Int) :
  along Tryz.prog (bdF6 m s t1 t2 x0 x1) [false, false, false, false, false, true] = (some (.tup [], [(.o 0, .flat [.ptr (.o 1) 0 0 0 0, .bool (RS.bad t2)]), (.o 1, rdB t2), (.o 2, .flat (SMsg.c (SMsg.mk (SMsg.kind m) x0 (SMsg.leader m) (SMsg.view m) x1 (SMsg.batch m) (SMsg.vote m) (SMsg.cepoch m) (SMsg.cleader m) (SMsg.cview m) (SMsg.nheld m) (SMsg.held m) (SMsg.nnews m) (SMsg.news m) (SMsg.digest m) (SMsg.cert m) (SMsg.state m) (SMsg.n m) (SMsg.sig m))))], [decide (SMsg.kind m = (1 : Int)) = false, decide (SMsg.kind m = (2 : Int)) = false, decide (SMsg.kind m = (3 : Int)) = false, decide (SMsg.kind m = (4 : Int)) = false, decide (SMsg.kind m = (5 : Int)) = false, decide (SMsg.kind m = (6 : Int)) = true, T Tryz.prog 25 [.ptr (.o 1) 0 0 0 0, .int .i64 1048576] [(.o 1, rdB s)] (.int .i64 x0) [(.o 1, rdB t1)], T Tryz.prog 25 [.ptr (.o 1) 0 0 0 0, .int .i64 1099511627776] [(.o 1, rdB t1)] (.int .i64 x1) [(.o 1, rdB t2)], q0, q0, q0, RS.bad s = RS.bad t2, q (List.length (RS.l t2)), ∀ (k : Nat), k < List.length (RS.l t2) → bl (RS.l t2) k = bl (RS.l t2) k, false = true → false = true, q (RS.e t2), q2, q (SMsg.kind m), q x0, q (SMsg.leader m), q (SMsg.view m), q x1, q (SBatch.noop (SMsg.batch m)), q (SBatch.n (SMsg.batch m)), ∀ (k : Nat), k < SBatch.n (SMsg.batch m) → SReq.c (SBatch.req (SMsg.batch m) k) = SReq.c (SBatch.req (SMsg.batch m) k), false = true → false = true, q (SVote.kind (SMsg.vote m)), q (SVote.epoch (SMsg.vote m)), q (SVote.view (SMsg.vote m)), q (SVote.slot (SMsg.vote m)), q (32 : Nat), q (SVote.digest (SMsg.vote m)), q (SMsg.cepoch m), q (SMsg.cleader m), q (SMsg.cview m), q (SMsg.nheld m), ∀ (k : Nat), k < SMsg.nheld m → SHeld.c (SMsg.held m k) = SHeld.c (SMsg.held (SMsg.mk (SMsg.kind m) x0 (SMsg.leader m) (SMsg.view m) x1 (SMsg.batch m) (SMsg.vote m) (SMsg.cepoch m) (SMsg.cleader m) (SMsg.cview m) (SMsg.nheld m) (SMsg.held m) (SMsg.nnews m) (SMsg.news m) (SMsg.digest m) (SMsg.cert m) (SMsg.state m) (SMsg.n m) (SMsg.sig m)) k), false = true → false = true, q (SMsg.nnews m), ∀ (k : Nat), k < SMsg.nnews m → SEnv.c (SMsg.news m k) = SEnv.c (SMsg.news (SMsg.mk (SMsg.kind m) x0 (SMsg.leader m) (SMsg.view m) x1 (SMsg.batch m) (SMsg.vote m) (SMsg.cepoch m) (SMsg.cleader m) (SMsg.cview m) (SMsg.nheld m) (SMsg.held m) (SMsg.nnews m) (SMsg.news m) (SMsg.digest m) (SMsg.cert m) (SMsg.state m) (SMsg.n m) (SMsg.sig m)) k), false = true → false = true, q (32 : Nat), q (SMsg.digest m), q (SVote.kind (SCert.vote (SMsg.cert m))), q (SVote.epoch (SCert.vote (SMsg.cert m))), q (SVote.view (SCert.vote (SMsg.cert m))), q (SVote.slot (SCert.vote (SMsg.cert m))), q (32 : Nat), q (SVote.digest (SCert.vote (SMsg.cert m))), q (SCert.n (SMsg.cert m)), ∀ (k : Nat), k < SCert.n (SMsg.cert m) → SSign.c (SCert.sig (SMsg.cert m) k) = SSign.c (SCert.sig (SMsg.cert m) k), false = true → false = true, q (SMsg.state m), q (SMsg.n m), ∀ (k : Nat), k < SMsg.n m → SSign.c (SMsg.sig m k) = SSign.c (SMsg.sig (SMsg.mk (SMsg.kind m) x0 (SMsg.leader m) (SMsg.view m) x1 (SMsg.batch m) (SMsg.vote m) (SMsg.cepoch m) (SMsg.cleader m) (SMsg.cview m) (SMsg.nheld m) (SMsg.held m) (SMsg.nnews m) (SMsg.news m) (SMsg.digest m) (SMsg.cert m) (SMsg.state m) (SMsg.n m) (SMsg.sig m)) k), false = true → false = true]) : Option (V × Heap × List Prop)) := by kernel_rfl

theorem bdF7_p0000001 (m : SMsg) (s : RS) (t1 : RS) (t2 : RS) (x0 : SBatch) (x1 : SCert) :
  along Tryz.prog (bdF7 m s t1 t2 x0 x1) [false, false, false, false, false, false, true] = (some (.tup [], [(.o 0, .flat [.ptr (.o 1) 0 0 0 0, .bool (RS.bad t2)]), (.o 1, rdB t2), (.o 2, .flat (SMsg.c (SMsg.mk (SMsg.kind m) (SMsg.epoch m) (SMsg.leader m) (SMsg.view m) (SMsg.slot m) x0 (SMsg.vote m) (SMsg.cepoch m) (SMsg.cleader m) (SMsg.cview m) (SMsg.nheld m) (SMsg.held m) (SMsg.nnews m) (SMsg.news m) (SMsg.digest m) x1 (SMsg.state m) (SMsg.n m) (SMsg.sig m))))], [decide (SMsg.kind m = (1 : Int)) = false, decide (SMsg.kind m = (2 : Int)) = false, decide (SMsg.kind m = (3 : Int)) = false, decide (SMsg.kind m = (4 : Int)) = false, decide (SMsg.kind m = (5 : Int)) = false, decide (SMsg.kind m = (6 : Int)) = false, decide (SMsg.kind m = (7 : Int)) = true, T Tryz.prog 107 [.ptr (.o 1) 0 0 0 0] [(.o 1, rdB s)] (.agg (SBatch.c x0)) [(.o 1, rdB t1)], T Tryz.prog 114 [.ptr (.o 0) 0 0 0 0] [(.o 0, .flat [.ptr (.o 1) 0 0 0 0, .bool (RS.bad s)]), (.o 1, rdB t1)] (.agg (SCert.c x1)) [(.o 0, .flat [.ptr (.o 1) 0 0 0 0, .bool (RS.bad t2)]), (.o 1, rdB t2)], q0, q0, q0, q (RS.bad t2), q (List.length (RS.l t2)), ∀ (k : Nat), k < List.length (RS.l t2) → bl (RS.l t2) k = bl (RS.l t2) k, false = true → false = true, q (RS.e t2), q2, q (SMsg.kind m), q (SMsg.epoch m), q (SMsg.leader m), q (SMsg.view m), q (SMsg.slot m), q (SBatch.noop x0), q (SBatch.n x0), ∀ (k : Nat), k < SBatch.n x0 → SReq.c (SBatch.req x0 k) = SReq.c (SBatch.req x0 k), false = true → false = true, q (SVote.kind (SMsg.vote m)), q (SVote.epoch (SMsg.vote m)), q (SVote.view (SMsg.vote m)), q (SVote.slot (SMsg.vote m)), q (32 : Nat), q (SVote.digest (SMsg.vote m)), q (SMsg.cepoch m), q (SMsg.cleader m), q (SMsg.cview m), q (SMsg.nheld m), ∀ (k : Nat), k < SMsg.nheld m → SHeld.c (SMsg.held m k) = SHeld.c (SMsg.held (SMsg.mk (SMsg.kind m) (SMsg.epoch m) (SMsg.leader m) (SMsg.view m) (SMsg.slot m) x0 (SMsg.vote m) (SMsg.cepoch m) (SMsg.cleader m) (SMsg.cview m) (SMsg.nheld m) (SMsg.held m) (SMsg.nnews m) (SMsg.news m) (SMsg.digest m) x1 (SMsg.state m) (SMsg.n m) (SMsg.sig m)) k), false = true → false = true, q (SMsg.nnews m), ∀ (k : Nat), k < SMsg.nnews m → SEnv.c (SMsg.news m k) = SEnv.c (SMsg.news (SMsg.mk (SMsg.kind m) (SMsg.epoch m) (SMsg.leader m) (SMsg.view m) (SMsg.slot m) x0 (SMsg.vote m) (SMsg.cepoch m) (SMsg.cleader m) (SMsg.cview m) (SMsg.nheld m) (SMsg.held m) (SMsg.nnews m) (SMsg.news m) (SMsg.digest m) x1 (SMsg.state m) (SMsg.n m) (SMsg.sig m)) k), false = true → false = true, q (32 : Nat), q (SMsg.digest m), q (SVote.kind (SCert.vote x1)), q (SVote.epoch (SCert.vote x1)), q (SVote.view (SCert.vote x1)), q (SVote.slot (SCert.vote x1)), q (32 : Nat), q (SVote.digest (SCert.vote x1)), q (SCert.n x1), ∀ (k : Nat), k < SCert.n x1 → SSign.c (SCert.sig x1 k) = SSign.c (SCert.sig x1 k), false = true → false = true, q (SMsg.state m), q (SMsg.n m), ∀ (k : Nat), k < SMsg.n m → SSign.c (SMsg.sig m k) = SSign.c (SMsg.sig (SMsg.mk (SMsg.kind m) (SMsg.epoch m) (SMsg.leader m) (SMsg.view m) (SMsg.slot m) x0 (SMsg.vote m) (SMsg.cepoch m) (SMsg.cleader m) (SMsg.cview m) (SMsg.nheld m) (SMsg.held m) (SMsg.nnews m) (SMsg.news m) (SMsg.digest m) x1 (SMsg.state m) (SMsg.n m) (SMsg.sig m)) k), false = true → false = true]) : Option (V × Heap × List Prop)) := by kernel_rfl

theorem bdF8_p00000001 (m : SMsg) (s : RS) (t1 : RS) (t2 : RS) (n : Nat) (x0 : ByteArray) (x1 : Nat → SSign) :
  along Tryz.prog (bdF8 m s t1 t2 n x0 x1) [false, false, false, false, false, false, false, true] = (some (.tup [], [(.o 0, .flat [.ptr (.o 1) 0 0 0 0, .bool (RS.bad t2)]), (.o 1, rdB t2), (.o 2, .flat (SMsg.c (SMsg.mk (SMsg.kind m) (SMsg.epoch m) (SMsg.leader m) (SMsg.view m) (SMsg.slot m) (SMsg.batch m) (SMsg.vote m) (SMsg.cepoch m) (SMsg.cleader m) (SMsg.cview m) (SMsg.nheld m) (SMsg.held m) (SMsg.nnews m) (SMsg.news m) (SMsg.digest m) (SMsg.cert m) x0 n x1)))], [decide (SMsg.kind m = (1 : Int)) = false, decide (SMsg.kind m = (2 : Int)) = false, decide (SMsg.kind m = (3 : Int)) = false, decide (SMsg.kind m = (4 : Int)) = false, decide (SMsg.kind m = (5 : Int)) = false, decide (SMsg.kind m = (6 : Int)) = false, decide (SMsg.kind m = (7 : Int)) = false, decide (SMsg.kind m = (8 : Int)) = true, T Tryz.prog 26 [.ptr (.o 1) 0 0 0 0, .int .i64 4194304] [(.o 1, rdB s)] (.str x0) [(.o 1, rdB t1)], T Tryz.prog 115 [.ptr (.o 0) 0 0 0 0, .int .i64 64, .fn (.func 116) [.ptr (.o 0) 0 0 0 0] []] [(.o 0, .flat [.ptr (.o 1) 0 0 0 0, .bool (RS.bad s)]), (.o 1, rdB t1)] (sg n x1) [(.o 0, .flat [.ptr (.o 1) 0 0 0 0, .bool (RS.bad t2)]), (.o 1, rdB t2)], q0, q0, q0, q (RS.bad t2), q (List.length (RS.l t2)), ∀ (k : Nat), k < List.length (RS.l t2) → bl (RS.l t2) k = bl (RS.l t2) k, false = true → false = true, q (RS.e t2), q2, q (SMsg.kind m), q (SMsg.epoch m), q (SMsg.leader m), q (SMsg.view m), q (SMsg.slot m), q (SBatch.noop (SMsg.batch m)), q (SBatch.n (SMsg.batch m)), ∀ (k : Nat), k < SBatch.n (SMsg.batch m) → SReq.c (SBatch.req (SMsg.batch m) k) = SReq.c (SBatch.req (SMsg.batch m) k), false = true → false = true, q (SVote.kind (SMsg.vote m)), q (SVote.epoch (SMsg.vote m)), q (SVote.view (SMsg.vote m)), q (SVote.slot (SMsg.vote m)), q (32 : Nat), q (SVote.digest (SMsg.vote m)), q (SMsg.cepoch m), q (SMsg.cleader m), q (SMsg.cview m), q (SMsg.nheld m), ∀ (k : Nat), k < SMsg.nheld m → SHeld.c (SMsg.held m k) = SHeld.c (SMsg.held (SMsg.mk (SMsg.kind m) (SMsg.epoch m) (SMsg.leader m) (SMsg.view m) (SMsg.slot m) (SMsg.batch m) (SMsg.vote m) (SMsg.cepoch m) (SMsg.cleader m) (SMsg.cview m) (SMsg.nheld m) (SMsg.held m) (SMsg.nnews m) (SMsg.news m) (SMsg.digest m) (SMsg.cert m) x0 n x1) k), false = true → false = true, q (SMsg.nnews m), ∀ (k : Nat), k < SMsg.nnews m → SEnv.c (SMsg.news m k) = SEnv.c (SMsg.news (SMsg.mk (SMsg.kind m) (SMsg.epoch m) (SMsg.leader m) (SMsg.view m) (SMsg.slot m) (SMsg.batch m) (SMsg.vote m) (SMsg.cepoch m) (SMsg.cleader m) (SMsg.cview m) (SMsg.nheld m) (SMsg.held m) (SMsg.nnews m) (SMsg.news m) (SMsg.digest m) (SMsg.cert m) x0 n x1) k), false = true → false = true, q (32 : Nat), q (SMsg.digest m), q (SVote.kind (SCert.vote (SMsg.cert m))), q (SVote.epoch (SCert.vote (SMsg.cert m))), q (SVote.view (SCert.vote (SMsg.cert m))), q (SVote.slot (SCert.vote (SMsg.cert m))), q (32 : Nat), q (SVote.digest (SCert.vote (SMsg.cert m))), q (SCert.n (SMsg.cert m)), ∀ (k : Nat), k < SCert.n (SMsg.cert m) → SSign.c (SCert.sig (SMsg.cert m) k) = SSign.c (SCert.sig (SMsg.cert m) k), false = true → false = true, q x0, q n, ∀ (k : Nat), k < n → SSign.c (x1 k) = SSign.c (SMsg.sig (SMsg.mk (SMsg.kind m) (SMsg.epoch m) (SMsg.leader m) (SMsg.view m) (SMsg.slot m) (SMsg.batch m) (SMsg.vote m) (SMsg.cepoch m) (SMsg.cleader m) (SMsg.cview m) (SMsg.nheld m) (SMsg.held m) (SMsg.nnews m) (SMsg.news m) (SMsg.digest m) (SMsg.cert m) x0 n x1) k), false = true → false = true]) : Option (V × Heap × List Prop)) := by kernel_rfl

theorem bdF9_p00000000 (m : SMsg) (s : RS) :
  along Tryz.prog (bdF9 m s) [false, false, false, false, false, false, false, false] = (some (.tup [], [(.o 0, .flat [.ptr (.o 1) 0 0 0 0, .bool (RS.bad s)]), (.o 1, rdB s), (.o 2, .flat (SMsg.c m))], [decide (SMsg.kind m = (1 : Int)) = false, decide (SMsg.kind m = (2 : Int)) = false, decide (SMsg.kind m = (3 : Int)) = false, decide (SMsg.kind m = (4 : Int)) = false, decide (SMsg.kind m = (5 : Int)) = false, decide (SMsg.kind m = (6 : Int)) = false, decide (SMsg.kind m = (7 : Int)) = false, decide (SMsg.kind m = (8 : Int)) = false, q0, q0, q0, q (RS.bad s), q (List.length (RS.l s)), ∀ (k : Nat), k < List.length (RS.l s) → bl (RS.l s) k = bl (RS.l s) k, false = true → false = true, q (RS.e s), q2, q (SMsg.kind m), q (SMsg.epoch m), q (SMsg.leader m), q (SMsg.view m), q (SMsg.slot m), q (SBatch.noop (SMsg.batch m)), q (SBatch.n (SMsg.batch m)), ∀ (k : Nat), k < SBatch.n (SMsg.batch m) → SReq.c (SBatch.req (SMsg.batch m) k) = SReq.c (SBatch.req (SMsg.batch m) k), false = true → false = true, q (SVote.kind (SMsg.vote m)), q (SVote.epoch (SMsg.vote m)), q (SVote.view (SMsg.vote m)), q (SVote.slot (SMsg.vote m)), q (32 : Nat), q (SVote.digest (SMsg.vote m)), q (SMsg.cepoch m), q (SMsg.cleader m), q (SMsg.cview m), q (SMsg.nheld m), ∀ (k : Nat), k < SMsg.nheld m → SHeld.c (SMsg.held m k) = SHeld.c (SMsg.held m k), false = true → false = true, q (SMsg.nnews m), ∀ (k : Nat), k < SMsg.nnews m → SEnv.c (SMsg.news m k) = SEnv.c (SMsg.news m k), false = true → false = true, q (32 : Nat), q (SMsg.digest m), q (SVote.kind (SCert.vote (SMsg.cert m))), q (SVote.epoch (SCert.vote (SMsg.cert m))), q (SVote.view (SCert.vote (SMsg.cert m))), q (SVote.slot (SCert.vote (SMsg.cert m))), q (32 : Nat), q (SVote.digest (SCert.vote (SMsg.cert m))), q (SCert.n (SMsg.cert m)), ∀ (k : Nat), k < SCert.n (SMsg.cert m) → SSign.c (SCert.sig (SMsg.cert m) k) = SSign.c (SCert.sig (SMsg.cert m) k), false = true → false = true, q (SMsg.state m), q (SMsg.n m), ∀ (k : Nat), k < SMsg.n m → SSign.c (SMsg.sig m k) = SSign.c (SMsg.sig m k), false = true → false = true]) : Option (V × Heap × List Prop)) := by kernel_rfl

theorem getS_aft {α : Type} {one : RS → α × RS} (h : ∀ s, Aft s (one s).2) (most : Int) (s : RS) : Aft s (getS one most s) :=
 (numR_after most s).aft.trans (stR_aft h _ _)
theorem T_getS {most : Int} (hm : 0 ≤ most ∧ most ≤ 1000) (s : RS) (hl : s.l.length ≤ 1000000000) : T Tryz.prog 115 [p0, .int .i64 most, .fn (.func 116) [p0] []] (mrH 0 1 s) (sg (getN signR most s) (getEl signR most s)) (mrH 0 1 (getS signR most s)) :=
 T_gtSg hm s hl (el := getEl signR most s) (st := stR signR (numR most s).2) rfl (fun k _ h => T_signR _ h) (fun k => Nat.le_trans (stR_aft (fun s => (signR_after s).aft) _ k).1 (Nat.le_trans (numR_after most s).1 hl)) (cntR_le _ _ _) (fun k h => cntR_ok _ _ _ k h) (cntR_end _ _ _)
theorem T_getE {most : Int} (hm : 0 ≤ most ∧ most ≤ 1000) (s : RS) (hl : s.l.length ≤ 1000000000) : T Tryz.prog 111 [p0, .int .i64 most, .fn (.func 112) [p0] []] (mrH 0 1 s) (nw (getN envR most s) (getEl envR most s)) (mrH 0 1 (getS envR most s)) :=
 T_gtNw hm s hl (el := getEl envR most s) (st := stR envR (numR most s).2) rfl (fun k _ h => T_envR _ h) (fun k => Nat.le_trans (stR_aft (fun s => (envR_after s).aft) _ k).1 (Nat.le_trans (numR_after most s).1 hl)) (cntR_le _ _ _) (fun k h => cntR_ok _ _ _ k h) (cntR_end _ _ _)
theorem certR_aft (s : RS) : Aft s (certR s).2 := (voteR_aft s).trans (getS_aft (fun s => (signR_after s).aft) _ _)
theorem T_certR (s : RS) (hl : s.l.length ≤ 1000000000) : T Tryz.prog 114 [p0] (mrH 0 1 s) (.agg (certR s).1.c) (mrH 0 1 (certR s).2) := by
 refine T_al (bdCtR_p s (voteR s).2 (certR s).2 (voteR s).1 (getN signR 64 (voteR s).2) (getEl signR 64 (voteR s).2)) Tryz.func114 ?_
 simp only [All]; and_intros
 all_goals first
  | exact T_voteR s hl
  | exact T_getS (by decide) _ (Nat.le_trans (voteR_aft s).1 hl)
  | trivial
  | rfl
  | (intro _ _; exact ⟨_, rfl⟩)
  | (intro _ _; rfl)
  | simp
theorem heldR_aft (s : RS) : Aft s (heldR s).2 := (batchR_after s).aft.trans (certR_aft _)
theorem T_heldR (s : RS) (hl : s.l.length ≤ 1000000000) : T Tryz.prog 110 [p0] (mrH 0 1 s) (.agg (heldR s).1.c) (mrH 0 1 (heldR s).2) := by
 have b := batchR_after s
 refine T_al (bdHdR_p s (batchR s).2 (heldR s).2 (batchR s).1 (certR (batchR s).2).1) Tryz.func110 ?_
 simp only [All]; and_intros
 all_goals first
  | exact T_batR 1 s hl
  | exact T.heap (T_certR _ (Nat.le_trans b.1 hl)) (mrHb_eq b.2.1).symm
  | trivial
  | rfl
  | (intro _ _; exact ⟨_, rfl⟩)
  | (intro _ _; rfl)
  | simp
theorem T_getH {most : Int} (hm : 0 ≤ most ∧ most ≤ 1000) (s : RS) (hl : s.l.length ≤ 1000000000) : T Tryz.prog 109 [p0, .int .i64 most, .fn (.func 110) [p0] []] (mrH 0 1 s) (Sy.hl (getN heldR most s) (getEl heldR most s)) (mrH 0 1 (getS heldR most s)) :=
 T_gtHl hm s hl (el := getEl heldR most s) (st := stR heldR (numR most s).2) rfl (fun k _ h => T_heldR _ h) (fun k => Nat.le_trans (stR_aft heldR_aft _ k).1 (Nat.le_trans (numR_after most s).1 hl)) (cntR_le _ _ _) (fun k h => cntR_ok _ _ _ k h) (cntR_end _ _ _)
theorem T_fl1 {m : SMsg} (s : RS) (hl : s.l.length ≤ 1000000000) (hk : m.kind = 1) : T Tryz.prog 84 [p0, .ptr (.o 2) 0 0 0 0] (mrH 0 1 s ++ [(.o 2, .flat m.c)]) (.tup []) (mrH 0 1 (fld1 m s).2 ++ [(.o 2, .flat (fld1 m s).1.c)]) := by
 have a1 : Aft s (f1S1 s) := ((numR_after _ _).aft : Aft s (f1S1 s))
 have l1 : (f1S1 s).l.length ≤ 1000000000 := Nat.le_trans a1.1 hl
 have a2 : Aft s (f1S2 s) := a1.trans ((numR_after _ _).aft)
 have l2 : (f1S2 s).l.length ≤ 1000000000 := Nat.le_trans a2.1 hl
 have a3 : Aft s (f1S3 s) := a2.trans ((batchR_after _).aft)
 have l3 : (f1S3 s).l.length ≤ 1000000000 := Nat.le_trans a3.1 hl
 have b1 : (f1S1 s).bad = s.bad := ((numR_after _ _).2.1 : (f1S1 s).bad = s.bad)
 have b2 : (f1S2 s).bad = s.bad := ((numR_after _ _).2.1 : (f1S2 s).bad = (f1S1 s).bad).trans b1
 have b3 : (f1S3 s).bad = s.bad := ((batchR_after _).2.1 : (f1S3 s).bad = (f1S2 s).bad).trans b2
 refine T_al (bdF1_p1 m s (f1S1 s) (f1S2 s) (f1S3 s)  ((numR 1048576 s).1) ((numR 1099511627776 (f1S1 s)).1) ((batchR (f1S2 s)).1)) Tryz.func84 ?_
 simp only [All]; and_intros
 all_goals first
  | exact T_num 1 _ _
  | exact T_num 1 _ _
  | exact T_batR 1 _ l2
  | exact b3.symm
  | (rw [hk]; rfl)
  | trivial
  | rfl
  | (intro _ _; exact ⟨_, rfl⟩)
  | (intro _ _; rfl)
  | (simp [hk]; done)
theorem T_fl2 {m : SMsg} (s : RS) (hl : s.l.length ≤ 1000000000) (hk : m.kind = 2) : T Tryz.prog 84 [p0, .ptr (.o 2) 0 0 0 0] (mrH 0 1 s ++ [(.o 2, .flat m.c)]) (.tup []) (mrH 0 1 (fld2 m s).2 ++ [(.o 2, .flat (fld2 m s).1.c)]) := by
 have a1 : Aft s (f2S1 s) := (voteR_aft _ : Aft s (f2S1 s))
 have l1 : (f2S1 s).l.length ≤ 1000000000 := Nat.le_trans a1.1 hl
 refine T_al (bdF2_p01 m s (f2S1 s)  ((voteR s).1)) Tryz.func84 ?_
 simp only [All]; and_intros
 all_goals first
  | exact T_voteR _ hl
  | (rw [hk]; rfl)
  | trivial
  | rfl
  | (intro _ _; exact ⟨_, rfl⟩)
  | (intro _ _; rfl)
  | (simp [hk]; done)
theorem T_fl3 {m : SMsg} (s : RS) (hl : s.l.length ≤ 1000000000) (hk : m.kind = 3) : T Tryz.prog 84 [p0, .ptr (.o 2) 0 0 0 0] (mrH 0 1 s ++ [(.o 2, .flat m.c)]) (.tup []) (mrH 0 1 (fld3 m s).2 ++ [(.o 2, .flat (fld3 m s).1.c)]) := by
 have a1 : Aft s (f3S1 s) := ((numR_after _ _).aft : Aft s (f3S1 s))
 have l1 : (f3S1 s).l.length ≤ 1000000000 := Nat.le_trans a1.1 hl
 have a2 : Aft s (f3S2 s) := a1.trans ((numR_after _ _).aft)
 have l2 : (f3S2 s).l.length ≤ 1000000000 := Nat.le_trans a2.1 hl
 have a3 : Aft s (f3S3 s) := a2.trans ((numR_after _ _).aft)
 have l3 : (f3S3 s).l.length ≤ 1000000000 := Nat.le_trans a3.1 hl
 have a4 : Aft s (f3S4 s) := a3.trans (getS_aft heldR_aft _ _)
 have l4 : (f3S4 s).l.length ≤ 1000000000 := Nat.le_trans a4.1 hl
 have b1 : (f3S1 s).bad = s.bad := ((numR_after _ _).2.1 : (f3S1 s).bad = s.bad)
 have b2 : (f3S2 s).bad = s.bad := ((numR_after _ _).2.1 : (f3S2 s).bad = (f3S1 s).bad).trans b1
 have b3 : (f3S3 s).bad = s.bad := ((numR_after _ _).2.1 : (f3S3 s).bad = (f3S2 s).bad).trans b2
 refine T_al (bdF3_p001 m s (f3S1 s) (f3S2 s) (f3S3 s) (f3S4 s) (getN heldR 4 (f3S3 s))  ((numR 1048576 s).1) ((numR 64 (f3S1 s)).1) ((numR 1099511627776 (f3S2 s)).1) (getEl heldR 4 (f3S3 s))) Tryz.func84 ?_
 simp only [All]; and_intros
 all_goals first
  | exact T_num 1 _ _
  | exact T_num 1 _ _
  | exact T_num 1 _ _
  | exact T.heap (T_getH (by decide) _ l3) (mrHb_eq b3).symm
  | (rw [hk]; rfl)
  | trivial
  | rfl
  | (intro _ _; exact ⟨_, rfl⟩)
  | (intro _ _; rfl)
  | (simp [hk]; done)
theorem T_fl4 {m : SMsg} (s : RS) (hl : s.l.length ≤ 1000000000) (hk : m.kind = 4) : T Tryz.prog 84 [p0, .ptr (.o 2) 0 0 0 0] (mrH 0 1 s ++ [(.o 2, .flat m.c)]) (.tup []) (mrH 0 1 (fld4 m s).2 ++ [(.o 2, .flat (fld4 m s).1.c)]) := by
 have a1 : Aft s (f4S1 s) := ((numR_after _ _).aft : Aft s (f4S1 s))
 have l1 : (f4S1 s).l.length ≤ 1000000000 := Nat.le_trans a1.1 hl
 have a2 : Aft s (f4S2 s) := a1.trans ((numR_after _ _).aft)
 have l2 : (f4S2 s).l.length ≤ 1000000000 := Nat.le_trans a2.1 hl
 have a3 : Aft s (f4S3 s) := a2.trans ((numR_after _ _).aft)
 have l3 : (f4S3 s).l.length ≤ 1000000000 := Nat.le_trans a3.1 hl
 have a4 : Aft s (f4S4 s) := a3.trans (getS_aft (fun s => (envR_after s).aft) _ _)
 have l4 : (f4S4 s).l.length ≤ 1000000000 := Nat.le_trans a4.1 hl
 have b1 : (f4S1 s).bad = s.bad := ((numR_after _ _).2.1 : (f4S1 s).bad = s.bad)
 have b2 : (f4S2 s).bad = s.bad := ((numR_after _ _).2.1 : (f4S2 s).bad = (f4S1 s).bad).trans b1
 have b3 : (f4S3 s).bad = s.bad := ((numR_after _ _).2.1 : (f4S3 s).bad = (f4S2 s).bad).trans b2
 refine T_al (bdF4_p0001 m s (f4S1 s) (f4S2 s) (f4S3 s) (f4S4 s) (getN envR 64 (f4S3 s))  ((numR 1048576 s).1) ((numR 64 (f4S1 s)).1) ((numR 1099511627776 (f4S2 s)).1) (getEl envR 64 (f4S3 s))) Tryz.func84 ?_
 simp only [All]; and_intros
 all_goals first
  | exact T_num 1 _ _
  | exact T_num 1 _ _
  | exact T_num 1 _ _
  | exact T.heap (T_getE (by decide) _ l3) (mrHb_eq b3).symm
  | (rw [hk]; rfl)
  | trivial
  | rfl
  | (intro _ _; exact ⟨_, rfl⟩)
  | (intro _ _; rfl)
  | (simp [hk]; done)
theorem T_fl5 {m : SMsg} (s : RS) (hl : s.l.length ≤ 1000000000) (hk : m.kind = 5) : T Tryz.prog 84 [p0, .ptr (.o 2) 0 0 0 0] (mrH 0 1 s ++ [(.o 2, .flat m.c)]) (.tup []) (mrH 0 1 (fld5 m s).2 ++ [(.o 2, .flat (fld5 m s).1.c)]) := by
 have a1 : Aft s (f5S1 s) := ((numR_after _ _).aft : Aft s (f5S1 s))
 have l1 : (f5S1 s).l.length ≤ 1000000000 := Nat.le_trans a1.1 hl
 have a2 : Aft s (f5S2 s) := a1.trans ((digR_after _).aft)
 have l2 : (f5S2 s).l.length ≤ 1000000000 := Nat.le_trans a2.1 hl
 have b1 : (f5S1 s).bad = s.bad := ((numR_after _ _).2.1 : (f5S1 s).bad = s.bad)
 refine T_al (bdF5_p00001 m s (f5S1 s) (f5S2 s)  ((numR 1048576 s).1) ((digR (f5S1 s)).1)) Tryz.func84 ?_
 simp only [All]; and_intros
 all_goals first
  | exact T_num 1 _ _
  | exact T.heap (T_digR _ l1) (mrHb_eq b1).symm
  | (rw [hk]; rfl)
  | trivial
  | rfl
  | (intro _ _; exact ⟨_, rfl⟩)
  | (intro _ _; rfl)
  | (simp [hk]; done)
theorem T_fl6 {m : SMsg} (s : RS) (hl : s.l.length ≤ 1000000000) (hk : m.kind = 6) : T Tryz.prog 84 [p0, .ptr (.o 2) 0 0 0 0] (mrH 0 1 s ++ [(.o 2, .flat m.c)]) (.tup []) (mrH 0 1 (fld6 m s).2 ++ [(.o 2, .flat (fld6 m s).1.c)]) := by
 have a1 : Aft s (f6S1 s) := ((numR_after _ _).aft : Aft s (f6S1 s))
 have l1 : (f6S1 s).l.length ≤ 1000000000 := Nat.le_trans a1.1 hl
 have a2 : Aft s (f6S2 s) := a1.trans ((numR_after _ _).aft)
 have l2 : (f6S2 s).l.length ≤ 1000000000 := Nat.le_trans a2.1 hl
 have b1 : (f6S1 s).bad = s.bad := ((numR_after _ _).2.1 : (f6S1 s).bad = s.bad)
 have b2 : (f6S2 s).bad = s.bad := ((numR_after _ _).2.1 : (f6S2 s).bad = (f6S1 s).bad).trans b1
 refine T_al (bdF6_p000001 m s (f6S1 s) (f6S2 s)  ((numR 1048576 s).1) ((numR 1099511627776 (f6S1 s)).1)) Tryz.func84 ?_
 simp only [All]; and_intros
 all_goals first
  | exact T_num 1 _ _
  | exact T_num 1 _ _
  | exact b2.symm
  | (rw [hk]; rfl)
  | trivial
  | rfl
  | (intro _ _; exact ⟨_, rfl⟩)
  | (intro _ _; rfl)
  | (simp [hk]; done)
theorem T_fl7 {m : SMsg} (s : RS) (hl : s.l.length ≤ 1000000000) (hk : m.kind = 7) : T Tryz.prog 84 [p0, .ptr (.o 2) 0 0 0 0] (mrH 0 1 s ++ [(.o 2, .flat m.c)]) (.tup []) (mrH 0 1 (fld7 m s).2 ++ [(.o 2, .flat (fld7 m s).1.c)]) := by
 have a1 : Aft s (f7S1 s) := ((batchR_after _).aft : Aft s (f7S1 s))
 have l1 : (f7S1 s).l.length ≤ 1000000000 := Nat.le_trans a1.1 hl
 have a2 : Aft s (f7S2 s) := a1.trans (certR_aft _)
 have l2 : (f7S2 s).l.length ≤ 1000000000 := Nat.le_trans a2.1 hl
 have b1 : (f7S1 s).bad = s.bad := ((batchR_after _).2.1 : (f7S1 s).bad = s.bad)
 refine T_al (bdF7_p0000001 m s (f7S1 s) (f7S2 s)  ((batchR s).1) ((certR (f7S1 s)).1)) Tryz.func84 ?_
 simp only [All]; and_intros
 all_goals first
  | exact T_batR 1 _ hl
  | exact T.heap (T_certR _ l1) (mrHb_eq b1).symm
  | (rw [hk]; rfl)
  | trivial
  | rfl
  | (intro _ _; exact ⟨_, rfl⟩)
  | (intro _ _; rfl)
  | (simp [hk]; done)
theorem T_fl8 {m : SMsg} (s : RS) (hl : s.l.length ≤ 1000000000) (hk : m.kind = 8) : T Tryz.prog 84 [p0, .ptr (.o 2) 0 0 0 0] (mrH 0 1 s ++ [(.o 2, .flat m.c)]) (.tup []) (mrH 0 1 (fld8 m s).2 ++ [(.o 2, .flat (fld8 m s).1.c)]) := by
 have a1 : Aft s (f8S1 s) := ((textR_after _ _).aft : Aft s (f8S1 s))
 have l1 : (f8S1 s).l.length ≤ 1000000000 := Nat.le_trans a1.1 hl
 have a2 : Aft s (f8S2 s) := a1.trans (getS_aft (fun s => (signR_after s).aft) _ _)
 have l2 : (f8S2 s).l.length ≤ 1000000000 := Nat.le_trans a2.1 hl
 have b1 : (f8S1 s).bad = s.bad := ((textR_after _ _).2.1 : (f8S1 s).bad = s.bad)
 refine T_al (bdF8_p00000001 m s (f8S1 s) (f8S2 s) (getN signR 64 (f8S1 s))  ((textR 4194304 s).1) (getEl signR 64 (f8S1 s))) Tryz.func84 ?_
 simp only [All]; and_intros
 all_goals first
  | exact T_textR 1 _ _ hl
  | exact T.heap (T_getS (by decide) _ l1) (mrHb_eq b1).symm
  | (rw [hk]; rfl)
  | trivial
  | rfl
  | (intro _ _; exact ⟨_, rfl⟩)
  | (intro _ _; rfl)
  | (simp [hk]; done)
theorem T_fl9 {m : SMsg} (s : RS) (hk : m.kind < 1 ∨ 8 < m.kind) : T Tryz.prog 84 [p0, .ptr (.o 2) 0 0 0 0] (mrH 0 1 s ++ [(.o 2, .flat m.c)]) (.tup []) (mrH 0 1 s ++ [(.o 2, .flat m.c)]) := by
 refine T_al (bdF9_p00000000 m s) Tryz.func84 ?_
 simp only [All]; and_intros
 all_goals first
  | (rw [decide_eq_false_iff_not]; omega)
  | trivial
  | rfl
  | (intro _ _; trivial)
  | (intro _ _; rfl)
theorem T_fields0 (m : SMsg) (s : RS) (hl : s.l.length ≤ 1000000000) : T Tryz.prog 84 [p0, .ptr (.o 2) 0 0 0 0] (mrH 0 1 s ++ [(.o 2, .flat m.c)]) (.tup []) (mrH 0 1 (fieldsR m s).2 ++ [(.o 2, .flat (fieldsR m s).1.c)]) := by
 by_cases h1 : m.kind = 1
 ·have e : fieldsR m s = fld1 m s := by simp only [fieldsR, if_pos h1]
  rw [e]; exact T_fl1 s hl h1
 by_cases h2 : m.kind = 2
 ·have e : fieldsR m s = fld2 m s := by simp only [fieldsR, if_neg h1, if_pos h2]
  rw [e]; exact T_fl2 s hl h2
 by_cases h3 : m.kind = 3
 ·have e : fieldsR m s = fld3 m s := by simp only [fieldsR, if_neg h1, if_neg h2, if_pos h3]
  rw [e]; exact T_fl3 s hl h3
 by_cases h4 : m.kind = 4
 ·have e : fieldsR m s = fld4 m s := by simp only [fieldsR, if_neg h1, if_neg h2, if_neg h3, if_pos h4]
  rw [e]; exact T_fl4 s hl h4
 by_cases h5 : m.kind = 5
 ·have e : fieldsR m s = fld5 m s := by simp only [fieldsR, if_neg h1, if_neg h2, if_neg h3, if_neg h4, if_pos h5]
  rw [e]; exact T_fl5 s hl h5
 by_cases h6 : m.kind = 6
 ·have e : fieldsR m s = fld6 m s := by simp only [fieldsR, if_neg h1, if_neg h2, if_neg h3, if_neg h4, if_neg h5, if_pos h6]
  rw [e]; exact T_fl6 s hl h6
 by_cases h7 : m.kind = 7
 ·have e : fieldsR m s = fld7 m s := by simp only [fieldsR, if_neg h1, if_neg h2, if_neg h3, if_neg h4, if_neg h5, if_neg h6, if_pos h7]
  rw [e]; exact T_fl7 s hl h7
 by_cases h8 : m.kind = 8
 ·have e : fieldsR m s = fld8 m s := by simp only [fieldsR, if_neg h1, if_neg h2, if_neg h3, if_neg h4, if_neg h5, if_neg h6, if_neg h7, if_pos h8]
  rw [e]; exact T_fl8 s hl h8
 have e : fieldsR m s = (m, s) := by simp only [fieldsR, if_neg h1, if_neg h2, if_neg h3, if_neg h4, if_neg h5, if_neg h6, if_neg h7, if_neg h8]
 rw [e]; exact T_fl9 s (by omega)
end Go.Proofs.YtnmccoincblecaaGreat
namespace Go.Proofs.YtnmccoincblecaaGreat
open Go Sy Go.Proofs
def stD (k : Int) (s1 : RS) : St := ⟨mkT 53 [(2, .ptr (.o 8) 0 0 0 0), (3, .int .i64 0), (4, .ptr (.o 5) 0 0 0 0), (5, .ptr (.o 7) 0 0 0 0)], mrH 5 6 s1 ++ [(.o 7, .flat (msg0 k).c), (.o 8, .flat (msg0 0).c)], 9, []⟩
def fxD (k : Int) (s1 : RS) : Nat → St → List Hint := fun id t => bif Nat.beq id 7 then match getV t.tmps 4 with
  | .ptr r _ _ _ _ => match getV t.tmps 5 with
   | .ptr q _ _ _ _ => match getV t.tmps 2 with
    | .ptr c _ _ _ _ => match pull r t.heap with
     | some (.flat (.ptr a _ _ _ _ :: _), _) => [.wk (wToS [(.o 5, r), (.o 6, a), (.o 7, q), (.o 8, c)] (stD k s1))]
     | _ => []
    | _ => []
   | _ => []
  | _ => []
 else []
def kDec (r : SMsg) (e : Int) : Exit → St → Option W := fun _ t => match getV t.tmps 2 with
 | .ptr c _ _ _ _ => some ⟨[], [(2, .set (.ptr c 0 0 0 0)), (3, .set (.int .i64 e))], [(c, .set (.flat r.c))], none, t.next⟩
 | _ => none
noncomputable def bdDec (s : ByteArray) (k : Int) (s0 s1 s2 : RS) (m : SMsg) (d : Int) (r : SMsg) (e : Int) : Bd := { f := Tryz.f42, args := [.str s], kb := { db := dbSeqF 0 [(24, 7, fun _ _ lo => [{ val := .ptr (.o lo) 0 0 0 0, post := [(.o lo, rdB s0)] }]), (25, 15, cRd (.int .i64 k) s1), (78, 27, cRd (.int .i64 s1.e) s1), (84, 1, fun _ _ _ => [{ pre := [.o 5, .o 6, .o 7], val := .tup [], post := mrH 5 6 s2 ++ [(.o 7, .flat m.c)] }]), (28, 6, cRd (.int .i64 d) s2)], fx := fxD k s1 }, k := kDec r e }
noncomputable def bdDec3 (s : ByteArray) : Bd := bdDec s 0 {} {} {} {} 0 (msg0 0) 3
noncomputable def bdDecZ (s : ByteArray) (k : Int) (s0 s1 s2 : RS) (m : SMsg) (d : Int) : Bd := bdDec s k s0 s1 s2 m d (msg0 0) 130
noncomputable def bdDecE (s : ByteArray) (k : Int) (s0 s1 s2 : RS) (m : SMsg) (d : Int) : Bd := bdDec s k s0 s1 s2 m d (msg0 0) d
noncomputable def bdDecO (s : ByteArray) (k : Int) (s0 s1 s2 : RS) (m : SMsg) (d : Int) : Bd := bdDec s k s0 s1 s2 m d m 0
def dec1 (l : List UInt8) : RS := (numR 8 { l := l }).2
def decK (l : List UInt8) : Int := (numR 8 { l := l }).1
def decF (l : List UInt8) : SMsg × RS := fieldsR (msg0 (decK l)) (dec1 l)
def decR (l : List UInt8) : SMsg × Int :=
 if 4194304 < l.length then (msg0 0, 3) else if decK l = 0 ∧ (dec1 l).e = 0 then (msg0 0, 130) else if (decF l).2.bad = true then (msg0 0, 130) else if doneR (decF l).2 ≠ 0 then (msg0 0, doneR (decF l).2) else ((decF l).1, 0)
end Go.Proofs.YtnmccoincblecaaGreat
namespace Go.Proofs.YtnmccoincblecaaGreat
open Go Sy Go.Proofs
theorem bdDec3_p1 (s : ByteArray) :
  along Tryz.prog (bdDec3 s) [true] = (some (.tup [.agg [.int .i64 0, .int .i64 0, .int .i64 0, .int .i64 0, .int .i64 0, .bool false, rq 0 fun x => SReq.mk (0 : Int) (0 : Int) ByteArray.empty [], .int .i64 0, .int .i64 0, .int .i64 0, .int .i64 0, .seg .u8 32 z32, .int .i64 0, .int .i64 0, .int .i64 0, hl 0 fun x => SHeld.mk (SBatch.mk false 0 fun x => SReq.mk (0 : Int) (0 : Int) ByteArray.empty []) (SCert.mk (SVote.mk (0 : Int) (0 : Int) (0 : Int) (0 : Int) []) 0 fun x => SSign.mk (0 : Int) []), nw 0 fun x => SEnv.mk (0 : Int) ByteArray.empty [], .seg .u8 32 z32, .int .i64 0, .int .i64 0, .int .i64 0, .int .i64 0, .seg .u8 32 z32, sg 0 fun x => SSign.mk (0 : Int) [], .str ByteArray.empty, sg 0 fun x => SSign.mk (0 : Int) []], .int .i64 3], [], [decide ((4194304 : Int) < (↑(ByteArray.size s) : Int)) = true, q1, q1, q1, q1, q1, q false, q0, q1, q1, q1, q1, q (32 : Nat), q z32, q1, q1, q1, q0, q0, q (32 : Nat), q z32, q1, q1, q1, q1, q (32 : Nat), q z32, q0, q ByteArray.empty, q0, q0, q0, q0, q (3 : Int)]) : Option (V × Heap × List Prop)) := by kernel_rfl

noncomputable def bdDecZ_c (s : ByteArray) (k : Int) (s0 : RS) (s1 : RS) (s2 : RS) (m : SMsg) (d : Int) : Nat → List Prop
 | 0 => [decide ((4194304 : Int) < (↑(ByteArray.size s) : Int)) = false, T Tryz.prog 24 [.ros 1 (ByteArray.size s) (fun q => [.int .u8 (byteAt s q)]) false] [] (.ptr (.o 448) 0 0 0 0) [(.o 448, .flat [.ros 1 (List.length (RS.l s0)) (bl (RS.l s0)) false, .int .i64 (RS.e s0), .bool true])], T Tryz.prog 25 [.ptr (.o 448) 0 0 0 0, .int .i64 8] [(.o 448, .flat [.ros 1 (List.length (RS.l s0)) (bl (RS.l s0)) false, .int .i64 (RS.e s0), .bool true])] (.int .i64 k) [(.o 448, .flat [.ros 1 (List.length (RS.l s1)) (bl (RS.l s1)) false, .int .i64 (RS.e s1), .bool true])]]
 | 1 => [decide (k = (0 : Int)) = true, T Tryz.prog 78 [.ptr (.o 448) 0 0 0 0] [(.o 448, .flat [.ros 1 (List.length (RS.l s1)) (bl (RS.l s1)) false, .int .i64 (RS.e s1), .bool true])] (.int .i64 (RS.e s1)) [(.o 448, .flat [.ros 1 (List.length (RS.l s1)) (bl (RS.l s1)) false, .int .i64 (RS.e s1), .bool true])]]
 | _ => []
theorem bdDecZ_p011 (s : ByteArray) (k : Int) (s0 : RS) (s1 : RS) (s2 : RS) (m : SMsg) (d : Int) :
 along Tryz.prog (bdDecZ s k s0 s1 s2 m d) [false, true, true] = (some (.tup [.agg [.int .i64 0, .int .i64 0, .int .i64 0, .int .i64 0, .int .i64 0, .bool false, rq 0 fun x => SReq.mk (0 : Int) (0 : Int) ByteArray.empty [], .int .i64 0, .int .i64 0, .int .i64 0, .int .i64 0, .seg .u8 32 z32, .int .i64 0, .int .i64 0, .int .i64 0, hl 0 fun x => SHeld.mk (SBatch.mk false 0 fun x => SReq.mk (0 : Int) (0 : Int) ByteArray.empty []) (SCert.mk (SVote.mk (0 : Int) (0 : Int) (0 : Int) (0 : Int) []) 0 fun x => SSign.mk (0 : Int) []), nw 0 fun x => SEnv.mk (0 : Int) ByteArray.empty [], .seg .u8 32 z32, .int .i64 0, .int .i64 0, .int .i64 0, .int .i64 0, .seg .u8 32 z32, sg 0 fun x => SSign.mk (0 : Int) [], .str ByteArray.empty, sg 0 fun x => SSign.mk (0 : Int) []], .int .i64 130], [], bdDecZ_c s k s0 s1 s2 m d 0 ++ (bdDecZ_c s k s0 s1 s2 m d 1 ++ [decide (RS.e s1 = (0 : Int)) = true, q1, q1, q1, q1, q1, q false, q0, q1, q1, q1, q1, q (32 : Nat), q z32, q1, q1, q1, q0, q0, q (32 : Nat), q z32, q1, q1, q1, q1, q (32 : Nat), q z32, q0, q ByteArray.empty, q0, q0, q0, q0, q (130 : Int)])) : Option (V × Heap × List Prop)) := by kernel_rfl

theorem bdDecZ_p0101 (s : ByteArray) (k : Int) (s0 : RS) (s1 : RS) (s2 : RS) (m : SMsg) (d : Int) :
 along Tryz.prog (bdDecZ s k s0 s1 s2 m d) [false, true, false, true] = (some (.tup [.agg [.int .i64 0, .int .i64 0, .int .i64 0, .int .i64 0, .int .i64 0, .bool false, rq 0 fun x => SReq.mk (0 : Int) (0 : Int) ByteArray.empty [], .int .i64 0, .int .i64 0, .int .i64 0, .int .i64 0, .seg .u8 32 z32, .int .i64 0, .int .i64 0, .int .i64 0, hl 0 fun x => SHeld.mk (SBatch.mk false 0 fun x => SReq.mk (0 : Int) (0 : Int) ByteArray.empty []) (SCert.mk (SVote.mk (0 : Int) (0 : Int) (0 : Int) (0 : Int) []) 0 fun x => SSign.mk (0 : Int) []), nw 0 fun x => SEnv.mk (0 : Int) ByteArray.empty [], .seg .u8 32 z32, .int .i64 0, .int .i64 0, .int .i64 0, .int .i64 0, .seg .u8 32 z32, sg 0 fun x => SSign.mk (0 : Int) [], .str ByteArray.empty, sg 0 fun x => SSign.mk (0 : Int) []], .int .i64 130], [], bdDecZ_c s k s0 s1 s2 m d 0 ++ (bdDecZ_c s k s0 s1 s2 m d 1 ++ [decide (RS.e s1 = (0 : Int)) = false, q0, q0, q0, false = RS.bad s1, q (List.length (RS.l s1)), ∀ (k : Nat), k < List.length (RS.l s1) → bl (RS.l s1) k = bl (RS.l s1) k, false = true → false = true, q (RS.e s1), q2, q k, q1, q1, q1, q1, q false, q0, q1, q1, q1, q1, q (32 : Nat), q z32, q1, q1, q1, q0, q0, q (32 : Nat), q z32, q1, q1, q1, q1, q (32 : Nat), q z32, q0, q ByteArray.empty, q0, q1, q1, q1, q1, q1, q false, q0, q1, q1, q1, q1, q (32 : Nat), q z32, q1, q1, q1, q0, q0, q (32 : Nat), q z32, q1, q1, q1, q1, q (32 : Nat), q z32, q0, q ByteArray.empty, q0, q0, q0, q0, q1, q0, q0, q0, q0, q0, q0, T Tryz.prog 84 [.ptr (.o 5) 0 0 0 0, .ptr (.o 7) 0 0 0 0] [(.o 5, .flat [.ptr (.o 6) 0 0 0 0, .bool (RS.bad s1)]), (.o 6, rdB s1), (.o 7, .flat (SMsg.c (msg0 k)))] (.tup []) [(.o 5, .flat [.ptr (.o 6) 0 0 0 0, .bool (RS.bad s2)]), (.o 6, rdB s2), (.o 7, .flat (SMsg.c m))], T Tryz.prog 28 [.ptr (.o 6) 0 0 0 0] [(.o 6, rdB s2)] (.int .i64 d) [(.o 6, rdB s2)], RS.bad s2 = true, q1, q1, q1, q1, q1, q false, q0, q1, q1, q1, q1, q (32 : Nat), q z32, q1, q1, q1, q0, q0, q (32 : Nat), q z32, q1, q1, q1, q1, q (32 : Nat), q z32, q0, q ByteArray.empty, q0, q0, q0, q0, q (130 : Int)])) : Option (V × Heap × List Prop)) := by kernel_rfl

theorem bdDecE_p01001 (s : ByteArray) (k : Int) (s0 : RS) (s1 : RS) (s2 : RS) (m : SMsg) (d : Int) :
  along Tryz.prog (bdDecE s k s0 s1 s2 m d) [false, true, false, false, true] = (some (.tup [.agg [.int .i64 0, .int .i64 0, .int .i64 0, .int .i64 0, .int .i64 0, .bool false, rq 0 fun x => SReq.mk (0 : Int) (0 : Int) ByteArray.empty [], .int .i64 0, .int .i64 0, .int .i64 0, .int .i64 0, .seg .u8 32 z32, .int .i64 0, .int .i64 0, .int .i64 0, hl 0 fun x => SHeld.mk (SBatch.mk false 0 fun x => SReq.mk (0 : Int) (0 : Int) ByteArray.empty []) (SCert.mk (SVote.mk (0 : Int) (0 : Int) (0 : Int) (0 : Int) []) 0 fun x => SSign.mk (0 : Int) []), nw 0 fun x => SEnv.mk (0 : Int) ByteArray.empty [], .seg .u8 32 z32, .int .i64 0, .int .i64 0, .int .i64 0, .int .i64 0, .seg .u8 32 z32, sg 0 fun x => SSign.mk (0 : Int) [], .str ByteArray.empty, sg 0 fun x => SSign.mk (0 : Int) []], .int .i64 d], [], [decide ((4194304 : Int) < (↑(ByteArray.size s) : Int)) = false, T Tryz.prog 24 [.ros 1 (ByteArray.size s) (fun q => [.int .u8 (byteAt s q)]) false] [] (.ptr (.o 448) 0 0 0 0) [(.o 448, rdB s0)], T Tryz.prog 25 [.ptr (.o 448) 0 0 0 0, .int .i64 8] [(.o 448, rdB s0)] (.int .i64 k) [(.o 448, rdB s1)], decide (k = (0 : Int)) = true, T Tryz.prog 78 [.ptr (.o 448) 0 0 0 0] [(.o 448, rdB s1)] (.int .i64 (RS.e s1)) [(.o 448, rdB s1)], decide (RS.e s1 = (0 : Int)) = false, q0, q0, q0, false = RS.bad s1, q (List.length (RS.l s1)), ∀ (k : Nat), k < List.length (RS.l s1) → bl (RS.l s1) k = bl (RS.l s1) k, false = true → false = true, q (RS.e s1), q2, q k, q1, q1, q1, q1, q false, q0, q1, q1, q1, q1, q (32 : Nat), q z32, q1, q1, q1, q0, q0, q (32 : Nat), q z32, q1, q1, q1, q1, q (32 : Nat), q z32, q0, q ByteArray.empty, q0, q1, q1, q1, q1, q1, q false, q0, q1, q1, q1, q1, q (32 : Nat), q z32, q1, q1, q1, q0, q0, q (32 : Nat), q z32, q1, q1, q1, q1, q (32 : Nat), q z32, q0, q ByteArray.empty, q0, q0, q0, q0, q1, q0, q0, q0, q0, q0, q0, T Tryz.prog 84 [.ptr (.o 5) 0 0 0 0, .ptr (.o 7) 0 0 0 0] [(.o 5, .flat [.ptr (.o 6) 0 0 0 0, .bool (RS.bad s1)]), (.o 6, rdB s1), (.o 7, .flat (SMsg.c (msg0 k)))] (.tup []) [(.o 5, .flat [.ptr (.o 6) 0 0 0 0, .bool (RS.bad s2)]), (.o 6, rdB s2), (.o 7, .flat (SMsg.c m))], T Tryz.prog 28 [.ptr (.o 6) 0 0 0 0] [(.o 6, rdB s2)] (.int .i64 d) [(.o 6, rdB s2)], RS.bad s2 = false, (!decide (d = (0 : Int))) = true, q1, q1, q1, q1, q1, q false, q0, q1, q1, q1, q1, q (32 : Nat), q z32, q1, q1, q1, q0, q0, q (32 : Nat), q z32, q1, q1, q1, q1, q (32 : Nat), q z32, q0, q ByteArray.empty, q0, q0, q0, q0, q d]) : Option (V × Heap × List Prop)) := by kernel_rfl

theorem bdDecO_p01000 (s : ByteArray) (k : Int) (s0 : RS) (s1 : RS) (s2 : RS) (m : SMsg) (d : Int) :
  along Tryz.prog (bdDecO s k s0 s1 s2 m d) [false, true, false, false, false] = (some (.tup [.agg (SMsg.c m), .int .i64 0], [], [decide ((4194304 : Int) < (↑(ByteArray.size s) : Int)) = false, T Tryz.prog 24 [.ros 1 (ByteArray.size s) (fun q => [.int .u8 (byteAt s q)]) false] [] (.ptr (.o 448) 0 0 0 0) [(.o 448, rdB s0)], T Tryz.prog 25 [.ptr (.o 448) 0 0 0 0, .int .i64 8] [(.o 448, rdB s0)] (.int .i64 k) [(.o 448, rdB s1)], decide (k = (0 : Int)) = true, T Tryz.prog 78 [.ptr (.o 448) 0 0 0 0] [(.o 448, rdB s1)] (.int .i64 (RS.e s1)) [(.o 448, rdB s1)], decide (RS.e s1 = (0 : Int)) = false, q0, q0, q0, false = RS.bad s1, q (List.length (RS.l s1)), ∀ (k : Nat), k < List.length (RS.l s1) → bl (RS.l s1) k = bl (RS.l s1) k, false = true → false = true, q (RS.e s1), q2, q k, q1, q1, q1, q1, q false, q0, q1, q1, q1, q1, q (32 : Nat), q z32, q1, q1, q1, q0, q0, q (32 : Nat), q z32, q1, q1, q1, q1, q (32 : Nat), q z32, q0, q ByteArray.empty, q0, q1, q1, q1, q1, q1, q false, q0, q1, q1, q1, q1, q (32 : Nat), q z32, q1, q1, q1, q0, q0, q (32 : Nat), q z32, q1, q1, q1, q1, q (32 : Nat), q z32, q0, q ByteArray.empty, q0, q0, q0, q0, q1, q0, q0, q0, q0, q0, q0, T Tryz.prog 84 [.ptr (.o 5) 0 0 0 0, .ptr (.o 7) 0 0 0 0] [(.o 5, .flat [.ptr (.o 6) 0 0 0 0, .bool (RS.bad s1)]), (.o 6, rdB s1), (.o 7, .flat (SMsg.c (msg0 k)))] (.tup []) [(.o 5, .flat [.ptr (.o 6) 0 0 0 0, .bool (RS.bad s2)]), (.o 6, rdB s2), (.o 7, .flat (SMsg.c m))], T Tryz.prog 28 [.ptr (.o 6) 0 0 0 0] [(.o 6, rdB s2)] (.int .i64 d) [(.o 6, rdB s2)], RS.bad s2 = false, (!decide (d = (0 : Int))) = false, q (SMsg.kind m), q (SMsg.epoch m), q (SMsg.leader m), q (SMsg.view m), q (SMsg.slot m), q (SBatch.noop (SMsg.batch m)), q (SBatch.n (SMsg.batch m)), ∀ (k : Nat), k < SBatch.n (SMsg.batch m) → SReq.c (SBatch.req (SMsg.batch m) k) = SReq.c (SBatch.req (SMsg.batch m) k), false = true → false = true, q (SVote.kind (SMsg.vote m)), q (SVote.epoch (SMsg.vote m)), q (SVote.view (SMsg.vote m)), q (SVote.slot (SMsg.vote m)), q (32 : Nat), q (SVote.digest (SMsg.vote m)), q (SMsg.cepoch m), q (SMsg.cleader m), q (SMsg.cview m), q (SMsg.nheld m), ∀ (k : Nat), k < SMsg.nheld m → SHeld.c (SMsg.held m k) = SHeld.c (SMsg.held m k), false = true → false = true, q (SMsg.nnews m), ∀ (k : Nat), k < SMsg.nnews m → SEnv.c (SMsg.news m k) = SEnv.c (SMsg.news m k), false = true → false = true, q (32 : Nat), q (SMsg.digest m), q (SVote.kind (SCert.vote (SMsg.cert m))), q (SVote.epoch (SCert.vote (SMsg.cert m))), q (SVote.view (SCert.vote (SMsg.cert m))), q (SVote.slot (SCert.vote (SMsg.cert m))), q (32 : Nat), q (SVote.digest (SCert.vote (SMsg.cert m))), q (SCert.n (SMsg.cert m)), ∀ (k : Nat), k < SCert.n (SMsg.cert m) → SSign.c (SCert.sig (SMsg.cert m) k) = SSign.c (SCert.sig (SMsg.cert m) k), false = true → false = true, q (SMsg.state m), q (SMsg.n m), ∀ (k : Nat), k < SMsg.n m → SSign.c (SMsg.sig m k) = SSign.c (SMsg.sig m k), false = true → false = true, q0, q0, q0, q1]) : Option (V × Heap × List Prop)) := by kernel_rfl

theorem bdDecZ_p0001 (s : ByteArray) (k : Int) (s0 : RS) (s1 : RS) (s2 : RS) (m : SMsg) (d : Int) :
 along Tryz.prog (bdDecZ s k s0 s1 s2 m d) [false, false, false, true] = (some (.tup [.agg [.int .i64 0, .int .i64 0, .int .i64 0, .int .i64 0, .int .i64 0, .bool false, rq 0 fun x => SReq.mk (0 : Int) (0 : Int) ByteArray.empty [], .int .i64 0, .int .i64 0, .int .i64 0, .int .i64 0, .seg .u8 32 z32, .int .i64 0, .int .i64 0, .int .i64 0, hl 0 fun x => SHeld.mk (SBatch.mk false 0 fun x => SReq.mk (0 : Int) (0 : Int) ByteArray.empty []) (SCert.mk (SVote.mk (0 : Int) (0 : Int) (0 : Int) (0 : Int) []) 0 fun x => SSign.mk (0 : Int) []), nw 0 fun x => SEnv.mk (0 : Int) ByteArray.empty [], .seg .u8 32 z32, .int .i64 0, .int .i64 0, .int .i64 0, .int .i64 0, .seg .u8 32 z32, sg 0 fun x => SSign.mk (0 : Int) [], .str ByteArray.empty, sg 0 fun x => SSign.mk (0 : Int) []], .int .i64 130], [], bdDecZ_c s k s0 s1 s2 m d 0 ++ [decide (k = (0 : Int)) = false, q false, q0, q0, q0, false = RS.bad s1, q (List.length (RS.l s1)), ∀ (k : Nat), k < List.length (RS.l s1) → bl (RS.l s1) k = bl (RS.l s1) k, false = true → false = true, q (RS.e s1), q2, q k, q1, q1, q1, q1, q false, q0, q1, q1, q1, q1, q (32 : Nat), q z32, q1, q1, q1, q0, q0, q (32 : Nat), q z32, q1, q1, q1, q1, q (32 : Nat), q z32, q0, q ByteArray.empty, q0, q1, q1, q1, q1, q1, q false, q0, q1, q1, q1, q1, q (32 : Nat), q z32, q1, q1, q1, q0, q0, q (32 : Nat), q z32, q1, q1, q1, q1, q (32 : Nat), q z32, q0, q ByteArray.empty, q0, q0, q0, q0, q1, q0, q0, q0, q0, q0, q0, T Tryz.prog 84 [.ptr (.o 5) 0 0 0 0, .ptr (.o 7) 0 0 0 0] [(.o 5, .flat [.ptr (.o 6) 0 0 0 0, .bool (RS.bad s1)]), (.o 6, rdB s1), (.o 7, .flat (SMsg.c (msg0 k)))] (.tup []) [(.o 5, .flat [.ptr (.o 6) 0 0 0 0, .bool (RS.bad s2)]), (.o 6, rdB s2), (.o 7, .flat (SMsg.c m))], T Tryz.prog 28 [.ptr (.o 6) 0 0 0 0] [(.o 6, rdB s2)] (.int .i64 d) [(.o 6, rdB s2)], RS.bad s2 = true, q1, q1, q1, q1, q1, q false, q0, q1, q1, q1, q1, q (32 : Nat), q z32, q1, q1, q1, q0, q0, q (32 : Nat), q z32, q1, q1, q1, q1, q (32 : Nat), q z32, q0, q ByteArray.empty, q0, q0, q0, q0, q (130 : Int)]) : Option (V × Heap × List Prop)) := by kernel_rfl

theorem bdDecE_p00001 (s : ByteArray) (k : Int) (s0 : RS) (s1 : RS) (s2 : RS) (m : SMsg) (d : Int) :
  along Tryz.prog (bdDecE s k s0 s1 s2 m d) [false, false, false, false, true] = (some (.tup [.agg [.int .i64 0, .int .i64 0, .int .i64 0, .int .i64 0, .int .i64 0, .bool false, rq 0 fun x => SReq.mk (0 : Int) (0 : Int) ByteArray.empty [], .int .i64 0, .int .i64 0, .int .i64 0, .int .i64 0, .seg .u8 32 z32, .int .i64 0, .int .i64 0, .int .i64 0, hl 0 fun x => SHeld.mk (SBatch.mk false 0 fun x => SReq.mk (0 : Int) (0 : Int) ByteArray.empty []) (SCert.mk (SVote.mk (0 : Int) (0 : Int) (0 : Int) (0 : Int) []) 0 fun x => SSign.mk (0 : Int) []), nw 0 fun x => SEnv.mk (0 : Int) ByteArray.empty [], .seg .u8 32 z32, .int .i64 0, .int .i64 0, .int .i64 0, .int .i64 0, .seg .u8 32 z32, sg 0 fun x => SSign.mk (0 : Int) [], .str ByteArray.empty, sg 0 fun x => SSign.mk (0 : Int) []], .int .i64 d], [], [decide ((4194304 : Int) < (↑(ByteArray.size s) : Int)) = false, T Tryz.prog 24 [.ros 1 (ByteArray.size s) (fun q => [.int .u8 (byteAt s q)]) false] [] (.ptr (.o 448) 0 0 0 0) [(.o 448, rdB s0)], T Tryz.prog 25 [.ptr (.o 448) 0 0 0 0, .int .i64 8] [(.o 448, rdB s0)] (.int .i64 k) [(.o 448, rdB s1)], decide (k = (0 : Int)) = false, q false, q0, q0, q0, false = RS.bad s1, q (List.length (RS.l s1)), ∀ (k : Nat), k < List.length (RS.l s1) → bl (RS.l s1) k = bl (RS.l s1) k, false = true → false = true, q (RS.e s1), q2, q k, q1, q1, q1, q1, q false, q0, q1, q1, q1, q1, q (32 : Nat), q z32, q1, q1, q1, q0, q0, q (32 : Nat), q z32, q1, q1, q1, q1, q (32 : Nat), q z32, q0, q ByteArray.empty, q0, q1, q1, q1, q1, q1, q false, q0, q1, q1, q1, q1, q (32 : Nat), q z32, q1, q1, q1, q0, q0, q (32 : Nat), q z32, q1, q1, q1, q1, q (32 : Nat), q z32, q0, q ByteArray.empty, q0, q0, q0, q0, q1, q0, q0, q0, q0, q0, q0, T Tryz.prog 84 [.ptr (.o 5) 0 0 0 0, .ptr (.o 7) 0 0 0 0] [(.o 5, .flat [.ptr (.o 6) 0 0 0 0, .bool (RS.bad s1)]), (.o 6, rdB s1), (.o 7, .flat (SMsg.c (msg0 k)))] (.tup []) [(.o 5, .flat [.ptr (.o 6) 0 0 0 0, .bool (RS.bad s2)]), (.o 6, rdB s2), (.o 7, .flat (SMsg.c m))], T Tryz.prog 28 [.ptr (.o 6) 0 0 0 0] [(.o 6, rdB s2)] (.int .i64 d) [(.o 6, rdB s2)], RS.bad s2 = false, (!decide (d = (0 : Int))) = true, q1, q1, q1, q1, q1, q false, q0, q1, q1, q1, q1, q (32 : Nat), q z32, q1, q1, q1, q0, q0, q (32 : Nat), q z32, q1, q1, q1, q1, q (32 : Nat), q z32, q0, q ByteArray.empty, q0, q0, q0, q0, q d]) : Option (V × Heap × List Prop)) := by kernel_rfl

theorem bdDecO_p00000 (s : ByteArray) (k : Int) (s0 : RS) (s1 : RS) (s2 : RS) (m : SMsg) (d : Int) :
  along Tryz.prog (bdDecO s k s0 s1 s2 m d) [false, false, false, false, false] = (some (.tup [.agg (SMsg.c m), .int .i64 0], [], [decide ((4194304 : Int) < (↑(ByteArray.size s) : Int)) = false, T Tryz.prog 24 [.ros 1 (ByteArray.size s) (fun q => [.int .u8 (byteAt s q)]) false] [] (.ptr (.o 448) 0 0 0 0) [(.o 448, rdB s0)], T Tryz.prog 25 [.ptr (.o 448) 0 0 0 0, .int .i64 8] [(.o 448, rdB s0)] (.int .i64 k) [(.o 448, rdB s1)], decide (k = (0 : Int)) = false, q false, q0, q0, q0, false = RS.bad s1, q (List.length (RS.l s1)), ∀ (k : Nat), k < List.length (RS.l s1) → bl (RS.l s1) k = bl (RS.l s1) k, false = true → false = true, q (RS.e s1), q2, q k, q1, q1, q1, q1, q false, q0, q1, q1, q1, q1, q (32 : Nat), q z32, q1, q1, q1, q0, q0, q (32 : Nat), q z32, q1, q1, q1, q1, q (32 : Nat), q z32, q0, q ByteArray.empty, q0, q1, q1, q1, q1, q1, q false, q0, q1, q1, q1, q1, q (32 : Nat), q z32, q1, q1, q1, q0, q0, q (32 : Nat), q z32, q1, q1, q1, q1, q (32 : Nat), q z32, q0, q ByteArray.empty, q0, q0, q0, q0, q1, q0, q0, q0, q0, q0, q0, T Tryz.prog 84 [.ptr (.o 5) 0 0 0 0, .ptr (.o 7) 0 0 0 0] [(.o 5, .flat [.ptr (.o 6) 0 0 0 0, .bool (RS.bad s1)]), (.o 6, rdB s1), (.o 7, .flat (SMsg.c (msg0 k)))] (.tup []) [(.o 5, .flat [.ptr (.o 6) 0 0 0 0, .bool (RS.bad s2)]), (.o 6, rdB s2), (.o 7, .flat (SMsg.c m))], T Tryz.prog 28 [.ptr (.o 6) 0 0 0 0] [(.o 6, rdB s2)] (.int .i64 d) [(.o 6, rdB s2)], RS.bad s2 = false, (!decide (d = (0 : Int))) = false, q (SMsg.kind m), q (SMsg.epoch m), q (SMsg.leader m), q (SMsg.view m), q (SMsg.slot m), q (SBatch.noop (SMsg.batch m)), q (SBatch.n (SMsg.batch m)), ∀ (k : Nat), k < SBatch.n (SMsg.batch m) → SReq.c (SBatch.req (SMsg.batch m) k) = SReq.c (SBatch.req (SMsg.batch m) k), false = true → false = true, q (SVote.kind (SMsg.vote m)), q (SVote.epoch (SMsg.vote m)), q (SVote.view (SMsg.vote m)), q (SVote.slot (SMsg.vote m)), q (32 : Nat), q (SVote.digest (SMsg.vote m)), q (SMsg.cepoch m), q (SMsg.cleader m), q (SMsg.cview m), q (SMsg.nheld m), ∀ (k : Nat), k < SMsg.nheld m → SHeld.c (SMsg.held m k) = SHeld.c (SMsg.held m k), false = true → false = true, q (SMsg.nnews m), ∀ (k : Nat), k < SMsg.nnews m → SEnv.c (SMsg.news m k) = SEnv.c (SMsg.news m k), false = true → false = true, q (32 : Nat), q (SMsg.digest m), q (SVote.kind (SCert.vote (SMsg.cert m))), q (SVote.epoch (SCert.vote (SMsg.cert m))), q (SVote.view (SCert.vote (SMsg.cert m))), q (SVote.slot (SCert.vote (SMsg.cert m))), q (32 : Nat), q (SVote.digest (SCert.vote (SMsg.cert m))), q (SCert.n (SMsg.cert m)), ∀ (k : Nat), k < SCert.n (SMsg.cert m) → SSign.c (SCert.sig (SMsg.cert m) k) = SSign.c (SCert.sig (SMsg.cert m) k), false = true → false = true, q (SMsg.state m), q (SMsg.n m), ∀ (k : Nat), k < SMsg.n m → SSign.c (SMsg.sig m k) = SSign.c (SMsg.sig m k), false = true → false = true, q0, q0, q0, q1]) : Option (V × Heap × List Prop)) := by kernel_rfl

theorem T_fieldsN (m : SMsg) (s : RS) (hl : s.l.length ≤ 1000000000) {r a q : Nat} (hn : [Nm.o r, Nm.o a, Nm.o q].Nodup) : T Tryz.prog 84 [.ptr (.o r) 0 0 0 0, .ptr (.o q) 0 0 0 0] (mrH r a s ++ [(.o q, .flat m.c)]) (.tup []) (mrH r a (fieldsR m s).2 ++ [(.o q, .flat (fieldsR m s).1.c)]) := by
 obtain ⟨σ, hσ, h1⟩ := T.at (T_fields0 m s hl) [.o 0, .o 1, .o 2] [.o r, .o a, .o q] (by simp) hn rfl
 simp only [List.map_cons, List.map_nil, List.cons.injEq, and_true] at hσ
 simpa [V.rens, V.ren, p0, rdB, mrH, SMsg.c, SBatch.c, SVote.c, SCert.c, rq, Sy.hl, nw, sg, Heap.ren, B.ren, hσ.1, hσ.2.1, hσ.2.2] using h1
theorem dec1_aft (l : List UInt8) : After { l := l } (dec1 l) := numR_after 8 _
theorem dec1_bad (l : List UInt8) : (dec1 l).bad = false := (dec1_aft l).2.1
theorem T_dec (s : ByteArray) : T Tryz.prog 42 [.str s] [] (.tup [.agg (decR (strB s)).1.c, .int .i64 (decR (strB s)).2]) [] := by
 have hs := strB_len s
 by_cases h0 : 4194304 < (strB s).length
 ·have e : decR (strB s) = (msg0 0, 3) := by simp only [decR, if_pos h0]
  rw [e]
  refine T_al (bdDec3_p1 s) Tryz.func42 ?_
  simp only [All, All_append, bdDecZ_c]; and_intros
  all_goals first
   | (rw [decide_eq_true_eq]; omega)
   | trivial
   | rfl
 have hl : (strB s).length ≤ 1000000000 := by omega
 have hlen : decide ((4194304 : Int) < (s.size : Nat)) = false := by rw [decide_eq_false_iff_not]; omega
 have l1 : (dec1 (strB s)).l.length ≤ 1000000000 := Nat.le_trans (dec1_aft _).1 hl
 have b1 := dec1_bad (strB s)
 have hR : ∀ a, T Tryz.prog 24 [.ros 1 s.size (fun q => [.int .u8 (byteAt s q)]) false] [] (.ptr (.o a) 0 0 0 0) [(.o a, rdB { l := strB s })] := fun a => by
  have := T_read a (strB s) hl
  rw [roB, hs] at this; exact this
 have hF : T Tryz.prog 84 [.ptr (.o 5) 0 0 0 0, .ptr (.o 7) 0 0 0 0] (mrH 5 6 (dec1 (strB s)) ++ [(.o 7, .flat (msg0 (decK (strB s))).c)]) (.tup []) (mrH 5 6 (decF (strB s)).2 ++ [(.o 7, .flat (decF (strB s)).1.c)]) := T_fieldsN (msg0 (decK (strB s))) (dec1 (strB s)) l1 (by decide)
 by_cases h1 : decK (strB s) = 0
 ·by_cases h2 : (dec1 (strB s)).e = 0
  ·have e : decR (strB s) = (msg0 0, 130) := by simp only [decR, if_neg h0, h1, h2, and_self, if_true]
   rw [e]
   refine T_al (bdDecZ_p011 s (decK (strB s)) { l := strB s } (dec1 (strB s)) (decF (strB s)).2 (decF (strB s)).1 (doneR (decF (strB s)).2)) Tryz.func42 ?_
   simp only [All, All_append, bdDecZ_c]; and_intros
   all_goals first
    | exact hlen
    | exact hR _
    | exact T_num 448 8 { l := strB s }
    | exact T_err 448 (dec1 (strB s))
    | (rw [decide_eq_true_eq]; assumption)
    | trivial
    | rfl
  ·by_cases h3 : (decF (strB s)).2.bad = true
   ·have e : decR (strB s) = (msg0 0, 130) := by simp only [decR, if_neg h0, h2, and_false, if_false, if_pos h3]
    rw [e]
    refine T_al (bdDecZ_p0101 s (decK (strB s)) { l := strB s } (dec1 (strB s)) (decF (strB s)).2 (decF (strB s)).1 (doneR (decF (strB s)).2)) Tryz.func42 ?_
    simp only [All, All_append, bdDecZ_c]; and_intros
    all_goals first
     | exact hlen
     | exact hR _
     | exact T_num 448 8 { l := strB s }
     | exact T_err 448 (dec1 (strB s))
     | exact hF
     | exact T_done 6 (decF (strB s)).2
     | (rw [decide_eq_true_eq]; assumption)
     | (rw [decide_eq_false_iff_not]; assumption)
     | exact h3
     | exact b1.symm
     | exact b1
     | trivial
     | rfl
     | (intro _ _; trivial)
     | (intro _ _; rfl)
   ·by_cases h4 : doneR (decF (strB s)).2 = 0
    ·have e : decR (strB s) = ((decF (strB s)).1, 0) := by simp only [decR, if_neg h0, h2, and_false, if_false, if_neg h3, h4, ne_eq, not_true]
     rw [e]
     refine T_al (bdDecO_p01000 s (decK (strB s)) { l := strB s } (dec1 (strB s)) (decF (strB s)).2 (decF (strB s)).1 (doneR (decF (strB s)).2)) Tryz.func42 ?_
     simp only [All, All_append, bdDecZ_c]; and_intros
     all_goals first
      | exact hlen
      | exact hR _
      | exact T_num 448 8 { l := strB s }
      | exact T_err 448 (dec1 (strB s))
      | exact hF
      | exact T_done 6 (decF (strB s)).2
      | (rw [decide_eq_true_eq]; assumption)
      | (rw [decide_eq_false_iff_not]; assumption)
      | exact Bool.eq_false_iff.mpr h3
      | (simp [h4]; done)
      | exact b1.symm
      | exact b1
      | trivial
      | rfl
      | (intro _ _; trivial)
      | (intro _ _; rfl)
    ·have e : decR (strB s) = (msg0 0, doneR (decF (strB s)).2) := by simp only [decR, if_neg h0, h2, and_false, if_false, if_neg h3, ne_eq, h4, not_false_eq_true, if_true]
     rw [e]
     refine T_al (bdDecE_p01001 s (decK (strB s)) { l := strB s } (dec1 (strB s)) (decF (strB s)).2 (decF (strB s)).1 (doneR (decF (strB s)).2)) Tryz.func42 ?_
     simp only [All, All_append, bdDecZ_c]; and_intros
     all_goals first
      | exact hlen
      | exact hR _
      | exact T_num 448 8 { l := strB s }
      | exact T_err 448 (dec1 (strB s))
      | exact hF
      | exact T_done 6 (decF (strB s)).2
      | (rw [decide_eq_true_eq]; assumption)
      | (rw [decide_eq_false_iff_not]; assumption)
      | exact Bool.eq_false_iff.mpr h3
      | (simp [h4]; done)
      | exact b1.symm
      | exact b1
      | trivial
      | rfl
      | (intro _ _; trivial)
      | (intro _ _; rfl)
 ·by_cases h3 : (decF (strB s)).2.bad = true
  ·have e : decR (strB s) = (msg0 0, 130) := by simp only [decR, if_neg h0, h1, false_and, if_false, if_pos h3]
   rw [e]
   refine T_al (bdDecZ_p0001 s (decK (strB s)) { l := strB s } (dec1 (strB s)) (decF (strB s)).2 (decF (strB s)).1 (doneR (decF (strB s)).2)) Tryz.func42 ?_
   simp only [All, All_append, bdDecZ_c]; and_intros
   all_goals first
    | exact hlen
    | exact hR _
    | exact T_num 448 8 { l := strB s }
    | exact T_err 448 (dec1 (strB s))
    | exact hF
    | exact T_done 6 (decF (strB s)).2
    | (rw [decide_eq_false_iff_not]; assumption)
    | exact h3
    | exact b1.symm
    | exact b1
    | trivial
    | rfl
    | (intro _ _; trivial)
    | (intro _ _; rfl)
  ·by_cases h4 : doneR (decF (strB s)).2 = 0
   ·have e : decR (strB s) = ((decF (strB s)).1, 0) := by simp only [decR, if_neg h0, h1, false_and, if_false, if_neg h3, h4, ne_eq, not_true]
    rw [e]
    refine T_al (bdDecO_p00000 s (decK (strB s)) { l := strB s } (dec1 (strB s)) (decF (strB s)).2 (decF (strB s)).1 (doneR (decF (strB s)).2)) Tryz.func42 ?_
    simp only [All, All_append, bdDecZ_c]; and_intros
    all_goals first
     | exact hlen
     | exact hR _
     | exact T_num 448 8 { l := strB s }
     | exact T_err 448 (dec1 (strB s))
     | exact hF
     | exact T_done 6 (decF (strB s)).2
     | (rw [decide_eq_false_iff_not]; assumption)
     | exact Bool.eq_false_iff.mpr h3
     | (simp [h4]; done)
     | exact b1.symm
     | exact b1
     | trivial
     | rfl
     | (intro _ _; trivial)
     | (intro _ _; rfl)
   ·have e : decR (strB s) = (msg0 0, doneR (decF (strB s)).2) := by simp only [decR, if_neg h0, h1, false_and, if_false, if_neg h3, ne_eq, h4, not_false_eq_true, if_true]
    rw [e]
    refine T_al (bdDecE_p00001 s (decK (strB s)) { l := strB s } (dec1 (strB s)) (decF (strB s)).2 (decF (strB s)).1 (doneR (decF (strB s)).2)) Tryz.func42 ?_
    simp only [All, All_append, bdDecZ_c]; and_intros
    all_goals first
     | exact hlen
     | exact hR _
     | exact T_num 448 8 { l := strB s }
     | exact T_err 448 (dec1 (strB s))
     | exact hF
     | exact T_done 6 (decF (strB s)).2
     | (rw [decide_eq_false_iff_not]; assumption)
     | exact Bool.eq_false_iff.mpr h3
     | (simp [h4]; done)
     | exact b1.symm
     | exact b1
     | trivial
     | rfl
     | (intro _ _; trivial)
     | (intro _ _; rfl)
end Go.Proofs.YtnmccoincblecaaGreat
namespace Go.Proofs.YtnmccoincblecaaGreat
open Go Sy Go.Proofs
/-- Read, there is this, and just these bytes are gone. -/
def Rd {α : Type} (one : RS → α × RS) (E : α → Prop) (bytes : List UInt8) : Prop := ∀ (s : RS) (tail : List UInt8), s.e = 0 → s.l = bytes ++ tail → E (one s).1 ∧ (one s).2 = { s with l := tail }
theorem beN_digs : ∀ f n, n < 256 ^ f → beN (digs f n) = n
 | 0, n, h => by simp at h; subst h; rfl
 | f + 1, n, h => by
  rw [digs]
  split
  ·rename_i h0; subst h0; rfl
  ·rw [beN_snoc, beN_digs f (n / 256) (by rw [Nat.pow_succ] at h; omega), UInt8.toNat_ofNat']
   omega
theorem digs_head {n : Nat} (h : n < 9223372036854775808) {x : UInt8} {t : List UInt8} (e : digs 8 n = x :: t) : x.toNat ≠ 0 ∧ ((digs 8 n).length = 8 → x.toNat ≤ 127) := by
 obtain ⟨h1, h2, h3⟩ := digs_len 8 n (digs8 h)
 have hl : 0 < (digs 8 n).length := by rw [e]; simp
 have hg := digs_get 8 n 0 (digs8 h) hl
 rw [e] at hg
 simp only [List.getElem?_cons_zero, Option.some.injEq] at hg
 have h4 := h3 ((digs 8 n).length - 1) (by omega)
 have h5 : n / 256 ^ ((digs 8 n).length - 1) < 256 := by
  have e6 : (digs 8 n).length = (digs 8 n).length - 1 + 1 := by omega
  rw [e6, Nat.pow_succ, ← Nat.div_div_eq_div_mul] at h2
  omega
 have h6 : x.toNat = n / 256 ^ ((digs 8 n).length - 1) := by
  rw [hg, ← e]
  rw [UInt8.toNat_ofNat', Nat.sub_zero]
  omega
 refine ⟨by omega, fun e8 => ?_⟩
 rw [h6, e8]
 have : n / 256 ^ 7 < 128 := by
  rw [Nat.div_lt_iff_lt_mul (by decide)]; omega
 exact Nat.le_of_lt_succ this
theorem kOf_put {n : Nat} (h : n < 9223372036854775808) (tail : List UInt8) : kOf (putN n ++ tail) = (digs 8 n).length := by
 have h1 := (digs_len 8 n (digs8 h)).1
 show (UInt8.ofNat (digs 8 n).length).toNat = _
 rw [UInt8.toNat_ofNat']; omega
theorem mid_put (n : Nat) (tail : List UInt8) : ((putN n ++ tail).drop 1).take (digs 8 n).length = digs 8 n := by
 show (digs 8 n ++ tail).take _ = _
 rw [List.take_left']; rfl
theorem nE_put {n : Nat} (h : n < 9223372036854775808) (tail : List UInt8) : nE (putN n ++ tail) = 0 := by
 have h1 := (digs_len 8 n (digs8 h)).1
 have hk := kOf_put h tail
 have hl : (putN n ++ tail).length = (digs 8 n).length + 1 + tail.length := by simp [putN]; omega
 have hg : (putN n ++ tail).getD 1 0 = (digs 8 n ++ tail).getD 0 0 := rfl
 unfold nE
 rw [if_neg (by omega), if_neg (by omega), if_neg (by omega), hk, hg]
 cases hd : digs 8 n with
 | nil => rw [if_neg (by simp), if_neg (by simp)]
 | cons x t =>
  have h2 := digs_head h hd
  rw [if_neg, if_neg]
  ·rintro ⟨h3, h4⟩
   have := h2.2 (by rw [hd]; exact h3)
   simp at h4; omega
  ·rintro ⟨_, h4⟩
   exact h2.1 (by simpa using h4)
theorem nV_put {n : Nat} (h : n < 9223372036854775808) (tail : List UInt8) : nV (putN n ++ tail) = n := by
 rw [nV, if_pos (nE_put h tail), kOf_put h tail, mid_put, beN_digs 8 n (digs8 h)]
theorem nS_put {n : Nat} (h : n < 9223372036854775808) (tail : List UInt8) : nS (putN n ++ tail) = ((putN n).length : Nat) := by
 rw [nS, if_pos (nE_put h tail), kOf_put h tail]; simp [putN]
theorem num_rd {n most : Int} (h0 : 0 ≤ n) (h1 : n ≤ most) (h2 : most < 9223372036854775808) : Rd (numR most) (fun x => x = n) (putZ n) := by
 intro s tail he hl
 have hn : n.toNat < 9223372036854775808 := by omega
 have hv : nV s.l = n := by rw [hl, putZ, nV_put hn]; omega
 have hE : nE s.l = 0 := by rw [hl, putZ, nE_put hn]
 have hS : nS s.l = ((putN n.toNat).length : Nat) := by rw [hl, putZ, nS_put hn]
 have h3 : nE1 most s.l = 0 := by rw [nE1, hv, if_neg (by omega), hE]
 unfold numR
 rw [if_neg (by simpa using he), if_neg (by simpa using h3)]
 refine ⟨hv, ?_⟩
 show RS.mk (s.l.drop (nS s.l).toNat) s.e s.bad = _
 rw [hS, Int.toNat_natCast]
 congr 1
 rw [hl, putZ, List.drop_left']; rfl
end Go.Proofs.YtnmccoincblecaaGreat
namespace Go.Proofs.YtnmccoincblecaaGreat
open Go Sy Go.Proofs
theorem baL_strB (s : ByteArray) : baL (strB s) = s := rfl
theorem strB_baL (l : List UInt8) : strB (baL l) = l := rfl
theorem text_rd {t : ByteArray} {most : Int} (h0 : (t.size : Int) ≤ most) (h1 : most < 9223372036854775808) : Rd (textR most) (fun x => x = t) (textB t) := by
 intro s tail he hl
 have hn : t.size < 9223372036854775808 := by omega
 have hl' : s.l = putN t.size ++ (strB t ++ tail) := by rw [hl, textB, List.append_assoc]
 have hv : nV s.l = (t.size : Nat) := by rw [hl', nV_put hn]
 have hE : nE s.l = 0 := by rw [hl', nE_put hn]
 have hS : nS s.l = ((putN t.size).length : Nat) := by rw [hl', nS_put hn]
 have hlen : s.l.length = (putN t.size).length + (t.size + tail.length) := by rw [hl', List.length_append, List.length_append, strB_len]
 have h3 : tE most s.l = 0 := by
  unfold tE
  rw [if_neg (by simpa using hE), if_neg (by omega), if_neg (by omega)]
 have hd : s.l.drop (nS s.l).toNat = strB t ++ tail := by rw [hS, Int.toNat_natCast, hl', List.drop_left']; rfl
 unfold textR
 rw [if_neg (by simpa using he), if_neg (by simpa using h3)]
 refine ⟨?_, ?_⟩
 ·show baL ((s.l.drop (nS s.l).toNat).take (nV s.l).toNat) = t
  rw [hd, hv, Int.toNat_natCast, List.take_left' (strB_len t), baL_strB]
 ·show RS.mk ((s.l.drop (nS s.l).toNat).drop (nV s.l).toNat) s.e s.bad = _
  rw [hd, hv, Int.toNat_natCast, List.drop_left' (strB_len t)]
theorem intsB_segB {n : Nat} {xs : List Int} (h : SegOk n xs) : intsB (segB xs) = xs := by
 unfold intsB segB
 rw [List.map_map]
 refine (List.map_congr_left fun x hx => ?_).trans (List.map_id xs)
 have := h.rng x hx
 simp only [Function.comp, UInt8.toNat_ofNat', id]
 omega
theorem raw_rd (xs : List UInt8) : Rd (rawR xs.length) (fun x => x = xs) xs := by
 intro s tail he hl
 have hlen : s.l.length = xs.length + tail.length := by rw [hl, List.length_append]
 unfold rawR
 rw [if_neg (by simpa using he), if_neg (by omega), if_neg (by omega), Int.toNat_natCast]
 refine ⟨?_, ?_⟩
 ·show s.l.take xs.length = xs
  rw [hl, List.take_left']; rfl
 ·show RS.mk (s.l.drop xs.length) s.e s.bad = _
  rw [hl, List.drop_left']; rfl
theorem arr_rd {n : Nat} {z xs : List Int} (h : SegOk n xs) : Rd (arrR n z) (fun x => x = xs) (segB xs) := by
 intro s tail he hl
 have hn : (segB xs).length = n := segB_le h
 have h1 := raw_rd (segB xs) s tail he hl
 rw [hn] at h1
 unfold arrR
 rw [h1.2, if_pos he, h1.1]
 exact ⟨intsB_segB h, rfl⟩
theorem tag_rd {xs : List Int} (h : SegOk 16 xs) : Rd tagR (fun x => x = xs) (segB xs) := arr_rd h
theorem dig_rd {xs : List Int} (h : SegOk 32 xs) : Rd digR (fun x => x = xs) (segB xs) := arr_rd h
theorem upto_iff {n m : Int} : uptoS n m = true ↔ 0 ≤ n ∧ n ≤ m := by simp [uptoS]
/-! ### Requests -/
theorem req_rd {r : SReq} (h : mayReqS r = true) (ht : SegOk 16 r.tag) : Rd reqR (fun x => x = r) (reqB r) := by
 intro s tail he hl
 simp only [mayReqS, Bool.and_eq_true, decide_eq_true_eq, upto_iff] at h
 obtain ⟨h1, h2, h3⟩ := h
 simp only [reqB, List.append_assoc] at hl
 obtain ⟨a1, b1⟩ := num_rd (most := 8) h1.1 h1.2 (by decide) s _ he hl
 obtain ⟨a2, b2⟩ := num_rd (most := 1099511627776) h2.1 h2.2 (by decide) (numR 8 s).2 _ (by rw [b1]; exact he) (by rw [b1])
 obtain ⟨a3, b3⟩ := text_rd (most := 64) (t := r.data) (by omega) (by decide) (reqR2 s) _ (by show (numR _ (numR 8 s).2).2.e = 0; rw [b2, b1]; exact he) (by show (numR _ (numR 8 s).2).2.l = _; rw [b2])
 have b2' : reqR2 s = { s with l := textB r.data ++ (segB r.tag ++ tail) } := by show (numR _ (numR 8 s).2).2 = _; rw [b2, b1]
 have b3' : reqR3 s = { s with l := segB r.tag ++ tail } := by show (textR 64 (reqR2 s)).2 = _; rw [b3, b2']
 have hn : (segB r.tag).length = 16 := segB_le ht
 obtain ⟨a4, b4⟩ := raw_rd (segB r.tag) (reqR3 s) tail (by rw [b3']; exact he) (by rw [b3'])
 rw [hn] at a4 b4
 have b4' : reqR4 s = { s with l := tail } := by show (rawR 16 (reqR3 s)).2 = _; rw [show (16 : Int) = ((16 : Nat) : Int) from rfl, b4, b3']
 have a4' : (rawR 16 (reqR3 s)).1 = segB r.tag := a4
 unfold reqR
 rw [b4', if_pos he]
 refine ⟨?_, rfl⟩
 show SReq.mk _ _ _ _ = r
 rw [show (numR 1099511627776 (reqR1 s)).1 = r.num from a2, show (numR 8 s).1 = r.client from a1, show (textR 64 (reqR2 s)).1 = r.data from a3, a4', intsB_segB ht]
section
variable {α : Type} {one : RS → α × RS} {enc : α → List UInt8}
def encs (enc : α → List UInt8) (el : Nat → α) : Nat → List UInt8
 | 0 => []
 | k + 1 => encs enc el k ++ enc (el k)
theorem stR_rd {rel : α → α → Prop} {el : Nat → α} {s : RS} (he : s.e = 0) : ∀ n, (∀ i, i < n → Rd one (fun x => rel x (el i)) (enc (el i))) → ∀ tail, s.l = encs enc el n ++ tail → stR one s n = { s with l := tail } ∧ ∀ i, i < n → rel (one (stR one s i)).1 (el i)
 | 0, _, tail, hl => ⟨by show s = _; rw [encs, List.nil_append] at hl; rw [← hl], fun i hi => absurd hi (Nat.not_lt_zero i)⟩
 | n + 1, h, tail, hl => by
  rw [encs, List.append_assoc] at hl
  obtain ⟨h1, h2⟩ := stR_rd he n (fun i hi => h i (by omega)) _ hl
  obtain ⟨h3, h4⟩ := h n (by omega) (stR one s n) tail (by rw [h1]; exact he) (by rw [h1])
  refine ⟨by show (one (stR one s n)).2 = _; rw [h4, h1], fun i hi => ?_⟩
  rcases Nat.lt_or_ge i n with h5 | h5
  ·exact h2 i h5
  ·obtain rfl : i = n := by omega
   exact h3
theorem cntR_all : ∀ n s, (∀ k, k < n → (stR one s k).e = 0) → cntR one n s = n
 | 0, _, _ => rfl
 | n + 1, s, h => by
  have h0 : s.e = 0 := h 0 (by omega)
  rw [cntR, if_pos h0, cntR_all n _ fun k hk => by rw [stR_succ]; exact h (k + 1) (by omega)]
theorem get_rd {rel : α → α → Prop} {el : Nat → α} {n : Nat} {most : Int} (hn : (n : Int) ≤ most) (hm : most < 9223372036854775808) (h : ∀ i, i < n → Rd one (fun x => rel x (el i)) (enc (el i))) {s : RS} (he : s.e = 0) {tail : List UInt8} (hl : s.l = numsB [(n : Int)] ++ (encs enc el n ++ tail)) :
  getN one most s = n ∧ (∀ i, i < n → rel (getEl one most s i) (el i)) ∧ getS one most s = { s with l := tail } := by
 simp only [numsB, List.append_nil] at hl
 obtain ⟨a1, b1⟩ := num_rd (most := most) (n := (n : Int)) (by omega) hn hm s _ he hl
 have hs1 : (numR most s).2.e = 0 := by rw [b1]; exact he
 have key : ∀ k, k ≤ n → (stR one (numR most s).2 k).e = 0 := by
  intro k hk
  have hsplit : ∀ j, k + j = n → ∃ rest, encs enc el n = encs enc el k ++ rest := by
   intro j
   induction j generalizing k with
   | zero =>
    intro e
    obtain rfl : k = n := by omega
    exact ⟨[], by simp⟩
   | succ j ih =>
    intro e
    obtain ⟨rest, hr⟩ := ih (k + 1) (by omega) (by omega)
    exact ⟨enc (el k) ++ rest, by rw [hr, encs, List.append_assoc]⟩
  obtain ⟨rest, hr⟩ := hsplit (n - k) (by omega)
  have := (stR_rd (one := one) (enc := enc) (rel := rel) (el := el) hs1 k (fun i hi => h i (by omega)) (rest ++ tail) (by rw [b1, hr, List.append_assoc])).1
  rw [this]; exact hs1
 have hc : cntR one n (numR most s).2 = n := cntR_all n _ fun k hk => key k (by omega)
 have hN : getN one most s = n := by show cntR one (numR most s).1.toNat (numR most s).2 = n; rw [a1, Int.toNat_natCast]; exact hc
 obtain ⟨q1, q2⟩ := stR_rd (one := one) (enc := enc) (rel := rel) (el := el) hs1 n h tail (by rw [b1])
 refine ⟨hN, q2, ?_⟩
 show stR one (numR most s).2 (getN one most s) = _
 rw [hN, q1, b1]
end
theorem signsB_encs (s : Nat → SSign) : ∀ n, signsB s n = encs signB s n
 | 0 => rfl
 | n + 1 => by rw [signsB, encs, signsB_encs s n]
theorem heldsB_encs (s : Nat → SHeld) : ∀ n, heldsB s n = encs heldB s n
 | 0 => rfl
 | n + 1 => by rw [heldsB, encs, heldsB_encs s n]
theorem envsB_encs (s : Nat → SEnv) : ∀ n, envsB s n = encs envB s n
 | 0 => rfl
 | n + 1 => by rw [envsB, encs, envsB_encs s n]
theorem reqsB_encs (s : Nat → SReq) : ∀ n, reqsB s n = encs reqB s n
 | 0 => rfl
 | n + 1 => by rw [reqsB, encs, reqsB_encs s n]
end Go.Proofs.YtnmccoincblecaaGreat
namespace Go.Proofs.YtnmccoincblecaaGreat
open Go Sy Go.Proofs
theorem sign_rd {x : SSign} (h : maySignS x = true) (ht : SegOk 16 x.tag) : Rd signR (fun y => y = x) (signB x) := by
 intro s tail he hl
 simp only [maySignS, upto_iff] at h
 simp only [signB, numsB, List.append_nil, List.append_assoc] at hl
 obtain ⟨a1, b1⟩ := num_rd (most := 64) h.1 h.2 (by decide) s _ he hl
 obtain ⟨a2, b2⟩ := tag_rd ht (numR 64 s).2 tail (by rw [b1]; exact he) (by rw [b1])
 refine ⟨?_, ?_⟩
 ·show SSign.mk _ _ = x
  rw [a1, a2]
 ·show (tagR (numR 64 s).2).2 = _
  rw [b2, b1]
theorem env_rd {x : SEnv} (h : mayEnvS x = true) (ht : SegOk 16 x.tag) : Rd envR (fun y => y = x) (envB x) := by
 intro s tail he hl
 simp only [mayEnvS, Bool.and_eq_true, decide_eq_true_eq, upto_iff] at h
 obtain ⟨h1, h2⟩ := h
 simp only [envB, numsB, List.append_nil, List.append_assoc] at hl
 obtain ⟨a1, b1⟩ := num_rd (most := 64) h1.1 h1.2 (by decide) s _ he hl
 obtain ⟨a2, b2⟩ := text_rd (most := 4194304) (t := x.body) (by omega) (by decide) (envR1 s) _ (by show (numR 64 s).2.e = 0; rw [b1]; exact he) (by show (numR 64 s).2.l = _; rw [b1])
 have b2' : envR2 s = { s with l := segB x.tag ++ tail } := by show (textR 4194304 (envR1 s)).2 = _; rw [b2]; show RS.mk _ (numR 64 s).2.e (numR 64 s).2.bad = _; rw [b1]
 obtain ⟨a3, b3⟩ := tag_rd ht (envR2 s) tail (by rw [b2']; exact he) (by rw [b2'])
 refine ⟨?_, ?_⟩
 ·show SEnv.mk _ _ _ = x
  rw [a1, a2, a3]
 ·show (tagR (envR2 s)).2 = _
  rw [b3, b2']
theorem vote_rd {x : SVote} (h : mayVoteS x = true) (ht : SegOk 32 x.digest) : Rd voteR (fun y => y = x) (voteB x) := by
 intro s tail he hl
 simp only [mayVoteS, Bool.and_eq_true, Bool.or_eq_true, decide_eq_true_eq, upto_iff] at h
 obtain ⟨h1, h2, h3, h4⟩ := h
 simp only [voteB, numsB, List.append_nil, List.append_assoc] at hl
 obtain ⟨a1, b1⟩ := num_rd (n := x.kind) (most := 2) (by omega) (by omega) (by decide) s _ he hl
 have e0 : voteR0 s = { s with l := putZ x.epoch ++ (putZ x.view ++ (putZ x.slot ++ (segB x.digest ++ tail))) } := by
  unfold voteR0
  rw [if_neg (by rw [a1]; omega), b1]
 obtain ⟨a2, b2⟩ := num_rd (most := 1048576) h2.1 h2.2 (by decide) (voteR0 s) _ (by rw [e0]; exact he) (by rw [e0])
 have e1 : voteR1 s = { s with l := putZ x.view ++ (putZ x.slot ++ (segB x.digest ++ tail)) } := by show (numR 1048576 (voteR0 s)).2 = _; rw [b2, e0]
 obtain ⟨a3, b3⟩ := num_rd (most := 1099511627776) h3.1 h3.2 (by decide) (voteR1 s) _ (by rw [e1]; exact he) (by rw [e1])
 have e2 : voteR2 s = { s with l := putZ x.slot ++ (segB x.digest ++ tail) } := by show (numR 1099511627776 (voteR1 s)).2 = _; rw [b3, e1]
 obtain ⟨a4, b4⟩ := num_rd (most := 1099511627776) h4.1 h4.2 (by decide) (voteR2 s) _ (by rw [e2]; exact he) (by rw [e2])
 have e3 : voteR3 s = { s with l := segB x.digest ++ tail } := by show (numR 1099511627776 (voteR2 s)).2 = _; rw [b4, e2]
 obtain ⟨a5, b5⟩ := dig_rd ht (voteR3 s) tail (by rw [e3]; exact he) (by rw [e3])
 refine ⟨?_, ?_⟩
 ·show SVote.mk _ _ _ _ _ = x
  rw [a1, a2, a3, a4, a5]
 ·show (digR (voteR3 s)).2 = _
  rw [b5, e3]
theorem itR_stR {α : Type} (one : RS → α × RS) : ∀ k s, (itR one k s).2 = stR one s k
 | 0, _ => rfl
 | k + 1, s => by show (itR one k (one s).2).2 = _; rw [itR_stR one k, stR_succ]
theorem itR_len {α : Type} (one : RS → α × RS) : ∀ k s, (itR one k s).1.length = k
 | 0, _ => rfl
 | k + 1, s => by show (_ :: (itR one k (one s).2).1).length = _; rw [List.length_cons, itR_len one k]
theorem itR_get {α : Type} (one : RS → α × RS) (d : α) : ∀ k s i, i < k → (itR one k s).1.getD i d = (one (stR one s i)).1
 | 0, _, i, h => absurd h (Nat.not_lt_zero i)
 | k + 1, s, 0, _ => rfl
 | k + 1, s, i + 1, h => by
  show (itR one k (one s).2).1.getD i d = _
  rw [itR_get one d k _ i (by omega), stR_succ]
def segBatch (b : SBatch) : Prop := ∀ i, i < b.n → SegOk 16 (b.req i).tag
theorem allS_iff {n most : Nat} {p : Nat → Bool} : allS n most p = true ↔ n ≤ most ∧ ∀ i, i < n → p i = true := by simp [allS]
theorem sameL_iff {n n' : Nat} {p : Nat → Bool} : sameL n n' p = true ↔ n = n' ∧ ∀ i, i < n → p i = true := by simp [sameL]
theorem reqEq_iff {a b : SReq} : reqEq a b = true ↔ a = b := by
 constructor
 ·intro h
  obtain ⟨h1, h2, h3, h4⟩ := reqEq_neg h
  cases a; cases b; simp_all
 ·rintro rfl; simp [reqEq]
theorem signEq_iff {a b : SSign} : signEq a b = true ↔ a = b := by
 constructor
 ·intro h
  simp only [signEq, Bool.and_true, Bool.and_eq_true, decide_eq_true_eq] at h
  cases a; cases b; simp_all
 ·rintro rfl; simp [signEq]
theorem envEq_iff {a b : SEnv} : envEq a b = true ↔ a = b := by
 constructor
 ·intro h
  simp only [envEq, Bool.and_true, Bool.and_eq_true, decide_eq_true_eq] at h
  cases a; cases b; simp_all
 ·rintro rfl; simp [envEq]
theorem voteEq_iff {a b : SVote} : voteEq a b = true ↔ a = b := by
 constructor
 ·intro h
  simp only [voteEq, Bool.and_true, Bool.and_eq_true, decide_eq_true_eq] at h
  cases a; cases b; simp_all
 ·rintro rfl; simp [voteEq]
theorem sameBatch_iff {a b : SBatch} : sameBatchS a b = true ↔ a.noop = b.noop ∧ a.n = b.n ∧ ∀ i, i < a.n → a.req i = b.req i := by
 simp only [sameBatchS, Bool.and_eq_true, sameL_iff, reqEq_iff, beq_iff_eq]
theorem batch_rd {b : SBatch} (h : mayBatchS b = true) (ht : segBatch b) : Rd batchR (fun y => sameBatchS y b = true) (batchB b) := by
 intro s tail he hl
 simp only [mayBatchS, Bool.and_eq_true, Bool.not_eq_true', Bool.and_eq_false_iff, decide_eq_false_iff_not, allS_iff] at h
 obtain ⟨h1, h2, h3⟩ := h
 cases hno : b.noop with
 | true =>
  have hn0 : b.n = 0 := by
   rcases h1 with h1 | h1
   ·rw [hno] at h1; cases h1
   ·omega
  have hb : batchB b = putZ 0 := by simp [batchB, hno]
  rw [hb] at hl
  obtain ⟨a1, b1⟩ := num_rd (n := 0) (most := 5) (by decide) (by decide) (by decide) s _ he hl
  have e1 : batch1 s = ([], { s with l := tail }) := by unfold batch1; rw [a1, b1]; rfl
  unfold batchR
  rw [e1, if_pos he, a1]
  exact ⟨sameBatch_iff.2 ⟨by rw [hno]; rfl, hn0.symm, fun i hi => absurd hi (Nat.not_lt_zero i)⟩, rfl⟩
 | false =>
  have hb : batchB b = putZ ((b.n + 1 : Nat) : Int) ++ reqsB b.req b.n := by simp [batchB, hno]
  rw [hb, List.append_assoc] at hl
  obtain ⟨a1, b1⟩ := num_rd (n := ((b.n + 1 : Nat) : Int)) (most := 5) (by omega) (by omega) (by decide) s _ he hl
  have hs1 : (numR 5 s).2.e = 0 := by rw [b1]; exact he
  obtain ⟨q1, q2⟩ := stR_rd (one := reqR) (enc := reqB) (rel := fun x y => x = y) (el := b.req) hs1 b.n (fun i hi => req_rd (h3 i hi) (ht i hi)) tail (by rw [b1, reqsB_encs])
  have hk : (numR 5 s).1.toNat - 1 = b.n := by rw [a1]; omega
  have e2 : (batch1 s).2 = { s with l := tail } := by
   show (itR reqR ((numR 5 s).1.toNat - 1) (numR 5 s).2).2 = _
   rw [hk, itR_stR, q1, b1]
  have e1 : (batchR s).1 = batchOf (decide ((numR 5 s).1 = 0)) (batch1 s).1 := by
   show (if (batch1 s).2.e = 0 then _ else _) = _
   rw [if_pos (by rw [e2]; exact he)]
  refine ⟨?_, e2⟩
  rw [e1]
  have hlen : (batch1 s).1.length = b.n := by
   show (itR reqR ((numR 5 s).1.toNat - 1) (numR 5 s).2).1.length = _
   rw [itR_len, hk]
  refine sameBatch_iff.2 ⟨?_, hlen, fun i hi => ?_⟩
  ·show decide ((numR 5 s).1 = 0) = b.noop
   rw [hno, decide_eq_false_iff_not, a1]; omega
  ·have hi' : i < b.n := by rw [← hlen]; exact hi
   show (itR reqR ((numR 5 s).1.toNat - 1) (numR 5 s).2).1.getD i req0 = _
   rw [itR_get _ _ _ _ _ (by rw [hk]; exact hi')]
   exact q2 i hi'
structure segCert (c : SCert) : Prop where
 vote : SegOk 32 c.vote.digest
 sig : ∀ i, i < c.n → SegOk 16 (c.sig i).tag
structure segHeld (h : SHeld) : Prop where
 batch : segBatch h.batch
 cert : segCert h.cert
theorem sameCert_iff {a b : SCert} : sameCertS a b = true ↔ a.vote = b.vote ∧ a.n = b.n ∧ ∀ i, i < a.n → a.sig i = b.sig i := by
 simp only [sameCertS, Bool.and_eq_true, sameL_iff, signEq_iff, voteEq_iff]
theorem cert_rd {c : SCert} (h : mayCertS c = true) (ht : segCert c) : Rd certR (fun y => sameCertS y c = true) (certB c) := by
 intro s tail he hl
 simp only [mayCertS, Bool.and_eq_true, allS_iff] at h
 obtain ⟨h1, h2, h3⟩ := h
 simp only [certB, List.append_assoc] at hl
 obtain ⟨a1, b1⟩ := vote_rd h1 ht.vote s _ he hl
 obtain ⟨q1, q2, q3⟩ := get_rd (one := signR) (enc := signB) (rel := fun x y => x = y) (el := c.sig) (n := c.n) (most := 64) (by omega) (by decide) (fun i hi => sign_rd (h3 i hi) (ht.sig i hi)) (s := (voteR s).2) (by rw [b1]; exact he) (tail := tail) (by rw [b1, signsB_encs])
 refine ⟨?_, ?_⟩
 ·exact sameCert_iff.2 ⟨a1, q1, fun i hi => q2 i (by rw [← q1]; exact hi)⟩
 ·show getS signR 64 (voteR s).2 = _
  rw [q3, b1]
theorem held_rd {x : SHeld} (h : mayHeldS x = true) (ht : segHeld x) : Rd heldR (fun y => sameHeldS y x = true) (heldB x) := by
 intro s tail he hl
 simp only [mayHeldS, Bool.and_eq_true] at h
 simp only [heldB, List.append_assoc] at hl
 obtain ⟨a1, b1⟩ := batch_rd h.1 ht.batch s _ he hl
 obtain ⟨a2, b2⟩ := cert_rd h.2 ht.cert (batchR s).2 tail (by rw [b1]; exact he) (by rw [b1])
 refine ⟨?_, ?_⟩
 ·simp only [sameHeldS, Bool.and_eq_true]; exact ⟨a1, a2⟩
 ·show (certR (batchR s).2).2 = _
  rw [b2, b1]
end Go.Proofs.YtnmccoincblecaaGreat
