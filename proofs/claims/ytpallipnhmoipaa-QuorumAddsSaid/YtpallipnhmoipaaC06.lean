/-
  Contracts and laws that the claim's theorem leans on, joined out of the texts Mb2 Mb3D Mb3 Mg1 (own work of this seat): Contracts: who signed: a range over a function; Contracts: QuorumAdds; Contracts: QuorumAdds; The shapes of signs that are handed in.
-/
import Derived.Test.YtpallipnhmoipaaC04
import Derived.Test.YtpallipnhmoipaaC05
set_option linter.unusedVariables false
set_option linter.unusedSimpArgs false
set_option maxHeartbeats 1000000
namespace Go.Proofs.Ytpallipnhmoipaa
open Go Sy Go.Proofs
theorem bdEa_p (n : Nat) (s : Nat → SSign) :
  along Try.prog (bdEa n s) [] = (some (.fn (.func (63 : FuncId)) [] [.ptr (.o 63) 0 0 0 0], [(.o 63, .flat [sg n s])], [q n, ∀ (k : Nat), k < n → SSign.c (s k) = SSign.c (s k), false = true → false = true, q0, q0, q0]) : Option (V × Heap × List Prop)) := by kernel_rfl

theorem bdN0_p (n : Nat) (s : Nat → SSign) :
  along Try.prog (bdN0 n s) [] = (some (.snil, [], [T Try.prog 47 [.ros 17 n (fun i => SSign.c (s i)) false] [] (.fn (.func (63 : FuncId)) [] [.ptr (.o 128) 0 0 0 0]) [(.o 128, .flat [sg n s])], R Try.prog none 0 (cB (cR (cL (cR (bodyOf (Bd.f (bdN0 n s))))))) (St.mk [.any, .any, .ptr (.o 1) 0 0 0 0, .any, .any, .fn (.func (63 : FuncId)) [] [.ptr (.o 2) 0 0 0 0], .any, .any, .any, .any, .any, .any] [(.o 1, .flat [.snil]), (.o 2, .flat [sg n s])] 3 []) .normal (St.mk [.any, .any, .ptr (.o 1) 0 0 0 0, .any, .any, .fn (.func (63 : FuncId)) [] [.ptr (.o 2) 0 0 0 0], .any, .any, .any, .any, .any, .any] [(.o 1, .flat [.snil]), (.o 2, .flat [sg n s]), (.o 3, B.dfr)] 500 [.o 3]), q n, ∀ (k : Nat), k < n → SSign.c (s k) = SSign.c (s k), false = true → false = true, q0, q0, q0, q0, q0, q0]) : Option (V × Heap × List Prop)) := by kernel_rfl

theorem bdNd_p (n : Nat) (s : Nat → SSign) :
  along Try.prog (bdNd n s) [] = (some (.sl (.o 5) 1 0 0 0 (List.length (ndL s n)) none, [(.o 5, .rows 1 (List.length (ndL s n)) (li (ndL s n)) true)], [T Try.prog 47 [.ros 17 n (fun i => SSign.c (s i)) false] [] (.fn (.func (63 : FuncId)) [] [.ptr (.o 128) 0 0 0 0]) [(.o 128, .flat [sg n s])], R Try.prog none 0 (cB (cR (cL (cR (bodyOf (Bd.f (bdNd n s))))))) (St.mk [.any, .any, .ptr (.o 1) 0 0 0 0, .any, .any, .fn (.func (63 : FuncId)) [] [.ptr (.o 2) 0 0 0 0], .any, .any, .any, .any, .any, .any] [(.o 1, .flat [.snil]), (.o 2, .flat [sg n s])] 3 []) .normal (St.mk [.any, .any, .ptr (.o 1) 0 0 0 0, .any, .any, .fn (.func (63 : FuncId)) [] [.ptr (.o 2) 0 0 0 0], .any, .any, .any, .any, .any, .any] [(.o 1, .flat [.sl (.o 5) 1 0 0 0 (List.length (ndL s n)) none]), (.o 5, .rows 1 (List.length (ndL s n)) (li (ndL s n)) true), (.o 2, .flat [sg n s]), (.o 3, B.dfr)] 500 [.o 3]), q n, ∀ (k : Nat), k < n → SSign.c (s k) = SSign.c (s k), false = true → false = true, q0, q0, q0, q0, q0, q0]) : Option (V × Heap × List Prop)) := by kernel_rfl

theorem pcNa0_p (qq : Nat) (fn : FuncId) (x : Int) :
  alongPc Try.prog (pcNa0 qq fn x) [] = (some (.normal, St.mk [.any, .any, .ptr (.o 1) 0 0 0 0, .int .i64 x, .any, .any, .any, .any, .any, .any, .any, .any] [(.o 4, B.loop fn (Array.mk [(6 : Tmp)]) [.any, .any, .ptr (.o 1) 0 0 0 0, .any, .any, .fn (.func (63 : FuncId)) [] [.ptr (.o 2) 0 0 0 0], .any, .any, .any, .any, .any, .any] (cA ndC) (cY ndC) LoopState.ready none), (.o 1, .flat [.snil])] 600 [], [q2, q0, q0, q0, q x]) : Option (Exit × St × List Prop)) := by kernel_rfl

theorem pcNa1_p (qq : Nat) (fn : FuncId) (L : List Int) (x : Int) :
  alongPc Try.prog (pcNa1 qq fn L x) [] = (some (.normal, St.mk [.any, .any, .ptr (.o 1) 0 0 0 0, .int .i64 x, .any, .any, .any, .any, .any, .any, .any, .any] [(.o 4, B.loop fn (Array.mk [(6 : Tmp)]) [.any, .any, .ptr (.o 1) 0 0 0 0, .any, .any, .fn (.func (63 : FuncId)) [] [.ptr (.o 2) 0 0 0 0], .any, .any, .any, .any, .any, .any] (cA ndC) (cY ndC) LoopState.ready none), (.o 1, .flat [.sl (.o 5) 1 0 0 0 (List.length L) none]), (.o 5, .rows 1 (List.length L) (li L) true)] 600 [], [q2, q0, q0, q0, q (List.length L), (none : Option Nat) = none ∨ (none : Option Nat) = none, q (List.length L), ∀ (k : Nat), k < List.length L → [V.int IntKind.i64 (List.getD L k (0 : Int))] = [V.int IntKind.i64 (List.getD L k (0 : Int))], true = false → true = false, q0, q0, q0, q x]) : Option (Exit × St × List Prop)) := by kernel_rfl

theorem pcNy0_p (qq : Nat) (fn : FuncId) (x : Int) :
  alongPc Try.prog (pcNy0 qq fn x) [] = (some (.normal, St.mk [.any, .any, .any, .any, .any, .any, .any, .any, .any, .any, .any, .any] [(.o 4, B.loop fn (Array.mk [(6 : Tmp)]) [.any, .any, .ptr (.o 1) 0 0 0 0, .any, .any, .fn (.func (63 : FuncId)) [] [.ptr (.o 2) 0 0 0 0], .any, .any, .any, .any, .any, .any] (cA ndC) (cY ndC) LoopState.busy none), (.o 1, .flat [.sl (.o 518) 1 0 0 0 1 none]), (.o 518, .rows 1 1 (li [x]) true)] 1000 [], [nat_lit 1 ≤ (1 : Nat), ∀ (k : Nat), k < (1 : Nat) → solid (getL [[V.int IntKind.i64 x]] ((0 : Nat) + k)) = true, nat_lit 8 ≤ (140737488355328 : Nat), q2, q0, q0, q0, q (nat_lit 1), (none : Option Nat) = none ∨ (none : Option Nat) = none, q (nat_lit 1), ∀ (k : Nat), k < nat_lit 1 → catF (0 : Nat) (fun x => []) (fun k => getL [[V.int IntKind.i64 x]] ((0 : Nat) + k)) k = [V.int IntKind.i64 (List.getD [x] k (0 : Int))], true = false → true = false]) : Option (Exit × St × List Prop)) := by kernel_rfl

theorem pcNy1_p (qq : Nat) (fn : FuncId) (L : List Int) (x : Int) (L2 : List Int) :
  alongPc Try.prog (pcNy1 qq fn L x L2) [] = (some (.normal, St.mk [.any, .any, .any, .any, .any, .any, .any, .any, .any, .any, .any, .any] [(.o 4, B.loop fn (Array.mk [(6 : Tmp)]) [.any, .any, .ptr (.o 1) 0 0 0 0, .any, .any, .fn (.func (63 : FuncId)) [] [.ptr (.o 2) 0 0 0 0], .any, .any, .any, .any, .any, .any] (cA ndC) (cY ndC) LoopState.busy none), (.o 1, .flat [.sl (.o 518) 1 0 0 0 (List.length L2) none]), (.o 518, .rows 1 (List.length L2) (li L2) true)] 1000 [], [q (List.length L), nat_lit 1 ≤ (1 : Nat), ∀ (k : Nat), k < (1 : Nat) → solid (getL [[V.int IntKind.i64 x]] ((0 : Nat) + k)) = true, (List.length L + (1 : Nat)) * (8 : Nat) ≤ (140737488355328 : Nat), q2, q0, q0, q0, List.length L + (1 : Nat) = List.length L2, (none : Option Nat) = none ∨ (none : Option Nat) = none, List.length L + (1 : Nat) = List.length L2, ∀ (k : Nat), k < List.length L + (1 : Nat) → catF (List.length L) (li L) (fun k => getL [[V.int IntKind.i64 x]] ((0 : Nat) + k)) k = [V.int IntKind.i64 (List.getD L2 k (0 : Int))], true = false → true = false]) : Option (Exit × St × List Prop)) := by kernel_rfl

theorem bdIt0_p (fn : FuncId) (n : Nat) (s : Nat → SSign) :
  along Try.prog (bdIt0 fn n s) [] = (some (.tup [], [(.o 4, B.loop fn (Array.mk [(6 : Tmp)]) [.any, .any, .ptr (.o 1) 0 0 0 0, .any, .any, .fn (.func (63 : FuncId)) [] [.ptr (.o 2) 0 0 0 0], .any, .any, .any, .any, .any, .any] (cA ndC) (cY ndC) LoopState.ready none), (.o 1, .flat [.snil]), (.o 2, .flat [sg n s])], [RLoop Try.prog none 5 (cB (cB (cR (bodyOf (Bd.f (bdIt0 fn n s)))))) 1 (St.mk [V.yld (.o 4), .any, .any, .any, .any, .ros 17 n (fun i => SSign.c (s i)) false, .int .i64 ↑n, .int .i64 0, .any, .any, .any, .any, .any, .any, .any, .any, .any] [(.o 4, B.loop fn (Array.mk [(6 : Tmp)]) [.any, .any, .ptr (.o 1) 0 0 0 0, .any, .any, .fn (.func (63 : FuncId)) [] [.ptr (.o 2) 0 0 0 0], .any, .any, .any, .any, .any, .any] (cA ndC) (cY ndC) LoopState.ready none), (.o 1, .flat [.snil]), (.o 2, .flat [sg n s])] 6 []) (.exit 0) (St.mk [V.yld (.o 4), .any, .any, .any, .any, .ros 17 n (fun i => SSign.c (s i)) false, .int .i64 ↑n, .int .i64 0, .any, .any, .any, .any, .any, .any, .any, .any, .any] [(.o 4, B.loop fn (Array.mk [(6 : Tmp)]) [.any, .any, .ptr (.o 1) 0 0 0 0, .any, .any, .fn (.func (63 : FuncId)) [] [.ptr (.o 2) 0 0 0 0], .any, .any, .any, .any, .any, .any] (cA ndC) (cY ndC) LoopState.ready none), (.o 1, .flat [.snil]), (.o 2, .flat [sg n s])] 6 []), q2, q n, ∀ (k : Nat), k < n → SSign.c (s k) = SSign.c (s k), false = true → false = true, q n, ∀ (k : Nat), k < n → SSign.c (s k) = SSign.c (s k), false = true → false = true, q (↑n : Int), q1]) : Option (V × Heap × List Prop)) := by kernel_rfl

theorem bdIt1_p (fn : FuncId) (n : Nat) (s : Nat → SSign) :
  along Try.prog (bdIt1 fn n s) [] = (some (.tup [], [(.o 4, B.loop fn (Array.mk [(6 : Tmp)]) [.any, .any, .ptr (.o 1) 0 0 0 0, .any, .any, .fn (.func (63 : FuncId)) [] [.ptr (.o 2) 0 0 0 0], .any, .any, .any, .any, .any, .any] (cA ndC) (cY ndC) LoopState.ready none), (.o 1, .flat [.sl (.o 5) 1 0 0 0 (List.length (ndL s n)) none]), (.o 5, .rows 1 (List.length (ndL s n)) (li (ndL s n)) true), (.o 2, .flat [sg n s])], [RLoop Try.prog none 5 (cB (cB (cR (bodyOf (Bd.f (bdIt1 fn n s)))))) (n + 1) (St.mk [V.yld (.o 4), .any, .any, .any, .any, .ros 17 n (fun i => SSign.c (s i)) false, .int .i64 ↑n, .int .i64 0, .any, .any, .any, .any, .any, .any, .any, .any, .any] [(.o 4, B.loop fn (Array.mk [(6 : Tmp)]) [.any, .any, .ptr (.o 1) 0 0 0 0, .any, .any, .fn (.func (63 : FuncId)) [] [.ptr (.o 2) 0 0 0 0], .any, .any, .any, .any, .any, .any] (cA ndC) (cY ndC) LoopState.ready none), (.o 1, .flat [.snil]), (.o 2, .flat [sg n s])] 6 []) (.exit 0) (St.mk [V.yld (.o 4), .any, .any, .any, .any, .ros 17 n (fun i => SSign.c (s i)) false, .int .i64 ↑n, .int .i64 ↑n, .any, .any, .any, .any, .any, .any, .any, .any, .any] [(.o 4, B.loop fn (Array.mk [(6 : Tmp)]) [.any, .any, .ptr (.o 1) 0 0 0 0, .any, .any, .fn (.func (63 : FuncId)) [] [.ptr (.o 2) 0 0 0 0], .any, .any, .any, .any, .any, .any] (cA ndC) (cY ndC) LoopState.ready none), (.o 1, .flat [.sl (.o 5) 1 0 0 0 (List.length (ndL s n)) none]), (.o 5, .rows 1 (List.length (ndL s n)) (li (ndL s n)) true), (.o 2, .flat [sg n s])] 6 []), q2, q n, ∀ (k : Nat), k < n → SSign.c (s k) = SSign.c (s k), false = true → false = true, q n, ∀ (k : Nat), k < n → SSign.c (s k) = SSign.c (s k), false = true → false = true, q (↑n : Int), q1]) : Option (V × Heap × List Prop)) := by kernel_rfl

theorem pcI0_p10 (fn : FuncId) (n : Nat) (s : Nat → SSign) :
  alongPc Try.prog (pcI0 fn n s) [true, false] = (some (.normal, St.mk [V.yld (.o 4), .any, .any, .any, .any, .ros 17 n (fun i => SSign.c (s i)) false, .int .i64 ↑n, .int .i64 1, .any, .any, .any, .any, .any, .any, .any, .any, .any] [(.o 4, B.loop fn (Array.mk [(6 : Tmp)]) [.any, .any, .ptr (.o 1) 0 0 0 0, .any, .any, .fn (.func (63 : FuncId)) [] [.ptr (.o 2) 0 0 0 0], .any, .any, .any, .any, .any, .any] (cA ndC) (cY ndC) LoopState.ready none), (.o 1, .flat [.sl (.o 5) 1 0 0 0 1 none]), (.o 5, .rows 1 1 (li [SSign.node (s 0)]) true), (.o 2, .flat [sg n s])] 6 [], [decide ((0 : Int) < (↑n : Int)) = true, (0 : Int) ≤ (0 : Int) ∧ (0 : Int) < (↑n : Int), TV Try.prog (V.yld (Nm.o (4 : Nat))) [V.int IntKind.i64 (SSign.node (s (nat_lit 0)))] [(Nm.o (4 : Nat), B.loop fn (Array.mk [(6 : Tmp)]) [V.any, V.any, V.ptr (Nm.o (1 : Nat)) (0 : Nat) (0 : Nat) (0 : Nat) (0 : Nat), V.any, V.any, V.fn (Fn.func (63 : FuncId)) [] [V.ptr (Nm.o (2 : Nat)) (0 : Nat) (0 : Nat) (0 : Nat) (0 : Nat)], V.any, V.any, V.any, V.any, V.any, V.any] (cA ndC) (cY ndC) LoopState.ready none), (Nm.o (1 : Nat), B.flat [V.snil])] (V.bool true) [(Nm.o (4 : Nat), B.loop fn (Array.mk [(6 : Tmp)]) [V.any, V.any, V.ptr (Nm.o (1 : Nat)) (0 : Nat) (0 : Nat) (0 : Nat) (0 : Nat), V.any, V.any, V.fn (Fn.func (63 : FuncId)) [] [V.ptr (Nm.o (2 : Nat)) (0 : Nat) (0 : Nat) (0 : Nat) (0 : Nat)], V.any, V.any, V.any, V.any, V.any, V.any] (cA ndC) (cY ndC) LoopState.ready none), (Nm.o (1 : Nat), B.flat [V.sl (Nm.o (nat_lit 518)) (1 : Nat) (0 : Nat) (0 : Nat) (0 : Nat) (nat_lit 1) none]), (Nm.o (nat_lit 518), B.rows (1 : Nat) (nat_lit 1) (li [SSign.node (s (0 : Nat))]) true)], q false, InR IntKind.i64 (1 : Int), q2, q0, q0, q0, q (nat_lit 1), (none : Option Nat) = none ∨ (none : Option Nat) = none, q (nat_lit 1), ∀ (k : Nat), k < nat_lit 1 → [V.int IntKind.i64 (List.getD [SSign.node (s (0 : Nat))] k (0 : Int))] = [V.int IntKind.i64 (List.getD [SSign.node (s (nat_lit 0))] k (0 : Int))], true = false → true = false, q n, ∀ (k : Nat), k < n → SSign.c (s k) = SSign.c (s k), false = true → false = true, q n, ∀ (k : Nat), k < n → SSign.c (s k) = SSign.c (s k), false = true → false = true, q (↑n : Int), q (1 : Int)]) : Option (Exit × St × List Prop)) := by kernel_rfl

theorem pcI1_p10 (fn : FuncId) (n : Nat) (s : Nat → SSign) (k : Nat) :
  alongPc Try.prog (pcI1 fn n s k) [true, false] = (some (.normal, St.mk [V.yld (.o 4), .any, .any, .any, .any, .ros 17 n (fun i => SSign.c (s i)) false, .int .i64 ↑n, .int .i64 (↑(k + 1) : Int), .any, .any, .any, .any, .any, .any, .any, .any, .any] [(.o 4, B.loop fn (Array.mk [(6 : Tmp)]) [.any, .any, .ptr (.o 1) 0 0 0 0, .any, .any, .fn (.func (63 : FuncId)) [] [.ptr (.o 2) 0 0 0 0], .any, .any, .any, .any, .any, .any] (cA ndC) (cY ndC) LoopState.ready none), (.o 1, .flat [.sl (.o 5) 1 0 0 0 (List.length (ndL s (k + 1))) none]), (.o 5, .rows 1 (List.length (ndL s (k + 1))) (li (ndL s (k + 1))) true), (.o 2, .flat [sg n s])] 6 [], [decide ((↑k : Int) < (↑n : Int)) = true, (0 : Int) ≤ (↑k : Int) ∧ (↑k : Int) < (↑n : Int), TV Try.prog (V.yld (Nm.o (4 : Nat))) [V.int IntKind.i64 (SSign.node (s (Int.toNat (↑k : Int))))] [(Nm.o (4 : Nat), B.loop fn (Array.mk [(6 : Tmp)]) [V.any, V.any, V.ptr (Nm.o (1 : Nat)) (0 : Nat) (0 : Nat) (0 : Nat) (0 : Nat), V.any, V.any, V.fn (Fn.func (63 : FuncId)) [] [V.ptr (Nm.o (2 : Nat)) (0 : Nat) (0 : Nat) (0 : Nat) (0 : Nat)], V.any, V.any, V.any, V.any, V.any, V.any] (cA ndC) (cY ndC) LoopState.ready none), (Nm.o (1 : Nat), B.flat [V.sl (Nm.o (5 : Nat)) (1 : Nat) (0 : Nat) (0 : Nat) (0 : Nat) (List.length (ndL s k)) none]), (Nm.o (5 : Nat), B.rows (1 : Nat) (List.length (ndL s k)) (li (ndL s k)) true)] (V.bool true) [(Nm.o (4 : Nat), B.loop fn (Array.mk [(6 : Tmp)]) [V.any, V.any, V.ptr (Nm.o (1 : Nat)) (0 : Nat) (0 : Nat) (0 : Nat) (0 : Nat), V.any, V.any, V.fn (Fn.func (63 : FuncId)) [] [V.ptr (Nm.o (2 : Nat)) (0 : Nat) (0 : Nat) (0 : Nat) (0 : Nat)], V.any, V.any, V.any, V.any, V.any, V.any] (cA ndC) (cY ndC) LoopState.ready none), (Nm.o (1 : Nat), B.flat [V.sl (Nm.o (nat_lit 518)) (1 : Nat) (0 : Nat) (0 : Nat) (0 : Nat) (List.length (ndL s (k + (1 : Nat)))) none]), (Nm.o (nat_lit 518), B.rows (1 : Nat) (List.length (ndL s (k + (1 : Nat)))) (li (ndL s (k + (1 : Nat)))) true)], q false, InR IntKind.i64 ((↑k : Int) + (1 : Int)), q2, q0, q0, q0, q (List.length (ndL s (k + (1 : Nat)))), (none : Option Nat) = none ∨ (none : Option Nat) = none, q (List.length (ndL s (k + (1 : Nat)))), ∀ (k_1 : Nat), k_1 < List.length (ndL s (k + (1 : Nat))) → [V.int IntKind.i64 (List.getD (ndL s (k + (1 : Nat))) k_1 (0 : Int))] = [V.int IntKind.i64 (List.getD (ndL s (k + (1 : Nat))) k_1 (0 : Int))], true = false → true = false, q n, ∀ (k : Nat), k < n → SSign.c (s k) = SSign.c (s k), false = true → false = true, q n, ∀ (k : Nat), k < n → SSign.c (s k) = SSign.c (s k), false = true → false = true, q (↑n : Int), (↑k : Int) + (1 : Int) = (↑(k + (1 : Nat)) : Int)]) : Option (Exit × St × List Prop)) := by kernel_rfl

theorem pcE0_p0 (fn : FuncId) (n : Nat) (s : Nat → SSign) :
  alongPc Try.prog (pcE0 fn n s) [false] = (some (.exit 0, St.mk [V.yld (.o 4), .any, .any, .any, .any, .ros 17 n (fun i => SSign.c (s i)) false, .int .i64 ↑n, .int .i64 0, .any, .any, .any, .any, .any, .any, .any, .any, .any] [(.o 4, B.loop fn (Array.mk [(6 : Tmp)]) [.any, .any, .ptr (.o 1) 0 0 0 0, .any, .any, .fn (.func (63 : FuncId)) [] [.ptr (.o 2) 0 0 0 0], .any, .any, .any, .any, .any, .any] (cA ndC) (cY ndC) LoopState.ready none), (.o 1, .flat [.snil]), (.o 2, .flat [sg n s])] 6 [], [decide ((0 : Int) < (↑n : Int)) = false, q2, q n, ∀ (k : Nat), k < n → SSign.c (s k) = SSign.c (s k), false = true → false = true, q n, ∀ (k : Nat), k < n → SSign.c (s k) = SSign.c (s k), false = true → false = true, q (↑n : Int), q1]) : Option (Exit × St × List Prop)) := by kernel_rfl

theorem pcE1_p0 (fn : FuncId) (n : Nat) (s : Nat → SSign) :
  alongPc Try.prog (pcE1 fn n s) [false] = (some (.exit 0, St.mk [V.yld (.o 4), .any, .any, .any, .any, .ros 17 n (fun i => SSign.c (s i)) false, .int .i64 ↑n, .int .i64 ↑n, .any, .any, .any, .any, .any, .any, .any, .any, .any] [(.o 4, B.loop fn (Array.mk [(6 : Tmp)]) [.any, .any, .ptr (.o 1) 0 0 0 0, .any, .any, .fn (.func (63 : FuncId)) [] [.ptr (.o 2) 0 0 0 0], .any, .any, .any, .any, .any, .any] (cA ndC) (cY ndC) LoopState.ready none), (.o 1, .flat [.sl (.o 5) 1 0 0 0 (List.length (ndL s n)) none]), (.o 5, .rows 1 (List.length (ndL s n)) (li (ndL s n)) true), (.o 2, .flat [sg n s])] 6 [], [decide ((↑n : Int) < (↑n : Int)) = false, q2, q0, q0, q0, q (List.length (ndL s n)), (none : Option Nat) = none ∨ (none : Option Nat) = none, q (List.length (ndL s n)), ∀ (k : Nat), k < List.length (ndL s n) → [V.int IntKind.i64 (List.getD (ndL s n) k (0 : Int))] = [V.int IntKind.i64 (List.getD (ndL s n) k (0 : Int))], true = false → true = false, q n, ∀ (k : Nat), k < n → SSign.c (s k) = SSign.c (s k), false = true → false = true, q n, ∀ (k : Nat), k < n → SSign.c (s k) = SSign.c (s k), false = true → false = true, q (↑n : Int), q (↑n : Int)]) : Option (Exit × St × List Prop)) := by kernel_rfl

theorem T_ea1 (n : Nat) (s : Nat → SSign) : T Try.prog 47 [sg n s] [] (.fn (.func 63) [] [.ptr (.o 63) 0 0 0 0]) [(.o 63, .flat [sg n s])] := by
 refine T_al (bdEa_p n s) Try.func47 ?_
 simp [All]
theorem T_ea (n : Nat) (s : Nat → SSign) (a : Nat) : T Try.prog 47 [sg n s] [] (.fn (.func 63) [] [.ptr (.o a) 0 0 0 0]) [(.o a, .flat [sg n s])] := by
 obtain ⟨σ, hσ, h1⟩ := T.at (T_ea1 n s) [.o 63] [.o a] (by decide) (by simp) rfl
 simp only [List.map_cons, List.map_nil, List.cons.injEq, and_true] at hσ
 simpa [V.rens, V.ren, Heap.ren, B.ren, sg, hσ] using h1
theorem ndC_eq : ndC = .rangeFunc (.tmp 5) #[6] (cA ndC) (cY ndC) := by kernel_rfl
theorem ndL_len (s : Nat → SSign) (k : Nat) : (ndL s k).length = k := by simp [ndL]
theorem ndL_succ (s : Nat → SSign) (k : Nat) : ndL s (k + 1) = ndL s k ++ [(s k).node] := by simp [ndL, List.range_succ]
theorem ndL_get {s : Nat → SSign} {n k : Nat} (h : k < n) : (ndL s n).getD k 0 = (s k).node := by
 rw [ndL, List.getD_eq_getElem?_getD, List.getElem?_map, List.getElem?_range h]; rfl
theorem catI {L : List Int} {x : Int} (k : Nat) (hk : k < L.length + 1) : catF L.length (li L) (fun k => getL [[V.int .i64 x]] (0 + k)) k = [V.int .i64 ((L ++ [x]).getD k 0)] := by
 rw [catF]
 cases hb : Nat.blt k L.length with
 | true =>
  rw [Nat.blt_eq] at hb
  rw [cond_true, li, List.getD_eq_getElem?_getD, List.getD_eq_getElem?_getD, List.getElem?_append_left hb]
 | false =>
  have : ¬ k < L.length := by rw [← Nat.blt_eq, hb]; simp
  obtain rfl : k = L.length := by omega
  rw [cond_false, Nat.sub_self, List.getD_eq_getElem?_getD, List.getElem?_append_right (Nat.le_refl _), Nat.sub_self]; rfl
theorem cat0 {x : Int} (k : Nat) (hk : k < 1) : catF 0 (fun _ => []) (fun k => getL [[V.int .i64 x]] (0 + k)) k = [V.int .i64 ([x].getD k 0)] := by
 obtain rfl : k = 0 := by omega
 rfl
theorem solI (x : Int) (k : Nat) (hk : k < 1) : solid (getL [[V.int .i64 x]] (0 + k)) = true := by
 obtain rfl : k = 0 := by omega
 rfl
theorem yn0 (fn : FuncId) (x : Int) : TV Try.prog (.yld (.o 4)) [.int .i64 x] ((.o 4, ndB fn .ready none) :: nd0) (.bool true) ((.o 4, ndB fn .ready none) :: ndP [x]) := by
 refine TV_round (n := .o 4) (p := 5) (fn := fn) (ps := #[6]) (ts := ndT) (args := [.int .i64 x]) (assign := cA ndC) (body := cY ndC) (h0 := nd0) (h1 := nd0) (post := ndP [x]) (rest2 := []) (st1 := ⟨ndX x, (.o 4, ndB fn .ready none) :: nd0, 600, []⟩) (st2 := ⟨mkT 12 [], (.o 4, ndB fn .busy none) :: ndP [x], 1000, []⟩) (e := .normal)
  rfl (pinH_ok (by kernel_rfl)) (by kernel_rfl) (fun q => ?_) (List.Perm.refl _) (by show 5 ≤ 600; decide) (fun q => ?_) (by rw [List.append_nil]; exact List.Perm.refl _) (by show 5 ≤ 1000; decide) .on (fun q hq => ⟨fun m => Nm.pin 5 m || m.beq (.o 518), ?_, fun m hm => ?_⟩)
 ·refine R_alongPc NG MO _ (pcNa0_p q fn x) ?_ (Nat.le_refl _)
  simp [All]
 ·refine R_alongPc NG MO _ (pcNy0_p q fn x) ?_ (by show 5 ≤ 600; decide)
  simp only [All]; and_intros
  all_goals first
   | (intro k hk; exact solI _ k hk)
   | (intro k hk; exact cat0 k hk)
   | exact True.intro
   | (with_reducible assumption)
   | (rw [decide_eq_true_eq]; omega)
   | (rw [decide_eq_false_iff_not]; omega)
   | with_reducible rfl
   | (intro _ _; exact True.intro)
   | (intro _ _; with_reducible rfl)
   | (intro _ _; rfl)
   | (simp only [IntKind.min, IntKind.max, IntKind.signed, IntKind.bits, if_true]; omega)
   | omega
   | (intro h; exact h)
   | (intro h; cases h; done)
   | exact .inl rfl
   | exact .inl True.intro
   | (simp; done)
 ·rcases List.mem_cons.1 hq with rfl | hq
  ·rfl
  ·rcases List.mem_cons.1 hq with rfl | hq
   ·rfl
   ·rcases List.mem_cons.1 hq with rfl | hq
    ·rfl
    ·cases hq
 ·rw [Bool.or_eq_true] at hm
  rcases hm with hm | hm
  ·exact .inl hm
  ·have := Nm.beq_iff.1 hm
   subst this
   exact .inr ⟨_, List.mem_cons_of_mem _ (List.mem_cons_of_mem _ (List.mem_cons_self ..))⟩
theorem yn1 (fn : FuncId) {L : List Int} (x : Int) (hL : L.length ≤ 1000000) : TV Try.prog (.yld (.o 4)) [.int .i64 x] ((.o 4, ndB fn .ready none) :: ndA L) (.bool true) ((.o 4, ndB fn .ready none) :: ndP (L ++ [x])) := by
 refine TV_round (n := .o 4) (p := 6) (fn := fn) (ps := #[6]) (ts := ndT) (args := [.int .i64 x]) (assign := cA ndC) (body := cY ndC) (h0 := ndA L) (h1 := ndA L) (post := ndP (L ++ [x])) (rest2 := []) (st1 := ⟨ndX x, (.o 4, ndB fn .ready none) :: ndA L, 600, []⟩) (st2 := ⟨mkT 12 [], (.o 4, ndB fn .busy none) :: ndP (L ++ [x]), 1000, []⟩) (e := .normal)
  rfl (pinH_ok (by kernel_rfl)) (by kernel_rfl) (fun q => ?_) (List.Perm.refl _) (by show 6 ≤ 600; decide) (fun q => ?_) (by rw [List.append_nil]; exact List.Perm.refl _) (by show 6 ≤ 1000; decide) .on (fun q hq => ⟨fun m => Nm.pin 6 m || m.beq (.o 518), ?_, fun m hm => ?_⟩)
 ·refine R_alongPc NG MO _ (pcNa1_p q fn L x) ?_ (Nat.le_refl _)
  simp [All]
 ·refine R_alongPc NG MO _ (pcNy1_p q fn L x (L ++ [x])) ?_ (by show 6 ≤ 600; decide)
  have hl : (L ++ [x]).length = L.length + 1 := by simp
  simp only [All, hl]; and_intros
  all_goals first
   | (intro k hk; exact solI _ k hk)
   | (intro k hk; exact catI k hk)
   | exact True.intro
   | (with_reducible assumption)
   | (rw [decide_eq_true_eq]; omega)
   | (rw [decide_eq_false_iff_not]; omega)
   | with_reducible rfl
   | (intro _ _; exact True.intro)
   | (intro _ _; with_reducible rfl)
   | (intro _ _; rfl)
   | (simp only [IntKind.min, IntKind.max, IntKind.signed, IntKind.bits, if_true]; omega)
   | omega
   | (intro h; exact h)
   | (intro h; cases h; done)
   | exact .inl rfl
   | exact .inl True.intro
   | (simp; done)
 ·rcases List.mem_cons.1 hq with rfl | hq
  ·rfl
  ·rcases List.mem_cons.1 hq with rfl | hq
   ·rfl
   ·rcases List.mem_cons.1 hq with rfl | hq
    ·rfl
    ·cases hq
 ·rw [Bool.or_eq_true] at hm
  rcases hm with hm | hm
  ·exact .inl hm
  ·have := Nm.beq_iff.1 hm
   subst this
   exact .inr ⟨_, List.mem_cons_of_mem _ (List.mem_cons_of_mem _ (List.mem_cons_self ..))⟩
/-- Who signed. -/
theorem T_no0 (s : Nat → SSign) : T Try.prog 28 [sg 0 s] [] .snil [] := by
 have hR : R Try.prog none 0 ndC ⟨ndT, ndH 0 s, 3, []⟩ .normal ⟨ndT, ndH 0 s ++ [(.o 3, .dfr)], 500, [.o 3]⟩ := by
  rw [ndC_eq]
  refine R_range NG (st := ⟨ndT, ndH 0 s, 3, []⟩) (k := 63) (caps := [.ptr (.o 2) 0 0 0 0]) (pre := ndH 0 s) (rest := []) (post := ndH 0 s) (val := .tup []) (s := .ready) (pe := none) (nx := 500) (Nat.zero_le _) (by kernel_rfl) (by kernel_rfl) (by simp) (fun fn => ?_) (by decide) (fun n hn => .inl hn) (by show 3 + 2 ≤ 500; decide) .on
  have hend : R Try.prog none 5 (cB (cB (cR (bodyOf Try.f63)))) (itI0 fn 0 s) (.exit 0) (itI0 fn 0 s) := by
   refine R_alongPc NG MO _ (pcE0_p0 fn 0 s) ?_ (by show 5 ≤ 6; decide)
   simp only [All]; and_intros
   all_goals first
    | exact True.intro
    | (with_reducible assumption)
    | (rw [decide_eq_true_eq]; omega)
    | (rw [decide_eq_false_iff_not]; omega)
    | with_reducible rfl
    | (intro _ _; exact True.intro)
    | (intro _ _; with_reducible rfl)
    | (intro _ _; rfl)
    | (simp only [IntKind.min, IntKind.max, IntKind.signed, IntKind.bits, if_true]; omega)
    | omega
    | (intro h; exact h)
    | (intro h; cases h; done)
    | exact .inl rfl
    | exact .inl True.intro
    | (simp; done)
  have hL := RLoop.inv (fun _ => itI0 fn 0 s) 0 (fun k hk => absurd hk (Nat.not_lt_zero _)) hend (by simp)
  refine T_al (bdIt0_p fn 0 s) Try.func63 ?_
  refine ⟨hL, ?_⟩
  simp only [All]; and_intros
  all_goals first
   | exact True.intro
   | (with_reducible assumption)
   | (rw [decide_eq_true_eq]; omega)
   | (rw [decide_eq_false_iff_not]; omega)
   | with_reducible rfl
   | (intro _ _; exact True.intro)
   | (intro _ _; with_reducible rfl)
   | (intro _ _; rfl)
   | (simp only [IntKind.min, IntKind.max, IntKind.signed, IntKind.bits, if_true]; omega)
   | omega
   | (intro h; exact h)
   | (intro h; cases h; done)
   | exact .inl rfl
   | exact .inl True.intro
   | (simp; done)
 refine T_al (bdN0_p 0 s) Try.func28 ?_
 refine ⟨T_ea 0 s 128, hR, ?_⟩
 simp only [All]; and_intros
 all_goals first
  | exact True.intro
  | (with_reducible assumption)
  | (rw [decide_eq_true_eq]; omega)
  | (rw [decide_eq_false_iff_not]; omega)
  | with_reducible rfl
  | (intro _ _; exact True.intro)
  | (intro _ _; with_reducible rfl)
  | (intro _ _; rfl)
  | (simp only [IntKind.min, IntKind.max, IntKind.signed, IntKind.bits, if_true]; omega)
  | omega
  | (intro h; exact h)
  | (intro h; cases h; done)
  | exact .inl rfl
  | exact .inl True.intro
  | (simp; done)
theorem T_no1 {n : Nat} (s : Nat → SSign) (h0 : 0 < n) (hn : n ≤ 1000000) : T Try.prog 28 [sg n s] [] (ls 5 (ndL s n)) [(.o 5, lb (ndL s n))] := by
 have hR : R Try.prog none 0 ndC ⟨ndT, ndH n s, 3, []⟩ .normal ⟨ndT, ndK n n s ++ [(.o 3, .dfr)], 500, [.o 3]⟩ := by
  rw [ndC_eq]
  refine R_range NG (st := ⟨ndT, ndH n s, 3, []⟩) (k := 63) (caps := [.ptr (.o 2) 0 0 0 0]) (pre := ndH n s) (rest := []) (post := ndK n n s) (val := .tup []) (s := .ready) (pe := none) (nx := 500) (Nat.zero_le _) (by kernel_rfl) (by kernel_rfl) (by simp) (fun fn => ?_) (by decide) (fun m hm => ?_) (by show 3 + 2 ≤ 500; decide) .on
  ·have hfirst : R Try.prog none 5 (cB (cB (cR (bodyOf Try.f63)))) (itI0 fn n s) .normal (itI fn n s 1) := by
    have hY := yn0 fn (s 0).node
    have e1 : ndL s 1 = [(s 0).node] := rfl
    refine R_alongPc NG MO _ (pcI0_p10 fn n s) ?_ (by show 5 ≤ 6; decide)
    simp only [All, e1]; and_intros
    all_goals first
     | exact hY
     | exact True.intro
     | (with_reducible assumption)
     | (rw [decide_eq_true_eq]; omega)
     | (rw [decide_eq_false_iff_not]; omega)
     | with_reducible rfl
     | (intro _ _; exact True.intro)
     | (intro _ _; with_reducible rfl)
     | (intro _ _; rfl)
     | (simp only [IntKind.min, IntKind.max, IntKind.signed, IntKind.bits, if_true]; omega)
     | omega
     | (intro h; exact h)
     | (intro h; cases h; done)
     | exact .inl rfl
     | exact .inl True.intro
     | (simp; done)
   have hstep : ∀ k, k + 1 < n → R Try.prog none 5 (cB (cB (cR (bodyOf Try.f63)))) (itI fn n s (k + 1)) .normal (itI fn n s (k + 1 + 1)) := by
    intro k hk
    have hY := yn1 fn (L := ndL s (k + 1)) (s (k + 1)).node (by rw [ndL_len]; omega)
    rw [← ndL_succ] at hY
    refine R_alongPc NG MO _ (pcI1_p10 fn n s (k + 1)) ?_ (by show 5 ≤ 6; decide)
    simp only [All, Int.toNat_natCast]; and_intros
    all_goals first
     | exact hY
     | exact True.intro
     | (with_reducible assumption)
     | (rw [decide_eq_true_eq]; omega)
     | (rw [decide_eq_false_iff_not]; omega)
     | with_reducible rfl
     | (intro _ _; exact True.intro)
     | (intro _ _; with_reducible rfl)
     | (intro _ _; rfl)
     | (simp only [IntKind.min, IntKind.max, IntKind.signed, IntKind.bits, if_true]; omega)
     | omega
     | (intro h; exact h)
     | (intro h; cases h; done)
     | exact .inl rfl
     | exact .inl True.intro
     | (simp; done)
   have hend : R Try.prog none 5 (cB (cB (cR (bodyOf Try.f63)))) (itI fn n s n) (.exit 0) (itI fn n s n) := by
    refine R_alongPc NG MO _ (pcE1_p0 fn n s) ?_ (by show 5 ≤ 6; decide)
    simp only [All]; and_intros
    all_goals first
     | exact True.intro
     | (with_reducible assumption)
     | (rw [decide_eq_true_eq]; omega)
     | (rw [decide_eq_false_iff_not]; omega)
     | with_reducible rfl
     | (intro _ _; exact True.intro)
     | (intro _ _; with_reducible rfl)
     | (intro _ _; rfl)
     | (simp only [IntKind.min, IntKind.max, IntKind.signed, IntKind.bits, if_true]; omega)
     | omega
     | (intro h; exact h)
     | (intro h; cases h; done)
     | exact .inl rfl
     | exact .inl True.intro
     | (simp; done)
   obtain ⟨m, rfl⟩ : ∃ m, n = m + 1 := ⟨n - 1, by omega⟩
   have hL := RLoop.step hfirst (RLoop.inv (fun k => itI fn (m + 1) s (k + 1)) m (fun k hk => hstep k (by omega)) hend (by simp))
   refine T_al (bdIt1_p fn (m + 1) s) Try.func63 ?_
   refine ⟨hL, ?_⟩
   simp only [All]; and_intros
   all_goals first
    | exact True.intro
    | (with_reducible assumption)
    | (rw [decide_eq_true_eq]; omega)
    | (rw [decide_eq_false_iff_not]; omega)
    | with_reducible rfl
    | (intro _ _; exact True.intro)
    | (intro _ _; with_reducible rfl)
    | (intro _ _; rfl)
    | (simp only [IntKind.min, IntKind.max, IntKind.signed, IntKind.bits, if_true]; omega)
    | omega
    | (intro h; exact h)
    | (intro h; cases h; done)
    | exact .inl rfl
    | exact .inl True.intro
    | (simp; done)
  ·obtain ⟨b, hb⟩ := hm
   simp only [ndK, List.mem_cons, Prod.mk.injEq, List.not_mem_nil, or_false] at hb
   rcases hb with ⟨rfl, _⟩ | ⟨rfl, _⟩ | ⟨rfl, _⟩
   ·exact .inl ⟨_, by simp [ndH]; rfl⟩
   ·exact .inr ⟨5, rfl, by show 3 + 2 ≤ 5; decide, by decide⟩
   ·exact .inl ⟨_, by simp [ndH]; rfl⟩
 refine T_al (bdNd_p n s) Try.func28 ?_
 refine ⟨T_ea n s 128, hR, ?_⟩
 simp only [All]; and_intros
 all_goals first
  | exact True.intro
  | (with_reducible assumption)
  | (rw [decide_eq_true_eq]; omega)
  | (rw [decide_eq_false_iff_not]; omega)
  | with_reducible rfl
  | (intro _ _; exact True.intro)
  | (intro _ _; with_reducible rfl)
  | (intro _ _; rfl)
  | (simp only [IntKind.min, IntKind.max, IntKind.signed, IntKind.bits, if_true]; omega)
  | omega
  | (intro h; exact h)
  | (intro h; cases h; done)
  | exact .inl rfl
  | exact .inl True.intro
  | (simp; done)
end Go.Proofs.Ytpallipnhmoipaa
namespace Go.Proofs.Ytpallipnhmoipaa
open Go Sy Go.Proofs
def padS (s : Nat → SSign) (n : Nat) : Nat → SSign := fun q => if q < n then s q else zS
def adDb (N : Nat) (S : Nat → SSign) : List V → Heap → Nat → List Cl := fun a _ lo => match a with
 | [.sl b _ _ _ _ _ _, _] => [{ rd := [b], val := sgs lo N, post := [(.o lo, sgB N S)] }]
 | _ => [{ val := sgs lo N, post := [(.o lo, sgB N S)] }]
def saDb : List V → Heap → Nat → List Cl := fun a _ _ => match a with
 | [.sl b _ _ _ _ _ _, .sl c _ _ _ _ _ _] => [{ rd := [b, c], val := .bool true }]
 | [.sl b _ _ _ _ _ _, _] => [{ rd := [b], val := .bool true }]
 | _ => []
def apPr : Prim → List V → Heap → Nat → List Cl := fun pr vs h _ => match pr with
 | .append _ _ => match vs with
  | [.sl a _ _ _ _ k (some c), .ros _ m g _] => match pull a h with
   | some (.rows es N f gr, _) => [{ pre := [a], val := .sl a es 0 0 0 (k + m) (some c), post := [(a, .rows es N (setF f k m g) gr)] }]
   | _ => []
  | _ => []
 | _ => []
def qaM (n : Nat) (s : Nat → SSign) (x : SSign) : St := ⟨mkT 82 [(0, sg n s), (3, .ptr (.o 0) 0 0 0 0), (5, .sl (.o 1) 17 0 0 0 n (some (n + 5)))], hpA x ++ [(.o 1, sgB (n + 5) (padS s n))], 2, []⟩
def qaI (n : Nat) (s : Nat → SSign) (k : Nat) : St := ⟨mkT 82 [(0, sg n s), (7, ls 0 (ndL s n)), (66, .int .i64 n), (67, .int .i64 k)], [(.o 0, lb (ndL s n))], 1, []⟩
def qaZ (n : Nat) (s : Nat → SSign) : St := ⟨mkT 82 [(0, sg n s), (66, .int .i64 n), (67, .int .i64 0)], [], 1, []⟩
noncomputable def bdQ (n : Nat) (s : Nat → SSign) (x : SSign) (N : Nat) (S : Nat → SSign) (nd : List V → Heap → Nat → List Cl) (lp : St → List (Prop × Hint)) : Bd := { f := Try.f6, args := [sg n s, .agg x.c], kb := { db := dbQ [(20, cVal (.bool true)), (25, adDb N S), (27, adDb N S), (26, saDb), (28, nd)], pr := apPr, lp := fun _ t => lp t, fx := fun id t => bif Nat.beq id 4 then [.wk (wToS [(.o 0, nmV (getV t.tmps 3)), (.o 1, nmV (getV t.tmps 5))] (qaM n s x))] else [] } }
noncomputable def bdQA (n : Nat) (s : Nat → SSign) (x : SSign) (N : Nat) (S : Nat → SSign) : Bd := bdQ n s x N S (fun _ _ lo => [{ val := ls lo (ndL s n), post := [(.o lo, lb (ndL s n))] }]) (fun t => [(True, .loop (n + 1) (wToS [(.o 0, nmV (getV t.tmps 7))] (qaI n s 0)) (.exit 0) (qaI n s n))])
noncomputable def bdQ0 (n : Nat) (s : Nat → SSign) (x : SSign) (N : Nat) (S : Nat → SSign) : Bd := bdQ n s x N S (fun _ _ _ => [{ val := .snil }]) (fun _ => [(True, .loop 1 (wTo (qaZ n s)) (.exit 0) (qaZ n s))])
noncomputable def pcQa (n : Nat) (s : Nat → SSign) (k : Nat) : Pc := { c := (cB (cB (cR (cL (cR (cR (cR (cR (cR (cR (cR (bodyOf Try.f6)))))))))))), st := qaI n s k, kb := kb0, k := fun e_ _ => match e_ with
 | .normal => some (wTo (qaI n s (k + 1)))
 | _ => some (wTo (qaI n s n)) }
noncomputable def pcQz (n : Nat) (s : Nat → SSign) : Pc := { c := (cB (cB (cR (cL (cR (cR (cR (cR (cR (cR (cR (bodyOf Try.f6)))))))))))), st := qaZ n s, kb := kb0, k := fun _ _ => some (wTo (qaZ n s)) }
end Go.Proofs.Ytpallipnhmoipaa
namespace Go.Proofs.Ytpallipnhmoipaa
open Go Sy Go.Proofs
theorem bdQA_p1 (n : Nat) (s : Nat → SSign) (x : SSign) (N : Nat) (S : Nat → SSign) :
  along Try.prog (bdQA n s x N S) [true] = (some (.bool true, [], [decide ((500 : Int) < (↑n : Int)) = true, T Try.prog 20 [] [] (.bool true) []]) : Option (V × Heap × List Prop)) := by kernel_rfl

theorem bdQA_p000100 (n : Nat) (s : Nat → SSign) (x : SSign) (N : Nat) (S : Nat → SSign) :
  along Try.prog (bdQA n s x N S) [false, false, false, true, false, false] = some (V.bool true, [], [decide ((500 : Int) < (↑n : Int)) = false, InR IntKind.i64 ((↑n : Int) + (5 : Int)), (0 : Int) ≤ (0 : Int) ∧ (0 : Int) ≤ (↑n : Int) + (5 : Int), (24 : Int) * ((↑n : Int) + (5 : Int)) ≤ (281474976710656 : Int), (↑n : Int) + (5 : Int) ≤ (281474976710656 : Int), TO Try.prog (Prim.append (33 : Nat) (33 : Nat)) [V.sl (Nm.o (nat_lit 512)) (17 : Nat) (0 : Nat) (0 : Nat) (0 : Nat) (nat_lit 0) (some (Int.toNat ((↑n : Int) + (5 : Int)))), V.ros (17 : Nat) n (fun i => SSign.c (s i)) false] [(Nm.o (nat_lit 512), B.rows (17 : Nat) (Int.toNat ((↑n : Int) + (5 : Int))) (fun x => [V.int IntKind.i64 (0 : Int), V.seg IntKind.u8 (16 : Nat) [(0 : Int), (0 : Int), (0 : Int), (0 : Int), (0 : Int), (0 : Int), (0 : Int), (0 : Int), (0 : Int), (0 : Int), (0 : Int), (0 : Int), (0 : Int), (0 : Int), (0 : Int), (0 : Int)]]) false)] (V.sl (Nm.o (nat_lit 512)) (17 : Nat) (0 : Nat) (0 : Nat) (0 : Nat) (nat_lit 0 + n) (some (Int.toNat ((↑n : Int) + (5 : Int))))) [(Nm.o (nat_lit 512), B.rows (17 : Nat) (Int.toNat ((↑n : Int) + (5 : Int))) (setF (fun x => [V.int IntKind.i64 (0 : Int), V.seg IntKind.u8 (16 : Nat) [(0 : Int), (0 : Int), (0 : Int), (0 : Int), (0 : Int), (0 : Int), (0 : Int), (0 : Int), (0 : Int), (0 : Int), (0 : Int), (0 : Int), (0 : Int), (0 : Int), (0 : Int), (0 : Int)]]) (nat_lit 0) n fun i => SSign.c (s i)) false)], SSign.node x = SSign.node x, (16 : Nat) = (16 : Nat), SSign.tag x = SSign.tag x, Int.toNat ((↑n : Int) + (5 : Int)) = n + (5 : Nat), ∀ (k : Nat), k < Int.toNat ((↑n : Int) + (5 : Int)) → setF (fun x => [V.int IntKind.i64 (0 : Int), V.seg IntKind.u8 (16 : Nat) [(0 : Int), (0 : Int), (0 : Int), (0 : Int), (0 : Int), (0 : Int), (0 : Int), (0 : Int), (0 : Int), (0 : Int), (0 : Int), (0 : Int), (0 : Int), (0 : Int), (0 : Int), (0 : Int)]]) (nat_lit 0) n (fun i => SSign.c (s i)) k = [V.int IntKind.i64 (SSign.node (padS s n k)), V.seg IntKind.u8 (16 : Nat) (SSign.tag (padS s n k))], true = false → false = false, n = n, ∀ (k : Nat), k < n → SSign.c (s k) = SSign.c (s k), false = true → false = true, (0 : Nat) = (0 : Nat), (0 : Nat) = (0 : Nat), (0 : Nat) = (0 : Nat), (0 : Nat) = (0 : Nat), (0 : Nat) = (0 : Nat), (0 : Nat) = (0 : Nat), nat_lit 0 + n = n, some (n + (5 : Nat)) = none ∨ some (n + (5 : Nat)) = some (Int.toNat ((↑n : Int) + (5 : Int))), T Try.prog (25 : Nat) [V.sl (Nm.o (1 : Nat)) (17 : Nat) (0 : Nat) (0 : Nat) (0 : Nat) n (some (n + (5 : Nat))), V.agg [V.int IntKind.i64 (SSign.node x), V.seg IntKind.u8 (16 : Nat) (SSign.tag x)]] [(Nm.o (1 : Nat), B.rows (17 : Nat) (n + (5 : Nat)) (gn (padS s n)) true)] (V.sl (Nm.o (nat_lit 130)) (17 : Nat) (0 : Nat) (0 : Nat) (0 : Nat) N none) [(Nm.o (nat_lit 130), B.rows (17 : Nat) N (gn S) true), (Nm.o (1 : Nat), B.rows (17 : Nat) (n + (5 : Nat)) (gn (padS s n)) true)], T Try.prog (27 : Nat) [V.ros (17 : Nat) n (fun i => SSign.c (s i)) false, V.agg [V.int IntKind.i64 (SSign.node x), V.seg IntKind.u8 (16 : Nat) (SSign.tag x)]] [] (V.sl (Nm.o (nat_lit 450)) (17 : Nat) (0 : Nat) (0 : Nat) (0 : Nat) N none) [(Nm.o (nat_lit 450), B.rows (17 : Nat) N (gn S) true)], T Try.prog (26 : Nat) [V.sl (Nm.o (nat_lit 130)) (17 : Nat) (0 : Nat) (0 : Nat) (0 : Nat) N none, V.sl (Nm.o (nat_lit 450)) (17 : Nat) (0 : Nat) (0 : Nat) (0 : Nat) N none] [(Nm.o (nat_lit 130), B.rows (17 : Nat) N (gn S) true), (Nm.o (nat_lit 450), B.rows (17 : Nat) N (gn S) true)] (V.bool true) [(Nm.o (nat_lit 130), B.rows (17 : Nat) N (gn S) true), (Nm.o (nat_lit 450), B.rows (17 : Nat) N (gn S) true)], false = false, T Try.prog (26 : Nat) [V.sl (Nm.o (1 : Nat)) (17 : Nat) (0 : Nat) (0 : Nat) (0 : Nat) n (some (n + (5 : Nat))), V.ros (17 : Nat) n (fun i => SSign.c (s i)) false] [(Nm.o (1 : Nat), B.rows (17 : Nat) (n + (5 : Nat)) (gn (padS s n)) true)] (V.bool true) [(Nm.o (1 : Nat), B.rows (17 : Nat) (n + (5 : Nat)) (gn (padS s n)) true)], false = false, InR IntKind.i64 ((↑n : Int) + (1 : Int)), (0 : Int) ≤ (↑n : Int) + (1 : Int) ∧ (↑n : Int) + (1 : Int) ≤ (↑(natO none (n + (5 : Nat))) : Int), decide ((↑n : Int) < (↑(natO (some ((↑n : Int) + (1 : Int))) n - nat_lit 0) : Int)) = true, InR IntKind.i64 ((↑n : Int) + (1 : Int)), (0 : Int) ≤ (↑n : Int) + (1 : Int) ∧ (↑n : Int) + (1 : Int) ≤ (↑(natO none (n + (5 : Nat))) : Int), (0 : Int) ≤ (↑n : Int) ∧ (↑n : Int) < (↑(natO (some ((↑n : Int) + (1 : Int))) n - nat_lit 0) : Int), nat_lit 0 + Int.toNat (↑n : Int) < n + (5 : Nat), (!(decide (SSign.node (padS s n (nat_lit 0 + Int.toNat (↑n : Int))) = (0 : Int)) && (decide (SSign.tag (padS s n (nat_lit 0 + Int.toNat (↑n : Int))) = [(0 : Int), (0 : Int), (0 : Int), (0 : Int), (0 : Int), (0 : Int), (0 : Int), (0 : Int), (0 : Int), (0 : Int), (0 : Int), (0 : Int), (0 : Int), (0 : Int), (0 : Int), (0 : Int)]) && true))) = false, T Try.prog (28 : Nat) [V.ros (17 : Nat) n (fun i => SSign.c (s i)) false] [] (V.sl (Nm.o (nat_lit 2626)) (1 : Nat) (0 : Nat) (0 : Nat) (0 : Nat) (List.length (ndL s n)) none) [(Nm.o (nat_lit 2626), B.rows (1 : Nat) (List.length (ndL s n)) (li (ndL s n)) true)], (!decide ((↑(List.length (ndL s n)) : Int) = (↑n : Int))) = false, RLoop Try.prog none (0 : Nat) (cB (cB (cR (cL (cR (cR (cR (cR (cR (cR (cR (bodyOf (Bd.f (bdQA n s x N S)))))))))))))) (n + (1 : Nat)) (St.mk [V.ros (17 : Nat) n (fun i => SSign.c (s i)) false, V.any, V.any, V.any, V.any, V.any, V.any, V.sl (Nm.o (0 : Nat)) (1 : Nat) (0 : Nat) (0 : Nat) (0 : Nat) (List.length (ndL s n)) none, V.any, V.any, V.any, V.any, V.any, V.any, V.any, V.any, V.any, V.any, V.any, V.any, V.any, V.any, V.any, V.any, V.any, V.any, V.any, V.any, V.any, V.any, V.any, V.any, V.any, V.any, V.any, V.any, V.any, V.any, V.any, V.any, V.any, V.any, V.any, V.any, V.any, V.any, V.any, V.any, V.any, V.any, V.any, V.any, V.any, V.any, V.any, V.any, V.any, V.any, V.any, V.any, V.any, V.any, V.any, V.any, V.any, V.any, V.int IntKind.i64 (↑n : Int), V.int IntKind.i64 (0 : Int), V.any, V.any, V.any, V.any, V.any, V.any, V.any, V.any, V.any, V.any, V.any, V.any, V.any, V.any] [(Nm.o (0 : Nat), B.rows (1 : Nat) (List.length (ndL s n)) (li (ndL s n)) true)] (1 : Nat) []) (Exit.exit (0 : Nat)) (St.mk [V.ros (17 : Nat) n (fun i => SSign.c (s i)) false, V.any, V.any, V.any, V.any, V.any, V.any, V.sl (Nm.o (0 : Nat)) (1 : Nat) (0 : Nat) (0 : Nat) (0 : Nat) (List.length (ndL s n)) none, V.any, V.any, V.any, V.any, V.any, V.any, V.any, V.any, V.any, V.any, V.any, V.any, V.any, V.any, V.any, V.any, V.any, V.any, V.any, V.any, V.any, V.any, V.any, V.any, V.any, V.any, V.any, V.any, V.any, V.any, V.any, V.any, V.any, V.any, V.any, V.any, V.any, V.any, V.any, V.any, V.any, V.any, V.any, V.any, V.any, V.any, V.any, V.any, V.any, V.any, V.any, V.any, V.any, V.any, V.any, V.any, V.any, V.any, V.int IntKind.i64 (↑n : Int), V.int IntKind.i64 (↑n : Int), V.any, V.any, V.any, V.any, V.any, V.any, V.any, V.any, V.any, V.any, V.any, V.any, V.any, V.any] [(Nm.o (0 : Nat), B.rows (1 : Nat) (List.length (ndL s n)) (li (ndL s n)) true)] (1 : Nat) []), List.length (ndL s n) = List.length (ndL s n), ∀ (k : Nat), k < List.length (ndL s n) → [V.int IntKind.i64 (List.getD (ndL s n) k (0 : Int))] = [V.int IntKind.i64 (List.getD (ndL s n) k (0 : Int))], true = false → true = false, n = n, ∀ (k : Nat), k < n → SSign.c (s k) = SSign.c (s k), false = true → false = true, (0 : Nat) = (0 : Nat), (0 : Nat) = (0 : Nat), (0 : Nat) = (0 : Nat), List.length (ndL s n) = List.length (ndL s n), (none : Option Nat) = none ∨ (none : Option Nat) = none, (↑n : Int) = (↑n : Int), (0 : Int) = (0 : Int), T Try.prog (20 : Nat) [] [] (V.bool true) []]) := by kernel_rfl

theorem bdQ0_p000100 (n : Nat) (s : Nat → SSign) (x : SSign) (N : Nat) (S : Nat → SSign) :
  along Try.prog (bdQ0 n s x N S) [false, false, false, true, false, false] = some (V.bool true, [], [decide ((500 : Int) < (↑n : Int)) = false, InR IntKind.i64 ((↑n : Int) + (5 : Int)), (0 : Int) ≤ (0 : Int) ∧ (0 : Int) ≤ (↑n : Int) + (5 : Int), (24 : Int) * ((↑n : Int) + (5 : Int)) ≤ (281474976710656 : Int), (↑n : Int) + (5 : Int) ≤ (281474976710656 : Int), TO Try.prog (Prim.append (33 : Nat) (33 : Nat)) [V.sl (Nm.o (nat_lit 512)) (17 : Nat) (0 : Nat) (0 : Nat) (0 : Nat) (nat_lit 0) (some (Int.toNat ((↑n : Int) + (5 : Int)))), V.ros (17 : Nat) n (fun i => SSign.c (s i)) false] [(Nm.o (nat_lit 512), B.rows (17 : Nat) (Int.toNat ((↑n : Int) + (5 : Int))) (fun x => [V.int IntKind.i64 (0 : Int), V.seg IntKind.u8 (16 : Nat) [(0 : Int), (0 : Int), (0 : Int), (0 : Int), (0 : Int), (0 : Int), (0 : Int), (0 : Int), (0 : Int), (0 : Int), (0 : Int), (0 : Int), (0 : Int), (0 : Int), (0 : Int), (0 : Int)]]) false)] (V.sl (Nm.o (nat_lit 512)) (17 : Nat) (0 : Nat) (0 : Nat) (0 : Nat) (nat_lit 0 + n) (some (Int.toNat ((↑n : Int) + (5 : Int))))) [(Nm.o (nat_lit 512), B.rows (17 : Nat) (Int.toNat ((↑n : Int) + (5 : Int))) (setF (fun x => [V.int IntKind.i64 (0 : Int), V.seg IntKind.u8 (16 : Nat) [(0 : Int), (0 : Int), (0 : Int), (0 : Int), (0 : Int), (0 : Int), (0 : Int), (0 : Int), (0 : Int), (0 : Int), (0 : Int), (0 : Int), (0 : Int), (0 : Int), (0 : Int), (0 : Int)]]) (nat_lit 0) n fun i => SSign.c (s i)) false)], SSign.node x = SSign.node x, (16 : Nat) = (16 : Nat), SSign.tag x = SSign.tag x, Int.toNat ((↑n : Int) + (5 : Int)) = n + (5 : Nat), ∀ (k : Nat), k < Int.toNat ((↑n : Int) + (5 : Int)) → setF (fun x => [V.int IntKind.i64 (0 : Int), V.seg IntKind.u8 (16 : Nat) [(0 : Int), (0 : Int), (0 : Int), (0 : Int), (0 : Int), (0 : Int), (0 : Int), (0 : Int), (0 : Int), (0 : Int), (0 : Int), (0 : Int), (0 : Int), (0 : Int), (0 : Int), (0 : Int)]]) (nat_lit 0) n (fun i => SSign.c (s i)) k = [V.int IntKind.i64 (SSign.node (padS s n k)), V.seg IntKind.u8 (16 : Nat) (SSign.tag (padS s n k))], true = false → false = false, n = n, ∀ (k : Nat), k < n → SSign.c (s k) = SSign.c (s k), false = true → false = true, (0 : Nat) = (0 : Nat), (0 : Nat) = (0 : Nat), (0 : Nat) = (0 : Nat), (0 : Nat) = (0 : Nat), (0 : Nat) = (0 : Nat), (0 : Nat) = (0 : Nat), nat_lit 0 + n = n, some (n + (5 : Nat)) = none ∨ some (n + (5 : Nat)) = some (Int.toNat ((↑n : Int) + (5 : Int))), T Try.prog (25 : Nat) [V.sl (Nm.o (1 : Nat)) (17 : Nat) (0 : Nat) (0 : Nat) (0 : Nat) n (some (n + (5 : Nat))), V.agg [V.int IntKind.i64 (SSign.node x), V.seg IntKind.u8 (16 : Nat) (SSign.tag x)]] [(Nm.o (1 : Nat), B.rows (17 : Nat) (n + (5 : Nat)) (gn (padS s n)) true)] (V.sl (Nm.o (nat_lit 130)) (17 : Nat) (0 : Nat) (0 : Nat) (0 : Nat) N none) [(Nm.o (nat_lit 130), B.rows (17 : Nat) N (gn S) true), (Nm.o (1 : Nat), B.rows (17 : Nat) (n + (5 : Nat)) (gn (padS s n)) true)], T Try.prog (27 : Nat) [V.ros (17 : Nat) n (fun i => SSign.c (s i)) false, V.agg [V.int IntKind.i64 (SSign.node x), V.seg IntKind.u8 (16 : Nat) (SSign.tag x)]] [] (V.sl (Nm.o (nat_lit 450)) (17 : Nat) (0 : Nat) (0 : Nat) (0 : Nat) N none) [(Nm.o (nat_lit 450), B.rows (17 : Nat) N (gn S) true)], T Try.prog (26 : Nat) [V.sl (Nm.o (nat_lit 130)) (17 : Nat) (0 : Nat) (0 : Nat) (0 : Nat) N none, V.sl (Nm.o (nat_lit 450)) (17 : Nat) (0 : Nat) (0 : Nat) (0 : Nat) N none] [(Nm.o (nat_lit 130), B.rows (17 : Nat) N (gn S) true), (Nm.o (nat_lit 450), B.rows (17 : Nat) N (gn S) true)] (V.bool true) [(Nm.o (nat_lit 130), B.rows (17 : Nat) N (gn S) true), (Nm.o (nat_lit 450), B.rows (17 : Nat) N (gn S) true)], false = false, T Try.prog (26 : Nat) [V.sl (Nm.o (1 : Nat)) (17 : Nat) (0 : Nat) (0 : Nat) (0 : Nat) n (some (n + (5 : Nat))), V.ros (17 : Nat) n (fun i => SSign.c (s i)) false] [(Nm.o (1 : Nat), B.rows (17 : Nat) (n + (5 : Nat)) (gn (padS s n)) true)] (V.bool true) [(Nm.o (1 : Nat), B.rows (17 : Nat) (n + (5 : Nat)) (gn (padS s n)) true)], false = false, InR IntKind.i64 ((↑n : Int) + (1 : Int)), (0 : Int) ≤ (↑n : Int) + (1 : Int) ∧ (↑n : Int) + (1 : Int) ≤ (↑(natO none (n + (5 : Nat))) : Int), decide ((↑n : Int) < (↑(natO (some ((↑n : Int) + (1 : Int))) n - nat_lit 0) : Int)) = true, InR IntKind.i64 ((↑n : Int) + (1 : Int)), (0 : Int) ≤ (↑n : Int) + (1 : Int) ∧ (↑n : Int) + (1 : Int) ≤ (↑(natO none (n + (5 : Nat))) : Int), (0 : Int) ≤ (↑n : Int) ∧ (↑n : Int) < (↑(natO (some ((↑n : Int) + (1 : Int))) n - nat_lit 0) : Int), nat_lit 0 + Int.toNat (↑n : Int) < n + (5 : Nat), (!(decide (SSign.node (padS s n (nat_lit 0 + Int.toNat (↑n : Int))) = (0 : Int)) && (decide (SSign.tag (padS s n (nat_lit 0 + Int.toNat (↑n : Int))) = [(0 : Int), (0 : Int), (0 : Int), (0 : Int), (0 : Int), (0 : Int), (0 : Int), (0 : Int), (0 : Int), (0 : Int), (0 : Int), (0 : Int), (0 : Int), (0 : Int), (0 : Int), (0 : Int)]) && true))) = false, T Try.prog (28 : Nat) [V.ros (17 : Nat) n (fun i => SSign.c (s i)) false] [] V.snil [], (!decide ((0 : Int) = (↑n : Int))) = false, RLoop Try.prog none (0 : Nat) (cB (cB (cR (cL (cR (cR (cR (cR (cR (cR (cR (bodyOf (Bd.f (bdQ0 n s x N S)))))))))))))) (1 : Nat) (St.mk [V.ros (17 : Nat) n (fun i => SSign.c (s i)) false, V.any, V.any, V.any, V.any, V.any, V.any, V.any, V.any, V.any, V.any, V.any, V.any, V.any, V.any, V.any, V.any, V.any, V.any, V.any, V.any, V.any, V.any, V.any, V.any, V.any, V.any, V.any, V.any, V.any, V.any, V.any, V.any, V.any, V.any, V.any, V.any, V.any, V.any, V.any, V.any, V.any, V.any, V.any, V.any, V.any, V.any, V.any, V.any, V.any, V.any, V.any, V.any, V.any, V.any, V.any, V.any, V.any, V.any, V.any, V.any, V.any, V.any, V.any, V.any, V.any, V.int IntKind.i64 (↑n : Int), V.int IntKind.i64 (0 : Int), V.any, V.any, V.any, V.any, V.any, V.any, V.any, V.any, V.any, V.any, V.any, V.any, V.any, V.any] [] (1 : Nat) []) (Exit.exit (0 : Nat)) (St.mk [V.ros (17 : Nat) n (fun i => SSign.c (s i)) false, V.any, V.any, V.any, V.any, V.any, V.any, V.any, V.any, V.any, V.any, V.any, V.any, V.any, V.any, V.any, V.any, V.any, V.any, V.any, V.any, V.any, V.any, V.any, V.any, V.any, V.any, V.any, V.any, V.any, V.any, V.any, V.any, V.any, V.any, V.any, V.any, V.any, V.any, V.any, V.any, V.any, V.any, V.any, V.any, V.any, V.any, V.any, V.any, V.any, V.any, V.any, V.any, V.any, V.any, V.any, V.any, V.any, V.any, V.any, V.any, V.any, V.any, V.any, V.any, V.any, V.int IntKind.i64 (↑n : Int), V.int IntKind.i64 (0 : Int), V.any, V.any, V.any, V.any, V.any, V.any, V.any, V.any, V.any, V.any, V.any, V.any, V.any, V.any] [] (1 : Nat) []), n = n, ∀ (k : Nat), k < n → SSign.c (s k) = SSign.c (s k), false = true → false = true, (↑n : Int) = (↑n : Int), (0 : Int) = (0 : Int), T Try.prog (20 : Nat) [] [] (V.bool true) []]) := by kernel_rfl

theorem pcQa_p10 (n : Nat) (s : Nat → SSign) (k : Nat) :
  alongPc Try.prog (pcQa n s k) [true, false] = (some (.normal, St.mk [.ros 17 n (fun i => SSign.c (s i)) false, .any, .any, .any, .any, .any, .any, .sl (.o 0) 1 0 0 0 (List.length (ndL s n)) none, .any, .any, .any, .any, .any, .any, .any, .any, .any, .any, .any, .any, .any, .any, .any, .any, .any, .any, .any, .any, .any, .any, .any, .any, .any, .any, .any, .any, .any, .any, .any, .any, .any, .any, .any, .any, .any, .any, .any, .any, .any, .any, .any, .any, .any, .any, .any, .any, .any, .any, .any, .any, .any, .any, .any, .any, .any, .any, .int .i64 ↑n, .int .i64 (↑(k + 1) : Int), .any, .any, .any, .any, .any, .any, .any, .any, .any, .any, .any, .any, .any, .any] [(.o 0, .rows 1 (List.length (ndL s n)) (li (ndL s n)) true)] 1 [], [decide ((↑k : Int) < (↑n : Int)) = true, (0 : Int) ≤ (↑k : Int) ∧ (↑k : Int) < (↑(List.length (ndL s n)) : Int), (0 : Nat) + Int.toNat (↑k : Int) < List.length (ndL s n), (0 : Int) ≤ (↑k : Int) ∧ (↑k : Int) < (↑n : Int), (!decide (List.getD (ndL s n) ((0 : Nat) + Int.toNat (↑k : Int)) (0 : Int) = SSign.node (s (Int.toNat (↑k : Int))))) = false, InR IntKind.i64 ((↑k : Int) + (1 : Int)), q (List.length (ndL s n)), ∀ (k : Nat), k < List.length (ndL s n) → [V.int IntKind.i64 (List.getD (ndL s n) k (0 : Int))] = [V.int IntKind.i64 (List.getD (ndL s n) k (0 : Int))], true = false → true = false, q n, ∀ (k : Nat), k < n → SSign.c (s k) = SSign.c (s k), false = true → false = true, q0, q0, q0, q (List.length (ndL s n)), (none : Option Nat) = none ∨ (none : Option Nat) = none, q (↑n : Int), (↑k : Int) + (1 : Int) = (↑(k + (1 : Nat)) : Int)]) : Option (Exit × St × List Prop)) := by kernel_rfl
theorem pcQa_p0 (n : Nat) (s : Nat → SSign) (k : Nat) :
  alongPc Try.prog (pcQa n s k) [false] = (some (.exit 0, St.mk [.ros 17 n (fun i => SSign.c (s i)) false, .any, .any, .any, .any, .any, .any, .sl (.o 0) 1 0 0 0 (List.length (ndL s n)) none, .any, .any, .any, .any, .any, .any, .any, .any, .any, .any, .any, .any, .any, .any, .any, .any, .any, .any, .any, .any, .any, .any, .any, .any, .any, .any, .any, .any, .any, .any, .any, .any, .any, .any, .any, .any, .any, .any, .any, .any, .any, .any, .any, .any, .any, .any, .any, .any, .any, .any, .any, .any, .any, .any, .any, .any, .any, .any, .int .i64 ↑n, .int .i64 ↑n, .any, .any, .any, .any, .any, .any, .any, .any, .any, .any, .any, .any, .any, .any] [(.o 0, .rows 1 (List.length (ndL s n)) (li (ndL s n)) true)] 1 [], [decide ((↑k : Int) < (↑n : Int)) = false, q (List.length (ndL s n)), ∀ (k : Nat), k < List.length (ndL s n) → [V.int IntKind.i64 (List.getD (ndL s n) k (0 : Int))] = [V.int IntKind.i64 (List.getD (ndL s n) k (0 : Int))], true = false → true = false, q n, ∀ (k : Nat), k < n → SSign.c (s k) = SSign.c (s k), false = true → false = true, q0, q0, q0, q (List.length (ndL s n)), (none : Option Nat) = none ∨ (none : Option Nat) = none, q (↑n : Int), (↑k : Int) = (↑n : Int)]) : Option (Exit × St × List Prop)) := by kernel_rfl

theorem pcQz_p0 (n : Nat) (s : Nat → SSign) :
  alongPc Try.prog (pcQz n s) [false] = (some (.exit 0, St.mk [.ros 17 n (fun i => SSign.c (s i)) false, .any, .any, .any, .any, .any, .any, .any, .any, .any, .any, .any, .any, .any, .any, .any, .any, .any, .any, .any, .any, .any, .any, .any, .any, .any, .any, .any, .any, .any, .any, .any, .any, .any, .any, .any, .any, .any, .any, .any, .any, .any, .any, .any, .any, .any, .any, .any, .any, .any, .any, .any, .any, .any, .any, .any, .any, .any, .any, .any, .any, .any, .any, .any, .any, .any, .int .i64 ↑n, .int .i64 0, .any, .any, .any, .any, .any, .any, .any, .any, .any, .any, .any, .any, .any, .any] [] 1 [], [decide ((0 : Int) < (↑n : Int)) = false, q n, ∀ (k : Nat), k < n → SSign.c (s k) = SSign.c (s k), false = true → false = true, q (↑n : Int), q1]) : Option (Exit × St × List Prop)) := by kernel_rfl

theorem FreeB.signs {n : Nat} {s : Nat → SSign} {g : Bool} : FreeB (.rows 17 n (gn s) g) := fun U U' ρ sz o h => by
 obtain ⟨c, el, lo, hi, h1, h2, h3, h4, h5, h6⟩ := h
 refine ⟨c, el, lo, hi, h1, h2, h3, h4, h5, fun i hi' => ?_⟩
 obtain ⟨r, h7, h8, h9⟩ := h6 i hi'
 refine ⟨r, ?_, h8, h9⟩
 obtain ⟨x, t, rfl, hx, ht⟩ := (CsRel_one rfl).1 h7
 refine (CsRel_one rfl).2 ⟨x, t, rfl, FreeV.int _ _ _ _ _ _ hx, ?_⟩
 obtain ⟨hm, r', e1, h10⟩ := CsRel_seg.1 ht
 refine CsRel_seg.2 ⟨hm, r', e1, ?_⟩
 rw [CsRel] at h10 ⊢; exact h10
theorem T_adA {n : Nat} (s : Nat → SSign) (x : SSign) (hn : n ≤ 1000000) (a : Nat) : T Try.prog 25 [sg n s, .agg x.c] [] (sgs a (addN s n x)) [(.o a, sgB (addN s n x) (addS s n x))] := by
 obtain ⟨σ, hσ, h1⟩ := T.at (T_ad s x hn) [.o 1] [.o a] (by decide) (by simp) rfl
 simp only [List.map_cons, List.map_nil, List.cons.injEq, and_true] at hσ
 simpa [V.rens, V.ren, Heap.ren, B.ren, sg, sgs, sgB, SSign.c, hσ] using h1
theorem T_raA {n : Nat} (s : Nat → SSign) (x : SSign) (hn : n ≤ 1000000) (a : Nat) : T Try.prog 27 [sg n s, .agg x.c] [] (sgs a (addN s n x)) [(.o a, sgB (addN s n x) (addS s n x))] := by
 obtain ⟨σ, hσ, h1⟩ := T.at (T_ra s x hn) [.o 1] [.o a] (by decide) (by simp) rfl
 simp only [List.map_cons, List.map_nil, List.cons.injEq, and_true] at hσ
 simpa [V.rens, V.ren, Heap.ren, B.ren, sg, sgs, sgB, SSign.c, hσ] using h1
theorem T_noA {n : Nat} (s : Nat → SSign) (h0 : 0 < n) (hn : n ≤ 1000000) (a : Nat) : T Try.prog 28 [sg n s] [] (ls a (ndL s n)) [(.o a, lb (ndL s n))] := by
 obtain ⟨σ, hσ, h1⟩ := T.at (T_no1 s h0 hn) [.o 5] [.o a] (by decide) (by simp) rfl
 simp only [List.map_cons, List.map_nil, List.cons.injEq, and_true] at hσ
 simpa [V.rens, V.ren, Heap.ren, B.ren, sg, ls, lb, hσ] using h1
theorem pad_at (s : Nat → SSign) (n : Nat) : padS s n n = zS := if_neg (Nat.lt_irrefl n)
theorem rowsPad {s : Nat → SSign} {n : Nat} (k : Nat) :
  setF (fun _ => [V.int .i64 0, V.seg .u8 16 [0, 0, 0, 0, 0, 0, 0, 0, 0, 0, 0, 0, 0, 0, 0, 0]]) 0 n (fun i => (s i).c) k = [V.int .i64 (padS s n k).node, V.seg .u8 16 (padS s n k).tag] := by
 by_cases h : k < n
 ·rw [setF_in (Nat.zero_le _) (by omega), Nat.sub_zero, padS, if_pos h]; rfl
 ·rw [setF_out (by omega), padS, if_neg h]; rfl
theorem addN_le {s : Nat → SSign} {n : Nat} {x : SSign} : addN s n x ≤ n + 1 := by unfold addN; split <;> omega
/-- QuorumAdds. -/
theorem T_qa {n : Nat} (s : Nat → SSign) (x : SSign) (hn : n ≤ 9223372036854775807) : T Try.prog 6 [sg n s, .agg x.c] [] (.bool true) [] := by
 have h9 := T_lv
 by_cases hb : (500 : Int) < n
 ·refine T_al (bdQA_p1 n s x 0 s) Try.func6 ?_
  simp only [All]; and_intros
  all_goals first
   | exact h9
   | exact True.intro
   | (with_reducible assumption)
   | (rw [decide_eq_true_eq]; omega)
   | (rw [decide_eq_false_iff_not]; omega)
   | with_reducible rfl
   | (intro _ _; exact True.intro)
   | (intro _ _; with_reducible rfl)
   | (intro _ _; rfl)
   | (simp only [IntKind.min, IntKind.max, IntKind.signed, IntKind.bits, if_true]; omega)
   | omega
   | (intro h; exact h)
   | (intro h; cases h; done)
   | exact .inl rfl
   | exact .inr rfl
   | exact .inl True.intro
   | exact .inr True.intro
   | (simp; done)
 ·obtain ⟨ie, i1, i2, i3⟩ := sliceSg
  have hN := addN_le (s := s) (n := n) (x := x)
  have en : Int.toNat ((n : Int) + 5) = n + 5 := by omega
  have en1 : Int.toNat ((n : Int) + 1) = n + 1 := by omega
  have hP : TO Try.prog (.append 33 33) [.sl (.o 512) 17 0 0 0 0 (some (n + 5)), .ros 17 n (fun i => (s i).c) false] [(.o 512, .rows 17 (n + 5) (fun _ => [V.int .i64 0, V.seg .u8 16 [0, 0, 0, 0, 0, 0, 0, 0, 0, 0, 0, 0, 0, 0, 0, 0]]) false)] (.sl (.o 512) 17 0 0 0 (0 + n) (some (n + 5)))
    [(.o 512, .rows 17 (n + 5) (setF (fun _ => [V.int .i64 0, V.seg .u8 16 [0, 0, 0, 0, 0, 0, 0, 0, 0, 0, 0, 0, 0, 0, 0, 0]]) 0 n (fun i => (s i).c)) false)] :=
   TO_append i1 i1 i2 i3 (by omega) (fun k hk => by rfl) (by omega)
  rw [Nat.zero_add] at hP
  have h1 := T_adA s x (n := n) (by omega) 130
  have h2 := T_raA s x (n := n) (by omega) 450
  have h3 := T_sa (addS s n x) (n := addN s n x) (by omega)
  have h4 := T_sa s (n := n) (by omega)
  have hA : T Try.prog 25 [.sl (.o 1) 17 0 0 0 n (some (n + 5)), .agg x.c] [(.o 1, .rows 17 (n + 5) (gn (padS s n)) true)] (.sl (.o 130) 17 0 0 0 (addN s n x) none) [(.o 130, .rows 17 (addN s n x) (gn (addS s n x)) true), (.o 1, .rows 17 (n + 5) (gn (padS s n)) true)] := by
   refine T.lendG h1 rfl ?_ (FreeV.sl _ _ _ _ _ _ _) (fun q hq => by rw [List.mem_singleton] at hq; subst hq; exact FreeB.signs) (fun m hm => by obtain ⟨b, hb⟩ := hm; rw [List.mem_singleton] at hb; cases hb; rintro ⟨b, hb⟩; rw [List.mem_singleton] at hb; cases hb)
   simp only [All]; and_intros
   all_goals first
    | (intro k hk; rw [Nat.zero_add, gn, padS, if_pos hk])
    | (intro k hk; rw [Nat.zero_add]; rfl)
    | exact True.intro
    | (with_reducible assumption)
    | (rw [decide_eq_true_eq]; omega)
    | (rw [decide_eq_false_iff_not]; omega)
    | with_reducible rfl
    | (intro _ _; exact True.intro)
    | (intro _ _; with_reducible rfl)
    | (intro _ _; rfl)
    | (simp only [IntKind.min, IntKind.max, IntKind.signed, IntKind.bits, if_true]; omega)
    | omega
    | (intro h; exact h)
    | (intro h; cases h; done)
    | exact .inl rfl
    | exact .inr rfl
    | exact .inl True.intro
    | exact .inr True.intro
    | (simp; done)
  have hS : T Try.prog 26 [.sl (.o 130) 17 0 0 0 (addN s n x) none, .sl (.o 450) 17 0 0 0 (addN s n x) none] [(.o 130, .rows 17 (addN s n x) (gn (addS s n x)) true), (.o 450, .rows 17 (addN s n x) (gn (addS s n x)) true)] (.bool true) [(.o 130, .rows 17 (addN s n x) (gn (addS s n x)) true), (.o 450, .rows 17 (addN s n x) (gn (addS s n x)) true)] := by
   refine T.lend h3 rfl ?_
   simp only [All]; and_intros
   all_goals first
    | (intro k hk; rw [Nat.zero_add, gn, padS, if_pos hk])
    | (intro k hk; rw [Nat.zero_add]; rfl)
    | exact True.intro
    | (with_reducible assumption)
    | (rw [decide_eq_true_eq]; omega)
    | (rw [decide_eq_false_iff_not]; omega)
    | with_reducible rfl
    | (intro _ _; exact True.intro)
    | (intro _ _; with_reducible rfl)
    | (intro _ _; rfl)
    | (simp only [IntKind.min, IntKind.max, IntKind.signed, IntKind.bits, if_true]; omega)
    | omega
    | (intro h; exact h)
    | (intro h; cases h; done)
    | exact .inl rfl
    | exact .inr rfl
    | exact .inl True.intro
    | exact .inr True.intro
    | (simp; done)
  have hO : T Try.prog 26 [.sl (.o 1) 17 0 0 0 n (some (n + 5)), .ros 17 n (fun i => (s i).c) false] [(.o 1, .rows 17 (n + 5) (gn (padS s n)) true)] (.bool true) [(.o 1, .rows 17 (n + 5) (gn (padS s n)) true)] := by
   refine T.lend h4 rfl ?_
   simp only [All]; and_intros
   all_goals first
    | (intro k hk; rw [Nat.zero_add, gn, padS, if_pos hk])
    | (intro k hk; rw [Nat.zero_add]; rfl)
    | exact True.intro
    | (with_reducible assumption)
    | (rw [decide_eq_true_eq]; omega)
    | (rw [decide_eq_false_iff_not]; omega)
    | with_reducible rfl
    | (intro _ _; exact True.intro)
    | (intro _ _; with_reducible rfl)
    | (intro _ _; rfl)
    | (simp only [IntKind.min, IntKind.max, IntKind.signed, IntKind.bits, if_true]; omega)
    | omega
    | (intro h; exact h)
    | (intro h; cases h; done)
    | exact .inl rfl
    | exact .inr rfl
    | exact .inl True.intro
    | exact .inr True.intro
    | (simp; done)
  have ez : (!(decide ((padS s n n).node = 0) && (decide ((padS s n n).tag = [0, 0, 0, 0, 0, 0, 0, 0, 0, 0, 0, 0, 0, 0, 0, 0]) && true))) = false := by rw [pad_at]; rfl
  rcases Nat.eq_zero_or_pos n with rfl | h0
  ·have h5 := T_no0 s
   have hend : R Try.prog none 0 (cB (cB (cR (cL (cR (cR (cR (cR (cR (cR (cR (bodyOf Try.f6)))))))))))) (qaZ 0 s) (.exit 0) (qaZ 0 s) := by
    refine R_alongPc NG MO _ (pcQz_p0 0 s) ?_ (Nat.zero_le _)
    simp only [All]; and_intros
    all_goals first
     | exact True.intro
     | (with_reducible assumption)
     | (rw [decide_eq_true_eq]; omega)
     | (rw [decide_eq_false_iff_not]; omega)
     | with_reducible rfl
     | (intro _ _; exact True.intro)
     | (intro _ _; with_reducible rfl)
     | (intro _ _; rfl)
     | (simp only [IntKind.min, IntKind.max, IntKind.signed, IntKind.bits, if_true]; omega)
     | omega
     | (intro h; exact h)
     | (intro h; cases h; done)
     | exact .inl rfl
     | exact .inr rfl
     | exact .inl True.intro
     | exact .inr True.intro
     | (simp; done)
   have hL := RLoop.inv (fun _ => qaZ 0 s) 0 (fun k hk => absurd hk (Nat.not_lt_zero _)) hend (by simp)
   refine T_al (bdQ0_p000100 0 s x (addN s 0 x) (addS s 0 x)) Try.func6 ?_
   simp only [All, en, en1, natO, Int.toNat_natCast, Nat.zero_add, Nat.sub_zero]; and_intros
   all_goals first
    | exact hP
    | exact hA
    | exact h2
    | exact hS
    | exact hO
    | exact ez
    | exact h5
    | exact h9
    | exact hL
    | (intro k _; exact rowsPad k)
    | exact True.intro
    | (with_reducible assumption)
    | (rw [decide_eq_true_eq]; omega)
    | (rw [decide_eq_false_iff_not]; omega)
    | with_reducible rfl
    | (intro _ _; exact True.intro)
    | (intro _ _; with_reducible rfl)
    | (intro _ _; rfl)
    | (simp only [IntKind.min, IntKind.max, IntKind.signed, IntKind.bits, if_true]; omega)
    | omega
    | (intro h; exact h)
    | (intro h; cases h; done)
    | exact .inl rfl
    | exact .inr rfl
    | exact .inl True.intro
    | exact .inr True.intro
    | (simp; done)
  ·have h5 := T_noA s h0 (n := n) (by omega) 2626
   have hstep : ∀ k, k < n → R Try.prog none 0 (cB (cB (cR (cL (cR (cR (cR (cR (cR (cR (cR (bodyOf Try.f6)))))))))))) (qaI n s k) .normal (qaI n s (k + 1)) := by
    intro k hk
    have hl := ndL_len s n
    have e1 : (!decide ((ndL s n).getD k 0 = (s k).node)) = false := by rw [ndL_get hk, decide_eq_true rfl]; rfl
    refine R_alongPc NG MO _ (pcQa_p10 n s k) ?_ (Nat.zero_le _)
    simp only [All, Int.toNat_natCast, Nat.zero_add]; and_intros
    all_goals first
     | exact e1
     | exact True.intro
     | (with_reducible assumption)
     | (rw [decide_eq_true_eq]; omega)
     | (rw [decide_eq_false_iff_not]; omega)
     | with_reducible rfl
     | (intro _ _; exact True.intro)
     | (intro _ _; with_reducible rfl)
     | (intro _ _; rfl)
     | (simp only [IntKind.min, IntKind.max, IntKind.signed, IntKind.bits, if_true]; omega)
     | omega
     | (intro h; exact h)
     | (intro h; cases h; done)
     | exact .inl rfl
     | exact .inr rfl
     | exact .inl True.intro
     | exact .inr True.intro
     | (simp; done)
   have hend : R Try.prog none 0 (cB (cB (cR (cL (cR (cR (cR (cR (cR (cR (cR (bodyOf Try.f6)))))))))))) (qaI n s n) (.exit 0) (qaI n s n) := by
    refine R_alongPc NG MO _ (pcQa_p0 n s n) ?_ (Nat.zero_le _)
    simp only [All]; and_intros
    all_goals first
     | exact True.intro
     | (with_reducible assumption)
     | (rw [decide_eq_true_eq]; omega)
     | (rw [decide_eq_false_iff_not]; omega)
     | with_reducible rfl
     | (intro _ _; exact True.intro)
     | (intro _ _; with_reducible rfl)
     | (intro _ _; rfl)
     | (simp only [IntKind.min, IntKind.max, IntKind.signed, IntKind.bits, if_true]; omega)
     | omega
     | (intro h; exact h)
     | (intro h; cases h; done)
     | exact .inl rfl
     | exact .inr rfl
     | exact .inl True.intro
     | exact .inr True.intro
     | (simp; done)
   have hL := RLoop.inv (qaI n s) n hstep hend (by simp)
   have hl := ndL_len s n
   refine T_al (bdQA_p000100 n s x (addN s n x) (addS s n x)) Try.func6 ?_
   simp only [All, en, en1, natO, Int.toNat_natCast, Nat.zero_add, Nat.sub_zero]; and_intros
   all_goals first
    | exact hP
    | exact hA
    | exact h2
    | exact hS
    | exact hO
    | exact ez
    | exact h5
    | exact h9
    | exact hL
    | (intro k _; exact rowsPad k)
    | exact True.intro
    | (with_reducible assumption)
    | (rw [decide_eq_true_eq]; omega)
    | (rw [decide_eq_false_iff_not]; omega)
    | with_reducible rfl
    | (intro _ _; exact True.intro)
    | (intro _ _; with_reducible rfl)
    | (intro _ _; rfl)
    | (simp only [IntKind.min, IntKind.max, IntKind.signed, IntKind.bits, if_true]; omega)
    | omega
    | (intro h; exact h)
    | (intro h; cases h; done)
    | exact .inl rfl
    | exact .inr rfl
    | exact .inl True.intro
    | exact .inr True.intro
    | (simp [hl]; done)
    | (simp; done)
end Go.Proofs.Ytpallipnhmoipaa
namespace Go.Proofs.Ytpallipnhmoipaa
open Go Sy Go.Proofs
theorem cellsSign : Try.prog.cellsOf 37 = 17 := by kernel_rfl
theorem sg_sign {d : Nat} {cs : List V} (h : ShC Try.prog d 37 cs) : ∃ s : SSign, cs = s.c ∧ s.tag.length = 16 := by
 obtain ⟨d, a, _, rfl, ha, b, _, rfl, hb, rfl⟩ := sh_struct h Try.underlying37
 obtain ⟨n, rfl, _⟩ := sh_int ha Try.underlying3
 obtain ⟨xs, rfl, h1, h2⟩ := sh_arr hb Try.underlying35 Try.underlying5
 exact ⟨⟨n, xs⟩, rfl, h1⟩
theorem sg_signs (U : Imm) {d : Nat} {cs : List V} (h : ShC Try.prog d 33 cs) : ∃ n s, CsLe U cs [sg n s] ∧ n ≤ 9223372036854775807 ∧ ∀ i, i < n → (s i).tag.length = 16 := by
 obtain ⟨d, len, f, rfl, hl, hf⟩ := sh_slice h Try.underlying33
 obtain ⟨s, hs⟩ := choose_fn fun i hi => sg_sign (hf i hi)
 refine ⟨len, s, ?_, hl, fun i hi => (hs i hi).2⟩
 rw [cellsSign]
 exact CsLe.ros fun i hi => by rw [(hs i hi).1]; exact CsLe.refl _ _
end Go.Proofs.Ytpallipnhmoipaa
