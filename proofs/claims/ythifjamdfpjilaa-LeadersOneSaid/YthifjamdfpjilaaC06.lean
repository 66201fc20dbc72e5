/-
  Contracts and laws that the claim's theorem leans on, joined out of the texts La5 La6D (own work of this seat): Contracts: what the library's stable sort calls; swaps, rotations; Contracts: the library's merging of two neighbours.
-/
import Derived.Test.YthifjamdfpjilaaC05
set_option linter.unusedVariables false
set_option linter.unusedSimpArgs false
set_option maxHeartbeats 1000000
namespace Go.Proofs.Ythifjamdfpjilaa
open Go Sy Go.Proofs
theorem bdOn_p (c : SCfg) (e : Int) (nd : Int) (x : Int) :
  along Try.prog (bdOn c e nd x) [] = (some (.bool (decide ((x + e) % SCfg.nodes c = nd)), [(.o 3, .flat [.int .i64 e]), (.o 4, .flat [.int .i64 (SCfg.nodes c), .int .i64 (SCfg.clients c), .int .i64 (SCfg.window c), .int .i64 (SCfg.buckets c), .int .i64 (SCfg.cap c), .int .i64 (SCfg.slots c), .int .i64 (SCfg.requests c), .int .i64 (SCfg.timeout c), .int .i64 (SCfg.penalty c), .int .i64 (SCfg.last c)]), (.o 5, .flat [.int .i64 nd])], [InR IntKind.i64 (x + e), (0 : Int) ≤ x + e ∧ (0 : Int) < SCfg.nodes c]) : Option (V × Heap × List Prop)) := by kernel_rfl

noncomputable def bdLe_c (c : SCfg) (e : Int) (nd : Int) (n : Nat) (F : Nat → Int) (i : Nat) (j : Nat) (x : Bool) (y : Bool) : Nat → List Prop
 | 0 => [(0 : Int) ≤ (↑i : Int) ∧ (↑i : Int) < (↑n : Int), (0 : Nat) + Int.toNat (↑i : Int) < n, T Try.prog (42 : FuncId) [.int .i64 (F (0 + Int.toNat (↑i : Int))), .ptr (.o 3) 0 0 0 0, .ptr (.o 4) 0 0 0 0, .ptr (.o 5) 0 0 0 0] [(.o 3, .flat [.int .i64 e]), (.o 4, .flat [.int .i64 (SCfg.nodes c), .int .i64 (SCfg.clients c), .int .i64 (SCfg.window c), .int .i64 (SCfg.buckets c), .int .i64 (SCfg.cap c), .int .i64 (SCfg.slots c), .int .i64 (SCfg.requests c), .int .i64 (SCfg.timeout c), .int .i64 (SCfg.penalty c), .int .i64 (SCfg.last c)]), (.o 5, .flat [.int .i64 nd])] (.bool x) [(.o 3, .flat [.int .i64 e]), (.o 4, .flat [.int .i64 (SCfg.nodes c), .int .i64 (SCfg.clients c), .int .i64 (SCfg.window c), .int .i64 (SCfg.buckets c), .int .i64 (SCfg.cap c), .int .i64 (SCfg.slots c), .int .i64 (SCfg.requests c), .int .i64 (SCfg.timeout c), .int .i64 (SCfg.penalty c), .int .i64 (SCfg.last c)]), (.o 5, .flat [.int .i64 nd])]]
 | _ => []
theorem bdLe_p1 (c : SCfg) (e : Int) (nd : Int) (n : Nat) (F : Nat → Int) (i : Nat) (j : Nat) (x : Bool) (y : Bool) :
 along Try.prog (bdLe c e nd n F i j x y) [true] = (some (.bool !y, [(.o 0, .rows 1 n (fun k => [.int .i64 (F k)]) true), (.o 1, .flat [.fn (.func (42 : FuncId)) [] [.ptr (.o 3) 0 0 0 0, .ptr (.o 4) 0 0 0 0, .ptr (.o 5) 0 0 0 0]]), (.o 2, .flat [.sl (.o 0) 1 0 0 0 n none]), (.o 3, .flat [.int .i64 e]), (.o 4, .flat [.int .i64 (SCfg.nodes c), .int .i64 (SCfg.clients c), .int .i64 (SCfg.window c), .int .i64 (SCfg.buckets c), .int .i64 (SCfg.cap c), .int .i64 (SCfg.slots c), .int .i64 (SCfg.requests c), .int .i64 (SCfg.timeout c), .int .i64 (SCfg.penalty c), .int .i64 (SCfg.last c)]), (.o 5, .flat [.int .i64 nd])], bdLe_c c e nd n F i j x y 0 ++ [x = true, (0 : Int) ≤ (↑j : Int) ∧ (↑j : Int) < (↑n : Int), (0 : Nat) + Int.toNat (↑j : Int) < n, T Try.prog (42 : FuncId) [.int .i64 (F (0 + Int.toNat (↑j : Int))), .ptr (.o 3) 0 0 0 0, .ptr (.o 4) 0 0 0 0, .ptr (.o 5) 0 0 0 0] [(.o 3, .flat [.int .i64 e]), (.o 4, .flat [.int .i64 (SCfg.nodes c), .int .i64 (SCfg.clients c), .int .i64 (SCfg.window c), .int .i64 (SCfg.buckets c), .int .i64 (SCfg.cap c), .int .i64 (SCfg.slots c), .int .i64 (SCfg.requests c), .int .i64 (SCfg.timeout c), .int .i64 (SCfg.penalty c), .int .i64 (SCfg.last c)]), (.o 5, .flat [.int .i64 nd])] (.bool y) [(.o 3, .flat [.int .i64 e]), (.o 4, .flat [.int .i64 (SCfg.nodes c), .int .i64 (SCfg.clients c), .int .i64 (SCfg.window c), .int .i64 (SCfg.buckets c), .int .i64 (SCfg.cap c), .int .i64 (SCfg.slots c), .int .i64 (SCfg.requests c), .int .i64 (SCfg.timeout c), .int .i64 (SCfg.penalty c), .int .i64 (SCfg.last c)]), (.o 5, .flat [.int .i64 nd])]]) : Option (V × Heap × List Prop)) := by kernel_rfl
theorem bdLe_p0 (c : SCfg) (e : Int) (nd : Int) (n : Nat) (F : Nat → Int) (i : Nat) (j : Nat) (x : Bool) (y : Bool) :
 along Try.prog (bdLe c e nd n F i j x y) [false] = (some (.bool false, [(.o 0, .rows 1 n (fun k => [.int .i64 (F k)]) true), (.o 1, .flat [.fn (.func (42 : FuncId)) [] [.ptr (.o 3) 0 0 0 0, .ptr (.o 4) 0 0 0 0, .ptr (.o 5) 0 0 0 0]]), (.o 2, .flat [.sl (.o 0) 1 0 0 0 n none]), (.o 3, .flat [.int .i64 e]), (.o 4, .flat [.int .i64 (SCfg.nodes c), .int .i64 (SCfg.clients c), .int .i64 (SCfg.window c), .int .i64 (SCfg.buckets c), .int .i64 (SCfg.cap c), .int .i64 (SCfg.slots c), .int .i64 (SCfg.requests c), .int .i64 (SCfg.timeout c), .int .i64 (SCfg.penalty c), .int .i64 (SCfg.last c)]), (.o 5, .flat [.int .i64 nd])], bdLe_c c e nd n F i j x y 0 ++ [x = false]) : Option (V × Heap × List Prop)) := by kernel_rfl

theorem bdS1_p10 (n : Nat) (F : Nat → Int) (G : Nat → Int) (a : Nat) (b : Nat) :
  along Try.prog (bdS1 n F G a b) [true, false] = (some (.tup [], [(.o 0, .rows 1 n (fun k => [.int .i64 (G k)]) true)], [q2, InR IntKind.i64 ((↑a : Int) + (0 : Int)), InR IntKind.i64 ((↑b : Int) + (0 : Int)), TV Try.prog (V.fn (Fn.func (129 : FuncId)) [] [V.sl (Nm.o (0 : Nat)) (1 : Nat) (0 : Nat) (0 : Nat) (0 : Nat) n none, V.abs (nat_lit 0) (3 : Nat)]) [V.int IntKind.i64 ((↑a : Int) + (0 : Int)), V.int IntKind.i64 ((↑b : Int) + (0 : Int))] [(Nm.o (0 : Nat), B.rows (1 : Nat) n (fun k => [V.int IntKind.i64 (F k)]) true)] (V.tup []) [(Nm.o (0 : Nat), B.rows (1 : Nat) n (fun k => [V.int IntKind.i64 (G k)]) true)], InR IntKind.i64 (1 : Int), q false]) : Option (V × Heap × List Prop)) := by kernel_rfl

theorem bdRt_p (n : Nat) (F : Nat → Int) (G : Nat → Int) (a : Nat) (m : Nat) :
  along Try.prog (bdRt n F G a m) [] = (some (.tup [], [(.o 0, .rows 1 n (fun k => [.int .i64 (G k)]) true)], [InR IntKind.i64 ((↑m : Int) - (↑a : Int)), InR IntKind.i64 ((↑(m + (1 : Nat)) : Int) - (↑m : Int)), RLoop Try.prog none 6 (cB (cB (cL (cR (cR (cR (bodyOf (Bd.f (bdRt n F G a m))))))))) (m - a) (St.mk [.any, .any, .int .i64 ↑m, .any, .ptr (.o 6) 0 0 0 0, .any, .any, .any, .int .i64 (↑(m - a - 0) : Int), .int .i64 1, .any, .any, .any, .any, .any, .any, .any, .any, .any, .any, .any, .any, .any, .any, .any, .any, .any, .any, .any, .any, .any, .any, .any, .any, .any, .any, .any, .any, .any, .any, .any, .any, .any, .any, .any, .any, .any, .any, .any, .any, .any, .any, .any] [(.o 0, .rows 1 n (fun k => [.int .i64 (rtF F a m 0 k)]) true), (.o 6, .flat [.fn (.func (44 : FuncId)) [] [.ptr (.o 1) 0 0 0 0, .ptr (.o 2) 0 0 0 0], .fn (.func (129 : FuncId)) [] [.sl (.o 0) 1 0 0 0 n none, V.abs 0 3]])] 7 []) (.exit 0) (St.mk [.any, .any, .int .i64 ↑m, .any, .ptr (.o 6) 0 0 0 0, .any, .any, .any, .int .i64 (↑(m - a - (m - a - 1)) : Int), .int .i64 1, .any, .any, .any, .any, .any, .any, .any, .any, .any, .any, .any, .any, .any, .any, .any, .any, .any, .any, .any, .any, .any, .any, .any, .any, .any, .any, .any, .any, .any, .any, .any, .any, .any, .any, .any, .any, .any, .any, .any, .any, .any, .any, .any] [(.o 0, .rows 1 n (fun k => [.int .i64 (rtF F a m (m - a - 1) k)]) true), (.o 6, .flat [.fn (.func (44 : FuncId)) [] [.ptr (.o 1) 0 0 0 0, .ptr (.o 2) 0 0 0 0], .fn (.func (129 : FuncId)) [] [.sl (.o 0) 1 0 0 0 n none, V.abs 0 3]])] 7 []), q n, ∀ (k : Nat), k < n → [V.int IntKind.i64 (F k)] = [V.int IntKind.i64 (rtF F a m (0 : Nat) k)], true = false → true = false, q0, q0, q0, q0, q0, q0, q0, q0, q0, q n, (none : Option Nat) = none ∨ (none : Option Nat) = none, q (nat_lit 0), q (3 : Nat), q (↑m : Int), q0, q0, q0, (↑m : Int) - (↑a : Int) = (↑(m - a - (0 : Nat)) : Int), (↑(m + (1 : Nat)) : Int) - (↑m : Int) = (1 : Int), InR IntKind.i64 ((↑m : Int) - (↑(m - a - (m - a - (1 : Nat))) : Int)), T Try.prog 143 [.agg [.fn (.func (44 : FuncId)) [] [.ptr (.o 1) 0 0 0 0, .ptr (.o 2) 0 0 0 0], .fn (.func (129 : FuncId)) [] [.sl (.o 0) 1 0 0 0 n none, V.abs 0 3]], .int .i64 ((↑m : Int) - (↑(m - a - (m - a - 1)) : Int)), .int .i64 ↑m, .int .i64 (↑(m - a - (m - a - 1)) : Int)] [(.o 0, .rows 1 n (fun k => [.int .i64 (rtF F a m (m - a - 1) k)]) true)] (.tup []) [(.o 0, .rows 1 n (fun k => [.int .i64 (G k)]) true)]]) : Option (V × Heap × List Prop)) := by kernel_rfl

theorem pcRt_p0 (n : Nat) (F : Nat → Int) (a : Nat) (m : Nat) (k : Nat) :
  alongPc Try.prog (pcRt n F a m k) [false] = (some (.exit 0, St.mk [.any, .any, .int .i64 ↑m, .any, .ptr (.o 6) 0 0 0 0, .any, .any, .any, .int .i64 (↑(m - a - (m - a - 1)) : Int), .int .i64 1, .any, .any, .any, .any, .any, .any, .any, .any, .any, .any, .any, .any, .any, .any, .any, .any, .any, .any, .any, .any, .any, .any, .any, .any, .any, .any, .any, .any, .any, .any, .any, .any, .any, .any, .any, .any, .any, .any, .any, .any, .any, .any, .any] [(.o 0, .rows 1 n (fun k => [.int .i64 (rtF F a m (m - a - 1) k)]) true), (.o 6, .flat [.fn (.func (44 : FuncId)) [] [.ptr (.o 1) 0 0 0 0, .ptr (.o 2) 0 0 0 0], .fn (.func (129 : FuncId)) [] [.sl (.o 0) 1 0 0 0 n none, V.abs 0 3]])] 7 [], [(!decide ((↑(m - a - k) : Int) = (1 : Int))) = false, q n, ∀ (k_1 : Nat), k_1 < n → [V.int IntKind.i64 (rtF F a m k k_1)] = [V.int IntKind.i64 (rtF F a m (m - a - (1 : Nat)) k_1)], true = false → true = false, q0, q0, q0, q0, q0, q0, q0, q0, q0, q n, (none : Option Nat) = none ∨ (none : Option Nat) = none, q (nat_lit 0), q (3 : Nat), q (↑m : Int), q0, q0, q0, (↑(m - a - k) : Int) = (↑(m - a - (m - a - (1 : Nat))) : Int), q (1 : Int)]) : Option (Exit × St × List Prop)) := by kernel_rfl

theorem pcRt_p11 (n : Nat) (F : Nat → Int) (a : Nat) (m : Nat) (k : Nat) :
  alongPc Try.prog (pcRt n F a m k) [true, true] = (some (.normal, St.mk [.any, .any, .int .i64 ↑m, .any, .ptr (.o 6) 0 0 0 0, .any, .any, .any, .int .i64 (↑(m - a - (k + 1)) : Int), .int .i64 1, .any, .any, .any, .any, .any, .any, .any, .any, .any, .any, .any, .any, .any, .any, .any, .any, .any, .any, .any, .any, .any, .any, .any, .any, .any, .any, .any, .any, .any, .any, .any, .any, .any, .any, .any, .any, .any, .any, .any, .any, .any, .any, .any] [(.o 0, .rows 1 n (fun k_1 => [.int .i64 (rtF F a m (k + 1) k_1)]) true), (.o 6, .flat [.fn (.func (44 : FuncId)) [] [.ptr (.o 1) 0 0 0 0, .ptr (.o 2) 0 0 0 0], .fn (.func (129 : FuncId)) [] [.sl (.o 0) 1 0 0 0 n none, V.abs 0 3]])] 7 [], [(!decide ((↑(m - a - k) : Int) = (1 : Int))) = true, decide ((1 : Int) < (↑(m - a - k) : Int)) = true, InR IntKind.i64 ((↑m : Int) - (↑(m - a - k) : Int)), T Try.prog 143 [.agg [.fn (.func (44 : FuncId)) [] [.ptr (.o 1) 0 0 0 0, .ptr (.o 2) 0 0 0 0], .fn (.func (129 : FuncId)) [] [.sl (.o 0) 1 0 0 0 n none, V.abs 0 3]], .int .i64 ((↑m : Int) - (↑(m - a - k) : Int)), .int .i64 ↑m, .int .i64 1] [(.o 0, .rows 1 n (fun k_1 => [.int .i64 (rtF F a m k k_1)]) true)] (.tup []) [(.o 0, .rows 1 n (fun k_1 => [.int .i64 (rtF F a m (k + 1) k_1)]) true)], InR IntKind.i64 ((↑(m - a - k) : Int) - (1 : Int)), q n, ∀ (k_1 : Nat), k_1 < n → [V.int IntKind.i64 (rtF F a m (k + (1 : Nat)) k_1)] = [V.int IntKind.i64 (rtF F a m (k + (1 : Nat)) k_1)], true = false → true = false, q0, q0, q0, q0, q0, q0, q0, q0, q0, q n, (none : Option Nat) = none ∨ (none : Option Nat) = none, q (nat_lit 0), q (3 : Nat), q (↑m : Int), q0, q0, q0, (↑(m - a - k) : Int) - (1 : Int) = (↑(m - a - (k + (1 : Nat))) : Int), q (1 : Int)]) : Option (Exit × St × List Prop)) := by kernel_rfl

theorem bdIs_p (c : SCfg) (e : Int) (nd : Int) (n : Nat) (a : Nat) (b : Nat) (F : Nat → Int) (R : Nat) (x : Nat) (G : Nat → Int) :
  along Try.prog (bdIs c e nd n a b F R x G) [] = (some (.tup [], [(.o 0, .rows 1 n (fun k => [.int .i64 (G k)]) true), (.o 1, .flat [.fn (.func (42 : FuncId)) [] [.ptr (.o 3) 0 0 0 0, .ptr (.o 4) 0 0 0 0, .ptr (.o 5) 0 0 0 0]]), (.o 2, .flat [.sl (.o 0) 1 0 0 0 n none]), (.o 3, .flat [.int .i64 e]), (.o 4, .flat [.int .i64 (SCfg.nodes c), .int .i64 (SCfg.clients c), .int .i64 (SCfg.window c), .int .i64 (SCfg.buckets c), .int .i64 (SCfg.cap c), .int .i64 (SCfg.slots c), .int .i64 (SCfg.requests c), .int .i64 (SCfg.timeout c), .int .i64 (SCfg.penalty c), .int .i64 (SCfg.last c)]), (.o 5, .flat [.int .i64 nd])], [InR IntKind.i64 ((↑a : Int) + (1 : Int)), RLoop Try.prog none 6 (cB (cB (cR (cR (bodyOf (Bd.f (bdIs c e nd n a b F R x G))))))) R (St.mk [.any, .int .i64 ↑a, .int .i64 ↑b, .ptr (.o 6) 0 0 0 0, .any, .any, .int .i64 (↑(a + 1) : Int), .any, .any, .any, .any, .any, .any, .any, .any, .any, .any, .any, .any, .any, .any, .any, .any, .any, .any, .any, .any, .any, .any, .any, .any, .any, .any, .any, .any] [(.o 0, .rows 1 n (fun k => [.int .i64 (F k)]) true), (.o 1, .flat [.fn (.func (42 : FuncId)) [] [.ptr (.o 3) 0 0 0 0, .ptr (.o 4) 0 0 0 0, .ptr (.o 5) 0 0 0 0]]), (.o 2, .flat [.sl (.o 0) 1 0 0 0 n none]), (.o 3, .flat [.int .i64 e]), (.o 4, .flat [.int .i64 (SCfg.nodes c), .int .i64 (SCfg.clients c), .int .i64 (SCfg.window c), .int .i64 (SCfg.buckets c), .int .i64 (SCfg.cap c), .int .i64 (SCfg.slots c), .int .i64 (SCfg.requests c), .int .i64 (SCfg.timeout c), .int .i64 (SCfg.penalty c), .int .i64 (SCfg.last c)]), (.o 5, .flat [.int .i64 nd]), (.o 6, .flat [.fn (.func (44 : FuncId)) [] [.ptr (.o 1) 0 0 0 0, .ptr (.o 2) 0 0 0 0], .fn (.func (129 : FuncId)) [] [.sl (.o 0) 1 0 0 0 n none, V.abs 0 3]])] 7 []) (.exit 0) (St.mk [.any, .int .i64 ↑a, .int .i64 ↑b, .ptr (.o 6) 0 0 0 0, .any, .any, .int .i64 ↑x, .any, .any, .any, .any, .any, .any, .any, .any, .any, .any, .any, .any, .any, .any, .any, .any, .any, .any, .any, .any, .any, .any, .any, .any, .any, .any, .any, .any] [(.o 0, .rows 1 n (fun k => [.int .i64 (G k)]) true), (.o 1, .flat [.fn (.func (42 : FuncId)) [] [.ptr (.o 3) 0 0 0 0, .ptr (.o 4) 0 0 0 0, .ptr (.o 5) 0 0 0 0]]), (.o 2, .flat [.sl (.o 0) 1 0 0 0 n none]), (.o 3, .flat [.int .i64 e]), (.o 4, .flat [.int .i64 (SCfg.nodes c), .int .i64 (SCfg.clients c), .int .i64 (SCfg.window c), .int .i64 (SCfg.buckets c), .int .i64 (SCfg.cap c), .int .i64 (SCfg.slots c), .int .i64 (SCfg.requests c), .int .i64 (SCfg.timeout c), .int .i64 (SCfg.penalty c), .int .i64 (SCfg.last c)]), (.o 5, .flat [.int .i64 nd]), (.o 6, .flat [.fn (.func (44 : FuncId)) [] [.ptr (.o 1) 0 0 0 0, .ptr (.o 2) 0 0 0 0], .fn (.func (129 : FuncId)) [] [.sl (.o 0) 1 0 0 0 n none, V.abs 0 3]])] 7 []), q n, ∀ (k : Nat), k < n → [V.int IntKind.i64 (F k)] = [V.int IntKind.i64 (F k)], true = false → true = false, q0, q0, q0, q0, q0, q0, q0, q0, q0, q0, q0, q0, q n, (none : Option Nat) = none ∨ (none : Option Nat) = none, q e, q (SCfg.nodes c), q (SCfg.clients c), q (SCfg.window c), q (SCfg.buckets c), q (SCfg.cap c), q (SCfg.slots c), q (SCfg.requests c), q (SCfg.timeout c), q (SCfg.penalty c), q (SCfg.last c), q nd, q0, q0, q0, q0, q0, q0, q0, q0, q0, q n, (none : Option Nat) = none ∨ (none : Option Nat) = none, q (nat_lit 0), q (3 : Nat), q (↑a : Int), q (↑b : Int), q0, q0, q0, (↑a : Int) + (1 : Int) = (↑(a + (1 : Nat)) : Int)]) : Option (V × Heap × List Prop)) := by kernel_rfl

theorem pcIo_p1 (c : SCfg) (e : Int) (nd : Int) (n : Nat) (a : Nat) (b : Nat) (i : Nat) (F : Nat → Int) (R : Nat) (j : Nat) (G : Nat → Int) :
  alongPc Try.prog (pcIo c e nd n a b i F R j G) [true] = (some (.normal, St.mk [.any, .int .i64 ↑a, .int .i64 ↑b, .ptr (.o 6) 0 0 0 0, .any, .any, .int .i64 (↑(i + 1) : Int), .any, .any, .any, .any, .any, .any, .any, .any, .any, .any, .any, .any, .any, .any, .any, .any, .any, .any, .any, .any, .any, .any, .any, .any, .any, .any, .any, .any] [(.o 0, .rows 1 n (fun k => [.int .i64 (G k)]) true), (.o 1, .flat [.fn (.func (42 : FuncId)) [] [.ptr (.o 3) 0 0 0 0, .ptr (.o 4) 0 0 0 0, .ptr (.o 5) 0 0 0 0]]), (.o 2, .flat [.sl (.o 0) 1 0 0 0 n none]), (.o 3, .flat [.int .i64 e]), (.o 4, .flat [.int .i64 (SCfg.nodes c), .int .i64 (SCfg.clients c), .int .i64 (SCfg.window c), .int .i64 (SCfg.buckets c), .int .i64 (SCfg.cap c), .int .i64 (SCfg.slots c), .int .i64 (SCfg.requests c), .int .i64 (SCfg.timeout c), .int .i64 (SCfg.penalty c), .int .i64 (SCfg.last c)]), (.o 5, .flat [.int .i64 nd]), (.o 6, .flat [.fn (.func (44 : FuncId)) [] [.ptr (.o 1) 0 0 0 0, .ptr (.o 2) 0 0 0 0], .fn (.func (129 : FuncId)) [] [.sl (.o 0) 1 0 0 0 n none, V.abs 0 3]])] 7 [], [decide ((↑i : Int) < (↑b : Int)) = true, RLoop Try.prog none 6 (cB (cB (cR (cB (cL (cR (Pc.c (pcIo c e nd n a b i F R j G)))))))) R (St.mk [.any, .int .i64 ↑a, .int .i64 ↑b, .ptr (.o 6) 0 0 0 0, .any, .any, .int .i64 ↑i, .int .i64 ↑i, .any, .any, .any, .any, .any, .any, .any, .any, .any, .any, .any, .any, .any, .any, .any, .any, .any, .any, .any, .any, .any, .any, .any, .any, .any, .any, .any] [(.o 0, .rows 1 n (fun k => [.int .i64 (F k)]) true), (.o 1, .flat [.fn (.func (42 : FuncId)) [] [.ptr (.o 3) 0 0 0 0, .ptr (.o 4) 0 0 0 0, .ptr (.o 5) 0 0 0 0]]), (.o 2, .flat [.sl (.o 0) 1 0 0 0 n none]), (.o 3, .flat [.int .i64 e]), (.o 4, .flat [.int .i64 (SCfg.nodes c), .int .i64 (SCfg.clients c), .int .i64 (SCfg.window c), .int .i64 (SCfg.buckets c), .int .i64 (SCfg.cap c), .int .i64 (SCfg.slots c), .int .i64 (SCfg.requests c), .int .i64 (SCfg.timeout c), .int .i64 (SCfg.penalty c), .int .i64 (SCfg.last c)]), (.o 5, .flat [.int .i64 nd]), (.o 6, .flat [.fn (.func (44 : FuncId)) [] [.ptr (.o 1) 0 0 0 0, .ptr (.o 2) 0 0 0 0], .fn (.func (129 : FuncId)) [] [.sl (.o 0) 1 0 0 0 n none, V.abs 0 3]])] 7 []) (.exit 2) (St.mk [.any, .int .i64 ↑a, .int .i64 ↑b, .ptr (.o 6) 0 0 0 0, .any, .any, .int .i64 ↑i, .int .i64 ↑j, .any, .any, .any, .any, .any, .any, .any, .any, .any, .any, .any, .any, .any, .any, .any, .any, .any, .any, .any, .any, .any, .any, .any, .any, .any, .any, .any] [(.o 0, .rows 1 n (fun k => [.int .i64 (G k)]) true), (.o 1, .flat [.fn (.func (42 : FuncId)) [] [.ptr (.o 3) 0 0 0 0, .ptr (.o 4) 0 0 0 0, .ptr (.o 5) 0 0 0 0]]), (.o 2, .flat [.sl (.o 0) 1 0 0 0 n none]), (.o 3, .flat [.int .i64 e]), (.o 4, .flat [.int .i64 (SCfg.nodes c), .int .i64 (SCfg.clients c), .int .i64 (SCfg.window c), .int .i64 (SCfg.buckets c), .int .i64 (SCfg.cap c), .int .i64 (SCfg.slots c), .int .i64 (SCfg.requests c), .int .i64 (SCfg.timeout c), .int .i64 (SCfg.penalty c), .int .i64 (SCfg.last c)]), (.o 5, .flat [.int .i64 nd]), (.o 6, .flat [.fn (.func (44 : FuncId)) [] [.ptr (.o 1) 0 0 0 0, .ptr (.o 2) 0 0 0 0], .fn (.func (129 : FuncId)) [] [.sl (.o 0) 1 0 0 0 n none, V.abs 0 3]])] 7 []), q n, ∀ (k : Nat), k < n → [V.int IntKind.i64 (F k)] = [V.int IntKind.i64 (F k)], true = false → true = false, q0, q0, q0, q0, q0, q0, q0, q0, q0, q0, q0, q0, q n, (none : Option Nat) = none ∨ (none : Option Nat) = none, q e, q (SCfg.nodes c), q (SCfg.clients c), q (SCfg.window c), q (SCfg.buckets c), q (SCfg.cap c), q (SCfg.slots c), q (SCfg.requests c), q (SCfg.timeout c), q (SCfg.penalty c), q (SCfg.last c), q nd, q0, q0, q0, q0, q0, q0, q0, q0, q0, q n, (none : Option Nat) = none ∨ (none : Option Nat) = none, q (nat_lit 0), q (3 : Nat), q (↑a : Int), q (↑b : Int), q0, q0, q0, q (↑i : Int), q (↑i : Int), InR IntKind.i64 ((↑i : Int) + (1 : Int)), q n, ∀ (k : Nat), k < n → [V.int IntKind.i64 (G k)] = [V.int IntKind.i64 (G k)], true = false → true = false, q0, q0, q0, q0, q0, q0, q0, q0, q0, q0, q0, q0, q n, (none : Option Nat) = none ∨ (none : Option Nat) = none, q e, q (SCfg.nodes c), q (SCfg.clients c), q (SCfg.window c), q (SCfg.buckets c), q (SCfg.cap c), q (SCfg.slots c), q (SCfg.requests c), q (SCfg.timeout c), q (SCfg.penalty c), q (SCfg.last c), q nd, q0, q0, q0, q0, q0, q0, q0, q0, q0, q n, (none : Option Nat) = none ∨ (none : Option Nat) = none, q (nat_lit 0), q (3 : Nat), q (↑a : Int), q (↑b : Int), q0, q0, q0, (↑i : Int) + (1 : Int) = (↑(i + (1 : Nat)) : Int)]) : Option (Exit × St × List Prop)) := by kernel_rfl
theorem pcIo_p0 (c : SCfg) (e : Int) (nd : Int) (n : Nat) (a : Nat) (b : Nat) (i : Nat) (F : Nat → Int) (R : Nat) (j : Nat) (G : Nat → Int) :
  alongPc Try.prog (pcIo c e nd n a b i F R j G) [false] = (some (.exit 0, St.mk [.any, .int .i64 ↑a, .int .i64 ↑b, .ptr (.o 6) 0 0 0 0, .any, .any, .int .i64 ↑i, .any, .any, .any, .any, .any, .any, .any, .any, .any, .any, .any, .any, .any, .any, .any, .any, .any, .any, .any, .any, .any, .any, .any, .any, .any, .any, .any, .any] [(.o 0, .rows 1 n (fun k => [.int .i64 (F k)]) true), (.o 1, .flat [.fn (.func (42 : FuncId)) [] [.ptr (.o 3) 0 0 0 0, .ptr (.o 4) 0 0 0 0, .ptr (.o 5) 0 0 0 0]]), (.o 2, .flat [.sl (.o 0) 1 0 0 0 n none]), (.o 3, .flat [.int .i64 e]), (.o 4, .flat [.int .i64 (SCfg.nodes c), .int .i64 (SCfg.clients c), .int .i64 (SCfg.window c), .int .i64 (SCfg.buckets c), .int .i64 (SCfg.cap c), .int .i64 (SCfg.slots c), .int .i64 (SCfg.requests c), .int .i64 (SCfg.timeout c), .int .i64 (SCfg.penalty c), .int .i64 (SCfg.last c)]), (.o 5, .flat [.int .i64 nd]), (.o 6, .flat [.fn (.func (44 : FuncId)) [] [.ptr (.o 1) 0 0 0 0, .ptr (.o 2) 0 0 0 0], .fn (.func (129 : FuncId)) [] [.sl (.o 0) 1 0 0 0 n none, V.abs 0 3]])] 7 [], [decide ((↑i : Int) < (↑b : Int)) = false, q n, ∀ (k : Nat), k < n → [V.int IntKind.i64 (F k)] = [V.int IntKind.i64 (F k)], true = false → true = false, q0, q0, q0, q0, q0, q0, q0, q0, q0, q0, q0, q0, q n, (none : Option Nat) = none ∨ (none : Option Nat) = none, q e, q (SCfg.nodes c), q (SCfg.clients c), q (SCfg.window c), q (SCfg.buckets c), q (SCfg.cap c), q (SCfg.slots c), q (SCfg.requests c), q (SCfg.timeout c), q (SCfg.penalty c), q (SCfg.last c), q nd, q0, q0, q0, q0, q0, q0, q0, q0, q0, q n, (none : Option Nat) = none ∨ (none : Option Nat) = none, q (nat_lit 0), q (3 : Nat), q (↑a : Int), q (↑b : Int), q0, q0, q0, q (↑i : Int)]) : Option (Exit × St × List Prop)) := by kernel_rfl

theorem pcIi1_p11 (c : SCfg) (e : Int) (nd : Int) (n : Nat) (a : Nat) (b : Nat) (i : Nat) (j : Nat) (F : Nat → Int) (G : Nat → Int) :
  alongPc Try.prog (pcIi1 c e nd n a b i j F G) [true, true] = (some (.normal, St.mk [.any, .int .i64 ↑a, .int .i64 ↑b, .ptr (.o 6) 0 0 0 0, .any, .any, .int .i64 ↑i, .int .i64 (↑(j - 1) : Int), .any, .any, .any, .any, .any, .any, .any, .any, .any, .any, .any, .any, .any, .any, .any, .any, .any, .any, .any, .any, .any, .any, .any, .any, .any, .any, .any] [(.o 0, .rows 1 n (fun k => [.int .i64 (G k)]) true), (.o 1, .flat [.fn (.func (42 : FuncId)) [] [.ptr (.o 3) 0 0 0 0, .ptr (.o 4) 0 0 0 0, .ptr (.o 5) 0 0 0 0]]), (.o 2, .flat [.sl (.o 0) 1 0 0 0 n none]), (.o 3, .flat [.int .i64 e]), (.o 4, .flat [.int .i64 (SCfg.nodes c), .int .i64 (SCfg.clients c), .int .i64 (SCfg.window c), .int .i64 (SCfg.buckets c), .int .i64 (SCfg.cap c), .int .i64 (SCfg.slots c), .int .i64 (SCfg.requests c), .int .i64 (SCfg.timeout c), .int .i64 (SCfg.penalty c), .int .i64 (SCfg.last c)]), (.o 5, .flat [.int .i64 nd]), (.o 6, .flat [.fn (.func (44 : FuncId)) [] [.ptr (.o 1) 0 0 0 0, .ptr (.o 2) 0 0 0 0], .fn (.func (129 : FuncId)) [] [.sl (.o 0) 1 0 0 0 n none, V.abs 0 3]])] 7 [], [decide ((↑a : Int) < (↑j : Int)) = true, InR IntKind.i64 ((↑j : Int) - (1 : Int)), T Try.prog (44 : FuncId) [.int .i64 ↑j, .int .i64 ((↑j : Int) - (1 : Int)), .ptr (.o 1) 0 0 0 0, .ptr (.o 2) 0 0 0 0] [(.o 0, .rows 1 n (fun k => [.int .i64 (F k)]) true), (.o 1, .flat [.fn (.func (42 : FuncId)) [] [.ptr (.o 3) 0 0 0 0, .ptr (.o 4) 0 0 0 0, .ptr (.o 5) 0 0 0 0]]), (.o 2, .flat [.sl (.o 0) 1 0 0 0 n none]), (.o 3, .flat [.int .i64 e]), (.o 4, .flat [.int .i64 (SCfg.nodes c), .int .i64 (SCfg.clients c), .int .i64 (SCfg.window c), .int .i64 (SCfg.buckets c), .int .i64 (SCfg.cap c), .int .i64 (SCfg.slots c), .int .i64 (SCfg.requests c), .int .i64 (SCfg.timeout c), .int .i64 (SCfg.penalty c), .int .i64 (SCfg.last c)]), (.o 5, .flat [.int .i64 nd])] (.bool true) [(.o 0, .rows 1 n (fun k => [.int .i64 (F k)]) true), (.o 1, .flat [.fn (.func (42 : FuncId)) [] [.ptr (.o 3) 0 0 0 0, .ptr (.o 4) 0 0 0 0, .ptr (.o 5) 0 0 0 0]]), (.o 2, .flat [.sl (.o 0) 1 0 0 0 n none]), (.o 3, .flat [.int .i64 e]), (.o 4, .flat [.int .i64 (SCfg.nodes c), .int .i64 (SCfg.clients c), .int .i64 (SCfg.window c), .int .i64 (SCfg.buckets c), .int .i64 (SCfg.cap c), .int .i64 (SCfg.slots c), .int .i64 (SCfg.requests c), .int .i64 (SCfg.timeout c), .int .i64 (SCfg.penalty c), .int .i64 (SCfg.last c)]), (.o 5, .flat [.int .i64 nd])], q2, InR IntKind.i64 ((↑j : Int) - (1 : Int)), TV Try.prog (V.fn (Fn.func (129 : FuncId)) [] [V.sl (Nm.o (0 : Nat)) (1 : Nat) (0 : Nat) (0 : Nat) (0 : Nat) n none, V.abs (nat_lit 0) (3 : Nat)]) [V.int IntKind.i64 (↑j : Int), V.int IntKind.i64 ((↑j : Int) - (1 : Int))] [(Nm.o (0 : Nat), B.rows (1 : Nat) n (fun k => [V.int IntKind.i64 (F k)]) true)] (V.tup []) [(Nm.o (0 : Nat), B.rows (1 : Nat) n (fun k => [V.int IntKind.i64 (G k)]) true)], InR IntKind.i64 ((↑j : Int) - (1 : Int)), q n, ∀ (k : Nat), k < n → [V.int IntKind.i64 (G k)] = [V.int IntKind.i64 (G k)], true = false → true = false, q0, q0, q0, q0, q0, q0, q0, q0, q0, q0, q0, q0, q n, (none : Option Nat) = none ∨ (none : Option Nat) = none, q e, q (SCfg.nodes c), q (SCfg.clients c), q (SCfg.window c), q (SCfg.buckets c), q (SCfg.cap c), q (SCfg.slots c), q (SCfg.requests c), q (SCfg.timeout c), q (SCfg.penalty c), q (SCfg.last c), q nd, q0, q0, q0, q0, q0, q0, q0, q0, q0, q n, (none : Option Nat) = none ∨ (none : Option Nat) = none, q (nat_lit 0), q (3 : Nat), q (↑a : Int), q (↑b : Int), q0, q0, q0, q (↑i : Int), (↑j : Int) - (1 : Int) = (↑(j - (1 : Nat)) : Int)]) : Option (Exit × St × List Prop)) := by kernel_rfl

theorem pcIi0_p10 (c : SCfg) (e : Int) (nd : Int) (n : Nat) (a : Nat) (b : Nat) (i : Nat) (j : Nat) (F : Nat → Int) (x : Bool) :
  alongPc Try.prog (pcIi0 c e nd n a b i j F x) [true, false] = (some (.exit 2, St.mk [.any, .int .i64 ↑a, .int .i64 ↑b, .ptr (.o 6) 0 0 0 0, .any, .any, .int .i64 ↑i, .int .i64 ↑j, .any, .any, .any, .any, .any, .any, .any, .any, .any, .any, .any, .any, .any, .any, .any, .any, .any, .any, .any, .any, .any, .any, .any, .any, .any, .any, .any] [(.o 0, .rows 1 n (fun k => [.int .i64 (F k)]) true), (.o 1, .flat [.fn (.func (42 : FuncId)) [] [.ptr (.o 3) 0 0 0 0, .ptr (.o 4) 0 0 0 0, .ptr (.o 5) 0 0 0 0]]), (.o 2, .flat [.sl (.o 0) 1 0 0 0 n none]), (.o 3, .flat [.int .i64 e]), (.o 4, .flat [.int .i64 (SCfg.nodes c), .int .i64 (SCfg.clients c), .int .i64 (SCfg.window c), .int .i64 (SCfg.buckets c), .int .i64 (SCfg.cap c), .int .i64 (SCfg.slots c), .int .i64 (SCfg.requests c), .int .i64 (SCfg.timeout c), .int .i64 (SCfg.penalty c), .int .i64 (SCfg.last c)]), (.o 5, .flat [.int .i64 nd]), (.o 6, .flat [.fn (.func (44 : FuncId)) [] [.ptr (.o 1) 0 0 0 0, .ptr (.o 2) 0 0 0 0], .fn (.func (129 : FuncId)) [] [.sl (.o 0) 1 0 0 0 n none, V.abs 0 3]])] 7 [], [decide ((↑a : Int) < (↑j : Int)) = true, InR IntKind.i64 ((↑j : Int) - (1 : Int)), T Try.prog (44 : FuncId) [.int .i64 ↑j, .int .i64 ((↑j : Int) - (1 : Int)), .ptr (.o 1) 0 0 0 0, .ptr (.o 2) 0 0 0 0] [(.o 0, .rows 1 n (fun k => [.int .i64 (F k)]) true), (.o 1, .flat [.fn (.func (42 : FuncId)) [] [.ptr (.o 3) 0 0 0 0, .ptr (.o 4) 0 0 0 0, .ptr (.o 5) 0 0 0 0]]), (.o 2, .flat [.sl (.o 0) 1 0 0 0 n none]), (.o 3, .flat [.int .i64 e]), (.o 4, .flat [.int .i64 (SCfg.nodes c), .int .i64 (SCfg.clients c), .int .i64 (SCfg.window c), .int .i64 (SCfg.buckets c), .int .i64 (SCfg.cap c), .int .i64 (SCfg.slots c), .int .i64 (SCfg.requests c), .int .i64 (SCfg.timeout c), .int .i64 (SCfg.penalty c), .int .i64 (SCfg.last c)]), (.o 5, .flat [.int .i64 nd])] (.bool x) [(.o 0, .rows 1 n (fun k => [.int .i64 (F k)]) true), (.o 1, .flat [.fn (.func (42 : FuncId)) [] [.ptr (.o 3) 0 0 0 0, .ptr (.o 4) 0 0 0 0, .ptr (.o 5) 0 0 0 0]]), (.o 2, .flat [.sl (.o 0) 1 0 0 0 n none]), (.o 3, .flat [.int .i64 e]), (.o 4, .flat [.int .i64 (SCfg.nodes c), .int .i64 (SCfg.clients c), .int .i64 (SCfg.window c), .int .i64 (SCfg.buckets c), .int .i64 (SCfg.cap c), .int .i64 (SCfg.slots c), .int .i64 (SCfg.requests c), .int .i64 (SCfg.timeout c), .int .i64 (SCfg.penalty c), .int .i64 (SCfg.last c)]), (.o 5, .flat [.int .i64 nd])], x = false, q n, ∀ (k : Nat), k < n → [V.int IntKind.i64 (F k)] = [V.int IntKind.i64 (F k)], true = false → true = false, q0, q0, q0, q0, q0, q0, q0, q0, q0, q0, q0, q0, q n, (none : Option Nat) = none ∨ (none : Option Nat) = none, q e, q (SCfg.nodes c), q (SCfg.clients c), q (SCfg.window c), q (SCfg.buckets c), q (SCfg.cap c), q (SCfg.slots c), q (SCfg.requests c), q (SCfg.timeout c), q (SCfg.penalty c), q (SCfg.last c), q nd, q0, q0, q0, q0, q0, q0, q0, q0, q0, q n, (none : Option Nat) = none ∨ (none : Option Nat) = none, q (nat_lit 0), q (3 : Nat), q (↑a : Int), q (↑b : Int), q0, q0, q0, q (↑i : Int), q (↑j : Int)]) : Option (Exit × St × List Prop)) := by kernel_rfl

theorem pcIi0_p00 (c : SCfg) (e : Int) (nd : Int) (n : Nat) (a : Nat) (b : Nat) (i : Nat) (j : Nat) (F : Nat → Int) (x : Bool) :
  alongPc Try.prog (pcIi0 c e nd n a b i j F x) [false, false] = (some (.exit 2, St.mk [.any, .int .i64 ↑a, .int .i64 ↑b, .ptr (.o 6) 0 0 0 0, .any, .any, .int .i64 ↑i, .int .i64 ↑j, .any, .any, .any, .any, .any, .any, .any, .any, .any, .any, .any, .any, .any, .any, .any, .any, .any, .any, .any, .any, .any, .any, .any, .any, .any, .any, .any] [(.o 0, .rows 1 n (fun k => [.int .i64 (F k)]) true), (.o 1, .flat [.fn (.func (42 : FuncId)) [] [.ptr (.o 3) 0 0 0 0, .ptr (.o 4) 0 0 0 0, .ptr (.o 5) 0 0 0 0]]), (.o 2, .flat [.sl (.o 0) 1 0 0 0 n none]), (.o 3, .flat [.int .i64 e]), (.o 4, .flat [.int .i64 (SCfg.nodes c), .int .i64 (SCfg.clients c), .int .i64 (SCfg.window c), .int .i64 (SCfg.buckets c), .int .i64 (SCfg.cap c), .int .i64 (SCfg.slots c), .int .i64 (SCfg.requests c), .int .i64 (SCfg.timeout c), .int .i64 (SCfg.penalty c), .int .i64 (SCfg.last c)]), (.o 5, .flat [.int .i64 nd]), (.o 6, .flat [.fn (.func (44 : FuncId)) [] [.ptr (.o 1) 0 0 0 0, .ptr (.o 2) 0 0 0 0], .fn (.func (129 : FuncId)) [] [.sl (.o 0) 1 0 0 0 n none, V.abs 0 3]])] 7 [], [decide ((↑a : Int) < (↑j : Int)) = false, q false, q n, ∀ (k : Nat), k < n → [V.int IntKind.i64 (F k)] = [V.int IntKind.i64 (F k)], true = false → true = false, q0, q0, q0, q0, q0, q0, q0, q0, q0, q0, q0, q0, q n, (none : Option Nat) = none ∨ (none : Option Nat) = none, q e, q (SCfg.nodes c), q (SCfg.clients c), q (SCfg.window c), q (SCfg.buckets c), q (SCfg.cap c), q (SCfg.slots c), q (SCfg.requests c), q (SCfg.timeout c), q (SCfg.penalty c), q (SCfg.last c), q nd, q0, q0, q0, q0, q0, q0, q0, q0, q0, q n, (none : Option Nat) = none ∨ (none : Option Nat) = none, q (nat_lit 0), q (3 : Nat), q (↑a : Int), q (↑b : Int), q0, q0, q0, q (↑i : Int), q (↑j : Int)]) : Option (Exit × St × List Prop)) := by kernel_rfl

theorem G0_eq : Try.prog.globals.size = G0 := rfl
theorem hx129 : ∀ zs w, (callFunc 129 zs).run Try.prog w = ((Extern.ReflectliteSwapper.swap true zs).run Try.prog w).andThen fun v w' => .ok (.value v) w' :=
 fun zs w => run_callFunc_extern Try.func129 (by kernel_rfl) (by kernel_rfl) (by kernel_rfl) (e := Extern.ReflectliteSwapper.swap true) (by kernel_rfl) zs w
theorem intInfo : ∃ ie, Try.prog.info? 3 = some ie ∧ ie.size = 1 ∧ ie.hasPointers = false ∧ ie.bytes = 8 := ⟨(Try.prog.info? 3).get (by kernel_rfl), by kernel_rfl, by kernel_rfl, by kernel_rfl, by kernel_rfl⟩
theorem intAgg (w : World) : (isAgg 3).run Try.prog w = .ok false w := by
 have h : Try.prog.underlying 3 = some (.int .i64) := Try.underlying3
 simp [isAgg, Go.underlying, h, Result.andThen]
theorem T_swp {n i j : Nat} (hi : i < n) (hj : j < n) (F G : Nat → Int) (hG : ∀ k, G k = swF F i j k) : TV Try.prog (swV n) [.int .i64 i, .int .i64 j] [(.o 0, rwB n F)] (.tup []) [(.o 0, rwB n G)] := by
 obtain ⟨ie, h1, h2, _⟩ := intInfo
 have := TV_swap (P := Try.prog) hx129 h1 h2 intAgg (q := 0) hi hj F none
 rw [show G = swF F i j from funext hG]
 exact this
theorem T_on (c : SCfg) {e nd x : Int} (h1 : 0 ≤ x + e) (h2 : x + e ≤ 1000000000) (h3 : 0 < c.nodes) : T Try.prog 42 [.int .i64 x, .ptr (.o 3) 0 0 0 0, .ptr (.o 4) 0 0 0 0, .ptr (.o 5) 0 0 0 0] [(.o 3, .flat [.int .i64 e]), (.o 4, .flat c.c), (.o 5, .flat [.int .i64 nd])] (.bool (ownB c e nd x)) [(.o 3, .flat [.int .i64 e]), (.o 4, .flat c.c), (.o 5, .flat [.int .i64 nd])] := by
 refine T_al (bdOn_p c e nd x) Try.func42 ?_
 simp only [All, All_append, bdLe_c]; and_intros
 all_goals first
  | omega
  | (simp only [IntKind.min, IntKind.max, IntKind.signed, IntKind.bits, if_true]; omega)
  | trivial
/-- What is asked of the numbers that are sorted. -/
structure OkF (c : SCfg) (e : Int) (n : Nat) (F : Nat → Int) : Prop where
 lo : ∀ k, k < n → 0 ≤ F k
 hi : ∀ k, k < n → F k ≤ 1000
 e0 : 0 ≤ e
 e1 : e ≤ 2000000
 nd : 0 < c.nodes
 n : n ≤ 1000
theorem T_le {c : SCfg} {e : Int} (nd : Int) {n : Nat} {F : Nat → Int} (h : OkF c e n F) {i j : Nat} (hi : i < n) (hj : j < n) : T Try.prog 44 [.int .i64 i, .int .i64 j, .ptr (.o 1) 0 0 0 0, .ptr (.o 2) 0 0 0 0] (hpS c e nd n F) (.bool (ownB c e nd (F i) && !ownB c e nd (F j))) (hpS c e nd n F) := by
 have hI := T_on c (e := e) (nd := nd) (x := F i) (by have := h.lo i hi; have := h.e0; omega) (by have := h.hi i hi; have := h.e1; omega) h.nd
 have hJ := T_on c (e := e) (nd := nd) (x := F j) (by have := h.lo j hj; have := h.e0; omega) (by have := h.hi j hj; have := h.e1; omega) h.nd
 cases hx : ownB c e nd (F i) with
 | false =>
  rw [hx] at hI
  refine T.val (T_al (bdLe_p0 c e nd n F i j false false) Try.func44 ?_) rfl
  simp only [All, All_append, bdLe_c, Int.toNat_natCast, Nat.zero_add]; and_intros
  all_goals first
   | exact hI
   | omega
   | rfl
   | trivial
 | true =>
  rw [hx] at hI
  refine T.val (T_al (bdLe_p1 c e nd n F i j true (ownB c e nd (F j))) Try.func44 ?_) (by simp)
  simp only [All, All_append, bdLe_c, Int.toNat_natCast, Nat.zero_add]; and_intros
  all_goals first
   | exact hI
   | exact hJ
   | omega
   | rfl
   | trivial
theorem T_s1 {n a b : Nat} (hn : n ≤ 1000) (ha : a < n) (hb : b < n) (F G : Nat → Int) (hG : ∀ k, G k = swF F a b k) : T Try.prog 143 [.agg (dtC n), .int .i64 a, .int .i64 b, .int .i64 1] [(.o 0, rwB n F)] (.tup []) [(.o 0, rwB n G)] := by
 have hS := T_swp ha hb F G hG
 refine T_al (bdS1_p10 n F G a b) Try.func143 ?_
 simp only [All, All_append, bdLe_c, Int.add_zero]; and_intros
 all_goals first
  | exact hS
  | omega
  | with_reducible rfl
  | decide
  | (simp only [IntKind.min, IntKind.max, IntKind.signed, IntKind.bits, if_true]; omega)
  | trivial
/-- One element in front of a stretch. -/
def mvF (F : Nat → Int) (a p : Nat) : Nat → Int := fun t => if t = a then F p else if a < t ∧ t ≤ p then F (t - 1) else F t
theorem T_rt {n a m : Nat} (hn : n ≤ 1000) (ha : a < m) (hm : m < n) (F : Nat → Int) : T Try.prog 142 [.agg (dtC n), .int .i64 a, .int .i64 m, .int .i64 (m + 1 : Nat)] [(.o 0, rwB n F)] (.tup []) [(.o 0, rwB n (mvF F a m))] := by
 have step : ∀ k, a + k < m → ∀ t, rtF F a m (k + 1) t = swF (rtF F a m k) (a + k) m t := fun k hk t => by
  unfold swF rtF
  repeat' split
  all_goals first
   | omega
   | rfl
   | (congr 1; omega)
 have hstep : ∀ k, k < m - a - 1 → R Try.prog none 6 (cB (cB (cL (cR (cR (cR (bodyOf Try.f142))))))) (rtI n F a m k) .normal (rtI n F a m (k + 1)) := fun k hk => by
  have hT := T_s1 hn (a := a + k) (b := m) (by omega) hm (rtF F a m k) (rtF F a m (k + 1)) (step k (by omega))
  have e1 : ((a + k : Nat) : Int) = (m : Int) - ((m - a - k : Nat) : Int) := by omega
  rw [e1] at hT
  refine R_alongPc NG MO _ (pcRt_p11 n F a m k) ?_ (by show 6 ≤ 7; decide)
  simp only [All, All_append, bdLe_c]; and_intros
  all_goals first
   | exact hT
   | exact neg_f' (decide_eq_false (by omega))
   | (rw [decide_eq_true_eq]; omega)
   | omega
   | with_reducible rfl
   | (intro _ _; rfl)
   | (intro _ _; trivial)
   | (intro h; exact h)
   | exact .inl rfl
   | (simp only [IntKind.min, IntKind.max, IntKind.signed, IntKind.bits, if_true]; omega)
   | trivial
 have hend : R Try.prog none 6 (cB (cB (cL (cR (cR (cR (bodyOf Try.f142))))))) (rtI n F a m (m - a - 1)) (.exit 0) (rtI n F a m (m - a - 1)) := by
  refine R_alongPc NG MO _ (pcRt_p0 n F a m (m - a - 1)) ?_ (by show 6 ≤ 7; decide)
  simp only [All, All_append, bdLe_c]; and_intros
  all_goals first
   | exact neg_t (decide_eq_true (by omega))
   | omega
   | with_reducible rfl
   | (intro _ _; rfl)
   | (intro _ _; trivial)
   | (intro h; exact h)
   | exact .inl rfl
   | trivial
 have hL := RLoop.inv (rtI n F a m) (m - a - 1) hstep hend (by simp)
 rw [show m - a - 1 + 1 = m - a by omega] at hL
 have hT := T_s1 hn (a := m - 1) (b := m) (by omega) hm (rtF F a m (m - a - 1)) (mvF F a m) (fun t => by
  unfold mvF swF rtF
  repeat' split
  all_goals first
   | omega
   | rfl
   | (congr 1; omega))
 have e1 : ((m - 1 : Nat) : Int) = (m : Int) - ((m - a - (m - a - 1) : Nat) : Int) := by omega
 have e2 : (1 : Int) = ((m - a - (m - a - 1) : Nat) : Int) := by omega
 rw [e1, e2] at hT
 refine T_al (bdRt_p n F (mvF F a m) a m) Try.func142 ?_
 simp only [All, All_append, bdLe_c]; and_intros
 all_goals first
  | exact hL
  | exact hT
  | omega
  | with_reducible rfl
  | (intro t ht; congr 2; unfold rtF; rw [if_neg (by omega)]; split
     · subst_vars; simp
     · rfl)
  | (intro _ _; rfl)
  | (intro _ _; trivial)
  | (intro h; exact h)
  | exact .inl rfl
  | (simp only [IntKind.min, IntKind.max, IntKind.signed, IntKind.bits, if_true]; omega)
  | trivial
/-- At most one of them is its own, at this place (behind the end: none). -/
def OneAt (c : SCfg) (e nd : Int) (n : Nat) (F : Nat → Int) (q : Nat) : Prop := ∀ k, k < n → (ownB c e nd (F k) = true ↔ k = q)
theorem OkF.mv {c : SCfg} {e : Int} {n : Nat} {F : Nat → Int} (h : OkF c e n F) {a q : Nat} (hq : q < n) : OkF c e n (mvF F a q) := by
 refine ⟨fun k hk => ?_, fun k hk => ?_, h.e0, h.e1, h.nd, h.n⟩
 ·unfold mvF; repeat' split
  ·exact h.lo _ hq
  ·exact h.lo _ (by omega)
  ·exact h.lo _ hk
 ·unfold mvF; repeat' split
  ·exact h.hi _ hq
  ·exact h.hi _ (by omega)
  ·exact h.hi _ hk
theorem OneAt.mv {c : SCfg} {e nd : Int} {n : Nat} {F : Nat → Int} {q : Nat} (h : OneAt c e nd n F q) {a : Nat} (ha : a ≤ q) (hq : q < n) : OneAt c e nd n (mvF F a q) a := by
 intro k hk
 unfold mvF
 repeat' split
 ·rename_i h1; exact ⟨fun _ => h1, fun _ => (h q hq).2 rfl⟩
 ·rename_i h1 h2; rw [h (k - 1) (by omega)]; omega
 ·rename_i h1 h2; rw [h k hk]; omega
theorem mvF_self (F : Nat → Int) (a : Nat) : mvF F a a = F := by
 funext t; unfold mvF; repeat' split
 ·subst_vars; rfl
 ·omega
 ·rfl
/-- Where it lies behind an insertion. -/
def insA (a b q : Nat) : Nat := if a ≤ q ∧ q < b then a else q
theorem T_is {c : SCfg} {e : Int} (nd : Int) {n a b q : Nat} {F : Nat → Int} (h : OkF c e n F) (ho : OneAt c e nd n F q) (hab : a ≤ b) (hb : b ≤ n) :
  T Try.prog 134 [.agg (dtC n), .int .i64 a, .int .i64 b] (hpS c e nd n F) (.tup []) (hpS c e nd n (mvF F (insA a b q) q)) := by
 have hn := h.n
 -- so far
 obtain ⟨Fi, hFi⟩ : ∃ Fi : Nat → Nat → Int, Fi = fun i => mvF F (insA a i q) q := ⟨_, rfl⟩
 have inner0 : ∀ i, a < i → i < b → (i ≠ q ∨ q < a) → RLoop Try.prog none 6 (cB (cB (cR (cB (cL (cR isC)))))) 1 (isI c e nd n a b i i (Fi i)) (.exit 2) (isI c e nd n a b i i (Fi i)) := fun i h1 h2 h3 => by
  have hok : OkF c e n (Fi i) := by
   rw [hFi]
   by_cases hq : q < n
   ·exact h.mv hq
   ·have : insA a i q = q := by unfold insA; rw [if_neg (by omega)]
    simp only [this, mvF_self]; exact h
  have hT := T_le nd hok (i := i) (j := i - 1) (by omega) (by omega)
  have hx : ownB c e nd (Fi i i) = false := by
   rw [hFi]
   refine Bool.eq_false_iff.mpr fun hh => ?_
   simp only [mvF, insA] at hh
   split at hh
   ·rename_i g
    rw [if_neg (by omega), if_neg (by omega)] at hh
    have := (ho i (by omega)).1 hh; omega
   ·rename_i g
    by_cases e1 : i = q
    ·subst e1; rcases h3 with h3 | h3
     ·exact h3 rfl
     ·omega
    ·rw [if_neg e1, if_neg (by omega)] at hh
     exact e1 ((ho i (by omega)).1 hh)
  rw [hx, Bool.false_and] at hT
  rw [show ((i - 1 : Nat) : Int) = (i : Int) - 1 by omega] at hT
  refine RLoop.out (R_alongPc NG MO _ (pcIi0_p10 c e nd n a b i i (Fi i) false) ?_ (by show 6 ≤ 7; decide)) (by simp)
  simp only [All, All_append, bdLe_c]; and_intros
  all_goals first
   | exact hT
   | (rw [decide_eq_true_eq]; omega)
   | (rw [decide_eq_false_iff_not]; omega)
   | omega
   | with_reducible rfl
   | (intro _ _; rfl)
   | (intro _ _; trivial)
   | (intro h; exact h)
   | exact .inl rfl
   | (simp only [IntKind.min, IntKind.max, IntKind.signed, IntKind.bits, if_true]; omega)
   | trivial
 have innerQ : a < q → q < b → ∃ R, RLoop Try.prog none 6 (cB (cB (cR (cB (cL (cR isC)))))) R (isI c e nd n a b q q F) (.exit 2) (isI c e nd n a b q a (mvF F a q)) := fun h1 h2 => by
  have key : ∀ d, a + d ≤ q → ∃ R, RLoop Try.prog none 6 (cB (cB (cR (cB (cL (cR isC)))))) R (isI c e nd n a b q (a + d) (mvF F (a + d) q)) (.exit 2) (isI c e nd n a b q a (mvF F a q)) := by
   intro d
   induction d with
   | zero =>
    intro _
    refine ⟨1, RLoop.out (R_alongPc NG MO _ (pcIi0_p00 c e nd n a b q a (mvF F a q) false) ?_ (by show 6 ≤ 7; decide)) (by simp)⟩
    simp only [All, All_append, bdLe_c]; and_intros
    all_goals first
     | (rw [decide_eq_true_eq]; omega)
     | (rw [decide_eq_false_iff_not]; omega)
     | omega
     | with_reducible rfl
     | (intro _ _; rfl)
     | (intro _ _; trivial)
     | (intro h; exact h)
     | exact .inl rfl
     | (simp only [IntKind.min, IntKind.max, IntKind.signed, IntKind.bits, if_true]; omega)
     | trivial
   | succ d ih =>
    intro hd
    obtain ⟨R, hR⟩ := ih (by omega)
    have hok := h.mv (a := a + (d + 1)) (q := q) (by omega)
    have hone := ho.mv (a := a + (d + 1)) (by omega) (by omega)
    have hT := T_le nd hok (i := a + (d + 1)) (j := a + d) (by omega) (by omega)
    rw [(hone _ (by omega)).2 rfl, show ownB c e nd (mvF F (a + (d + 1)) q (a + d)) = false from Bool.eq_false_iff.mpr fun hh => by have := (hone _ (by omega)).1 hh; omega] at hT
    have hS := T_swp (n := n) (i := a + (d + 1)) (j := a + d) (by omega) (by omega) (mvF F (a + (d + 1)) q) (mvF F (a + d) q) (fun t => by
     unfold swF mvF
     repeat' split
     all_goals first
      | omega
      | rfl
      | (congr 1; omega))
    rw [show ((a + d : Nat) : Int) = ((a + (d + 1) : Nat) : Int) - 1 by omega] at hT hS
    refine ⟨R + 1, RLoop.step (R_alongPc NG MO _ (pcIi1_p11 c e nd n a b q (a + (d + 1)) (mvF F (a + (d + 1)) q) (mvF F (a + d) q)) ?_ (by show 6 ≤ 7; decide)) hR⟩
    simp only [All, All_append, bdLe_c]; and_intros
    all_goals first
     | exact hT
     | exact hS
     | (rw [decide_eq_true_eq]; omega)
     | (rw [decide_eq_false_iff_not]; omega)
     | omega
     | with_reducible rfl
     | (intro _ _; rfl)
     | (intro _ _; trivial)
     | (intro h; exact h)
     | exact .inl rfl
     | (simp only [IntKind.min, IntKind.max, IntKind.signed, IntKind.bits, if_true]; omega)
     | trivial
  have := key (q - a) (by omega)
  rw [show a + (q - a) = q by omega, mvF_self] at this
  exact this
 have step : ∀ i, a < i → i < b → R Try.prog none 6 isC (isO c e nd n a b i (Fi i)) .normal (isO c e nd n a b (i + 1) (Fi (i + 1))) := fun i h1 h2 => by
  by_cases hiq : i = q
  ·subst hiq
   obtain ⟨R, hL⟩ := innerQ h1 h2
   have e1 : Fi i = F := by rw [hFi]; simp only [insA]; rw [if_neg (by omega), mvF_self]
   have e2 : Fi (i + 1) = mvF F a i := by rw [hFi]; simp only [insA]; rw [if_pos (by omega)]
   rw [e1, e2]
   refine R_alongPc NG MO _ (pcIo_p1 c e nd n a b i F R a (mvF F a i)) ?_ (by show 6 ≤ 7; decide)
   simp only [All, All_append, bdLe_c]; and_intros
   all_goals first
    | exact hL
    | (rw [decide_eq_true_eq]; omega)
    | (rw [decide_eq_false_iff_not]; omega)
    | omega
    | with_reducible rfl
    | (intro _ _; rfl)
    | (intro _ _; trivial)
    | (intro h; exact h)
    | exact .inl rfl
    | (simp only [IntKind.min, IntKind.max, IntKind.signed, IntKind.bits, if_true]; omega)
    | trivial
  ·have hL := inner0 i h1 h2 (.inl hiq)
   have e2 : Fi (i + 1) = Fi i := by
    rw [hFi]; simp only [insA]
    by_cases g : a ≤ q ∧ q < i
    ·rw [if_pos g, if_pos (by omega)]
    ·rw [if_neg g, if_neg (by omega)]
   rw [e2]
   refine R_alongPc NG MO _ (pcIo_p1 c e nd n a b i (Fi i) 1 i (Fi i)) ?_ (by show 6 ≤ 7; decide)
   simp only [All, All_append, bdLe_c]; and_intros
   all_goals first
    | exact hL
    | (rw [decide_eq_true_eq]; omega)
    | (rw [decide_eq_false_iff_not]; omega)
    | omega
    | with_reducible rfl
    | (intro _ _; rfl)
    | (intro _ _; trivial)
    | (intro h; exact h)
    | exact .inl rfl
    | (simp only [IntKind.min, IntKind.max, IntKind.signed, IntKind.bits, if_true]; omega)
    | trivial
 have out : ∀ i, b ≤ i → R Try.prog none 6 isC (isO c e nd n a b i (Fi i)) (.exit 0) (isO c e nd n a b i (Fi i)) := fun i h1 => by
  refine R_alongPc NG MO _ (pcIo_p0 c e nd n a b i (Fi i) 0 0 (Fi i)) ?_ (by show 6 ≤ 7; decide)
  simp only [All, All_append, bdLe_c]; and_intros
  all_goals first
   | (rw [decide_eq_true_eq]; omega)
   | (rw [decide_eq_false_iff_not]; omega)
   | omega
   | with_reducible rfl
   | (intro _ _; rfl)
   | (intro _ _; trivial)
   | (intro h; exact h)
   | exact .inl rfl
   | (simp only [IntKind.min, IntKind.max, IntKind.signed, IntKind.bits, if_true]; omega)
   | trivial
 have f0 : Fi (a + 1) = F := by
  rw [hFi]; simp only [insA]
  split
  ·have : q = a := by omega
   rw [this, mvF_self]
  ·rw [mvF_self]
 have loop : ∃ R x, RLoop Try.prog none 6 isC R (isO c e nd n a b (a + 1) F) (.exit 0) (isO c e nd n a b x (mvF F (insA a b q) q)) := by
  by_cases hl : b ≤ a + 1
  ·refine ⟨1, a + 1, ?_⟩
   have e1 : mvF F (insA a b q) q = Fi (a + 1) := by
    rw [f0]; simp only [insA]
    split
    ·have : q = a := by omega
     rw [this, mvF_self]
    ·rw [mvF_self]
   have := out (a + 1) hl
   rw [e1, ← f0]
   rw [f0] at this ⊢
   exact RLoop.out this (by simp)
  ·have := RLoop.inv (P := Try.prog) (ro := none) (p := 6) (c := isC) (e := .exit 0) (st1 := isO c e nd n a b b (Fi b)) (fun k => isO c e nd n a b (a + 1 + k) (Fi (a + 1 + k))) (b - (a + 1)) (fun k hk => step (a + 1 + k) (by omega) (by omega)) (by
    have := out b (Nat.le_refl _)
    rwa [show a + 1 + (b - (a + 1)) = b by omega]) (by simp)
   refine ⟨b - (a + 1) + 1, b, ?_⟩
   rw [Nat.add_zero, f0] at this
   rw [hFi] at this
   exact this
 obtain ⟨R, x, hL⟩ := loop
 refine T_al (bdIs_p c e nd n a b F R x (mvF F (insA a b q) q)) Try.func134 ?_
 simp only [All, All_append, bdLe_c]; and_intros
 all_goals first
  | exact hL
  | (rw [decide_eq_true_eq]; omega)
  | (rw [decide_eq_false_iff_not]; omega)
  | omega
  | with_reducible rfl
  | (intro _ _; rfl)
  | (intro _ _; trivial)
  | (intro h; exact h)
  | exact .inl rfl
  | (simp only [IntKind.min, IntKind.max, IntKind.signed, IntKind.bits, if_true]; omega)
  | trivial
end Go.Proofs.Ythifjamdfpjilaa
namespace Go.Proofs.Ythifjamdfpjilaa
open Go Sy Go.Proofs
/-- Loops of a search by halves; i and j lie in two temporaries. -/
noncomputable def smS0 (c : SCfg) (e nd : Int) (n a m b : Nat) (F : Nat → Int) (i j : Nat) : St := ⟨mkT 177 [(1, .int .i64 a), (2, .int .i64 m), (3, .int .i64 b), (4, .ptr (.o 6) 0 0 0 0), (8, .int .i64 i), (9, .int .i64 j)], hp6 c e nd n F, 7, []⟩
noncomputable def smS4 (c : SCfg) (e nd : Int) (n a m b : Nat) (F : Nat → Int) (i j : Nat) : St := ⟨mkT 177 [(1, .int .i64 a), (2, .int .i64 m), (3, .int .i64 b), (4, .ptr (.o 6) 0 0 0 0), (12, .int .i64 i), (13, .int .i64 j)], hp6 c e nd n F, 7, []⟩
noncomputable def smS6 (c : SCfg) (e nd : Int) (n a m b : Nat) (z k : Nat) (F : Nat → Int) : St := ⟨mkT 177 [(1, .int .i64 a), (2, .int .i64 m), (3, .int .i64 b), (4, .ptr (.o 6) 0 0 0 0), (12, .int .i64 z), (15, .int .i64 k)], hp6 c e nd n F, 7, []⟩
noncomputable def smS8 (c : SCfg) (e nd : Int) (n a m b d : Nat) (F : Nat → Int) (i j : Nat) : St := ⟨mkT 177 [(1, .int .i64 a), (2, .int .i64 m), (3, .int .i64 b), (4, .ptr (.o 6) 0 0 0 0), (16, .int .i64 d), (17, .int .i64 (d + m : Nat)), (18, .int .i64 i), (19, .int .i64 j), (20, .int .i64 (d + m - 1 : Nat))], hp6 c e nd n F, 7, []⟩
noncomputable def bdMa (c : SCfg) (e nd : Int) (n a m b : Nat) (F G : Nat → Int) (R z : Nat) : Bd := { f := Try.f135, args := [.agg (dtC n), .int .i64 a, .int .i64 m, .int .i64 b], pre := hpS c e nd n F, base := 6, kb := { db := dbQ [(129, cSw n G)], lp := fun id t => bif Nat.beq id 0 then [(True, .loop R (wToS [(.o 6, nmV (getV t.tmps 4))] (smS0 c e nd n a m b F m b)) (.exit 0) (smS0 c e nd n a m b F z z))] else [(True, .rounds 3)] }, names := fun _ => nm6 }
noncomputable def bdMb (c : SCfg) (e nd : Int) (n a m b : Nat) (F G : Nat → Int) (R z R6 : Nat) : Bd := { f := Try.f135, args := [.agg (dtC n), .int .i64 a, .int .i64 m, .int .i64 b], pre := hpS c e nd n F, base := 6, kb := { db := fun _ _ _ _ => [], lp := fun id t => bif Nat.beq id 4 then [(True, .loop R (wToS [(.o 6, nmV (getV t.tmps 4))] (smS4 c e nd n a m b F a m)) (.exit 4) (smS4 c e nd n a m b F z z))] else [(True, .loop R6 (wToS [(.o 6, nmV (getV t.tmps 4))] (smS6 c e nd n a m b z m F)) (.exit 6) (smS6 c e nd n a m b z z G))] }, names := fun _ => nm6 }
noncomputable def bdMg (c : SCfg) (e nd : Int) (n a m b d i j : Nat) (F G1 G2 G3 : Nat → Int) (R z : Nat) : Bd := { f := Try.f135, args := [.agg (dtC n), .int .i64 a, .int .i64 m, .int .i64 b], pre := hpS c e nd n F, base := 6, kb := { db := dbQ [(142, cSr n G1), (135, fun _ _ lo => bif Nat.blt lo 2400 then [{ pre := nm6, val := .tup [], post := hpS c e nd n G2 }] else [{ pre := nm6, val := .tup [], post := hpS c e nd n G3 }])], lp := fun id t => [(True, .loop R (wToS [(.o 6, nmV (getV t.tmps 4))] (smS8 c e nd n a m b d F i j)) (.exit 8) (smS8 c e nd n a m b d F z z))] }, names := fun _ => nm6 }
noncomputable def smB : Code := bodyOf Try.f135
noncomputable def pcM0 (c : SCfg) (e nd : Int) (n a m b : Nat) (F : Nat → Int) (i j : Nat) (x : Bool) (i' j' : Nat) : Pc := { c := cB (cB (cL (cR (cR (cT (cR (cL (cR smB)))))))), st := smS0 c e nd n a m b F i j, p := 6, kb := { db := dbQ [(44, cLs c e nd n F x)] }, k := fun x_ _ => match x_ with
 | .normal => some (wTo (smS0 c e nd n a m b F i' j'))
 | _ => some (wTo (smS0 c e nd n a m b F i j)) }
noncomputable def pcM4 (c : SCfg) (e nd : Int) (n a m b : Nat) (F : Nat → Int) (i j : Nat) (x : Bool) (i' j' : Nat) : Pc := { c := cB (cB (cL (cR (cR (cT (cR (cL (cR (cR smB))))))))), st := smS4 c e nd n a m b F i j, p := 6, kb := { db := dbQ [(44, cLs c e nd n F x)] }, k := fun x_ _ => match x_ with
 | .normal => some (wTo (smS4 c e nd n a m b F i' j'))
 | _ => some (wTo (smS4 c e nd n a m b F i j)) }
noncomputable def pcM8 (c : SCfg) (e nd : Int) (n a m b d : Nat) (F : Nat → Int) (i j : Nat) (x : Bool) (i' j' : Nat) : Pc := { c := cB (cB (cL (cR (cR (cR (cR (cR (cR (cR (cR smB)))))))))), st := smS8 c e nd n a m b d F i j, p := 6, kb := { db := dbQ [(44, cLs c e nd n F x)] }, k := fun x_ _ => match x_ with
 | .normal => some (wTo (smS8 c e nd n a m b d F i' j'))
 | _ => some (wTo (smS8 c e nd n a m b d F i j)) }
noncomputable def pcM6 (c : SCfg) (e nd : Int) (n a m b z k : Nat) (F G : Nat → Int) : Pc := { c := cB (cB (cR (cL (cR (cR (cR (cT (cR (cL (cR (cR smB))))))))))), st := smS6 c e nd n a m b z k F, p := 6, kb := { db := dbQ [(129, cSw n G)] }, k := fun x_ _ => match x_ with
 | .normal => some (wTo (smS6 c e nd n a m b z (k - 1) G))
 | _ => some (wTo (smS6 c e nd n a m b z k F)) }
end Go.Proofs.Ythifjamdfpjilaa
