/-
  Contracts and laws that the claim's theorem leans on, joined out of the texts La7 La8D La8 La9D La9 Lc0D Lc0 Lc1D (own work of this seat): Contracts: the library's stable sort of at most 64 numbers; Contracts: sort.SliceStable of at most 64 numbers; the buckets of a node; Contracts: sort.SliceStable of at most 64 numbers; the buckets of a node; Contracts: a config of the law's own; that it lives; Contracts: a config of the law's own; that it lives; Contract: the law LeadersFew; Contract: the law LeadersFew; Contract: the law LeadersBack.
-/
import Derived.Test.YthifjamdfpjilaaC07
set_option linter.unusedVariables false
set_option linter.unusedSimpArgs false
set_option maxHeartbeats 1000000
namespace Go.Proofs.Ythifjamdfpjilaa
open Go Sy Go.Proofs
noncomputable def bdSt_c (c : SCfg) (e : Int) (nd : Int) (n : Nat) (F : Nat → Int) (G : Nat → Nat → Int) : Nat → List Prop
 | 0 => [decide ((20 : Int) ≤ (↑n : Int)) = true, T Try.prog 134 [.agg [.fn (.func (44 : FuncId)) [] [.ptr (.o 1) 0 0 0 0, .ptr (.o 2) 0 0 0 0], .fn (.func (129 : FuncId)) [] [.sl (.o 0) 1 0 0 0 n none, V.abs 0 3]], .int .i64 0, .int .i64 20] [(.o 0, .rows 1 n (fun k => [.int .i64 (F k)]) true), (.o 1, .flat [.fn (.func (42 : FuncId)) [] [.ptr (.o 3) 0 0 0 0, .ptr (.o 4) 0 0 0 0, .ptr (.o 5) 0 0 0 0]]), (.o 2, .flat [.sl (.o 0) 1 0 0 0 n none]), (.o 3, .flat [.int .i64 e]), (.o 4, .flat [.int .i64 (SCfg.nodes c), .int .i64 (SCfg.clients c), .int .i64 (SCfg.window c), .int .i64 (SCfg.buckets c), .int .i64 (SCfg.cap c), .int .i64 (SCfg.slots c), .int .i64 (SCfg.requests c), .int .i64 (SCfg.timeout c), .int .i64 (SCfg.penalty c), .int .i64 (SCfg.last c)]), (.o 5, .flat [.int .i64 nd])] (.tup []) [(.o 0, .rows 1 n (fun k => [.int .i64 (G 710 k)]) true), (.o 1, .flat [.fn (.func (42 : FuncId)) [] [.ptr (.o 3) 0 0 0 0, .ptr (.o 4) 0 0 0 0, .ptr (.o 5) 0 0 0 0]]), (.o 2, .flat [.sl (.o 0) 1 0 0 0 n none]), (.o 3, .flat [.int .i64 e]), (.o 4, .flat [.int .i64 (SCfg.nodes c), .int .i64 (SCfg.clients c), .int .i64 (SCfg.window c), .int .i64 (SCfg.buckets c), .int .i64 (SCfg.cap c), .int .i64 (SCfg.slots c), .int .i64 (SCfg.requests c), .int .i64 (SCfg.timeout c), .int .i64 (SCfg.penalty c), .int .i64 (SCfg.last c)]), (.o 5, .flat [.int .i64 nd])], InR IntKind.i64 (40 : Int)]
 | 1 => [decide ((40 : Int) ≤ (↑n : Int)) = false, T Try.prog 134 [.agg [.fn (.func (44 : FuncId)) [] [.ptr (.o 1) 0 0 0 0, .ptr (.o 2) 0 0 0 0], .fn (.func (129 : FuncId)) [] [.sl (.o 0) 1 0 0 0 n none, V.abs 0 3]], .int .i64 20, .int .i64 ↑n] [(.o 0, .rows 1 n (fun k => [.int .i64 (G 710 k)]) true), (.o 1, .flat [.fn (.func (42 : FuncId)) [] [.ptr (.o 3) 0 0 0 0, .ptr (.o 4) 0 0 0 0, .ptr (.o 5) 0 0 0 0]]), (.o 2, .flat [.sl (.o 0) 1 0 0 0 n none]), (.o 3, .flat [.int .i64 e]), (.o 4, .flat [.int .i64 (SCfg.nodes c), .int .i64 (SCfg.clients c), .int .i64 (SCfg.window c), .int .i64 (SCfg.buckets c), .int .i64 (SCfg.cap c), .int .i64 (SCfg.slots c), .int .i64 (SCfg.requests c), .int .i64 (SCfg.timeout c), .int .i64 (SCfg.penalty c), .int .i64 (SCfg.last c)]), (.o 5, .flat [.int .i64 nd])] (.tup []) [(.o 0, .rows 1 n (fun k => [.int .i64 (G 1542 k)]) true), (.o 1, .flat [.fn (.func (42 : FuncId)) [] [.ptr (.o 3) 0 0 0 0, .ptr (.o 4) 0 0 0 0, .ptr (.o 5) 0 0 0 0]]), (.o 2, .flat [.sl (.o 0) 1 0 0 0 n none]), (.o 3, .flat [.int .i64 e]), (.o 4, .flat [.int .i64 (SCfg.nodes c), .int .i64 (SCfg.clients c), .int .i64 (SCfg.window c), .int .i64 (SCfg.buckets c), .int .i64 (SCfg.cap c), .int .i64 (SCfg.slots c), .int .i64 (SCfg.requests c), .int .i64 (SCfg.timeout c), .int .i64 (SCfg.penalty c), .int .i64 (SCfg.last c)]), (.o 5, .flat [.int .i64 nd])]]
 | 2 => [decide ((40 : Int) ≤ (↑n : Int)) = true, T Try.prog 134 [.agg [.fn (.func (44 : FuncId)) [] [.ptr (.o 1) 0 0 0 0, .ptr (.o 2) 0 0 0 0], .fn (.func (129 : FuncId)) [] [.sl (.o 0) 1 0 0 0 n none, V.abs 0 3]], .int .i64 20, .int .i64 40] [(.o 0, .rows 1 n (fun k => [.int .i64 (G 710 k)]) true), (.o 1, .flat [.fn (.func (42 : FuncId)) [] [.ptr (.o 3) 0 0 0 0, .ptr (.o 4) 0 0 0 0, .ptr (.o 5) 0 0 0 0]]), (.o 2, .flat [.sl (.o 0) 1 0 0 0 n none]), (.o 3, .flat [.int .i64 e]), (.o 4, .flat [.int .i64 (SCfg.nodes c), .int .i64 (SCfg.clients c), .int .i64 (SCfg.window c), .int .i64 (SCfg.buckets c), .int .i64 (SCfg.cap c), .int .i64 (SCfg.slots c), .int .i64 (SCfg.requests c), .int .i64 (SCfg.timeout c), .int .i64 (SCfg.penalty c), .int .i64 (SCfg.last c)]), (.o 5, .flat [.int .i64 nd])] (.tup []) [(.o 0, .rows 1 n (fun k => [.int .i64 (G 1542 k)]) true), (.o 1, .flat [.fn (.func (42 : FuncId)) [] [.ptr (.o 3) 0 0 0 0, .ptr (.o 4) 0 0 0 0, .ptr (.o 5) 0 0 0 0]]), (.o 2, .flat [.sl (.o 0) 1 0 0 0 n none]), (.o 3, .flat [.int .i64 e]), (.o 4, .flat [.int .i64 (SCfg.nodes c), .int .i64 (SCfg.clients c), .int .i64 (SCfg.window c), .int .i64 (SCfg.buckets c), .int .i64 (SCfg.cap c), .int .i64 (SCfg.slots c), .int .i64 (SCfg.requests c), .int .i64 (SCfg.timeout c), .int .i64 (SCfg.penalty c), .int .i64 (SCfg.last c)]), (.o 5, .flat [.int .i64 nd])], InR IntKind.i64 (60 : Int)]
 | 3 => [decide ((60 : Int) ≤ (↑n : Int)) = false, T Try.prog 134 [.agg [.fn (.func (44 : FuncId)) [] [.ptr (.o 1) 0 0 0 0, .ptr (.o 2) 0 0 0 0], .fn (.func (129 : FuncId)) [] [.sl (.o 0) 1 0 0 0 n none, V.abs 0 3]], .int .i64 40, .int .i64 ↑n] [(.o 0, .rows 1 n (fun k => [.int .i64 (G 1542 k)]) true), (.o 1, .flat [.fn (.func (42 : FuncId)) [] [.ptr (.o 3) 0 0 0 0, .ptr (.o 4) 0 0 0 0, .ptr (.o 5) 0 0 0 0]]), (.o 2, .flat [.sl (.o 0) 1 0 0 0 n none]), (.o 3, .flat [.int .i64 e]), (.o 4, .flat [.int .i64 (SCfg.nodes c), .int .i64 (SCfg.clients c), .int .i64 (SCfg.window c), .int .i64 (SCfg.buckets c), .int .i64 (SCfg.cap c), .int .i64 (SCfg.slots c), .int .i64 (SCfg.requests c), .int .i64 (SCfg.timeout c), .int .i64 (SCfg.penalty c), .int .i64 (SCfg.last c)]), (.o 5, .flat [.int .i64 nd])] (.tup []) [(.o 0, .rows 1 n (fun k => [.int .i64 (G 2374 k)]) true), (.o 1, .flat [.fn (.func (42 : FuncId)) [] [.ptr (.o 3) 0 0 0 0, .ptr (.o 4) 0 0 0 0, .ptr (.o 5) 0 0 0 0]]), (.o 2, .flat [.sl (.o 0) 1 0 0 0 n none]), (.o 3, .flat [.int .i64 e]), (.o 4, .flat [.int .i64 (SCfg.nodes c), .int .i64 (SCfg.clients c), .int .i64 (SCfg.window c), .int .i64 (SCfg.buckets c), .int .i64 (SCfg.cap c), .int .i64 (SCfg.slots c), .int .i64 (SCfg.requests c), .int .i64 (SCfg.timeout c), .int .i64 (SCfg.penalty c), .int .i64 (SCfg.last c)]), (.o 5, .flat [.int .i64 nd])], decide ((20 : Int) < (↑n : Int)) = true, InR IntKind.i64 (40 : Int), decide ((40 : Int) ≤ (↑n : Int)) = true, InR IntKind.i64 (20 : Int), T Try.prog 135 [.agg [.fn (.func (44 : FuncId)) [] [.ptr (.o 1) 0 0 0 0, .ptr (.o 2) 0 0 0 0], .fn (.func (129 : FuncId)) [] [.sl (.o 0) 1 0 0 0 n none, V.abs 0 3]], .int .i64 0, .int .i64 20, .int .i64 40] [(.o 0, .rows 1 n (fun k => [.int .i64 (G 2374 k)]) true), (.o 1, .flat [.fn (.func (42 : FuncId)) [] [.ptr (.o 3) 0 0 0 0, .ptr (.o 4) 0 0 0 0, .ptr (.o 5) 0 0 0 0]]), (.o 2, .flat [.sl (.o 0) 1 0 0 0 n none]), (.o 3, .flat [.int .i64 e]), (.o 4, .flat [.int .i64 (SCfg.nodes c), .int .i64 (SCfg.clients c), .int .i64 (SCfg.window c), .int .i64 (SCfg.buckets c), .int .i64 (SCfg.cap c), .int .i64 (SCfg.slots c), .int .i64 (SCfg.requests c), .int .i64 (SCfg.timeout c), .int .i64 (SCfg.penalty c), .int .i64 (SCfg.last c)]), (.o 5, .flat [.int .i64 nd])] (.tup []) [(.o 0, .rows 1 n (fun k => [.int .i64 (G 3462 k)]) true), (.o 1, .flat [.fn (.func (42 : FuncId)) [] [.ptr (.o 3) 0 0 0 0, .ptr (.o 4) 0 0 0 0, .ptr (.o 5) 0 0 0 0]]), (.o 2, .flat [.sl (.o 0) 1 0 0 0 n none]), (.o 3, .flat [.int .i64 e]), (.o 4, .flat [.int .i64 (SCfg.nodes c), .int .i64 (SCfg.clients c), .int .i64 (SCfg.window c), .int .i64 (SCfg.buckets c), .int .i64 (SCfg.cap c), .int .i64 (SCfg.slots c), .int .i64 (SCfg.requests c), .int .i64 (SCfg.timeout c), .int .i64 (SCfg.penalty c), .int .i64 (SCfg.last c)]), (.o 5, .flat [.int .i64 nd])], InR IntKind.i64 (40 : Int), InR IntKind.i64 (80 : Int), decide ((80 : Int) ≤ (↑n : Int)) = false, InR IntKind.i64 (60 : Int), decide ((60 : Int) < (↑n : Int)) = false, InR IntKind.i64 (40 : Int)]
 | 4 => [decide ((60 : Int) ≤ (↑n : Int)) = true, T Try.prog 134 [.agg [.fn (.func (44 : FuncId)) [] [.ptr (.o 1) 0 0 0 0, .ptr (.o 2) 0 0 0 0], .fn (.func (129 : FuncId)) [] [.sl (.o 0) 1 0 0 0 n none, V.abs 0 3]], .int .i64 40, .int .i64 60] [(.o 0, .rows 1 n (fun k => [.int .i64 (G 1542 k)]) true), (.o 1, .flat [.fn (.func (42 : FuncId)) [] [.ptr (.o 3) 0 0 0 0, .ptr (.o 4) 0 0 0 0, .ptr (.o 5) 0 0 0 0]]), (.o 2, .flat [.sl (.o 0) 1 0 0 0 n none]), (.o 3, .flat [.int .i64 e]), (.o 4, .flat [.int .i64 (SCfg.nodes c), .int .i64 (SCfg.clients c), .int .i64 (SCfg.window c), .int .i64 (SCfg.buckets c), .int .i64 (SCfg.cap c), .int .i64 (SCfg.slots c), .int .i64 (SCfg.requests c), .int .i64 (SCfg.timeout c), .int .i64 (SCfg.penalty c), .int .i64 (SCfg.last c)]), (.o 5, .flat [.int .i64 nd])] (.tup []) [(.o 0, .rows 1 n (fun k => [.int .i64 (G 2374 k)]) true), (.o 1, .flat [.fn (.func (42 : FuncId)) [] [.ptr (.o 3) 0 0 0 0, .ptr (.o 4) 0 0 0 0, .ptr (.o 5) 0 0 0 0]]), (.o 2, .flat [.sl (.o 0) 1 0 0 0 n none]), (.o 3, .flat [.int .i64 e]), (.o 4, .flat [.int .i64 (SCfg.nodes c), .int .i64 (SCfg.clients c), .int .i64 (SCfg.window c), .int .i64 (SCfg.buckets c), .int .i64 (SCfg.cap c), .int .i64 (SCfg.slots c), .int .i64 (SCfg.requests c), .int .i64 (SCfg.timeout c), .int .i64 (SCfg.penalty c), .int .i64 (SCfg.last c)]), (.o 5, .flat [.int .i64 nd])], InR IntKind.i64 (80 : Int), decide ((80 : Int) ≤ (↑n : Int)) = false, T Try.prog 134 [.agg [.fn (.func (44 : FuncId)) [] [.ptr (.o 1) 0 0 0 0, .ptr (.o 2) 0 0 0 0], .fn (.func (129 : FuncId)) [] [.sl (.o 0) 1 0 0 0 n none, V.abs 0 3]], .int .i64 60, .int .i64 ↑n] [(.o 0, .rows 1 n (fun k => [.int .i64 (G 2374 k)]) true), (.o 1, .flat [.fn (.func (42 : FuncId)) [] [.ptr (.o 3) 0 0 0 0, .ptr (.o 4) 0 0 0 0, .ptr (.o 5) 0 0 0 0]]), (.o 2, .flat [.sl (.o 0) 1 0 0 0 n none]), (.o 3, .flat [.int .i64 e]), (.o 4, .flat [.int .i64 (SCfg.nodes c), .int .i64 (SCfg.clients c), .int .i64 (SCfg.window c), .int .i64 (SCfg.buckets c), .int .i64 (SCfg.cap c), .int .i64 (SCfg.slots c), .int .i64 (SCfg.requests c), .int .i64 (SCfg.timeout c), .int .i64 (SCfg.penalty c), .int .i64 (SCfg.last c)]), (.o 5, .flat [.int .i64 nd])] (.tup []) [(.o 0, .rows 1 n (fun k => [.int .i64 (G 3206 k)]) true), (.o 1, .flat [.fn (.func (42 : FuncId)) [] [.ptr (.o 3) 0 0 0 0, .ptr (.o 4) 0 0 0 0, .ptr (.o 5) 0 0 0 0]]), (.o 2, .flat [.sl (.o 0) 1 0 0 0 n none]), (.o 3, .flat [.int .i64 e]), (.o 4, .flat [.int .i64 (SCfg.nodes c), .int .i64 (SCfg.clients c), .int .i64 (SCfg.window c), .int .i64 (SCfg.buckets c), .int .i64 (SCfg.cap c), .int .i64 (SCfg.slots c), .int .i64 (SCfg.requests c), .int .i64 (SCfg.timeout c), .int .i64 (SCfg.penalty c), .int .i64 (SCfg.last c)]), (.o 5, .flat [.int .i64 nd])], decide ((20 : Int) < (↑n : Int)) = true, InR IntKind.i64 (40 : Int), decide ((40 : Int) ≤ (↑n : Int)) = true, InR IntKind.i64 (20 : Int), T Try.prog 135 [.agg [.fn (.func (44 : FuncId)) [] [.ptr (.o 1) 0 0 0 0, .ptr (.o 2) 0 0 0 0], .fn (.func (129 : FuncId)) [] [.sl (.o 0) 1 0 0 0 n none, V.abs 0 3]], .int .i64 0, .int .i64 20, .int .i64 40] [(.o 0, .rows 1 n (fun k => [.int .i64 (G 3206 k)]) true), (.o 1, .flat [.fn (.func (42 : FuncId)) [] [.ptr (.o 3) 0 0 0 0, .ptr (.o 4) 0 0 0 0, .ptr (.o 5) 0 0 0 0]]), (.o 2, .flat [.sl (.o 0) 1 0 0 0 n none]), (.o 3, .flat [.int .i64 e]), (.o 4, .flat [.int .i64 (SCfg.nodes c), .int .i64 (SCfg.clients c), .int .i64 (SCfg.window c), .int .i64 (SCfg.buckets c), .int .i64 (SCfg.cap c), .int .i64 (SCfg.slots c), .int .i64 (SCfg.requests c), .int .i64 (SCfg.timeout c), .int .i64 (SCfg.penalty c), .int .i64 (SCfg.last c)]), (.o 5, .flat [.int .i64 nd])] (.tup []) [(.o 0, .rows 1 n (fun k => [.int .i64 (G 4294 k)]) true), (.o 1, .flat [.fn (.func (42 : FuncId)) [] [.ptr (.o 3) 0 0 0 0, .ptr (.o 4) 0 0 0 0, .ptr (.o 5) 0 0 0 0]]), (.o 2, .flat [.sl (.o 0) 1 0 0 0 n none]), (.o 3, .flat [.int .i64 e]), (.o 4, .flat [.int .i64 (SCfg.nodes c), .int .i64 (SCfg.clients c), .int .i64 (SCfg.window c), .int .i64 (SCfg.buckets c), .int .i64 (SCfg.cap c), .int .i64 (SCfg.slots c), .int .i64 (SCfg.requests c), .int .i64 (SCfg.timeout c), .int .i64 (SCfg.penalty c), .int .i64 (SCfg.last c)]), (.o 5, .flat [.int .i64 nd])], InR IntKind.i64 (40 : Int), InR IntKind.i64 (80 : Int), decide ((80 : Int) ≤ (↑n : Int)) = false, InR IntKind.i64 (60 : Int)]
 | _ => []
theorem bdSt_p00 (c : SCfg) (e : Int) (nd : Int) (n : Nat) (F : Nat → Int) (G : Nat → Nat → Int) :
 along Try.prog (bdSt c e nd n F G) [false, false] = (some (.tup [], [(.o 0, .rows 1 n (fun k => [.int .i64 (G 710 k)]) true), (.o 1, .flat [.fn (.func (42 : FuncId)) [] [.ptr (.o 3) 0 0 0 0, .ptr (.o 4) 0 0 0 0, .ptr (.o 5) 0 0 0 0]]), (.o 2, .flat [.sl (.o 0) 1 0 0 0 n none]), (.o 3, .flat [.int .i64 e]), (.o 4, .flat [.int .i64 (SCfg.nodes c), .int .i64 (SCfg.clients c), .int .i64 (SCfg.window c), .int .i64 (SCfg.buckets c), .int .i64 (SCfg.cap c), .int .i64 (SCfg.slots c), .int .i64 (SCfg.requests c), .int .i64 (SCfg.timeout c), .int .i64 (SCfg.penalty c), .int .i64 (SCfg.last c)]), (.o 5, .flat [.int .i64 nd])], [decide ((20 : Int) ≤ (↑n : Int)) = false, T Try.prog 134 [.agg [.fn (.func (44 : FuncId)) [] [.ptr (.o 1) 0 0 0 0, .ptr (.o 2) 0 0 0 0], .fn (.func (129 : FuncId)) [] [.sl (.o 0) 1 0 0 0 n none, V.abs 0 3]], .int .i64 0, .int .i64 ↑n] [(.o 0, .rows 1 n (fun k => [.int .i64 (F k)]) true), (.o 1, .flat [.fn (.func (42 : FuncId)) [] [.ptr (.o 3) 0 0 0 0, .ptr (.o 4) 0 0 0 0, .ptr (.o 5) 0 0 0 0]]), (.o 2, .flat [.sl (.o 0) 1 0 0 0 n none]), (.o 3, .flat [.int .i64 e]), (.o 4, .flat [.int .i64 (SCfg.nodes c), .int .i64 (SCfg.clients c), .int .i64 (SCfg.window c), .int .i64 (SCfg.buckets c), .int .i64 (SCfg.cap c), .int .i64 (SCfg.slots c), .int .i64 (SCfg.requests c), .int .i64 (SCfg.timeout c), .int .i64 (SCfg.penalty c), .int .i64 (SCfg.last c)]), (.o 5, .flat [.int .i64 nd])] (.tup []) [(.o 0, .rows 1 n (fun k => [.int .i64 (G 710 k)]) true), (.o 1, .flat [.fn (.func (42 : FuncId)) [] [.ptr (.o 3) 0 0 0 0, .ptr (.o 4) 0 0 0 0, .ptr (.o 5) 0 0 0 0]]), (.o 2, .flat [.sl (.o 0) 1 0 0 0 n none]), (.o 3, .flat [.int .i64 e]), (.o 4, .flat [.int .i64 (SCfg.nodes c), .int .i64 (SCfg.clients c), .int .i64 (SCfg.window c), .int .i64 (SCfg.buckets c), .int .i64 (SCfg.cap c), .int .i64 (SCfg.slots c), .int .i64 (SCfg.requests c), .int .i64 (SCfg.timeout c), .int .i64 (SCfg.penalty c), .int .i64 (SCfg.last c)]), (.o 5, .flat [.int .i64 nd])], decide ((20 : Int) < (↑n : Int)) = false]) : Option (V × Heap × List Prop)) := by kernel_rfl

theorem bdSt_p100 (c : SCfg) (e : Int) (nd : Int) (n : Nat) (F : Nat → Int) (G : Nat → Nat → Int) :
 along Try.prog (bdSt c e nd n F G) [true, false, false] = (some (.tup [], [(.o 0, .rows 1 n (fun k => [.int .i64 (G 1542 k)]) true), (.o 1, .flat [.fn (.func (42 : FuncId)) [] [.ptr (.o 3) 0 0 0 0, .ptr (.o 4) 0 0 0 0, .ptr (.o 5) 0 0 0 0]]), (.o 2, .flat [.sl (.o 0) 1 0 0 0 n none]), (.o 3, .flat [.int .i64 e]), (.o 4, .flat [.int .i64 (SCfg.nodes c), .int .i64 (SCfg.clients c), .int .i64 (SCfg.window c), .int .i64 (SCfg.buckets c), .int .i64 (SCfg.cap c), .int .i64 (SCfg.slots c), .int .i64 (SCfg.requests c), .int .i64 (SCfg.timeout c), .int .i64 (SCfg.penalty c), .int .i64 (SCfg.last c)]), (.o 5, .flat [.int .i64 nd])], bdSt_c c e nd n F G 0 ++ (bdSt_c c e nd n F G 1 ++ [decide ((20 : Int) < (↑n : Int)) = false])) : Option (V × Heap × List Prop)) := by kernel_rfl

theorem bdSt_p101010 (c : SCfg) (e : Int) (nd : Int) (n : Nat) (F : Nat → Int) (G : Nat → Nat → Int) :
 along Try.prog (bdSt c e nd n F G) [true, false, true, false, true, false] = (some (.tup [], [(.o 0, .rows 1 n (fun k => [.int .i64 (G 2950 k)]) true), (.o 1, .flat [.fn (.func (42 : FuncId)) [] [.ptr (.o 3) 0 0 0 0, .ptr (.o 4) 0 0 0 0, .ptr (.o 5) 0 0 0 0]]), (.o 2, .flat [.sl (.o 0) 1 0 0 0 n none]), (.o 3, .flat [.int .i64 e]), (.o 4, .flat [.int .i64 (SCfg.nodes c), .int .i64 (SCfg.clients c), .int .i64 (SCfg.window c), .int .i64 (SCfg.buckets c), .int .i64 (SCfg.cap c), .int .i64 (SCfg.slots c), .int .i64 (SCfg.requests c), .int .i64 (SCfg.timeout c), .int .i64 (SCfg.penalty c), .int .i64 (SCfg.last c)]), (.o 5, .flat [.int .i64 nd])], bdSt_c c e nd n F G 0 ++ (bdSt_c c e nd n F G 1 ++ [decide ((20 : Int) < (↑n : Int)) = true, InR IntKind.i64 (40 : Int), decide ((40 : Int) ≤ (↑n : Int)) = false, InR IntKind.i64 (20 : Int), decide ((20 : Int) < (↑n : Int)) = true, T Try.prog 135 [.agg [.fn (.func (44 : FuncId)) [] [.ptr (.o 1) 0 0 0 0, .ptr (.o 2) 0 0 0 0], .fn (.func (129 : FuncId)) [] [.sl (.o 0) 1 0 0 0 n none, V.abs 0 3]], .int .i64 0, .int .i64 20, .int .i64 ↑n] [(.o 0, .rows 1 n (fun k => [.int .i64 (G 1542 k)]) true), (.o 1, .flat [.fn (.func (42 : FuncId)) [] [.ptr (.o 3) 0 0 0 0, .ptr (.o 4) 0 0 0 0, .ptr (.o 5) 0 0 0 0]]), (.o 2, .flat [.sl (.o 0) 1 0 0 0 n none]), (.o 3, .flat [.int .i64 e]), (.o 4, .flat [.int .i64 (SCfg.nodes c), .int .i64 (SCfg.clients c), .int .i64 (SCfg.window c), .int .i64 (SCfg.buckets c), .int .i64 (SCfg.cap c), .int .i64 (SCfg.slots c), .int .i64 (SCfg.requests c), .int .i64 (SCfg.timeout c), .int .i64 (SCfg.penalty c), .int .i64 (SCfg.last c)]), (.o 5, .flat [.int .i64 nd])] (.tup []) [(.o 0, .rows 1 n (fun k => [.int .i64 (G 2950 k)]) true), (.o 1, .flat [.fn (.func (42 : FuncId)) [] [.ptr (.o 3) 0 0 0 0, .ptr (.o 4) 0 0 0 0, .ptr (.o 5) 0 0 0 0]]), (.o 2, .flat [.sl (.o 0) 1 0 0 0 n none]), (.o 3, .flat [.int .i64 e]), (.o 4, .flat [.int .i64 (SCfg.nodes c), .int .i64 (SCfg.clients c), .int .i64 (SCfg.window c), .int .i64 (SCfg.buckets c), .int .i64 (SCfg.cap c), .int .i64 (SCfg.slots c), .int .i64 (SCfg.requests c), .int .i64 (SCfg.timeout c), .int .i64 (SCfg.penalty c), .int .i64 (SCfg.last c)]), (.o 5, .flat [.int .i64 nd])], InR IntKind.i64 (40 : Int), decide ((40 : Int) < (↑n : Int)) = false])) : Option (V × Heap × List Prop)) := by kernel_rfl

theorem bdSt_p11011000 (c : SCfg) (e : Int) (nd : Int) (n : Nat) (F : Nat → Int) (G : Nat → Nat → Int) :
 along Try.prog (bdSt c e nd n F G) [true, true, false, true, true, false, false, false] = (some (.tup [], [(.o 0, .rows 1 n (fun k => [.int .i64 (G 3462 k)]) true), (.o 1, .flat [.fn (.func (42 : FuncId)) [] [.ptr (.o 3) 0 0 0 0, .ptr (.o 4) 0 0 0 0, .ptr (.o 5) 0 0 0 0]]), (.o 2, .flat [.sl (.o 0) 1 0 0 0 n none]), (.o 3, .flat [.int .i64 e]), (.o 4, .flat [.int .i64 (SCfg.nodes c), .int .i64 (SCfg.clients c), .int .i64 (SCfg.window c), .int .i64 (SCfg.buckets c), .int .i64 (SCfg.cap c), .int .i64 (SCfg.slots c), .int .i64 (SCfg.requests c), .int .i64 (SCfg.timeout c), .int .i64 (SCfg.penalty c), .int .i64 (SCfg.last c)]), (.o 5, .flat [.int .i64 nd])], bdSt_c c e nd n F G 0 ++ (bdSt_c c e nd n F G 2 ++ (bdSt_c c e nd n F G 3 ++ [decide ((40 : Int) < (↑n : Int)) = false]))) : Option (V × Heap × List Prop)) := by kernel_rfl

theorem bdSt_p11011001010 (c : SCfg) (e : Int) (nd : Int) (n : Nat) (F : Nat → Int) (G : Nat → Nat → Int) :
 along Try.prog (bdSt c e nd n F G) [true, true, false, true, true, false, false, true, false, true, false] = (some (.tup [], [(.o 0, .rows 1 n (fun k => [.int .i64 (G 6150 k)]) true), (.o 1, .flat [.fn (.func (42 : FuncId)) [] [.ptr (.o 3) 0 0 0 0, .ptr (.o 4) 0 0 0 0, .ptr (.o 5) 0 0 0 0]]), (.o 2, .flat [.sl (.o 0) 1 0 0 0 n none]), (.o 3, .flat [.int .i64 e]), (.o 4, .flat [.int .i64 (SCfg.nodes c), .int .i64 (SCfg.clients c), .int .i64 (SCfg.window c), .int .i64 (SCfg.buckets c), .int .i64 (SCfg.cap c), .int .i64 (SCfg.slots c), .int .i64 (SCfg.requests c), .int .i64 (SCfg.timeout c), .int .i64 (SCfg.penalty c), .int .i64 (SCfg.last c)]), (.o 5, .flat [.int .i64 nd])], bdSt_c c e nd n F G 0 ++ (bdSt_c c e nd n F G 2 ++ (bdSt_c c e nd n F G 3 ++ [decide ((40 : Int) < (↑n : Int)) = true, InR IntKind.i64 (80 : Int), decide ((80 : Int) ≤ (↑n : Int)) = false, InR IntKind.i64 (40 : Int), decide ((40 : Int) < (↑n : Int)) = true, T Try.prog 135 [.agg [.fn (.func (44 : FuncId)) [] [.ptr (.o 1) 0 0 0 0, .ptr (.o 2) 0 0 0 0], .fn (.func (129 : FuncId)) [] [.sl (.o 0) 1 0 0 0 n none, V.abs 0 3]], .int .i64 0, .int .i64 40, .int .i64 ↑n] [(.o 0, .rows 1 n (fun k => [.int .i64 (G 3462 k)]) true), (.o 1, .flat [.fn (.func (42 : FuncId)) [] [.ptr (.o 3) 0 0 0 0, .ptr (.o 4) 0 0 0 0, .ptr (.o 5) 0 0 0 0]]), (.o 2, .flat [.sl (.o 0) 1 0 0 0 n none]), (.o 3, .flat [.int .i64 e]), (.o 4, .flat [.int .i64 (SCfg.nodes c), .int .i64 (SCfg.clients c), .int .i64 (SCfg.window c), .int .i64 (SCfg.buckets c), .int .i64 (SCfg.cap c), .int .i64 (SCfg.slots c), .int .i64 (SCfg.requests c), .int .i64 (SCfg.timeout c), .int .i64 (SCfg.penalty c), .int .i64 (SCfg.last c)]), (.o 5, .flat [.int .i64 nd])] (.tup []) [(.o 0, .rows 1 n (fun k => [.int .i64 (G 6150 k)]) true), (.o 1, .flat [.fn (.func (42 : FuncId)) [] [.ptr (.o 3) 0 0 0 0, .ptr (.o 4) 0 0 0 0, .ptr (.o 5) 0 0 0 0]]), (.o 2, .flat [.sl (.o 0) 1 0 0 0 n none]), (.o 3, .flat [.int .i64 e]), (.o 4, .flat [.int .i64 (SCfg.nodes c), .int .i64 (SCfg.clients c), .int .i64 (SCfg.window c), .int .i64 (SCfg.buckets c), .int .i64 (SCfg.cap c), .int .i64 (SCfg.slots c), .int .i64 (SCfg.requests c), .int .i64 (SCfg.timeout c), .int .i64 (SCfg.penalty c), .int .i64 (SCfg.last c)]), (.o 5, .flat [.int .i64 nd])], InR IntKind.i64 (80 : Int), decide ((80 : Int) < (↑n : Int)) = false]))) : Option (V × Heap × List Prop)) := by kernel_rfl

theorem bdSt_p111011001010 (c : SCfg) (e : Int) (nd : Int) (n : Nat) (F : Nat → Int) (G : Nat → Nat → Int) :
 along Try.prog (bdSt c e nd n F G) [true, true, true, false, true, true, false, false, true, false, true, false] = (some (.tup [], [(.o 0, .rows 1 n (fun k => [.int .i64 (G 6982 k)]) true), (.o 1, .flat [.fn (.func (42 : FuncId)) [] [.ptr (.o 3) 0 0 0 0, .ptr (.o 4) 0 0 0 0, .ptr (.o 5) 0 0 0 0]]), (.o 2, .flat [.sl (.o 0) 1 0 0 0 n none]), (.o 3, .flat [.int .i64 e]), (.o 4, .flat [.int .i64 (SCfg.nodes c), .int .i64 (SCfg.clients c), .int .i64 (SCfg.window c), .int .i64 (SCfg.buckets c), .int .i64 (SCfg.cap c), .int .i64 (SCfg.slots c), .int .i64 (SCfg.requests c), .int .i64 (SCfg.timeout c), .int .i64 (SCfg.penalty c), .int .i64 (SCfg.last c)]), (.o 5, .flat [.int .i64 nd])], bdSt_c c e nd n F G 0 ++ (bdSt_c c e nd n F G 2 ++ (bdSt_c c e nd n F G 4 ++ [decide ((60 : Int) < (↑n : Int)) = false, InR IntKind.i64 (40 : Int), decide ((40 : Int) < (↑n : Int)) = true, InR IntKind.i64 (80 : Int), decide ((80 : Int) ≤ (↑n : Int)) = false, InR IntKind.i64 (40 : Int), decide ((40 : Int) < (↑n : Int)) = true, T Try.prog 135 [.agg [.fn (.func (44 : FuncId)) [] [.ptr (.o 1) 0 0 0 0, .ptr (.o 2) 0 0 0 0], .fn (.func (129 : FuncId)) [] [.sl (.o 0) 1 0 0 0 n none, V.abs 0 3]], .int .i64 0, .int .i64 40, .int .i64 ↑n] [(.o 0, .rows 1 n (fun k => [.int .i64 (G 4294 k)]) true), (.o 1, .flat [.fn (.func (42 : FuncId)) [] [.ptr (.o 3) 0 0 0 0, .ptr (.o 4) 0 0 0 0, .ptr (.o 5) 0 0 0 0]]), (.o 2, .flat [.sl (.o 0) 1 0 0 0 n none]), (.o 3, .flat [.int .i64 e]), (.o 4, .flat [.int .i64 (SCfg.nodes c), .int .i64 (SCfg.clients c), .int .i64 (SCfg.window c), .int .i64 (SCfg.buckets c), .int .i64 (SCfg.cap c), .int .i64 (SCfg.slots c), .int .i64 (SCfg.requests c), .int .i64 (SCfg.timeout c), .int .i64 (SCfg.penalty c), .int .i64 (SCfg.last c)]), (.o 5, .flat [.int .i64 nd])] (.tup []) [(.o 0, .rows 1 n (fun k => [.int .i64 (G 6982 k)]) true), (.o 1, .flat [.fn (.func (42 : FuncId)) [] [.ptr (.o 3) 0 0 0 0, .ptr (.o 4) 0 0 0 0, .ptr (.o 5) 0 0 0 0]]), (.o 2, .flat [.sl (.o 0) 1 0 0 0 n none]), (.o 3, .flat [.int .i64 e]), (.o 4, .flat [.int .i64 (SCfg.nodes c), .int .i64 (SCfg.clients c), .int .i64 (SCfg.window c), .int .i64 (SCfg.buckets c), .int .i64 (SCfg.cap c), .int .i64 (SCfg.slots c), .int .i64 (SCfg.requests c), .int .i64 (SCfg.timeout c), .int .i64 (SCfg.penalty c), .int .i64 (SCfg.last c)]), (.o 5, .flat [.int .i64 nd])], InR IntKind.i64 (80 : Int), decide ((80 : Int) < (↑n : Int)) = false]))) : Option (V × Heap × List Prop)) := by kernel_rfl

theorem bdSt_p111011011010 (c : SCfg) (e : Int) (nd : Int) (n : Nat) (F : Nat → Int) (G : Nat → Nat → Int) :
 along Try.prog (bdSt c e nd n F G) [true, true, true, false, true, true, false, true, true, false, true, false] = (some (.tup [], [(.o 0, .rows 1 n (fun k => [.int .i64 (G 7302 k)]) true), (.o 1, .flat [.fn (.func (42 : FuncId)) [] [.ptr (.o 3) 0 0 0 0, .ptr (.o 4) 0 0 0 0, .ptr (.o 5) 0 0 0 0]]), (.o 2, .flat [.sl (.o 0) 1 0 0 0 n none]), (.o 3, .flat [.int .i64 e]), (.o 4, .flat [.int .i64 (SCfg.nodes c), .int .i64 (SCfg.clients c), .int .i64 (SCfg.window c), .int .i64 (SCfg.buckets c), .int .i64 (SCfg.cap c), .int .i64 (SCfg.slots c), .int .i64 (SCfg.requests c), .int .i64 (SCfg.timeout c), .int .i64 (SCfg.penalty c), .int .i64 (SCfg.last c)]), (.o 5, .flat [.int .i64 nd])], bdSt_c c e nd n F G 0 ++ (bdSt_c c e nd n F G 2 ++ (bdSt_c c e nd n F G 4 ++ [decide ((60 : Int) < (↑n : Int)) = true, T Try.prog 135 [.agg [.fn (.func (44 : FuncId)) [] [.ptr (.o 1) 0 0 0 0, .ptr (.o 2) 0 0 0 0], .fn (.func (129 : FuncId)) [] [.sl (.o 0) 1 0 0 0 n none, V.abs 0 3]], .int .i64 40, .int .i64 60, .int .i64 ↑n] [(.o 0, .rows 1 n (fun k => [.int .i64 (G 4294 k)]) true), (.o 1, .flat [.fn (.func (42 : FuncId)) [] [.ptr (.o 3) 0 0 0 0, .ptr (.o 4) 0 0 0 0, .ptr (.o 5) 0 0 0 0]]), (.o 2, .flat [.sl (.o 0) 1 0 0 0 n none]), (.o 3, .flat [.int .i64 e]), (.o 4, .flat [.int .i64 (SCfg.nodes c), .int .i64 (SCfg.clients c), .int .i64 (SCfg.window c), .int .i64 (SCfg.buckets c), .int .i64 (SCfg.cap c), .int .i64 (SCfg.slots c), .int .i64 (SCfg.requests c), .int .i64 (SCfg.timeout c), .int .i64 (SCfg.penalty c), .int .i64 (SCfg.last c)]), (.o 5, .flat [.int .i64 nd])] (.tup []) [(.o 0, .rows 1 n (fun k => [.int .i64 (G 5702 k)]) true), (.o 1, .flat [.fn (.func (42 : FuncId)) [] [.ptr (.o 3) 0 0 0 0, .ptr (.o 4) 0 0 0 0, .ptr (.o 5) 0 0 0 0]]), (.o 2, .flat [.sl (.o 0) 1 0 0 0 n none]), (.o 3, .flat [.int .i64 e]), (.o 4, .flat [.int .i64 (SCfg.nodes c), .int .i64 (SCfg.clients c), .int .i64 (SCfg.window c), .int .i64 (SCfg.buckets c), .int .i64 (SCfg.cap c), .int .i64 (SCfg.slots c), .int .i64 (SCfg.requests c), .int .i64 (SCfg.timeout c), .int .i64 (SCfg.penalty c), .int .i64 (SCfg.last c)]), (.o 5, .flat [.int .i64 nd])], InR IntKind.i64 (40 : Int), decide ((40 : Int) < (↑n : Int)) = true, InR IntKind.i64 (80 : Int), decide ((80 : Int) ≤ (↑n : Int)) = false, InR IntKind.i64 (40 : Int), decide ((40 : Int) < (↑n : Int)) = true, T Try.prog 135 [.agg [.fn (.func (44 : FuncId)) [] [.ptr (.o 1) 0 0 0 0, .ptr (.o 2) 0 0 0 0], .fn (.func (129 : FuncId)) [] [.sl (.o 0) 1 0 0 0 n none, V.abs 0 3]], .int .i64 0, .int .i64 40, .int .i64 ↑n] [(.o 0, .rows 1 n (fun k => [.int .i64 (G 5702 k)]) true), (.o 1, .flat [.fn (.func (42 : FuncId)) [] [.ptr (.o 3) 0 0 0 0, .ptr (.o 4) 0 0 0 0, .ptr (.o 5) 0 0 0 0]]), (.o 2, .flat [.sl (.o 0) 1 0 0 0 n none]), (.o 3, .flat [.int .i64 e]), (.o 4, .flat [.int .i64 (SCfg.nodes c), .int .i64 (SCfg.clients c), .int .i64 (SCfg.window c), .int .i64 (SCfg.buckets c), .int .i64 (SCfg.cap c), .int .i64 (SCfg.slots c), .int .i64 (SCfg.requests c), .int .i64 (SCfg.timeout c), .int .i64 (SCfg.penalty c), .int .i64 (SCfg.last c)]), (.o 5, .flat [.int .i64 nd])] (.tup []) [(.o 0, .rows 1 n (fun k => [.int .i64 (G 7302 k)]) true), (.o 1, .flat [.fn (.func (42 : FuncId)) [] [.ptr (.o 3) 0 0 0 0, .ptr (.o 4) 0 0 0 0, .ptr (.o 5) 0 0 0 0]]), (.o 2, .flat [.sl (.o 0) 1 0 0 0 n none]), (.o 3, .flat [.int .i64 e]), (.o 4, .flat [.int .i64 (SCfg.nodes c), .int .i64 (SCfg.clients c), .int .i64 (SCfg.window c), .int .i64 (SCfg.buckets c), .int .i64 (SCfg.cap c), .int .i64 (SCfg.slots c), .int .i64 (SCfg.requests c), .int .i64 (SCfg.timeout c), .int .i64 (SCfg.penalty c), .int .i64 (SCfg.last c)]), (.o 5, .flat [.int .i64 nd])], InR IntKind.i64 (80 : Int), decide ((80 : Int) < (↑n : Int)) = false]))) : Option (V × Heap × List Prop)) := by kernel_rfl

set_option maxHeartbeats 1000000
theorem T_st {c : SCfg} {e : Int} (nd : Int) {n t : Nat} {F : Nat → Int} (h : OkF c e n F) (ho : OneAt c e nd n F t) (h64 : n ≤ 64) :
  T Try.prog 91 [.agg (dtC n), .int .i64 n] (hpS c e nd n F) (.tup []) (hpS c e nd n (mvF F (if t < n then 0 else t) t)) := by
 have key : ∀ p, p ≤ t → (t < n ∨ p = t) → OkF c e n (mvF F p t) ∧ OneAt c e nd n (mvF F p t) p := fun p h1 h2 => by
  rcases h2 with h2 | h2
  ·exact ⟨h.mv h2, ho.mv h1 h2⟩
  ·subst h2; rw [mvF_self]; exact ⟨h, ho⟩
 have I : ∀ a b p, a ≤ b → b ≤ n → p ≤ t → (t < n ∨ p = t) → ∃ x, T Try.prog 134 [.agg (dtC n), .int .i64 a, .int .i64 b] (hpS c e nd n (mvF F p t)) (.tup []) (hpS c e nd n (mvF F x t)) ∧ x ≤ t ∧ (t < n ∨ x = t) ∧ ((a ≤ p ∧ p < b ∧ x = a) ∨ ((p < a ∨ b ≤ p) ∧ x = p)) := fun a b p h1 h2 h3 h4 => by
  obtain ⟨k1, k2⟩ := key p h3 h4
  have hT := T_is nd k1 k2 h1 h2
  have hx : insA a b p ≤ p := by unfold insA; split <;> omega
  rw [mvF_mv F hx h3] at hT
  refine ⟨_, hT, by omega, ?_, ?_⟩
  ·unfold insA; split <;> omega
  ·unfold insA; split <;> omega
 have M : ∀ a m b p, a < m → m < b → b ≤ n → p ≤ t → (t < n ∨ p = t) → ¬ (m < p ∧ p < b) → ∃ x, T Try.prog 135 [.agg (dtC n), .int .i64 a, .int .i64 m, .int .i64 b] (hpS c e nd n (mvF F p t)) (.tup []) (hpS c e nd n (mvF F x t)) ∧ x ≤ t ∧ (t < n ∨ x = t) ∧ ((p = m ∧ x = a) ∨ (p ≠ m ∧ x = p)) := fun a m b p h1 h2 h3 h4 h5 h6 => by
  obtain ⟨k1, k2⟩ := key p h4 h5
  have hT := T_sy nd (b - a) a m b p _ (Nat.le_refl _) k1 k2 h1 h2 h3 h6
  have hx : (if p = m then a else p) ≤ p := by split <;> omega
  rw [mvF_mv F hx h4] at hT
  refine ⟨_, hT, by omega, ?_, ?_⟩
  ·split <;> omega
  ·split <;> omega
 have e0 : mvF F t t = F := mvF_self F t
 by_cases c_00 : n < 20
 ·obtain ⟨p0, T0, u0, v0, f0⟩ := I 0 n t (by omega) (by omega) (Nat.le_refl t) (.inr rfl)
  rw [e0] at T0
  rw [show (if t < n then 0 else t) = p0 by split <;> omega]
  refine T_al (bdSt_p00 c e nd n F (fun lo => mvF F p0 t)) Try.func91 ?_
  simp only [All, All_append, bdSt_c]; and_intros
  all_goals first
   | exact T0
   | (rw [decide_eq_true_eq]; omega)
   | (rw [decide_eq_false_iff_not]; omega)
   | omega
   | with_reducible rfl
   | (intro _ _; rfl)
   | (intro _ _; trivial)
   | (intro h; exact h)
   | exact .inl rfl
   | (simp only [IntKind.min, IntKind.max, IntKind.signed, IntKind.bits, if_true]; omega)
   | trivial
 by_cases c_100 : n = 20
 ·obtain ⟨p0, T0, u0, v0, f0⟩ := I 0 20 t (by omega) (by omega) (Nat.le_refl t) (.inr rfl)
  rw [e0] at T0
  obtain ⟨p1, T1, u1, v1, f1⟩ := I 20 n p0 (by omega) (by omega) u0 v0
  rw [show (if t < n then 0 else t) = p1 by split <;> omega]
  refine T_al (bdSt_p100 c e nd n F (fun lo => bif Nat.beq lo 710 then mvF F p0 t else mvF F p1 t)) Try.func91 ?_
  simp only [All, All_append, bdSt_c]; and_intros
  all_goals first
   | exact T0
   | exact T1
   | (rw [decide_eq_true_eq]; omega)
   | (rw [decide_eq_false_iff_not]; omega)
   | omega
   | with_reducible rfl
   | (intro _ _; rfl)
   | (intro _ _; trivial)
   | (intro h; exact h)
   | exact .inl rfl
   | (simp only [IntKind.min, IntKind.max, IntKind.signed, IntKind.bits, if_true]; omega)
   | trivial
 by_cases c_101010 : n < 40
 ·obtain ⟨p0, T0, u0, v0, f0⟩ := I 0 20 t (by omega) (by omega) (Nat.le_refl t) (.inr rfl)
  rw [e0] at T0
  obtain ⟨p1, T1, u1, v1, f1⟩ := I 20 n p0 (by omega) (by omega) u0 v0
  obtain ⟨p2, T2, u2, v2, f2⟩ := M 0 20 n p1 (by omega) (by omega) (by omega) u1 v1 (by omega)
  rw [show (if t < n then 0 else t) = p2 by split <;> omega]
  refine T_al (bdSt_p101010 c e nd n F (fun lo => bif Nat.beq lo 710 then mvF F p0 t else bif Nat.beq lo 1542 then mvF F p1 t else mvF F p2 t)) Try.func91 ?_
  simp only [All, All_append, bdSt_c]; and_intros
  all_goals first
   | exact T0
   | exact T1
   | exact T2
   | (rw [decide_eq_true_eq]; omega)
   | (rw [decide_eq_false_iff_not]; omega)
   | omega
   | with_reducible rfl
   | (intro _ _; rfl)
   | (intro _ _; trivial)
   | (intro h; exact h)
   | exact .inl rfl
   | (simp only [IntKind.min, IntKind.max, IntKind.signed, IntKind.bits, if_true]; omega)
   | trivial
 by_cases c_11011000 : n = 40
 ·obtain ⟨p0, T0, u0, v0, f0⟩ := I 0 20 t (by omega) (by omega) (Nat.le_refl t) (.inr rfl)
  rw [e0] at T0
  obtain ⟨p1, T1, u1, v1, f1⟩ := I 20 40 p0 (by omega) (by omega) u0 v0
  obtain ⟨p2, T2, u2, v2, f2⟩ := I 40 n p1 (by omega) (by omega) u1 v1
  obtain ⟨p3, T3, u3, v3, f3⟩ := M 0 20 40 p2 (by omega) (by omega) (by omega) u2 v2 (by omega)
  rw [show (if t < n then 0 else t) = p3 by split <;> omega]
  refine T_al (bdSt_p11011000 c e nd n F (fun lo => bif Nat.beq lo 710 then mvF F p0 t else bif Nat.beq lo 1542 then mvF F p1 t else bif Nat.beq lo 2374 then mvF F p2 t else mvF F p3 t)) Try.func91 ?_
  simp only [All, All_append, bdSt_c]; and_intros
  all_goals first
   | exact T0
   | exact T1
   | exact T2
   | exact T3
   | (rw [decide_eq_true_eq]; omega)
   | (rw [decide_eq_false_iff_not]; omega)
   | omega
   | with_reducible rfl
   | (intro _ _; rfl)
   | (intro _ _; trivial)
   | (intro h; exact h)
   | exact .inl rfl
   | (simp only [IntKind.min, IntKind.max, IntKind.signed, IntKind.bits, if_true]; omega)
   | trivial
 by_cases c_11011001010 : n < 60
 ·obtain ⟨p0, T0, u0, v0, f0⟩ := I 0 20 t (by omega) (by omega) (Nat.le_refl t) (.inr rfl)
  rw [e0] at T0
  obtain ⟨p1, T1, u1, v1, f1⟩ := I 20 40 p0 (by omega) (by omega) u0 v0
  obtain ⟨p2, T2, u2, v2, f2⟩ := I 40 n p1 (by omega) (by omega) u1 v1
  obtain ⟨p3, T3, u3, v3, f3⟩ := M 0 20 40 p2 (by omega) (by omega) (by omega) u2 v2 (by omega)
  obtain ⟨p4, T4, u4, v4, f4⟩ := M 0 40 n p3 (by omega) (by omega) (by omega) u3 v3 (by omega)
  rw [show (if t < n then 0 else t) = p4 by split <;> omega]
  refine T_al (bdSt_p11011001010 c e nd n F (fun lo => bif Nat.beq lo 710 then mvF F p0 t else bif Nat.beq lo 1542 then mvF F p1 t else bif Nat.beq lo 2374 then mvF F p2 t else bif Nat.beq lo 3462 then mvF F p3 t else mvF F p4 t)) Try.func91 ?_
  simp only [All, All_append, bdSt_c]; and_intros
  all_goals first
   | exact T0
   | exact T1
   | exact T2
   | exact T3
   | exact T4
   | (rw [decide_eq_true_eq]; omega)
   | (rw [decide_eq_false_iff_not]; omega)
   | omega
   | with_reducible rfl
   | (intro _ _; rfl)
   | (intro _ _; trivial)
   | (intro h; exact h)
   | exact .inl rfl
   | (simp only [IntKind.min, IntKind.max, IntKind.signed, IntKind.bits, if_true]; omega)
   | trivial
 by_cases c_111011001010 : n = 60
 ·obtain ⟨p0, T0, u0, v0, f0⟩ := I 0 20 t (by omega) (by omega) (Nat.le_refl t) (.inr rfl)
  rw [e0] at T0
  obtain ⟨p1, T1, u1, v1, f1⟩ := I 20 40 p0 (by omega) (by omega) u0 v0
  obtain ⟨p2, T2, u2, v2, f2⟩ := I 40 60 p1 (by omega) (by omega) u1 v1
  obtain ⟨p3, T3, u3, v3, f3⟩ := I 60 n p2 (by omega) (by omega) u2 v2
  obtain ⟨p4, T4, u4, v4, f4⟩ := M 0 20 40 p3 (by omega) (by omega) (by omega) u3 v3 (by omega)
  obtain ⟨p5, T5, u5, v5, f5⟩ := M 0 40 n p4 (by omega) (by omega) (by omega) u4 v4 (by omega)
  rw [show (if t < n then 0 else t) = p5 by split <;> omega]
  refine T_al (bdSt_p111011001010 c e nd n F (fun lo => bif Nat.beq lo 710 then mvF F p0 t else bif Nat.beq lo 1542 then mvF F p1 t else bif Nat.beq lo 2374 then mvF F p2 t else bif Nat.beq lo 3206 then mvF F p3 t else bif Nat.beq lo 4294 then mvF F p4 t else mvF F p5 t)) Try.func91 ?_
  simp only [All, All_append, bdSt_c]; and_intros
  all_goals first
   | exact T0
   | exact T1
   | exact T2
   | exact T3
   | exact T4
   | exact T5
   | (rw [decide_eq_true_eq]; omega)
   | (rw [decide_eq_false_iff_not]; omega)
   | omega
   | with_reducible rfl
   | (intro _ _; rfl)
   | (intro _ _; trivial)
   | (intro h; exact h)
   | exact .inl rfl
   | (simp only [IntKind.min, IntKind.max, IntKind.signed, IntKind.bits, if_true]; omega)
   | trivial
 obtain ⟨p0, T0, u0, v0, f0⟩ := I 0 20 t (by omega) (by omega) (Nat.le_refl t) (.inr rfl)
 rw [e0] at T0
 obtain ⟨p1, T1, u1, v1, f1⟩ := I 20 40 p0 (by omega) (by omega) u0 v0
 obtain ⟨p2, T2, u2, v2, f2⟩ := I 40 60 p1 (by omega) (by omega) u1 v1
 obtain ⟨p3, T3, u3, v3, f3⟩ := I 60 n p2 (by omega) (by omega) u2 v2
 obtain ⟨p4, T4, u4, v4, f4⟩ := M 0 20 40 p3 (by omega) (by omega) (by omega) u3 v3 (by omega)
 obtain ⟨p5, T5, u5, v5, f5⟩ := M 40 60 n p4 (by omega) (by omega) (by omega) u4 v4 (by omega)
 obtain ⟨p6, T6, u6, v6, f6⟩ := M 0 40 n p5 (by omega) (by omega) (by omega) u5 v5 (by omega)
 rw [show (if t < n then 0 else t) = p6 by split <;> omega]
 refine T_al (bdSt_p111011011010 c e nd n F (fun lo => bif Nat.beq lo 710 then mvF F p0 t else bif Nat.beq lo 1542 then mvF F p1 t else bif Nat.beq lo 2374 then mvF F p2 t else bif Nat.beq lo 3206 then mvF F p3 t else bif Nat.beq lo 4294 then mvF F p4 t else bif Nat.beq lo 5702 then mvF F p5 t else mvF F p6 t)) Try.func91 ?_
 simp only [All, All_append, bdSt_c]; and_intros
 all_goals first
  | exact T0
  | exact T1
  | exact T2
  | exact T3
  | exact T4
  | exact T5
  | exact T6
  | (rw [decide_eq_true_eq]; omega)
  | (rw [decide_eq_false_iff_not]; omega)
  | omega
  | with_reducible rfl
  | (intro _ _; rfl)
  | (intro _ _; trivial)
  | (intro h; exact h)
  | exact .inl rfl
  | (simp only [IntKind.min, IntKind.max, IntKind.signed, IntKind.bits, if_true]; omega)
  | trivial
end Go.Proofs.Ythifjamdfpjilaa
namespace Go.Proofs.Ythifjamdfpjilaa
open Go Sy Go.Proofs
noncomputable def slC (n : Nat) : V := .sl (.o 0) 1 0 0 0 n none
noncomputable def fn0 (g : Nat) : V := .fn (.func g) [] []
noncomputable def bdI0 (c : SCfg) (e nd : Int) (n : Nat) (F : Nat → Int) (g : Nat) : Bd := { f := Try.f134, args := [.agg [lsV, fn0 g], .int .i64 0, .int .i64 n], pre := hpS c e nd n F, base := 6, kb := { db := fun _ _ _ _ => [], lp := fun _ _ => [(True, .rounds 1)] }, names := fun _ => nm6 }
noncomputable def bdS0 (c : SCfg) (e nd : Int) (n : Nat) (F : Nat → Int) (g : Nat) : Bd := { f := Try.f91, args := [.agg [lsV, fn0 g], .int .i64 n], pre := hpS c e nd n F, base := 6, kb := { db := dbQ [(134, fun _ _ _ => [{ pre := nm6, val := .tup [], post := hpS c e nd n F }])], lp := fun _ _ => [(True, .rounds 1)] }, names := fun _ => nm6 }
noncomputable def vlDb (n : Nat) : List V → Heap → Nat → List Cl := fun a _ _ => match a with
 | [.agg [_, .ptr b _ _ _ _, _]] => [{ sym := true, pre := [b], val := .int .i64 n, post := [(b, .flat [slC n])] }]
 | _ => []
noncomputable def bdSS (c : SCfg) (e nd : Int) (n : Nat) (F G : Nat → Int) (sw : V) : Bd := { f := Try.f43, args := [.ifc 24 (slC n), lsV], pre := hpS c e nd n F, base := 6, kb := { db := dbQ [(89, fun _ _ lo => [{ sym := true, val := .agg [.abs G0 24, .ptr (.o lo) 0 0 0 0, .int .u64 151], post := [(.o lo, .flat [slC n])] }]), (90, fun _ _ _ => [{ sym := true, val := sw }]), (92, vlDb n), (91, fun _ _ _ => [{ pre := nm6, val := .tup [], post := hpS c e nd n G }])] }, names := fun _ => nm6 }
noncomputable def bdSA (c : SCfg) (e nd : Int) (n : Nat) (F G : Nat → Int) : Bd := bdSS c e nd n F G (swV n)
noncomputable def bdSB (c : SCfg) (e nd : Int) (n : Nat) (F : Nat → Int) (g : Nat) : Bd := bdSS c e nd n F F (fn0 g)
/-- The buckets that a node has. -/
def hpB (c : SCfg) (e : Int) (l : List Int) (nd : Int) : Heap := [(.o 0, .flat c.c), (.o 1, .flat [.int .i64 e]), (.o 2, .flat [lr l]), (.o 3, .flat [.int .i64 nd])]
def bkQ (c : SCfg) (e : Int) (l : List Int) (nd : Int) (n : Nat) : List Int := filS (fun i => decide (ownerS c e l i = nd)) n
noncomputable def bdB1 (c : SCfg) (e : Int) (l : List Int) (nd b o : Int) : Bd := { f := Try.f41, args := [.int .i64 b, .ptr (.o 0) 0 0 0 0, .ptr (.o 1) 0 0 0 0, .ptr (.o 2) 0 0 0 0, .ptr (.o 3) 0 0 0 0], pre := hpB c e l nd, base := 4, kb := { db := dbQ [(16, cVal (.int .i64 o))] }, names := fun _ => [.o 0, .o 1, .o 2, .o 3] }
def smCI (c : SCfg) (e : Int) (l : List Int) (nd : Int) (n k : Nat) : St := ⟨mkT 19 [(1, .fn (.func 41) [] [.ptr (.o 0) 0 0 0 0, .ptr (.o 1) 0 0 0 0, .ptr (.o 2) 0 0 0 0, .ptr (.o 3) 0 0 0 0]), (4, ls 4 (bkQ c e l nd k)), (6, .int .i64 n), (7, .int .i64 k)], hpB c e l nd ++ [(.o 4, lb (bkQ c e l nd k))], 5, []⟩
noncomputable def bdSmC (c : SCfg) (e : Int) (l : List Int) (nd : Int) (n : Nat) : Bd := { f := Try.f36, args := [.int .i64 n, .fn (.func 41) [] [.ptr (.o 0) 0 0 0 0, .ptr (.o 1) 0 0 0 0, .ptr (.o 2) 0 0 0 0, .ptr (.o 3) 0 0 0 0]], pre := hpB c e l nd, base := 4, kb := { db := fun _ _ _ _ => [], lp := fun _ t => match getV t.tmps 4 with | .sl a _ _ _ _ _ _ => [(True, .loop (n + 1) (wToS [(.o 4, a)] (smCI c e l nd n 0)) (.exit 0) (smCI c e l nd n n))] | _ => [], fx := fun id _ => bif Nat.beq id 1 then [.virt 4 1] else [] }, names := fun _ => [.o 0, .o 1, .o 2, .o 3, .o 4] }
noncomputable def pcSmC (c : SCfg) (e : Int) (l : List Int) (nd : Int) (n k : Nat) (b : Bool) : Pc := { c := cB (cB (cR (cL (cR (bodyOf Try.f36))))), st := smCI c e l nd n k, p := 4, kb := { db := dbQ [(41, fun _ _ _ => [{ pre := [.o 0, .o 1, .o 2, .o 3], val := .bool b, post := hpB c e l nd }])] }, k := fun x_ t => match x_ with
 | .normal => match getV t.tmps 4 with | .sl a _ _ _ _ _ _ => some (wToS [(.o 4, a)] (smCI c e l nd n (k + 1))) | _ => none
 | _ => some (wTo (smCI c e l nd n n)) }
noncomputable def smDb (c : SCfg) (e : Int) (l : List Int) (nd : Int) (L : List Int) : List V → Heap → Nat → List Cl := fun a _ lo => match a with
 | [_, .fn _ _ [.ptr a _ _ _ _, .ptr b _ _ _ _, .ptr d _ _ _ _, .ptr f _ _ _ _]] => [{ pre := [a, b, d, f], val := ls lo L, post := [(a, .flat c.c), (b, .flat [.int .i64 e]), (d, .flat [lr l]), (f, .flat [.int .i64 nd]), (.o lo, lb L)] }]
 | _ => []
noncomputable def ssDb (c : SCfg) (e nd : Int) (n : Nat) (M : List Int) : List V → Heap → Nat → List Cl := fun a _ _ => match a with
 | [.ifc _ (.sl s _ _ _ _ _ _), .fn _ _ [.ptr a _ _ _ _, .ptr b _ _ _ _]] => [{ pre := [s, a, b, .o 64, .o 0, .o 192], val := .tup [], post := [(s, .rows 1 n (li M) true), (a, .flat [.fn (.func 42) [] [.ptr (.o 64) 0 0 0 0, .ptr (.o 0) 0 0 0 0, .ptr (.o 192) 0 0 0 0]]), (b, .flat [.sl s 1 0 0 0 n none]), (.o 64, .flat [.int .i64 e]), (.o 0, .flat c.c), (.o 192, .flat [.int .i64 nd])] }]
 | _ => []
noncomputable def bdBk (c : SCfg) (e : Int) (l : List Int) (nd : Int) (n : Nat) (L M : List Int) : Bd := { f := Try.f15, args := [.agg c.c, .int .i64 e, lr l, .int .i64 nd], kb := { db := dbQ [(35, cVal (.bool true)), (36, smDb c e l nd L), (43, ssDb c e nd n M)] }, names := fun t => [nmV (getV t.tmps 8)] }
end Go.Proofs.Ythifjamdfpjilaa
namespace Go.Proofs.Ythifjamdfpjilaa
open Go Sy Go.Proofs
theorem bdI0_p0 (c : SCfg) (e : Int) (nd : Int) (n : Nat) (F : Nat → Int) (g : Nat) :
  along Try.prog (bdI0 c e nd n F g) [false] = (some (.tup [], [(.o 0, .rows 1 n (fun k => [.int .i64 (F k)]) true), (.o 1, .flat [.fn (.func (42 : FuncId)) [] [.ptr (.o 3) 0 0 0 0, .ptr (.o 4) 0 0 0 0, .ptr (.o 5) 0 0 0 0]]), (.o 2, .flat [.sl (.o 0) 1 0 0 0 n none]), (.o 3, .flat [.int .i64 e]), (.o 4, .flat [.int .i64 (SCfg.nodes c), .int .i64 (SCfg.clients c), .int .i64 (SCfg.window c), .int .i64 (SCfg.buckets c), .int .i64 (SCfg.cap c), .int .i64 (SCfg.slots c), .int .i64 (SCfg.requests c), .int .i64 (SCfg.timeout c), .int .i64 (SCfg.penalty c), .int .i64 (SCfg.last c)]), (.o 5, .flat [.int .i64 nd])], [InR IntKind.i64 (1 : Int), decide ((1 : Int) < (↑n : Int)) = false]) : Option (V × Heap × List Prop)) := by kernel_rfl

theorem bdS0_p00 (c : SCfg) (e : Int) (nd : Int) (n : Nat) (F : Nat → Int) (g : Nat) :
  along Try.prog (bdS0 c e nd n F g) [false, false] = (some (.tup [], [(.o 0, .rows 1 n (fun k => [.int .i64 (F k)]) true), (.o 1, .flat [.fn (.func (42 : FuncId)) [] [.ptr (.o 3) 0 0 0 0, .ptr (.o 4) 0 0 0 0, .ptr (.o 5) 0 0 0 0]]), (.o 2, .flat [.sl (.o 0) 1 0 0 0 n none]), (.o 3, .flat [.int .i64 e]), (.o 4, .flat [.int .i64 (SCfg.nodes c), .int .i64 (SCfg.clients c), .int .i64 (SCfg.window c), .int .i64 (SCfg.buckets c), .int .i64 (SCfg.cap c), .int .i64 (SCfg.slots c), .int .i64 (SCfg.requests c), .int .i64 (SCfg.timeout c), .int .i64 (SCfg.penalty c), .int .i64 (SCfg.last c)]), (.o 5, .flat [.int .i64 nd])], [decide ((20 : Int) ≤ (↑n : Int)) = false, T Try.prog 134 [.agg [.fn (.func (44 : FuncId)) [] [.ptr (.o 1) 0 0 0 0, .ptr (.o 2) 0 0 0 0], .fn (.func g) [] []], .int .i64 0, .int .i64 ↑n] [(.o 0, .rows 1 n (fun k => [.int .i64 (F k)]) true), (.o 1, .flat [.fn (.func (42 : FuncId)) [] [.ptr (.o 3) 0 0 0 0, .ptr (.o 4) 0 0 0 0, .ptr (.o 5) 0 0 0 0]]), (.o 2, .flat [.sl (.o 0) 1 0 0 0 n none]), (.o 3, .flat [.int .i64 e]), (.o 4, .flat [.int .i64 (SCfg.nodes c), .int .i64 (SCfg.clients c), .int .i64 (SCfg.window c), .int .i64 (SCfg.buckets c), .int .i64 (SCfg.cap c), .int .i64 (SCfg.slots c), .int .i64 (SCfg.requests c), .int .i64 (SCfg.timeout c), .int .i64 (SCfg.penalty c), .int .i64 (SCfg.last c)]), (.o 5, .flat [.int .i64 nd])] (.tup []) [(.o 0, .rows 1 n (fun k => [.int .i64 (F k)]) true), (.o 1, .flat [.fn (.func (42 : FuncId)) [] [.ptr (.o 3) 0 0 0 0, .ptr (.o 4) 0 0 0 0, .ptr (.o 5) 0 0 0 0]]), (.o 2, .flat [.sl (.o 0) 1 0 0 0 n none]), (.o 3, .flat [.int .i64 e]), (.o 4, .flat [.int .i64 (SCfg.nodes c), .int .i64 (SCfg.clients c), .int .i64 (SCfg.window c), .int .i64 (SCfg.buckets c), .int .i64 (SCfg.cap c), .int .i64 (SCfg.slots c), .int .i64 (SCfg.requests c), .int .i64 (SCfg.timeout c), .int .i64 (SCfg.penalty c), .int .i64 (SCfg.last c)]), (.o 5, .flat [.int .i64 nd])], decide ((20 : Int) < (↑n : Int)) = false]) : Option (V × Heap × List Prop)) := by kernel_rfl

theorem bdSA_p (c : SCfg) (e : Int) (nd : Int) (n : Nat) (F : Nat → Int) (G : Nat → Int) :
  along Try.prog (bdSA c e nd n F G) [] = (some (.tup [], [(.o 0, .rows 1 n (fun k => [.int .i64 (G k)]) true), (.o 1, .flat [.fn (.func (42 : FuncId)) [] [.ptr (.o 3) 0 0 0 0, .ptr (.o 4) 0 0 0 0, .ptr (.o 5) 0 0 0 0]]), (.o 2, .flat [.sl (.o 0) 1 0 0 0 n none]), (.o 3, .flat [.int .i64 e]), (.o 4, .flat [.int .i64 (SCfg.nodes c), .int .i64 (SCfg.clients c), .int .i64 (SCfg.window c), .int .i64 (SCfg.buckets c), .int .i64 (SCfg.cap c), .int .i64 (SCfg.slots c), .int .i64 (SCfg.requests c), .int .i64 (SCfg.timeout c), .int .i64 (SCfg.penalty c), .int .i64 (SCfg.last c)]), (.o 5, .flat [.int .i64 nd])], [TV Try.prog (V.fn (Fn.func (89 : Nat)) [] []) [V.ifc (24 : TypeId) (V.sl (Nm.o (0 : Nat)) (1 : Nat) (0 : Nat) (0 : Nat) (0 : Nat) n none)] [] (V.agg [V.abs (nat_lit 0) (24 : Nat), V.ptr (Nm.o (nat_lit 70)) (0 : Nat) (0 : Nat) (0 : Nat) (0 : Nat), V.int IntKind.u64 (151 : Int)]) [(Nm.o (nat_lit 70), B.flat [V.sl (Nm.o (0 : Nat)) (1 : Nat) (0 : Nat) (0 : Nat) (0 : Nat) n none])], TV Try.prog (V.fn (Fn.func (90 : Nat)) [] []) [V.ifc (24 : TypeId) (V.sl (Nm.o (0 : Nat)) (1 : Nat) (0 : Nat) (0 : Nat) (0 : Nat) n none)] [] (V.fn (Fn.func (129 : FuncId)) [] [V.sl (Nm.o (0 : Nat)) (1 : Nat) (0 : Nat) (0 : Nat) (0 : Nat) n none, V.abs (nat_lit 0) (3 : Nat)]) [], TV Try.prog (V.fn (Fn.func (92 : Nat)) [] []) [V.agg [V.abs (nat_lit 0) (24 : Nat), V.ptr (Nm.o (nat_lit 70)) (0 : Nat) (0 : Nat) (0 : Nat) (0 : Nat), V.int IntKind.u64 (151 : Int)]] [(Nm.o (nat_lit 70), B.flat [V.sl (Nm.o (0 : Nat)) (1 : Nat) (0 : Nat) (0 : Nat) (0 : Nat) n none])] (V.int IntKind.i64 (↑n : Int)) [(Nm.o (nat_lit 70), B.flat [V.sl (Nm.o (0 : Nat)) (1 : Nat) (0 : Nat) (0 : Nat) (0 : Nat) n none])], T Try.prog 91 [.agg [.fn (.func (44 : FuncId)) [] [.ptr (.o 1) 0 0 0 0, .ptr (.o 2) 0 0 0 0], .fn (.func (129 : FuncId)) [] [.sl (.o 0) 1 0 0 0 n none, V.abs 0 3]], .int .i64 ↑n] [(.o 0, .rows 1 n (fun k => [.int .i64 (F k)]) true), (.o 1, .flat [.fn (.func (42 : FuncId)) [] [.ptr (.o 3) 0 0 0 0, .ptr (.o 4) 0 0 0 0, .ptr (.o 5) 0 0 0 0]]), (.o 2, .flat [.sl (.o 0) 1 0 0 0 n none]), (.o 3, .flat [.int .i64 e]), (.o 4, .flat [.int .i64 (SCfg.nodes c), .int .i64 (SCfg.clients c), .int .i64 (SCfg.window c), .int .i64 (SCfg.buckets c), .int .i64 (SCfg.cap c), .int .i64 (SCfg.slots c), .int .i64 (SCfg.requests c), .int .i64 (SCfg.timeout c), .int .i64 (SCfg.penalty c), .int .i64 (SCfg.last c)]), (.o 5, .flat [.int .i64 nd])] (.tup []) [(.o 0, .rows 1 n (fun k => [.int .i64 (G k)]) true), (.o 1, .flat [.fn (.func (42 : FuncId)) [] [.ptr (.o 3) 0 0 0 0, .ptr (.o 4) 0 0 0 0, .ptr (.o 5) 0 0 0 0]]), (.o 2, .flat [.sl (.o 0) 1 0 0 0 n none]), (.o 3, .flat [.int .i64 e]), (.o 4, .flat [.int .i64 (SCfg.nodes c), .int .i64 (SCfg.clients c), .int .i64 (SCfg.window c), .int .i64 (SCfg.buckets c), .int .i64 (SCfg.cap c), .int .i64 (SCfg.slots c), .int .i64 (SCfg.requests c), .int .i64 (SCfg.timeout c), .int .i64 (SCfg.penalty c), .int .i64 (SCfg.last c)]), (.o 5, .flat [.int .i64 nd])]]) : Option (V × Heap × List Prop)) := by kernel_rfl

theorem bdSB_p (c : SCfg) (e : Int) (nd : Int) (n : Nat) (F : Nat → Int) (g : Nat) :
  along Try.prog (bdSB c e nd n F g) [] = (some (.tup [], [(.o 0, .rows 1 n (fun k => [.int .i64 (F k)]) true), (.o 1, .flat [.fn (.func (42 : FuncId)) [] [.ptr (.o 3) 0 0 0 0, .ptr (.o 4) 0 0 0 0, .ptr (.o 5) 0 0 0 0]]), (.o 2, .flat [.sl (.o 0) 1 0 0 0 n none]), (.o 3, .flat [.int .i64 e]), (.o 4, .flat [.int .i64 (SCfg.nodes c), .int .i64 (SCfg.clients c), .int .i64 (SCfg.window c), .int .i64 (SCfg.buckets c), .int .i64 (SCfg.cap c), .int .i64 (SCfg.slots c), .int .i64 (SCfg.requests c), .int .i64 (SCfg.timeout c), .int .i64 (SCfg.penalty c), .int .i64 (SCfg.last c)]), (.o 5, .flat [.int .i64 nd])], [TV Try.prog (V.fn (Fn.func (89 : Nat)) [] []) [V.ifc (24 : TypeId) (V.sl (Nm.o (0 : Nat)) (1 : Nat) (0 : Nat) (0 : Nat) (0 : Nat) n none)] [] (V.agg [V.abs (nat_lit 0) (24 : Nat), V.ptr (Nm.o (nat_lit 70)) (0 : Nat) (0 : Nat) (0 : Nat) (0 : Nat), V.int IntKind.u64 (151 : Int)]) [(Nm.o (nat_lit 70), B.flat [V.sl (Nm.o (0 : Nat)) (1 : Nat) (0 : Nat) (0 : Nat) (0 : Nat) n none])], TV Try.prog (V.fn (Fn.func (90 : Nat)) [] []) [V.ifc (24 : TypeId) (V.sl (Nm.o (0 : Nat)) (1 : Nat) (0 : Nat) (0 : Nat) (0 : Nat) n none)] [] (V.fn (Fn.func g) [] []) [], TV Try.prog (V.fn (Fn.func (92 : Nat)) [] []) [V.agg [V.abs (nat_lit 0) (24 : Nat), V.ptr (Nm.o (nat_lit 70)) (0 : Nat) (0 : Nat) (0 : Nat) (0 : Nat), V.int IntKind.u64 (151 : Int)]] [(Nm.o (nat_lit 70), B.flat [V.sl (Nm.o (0 : Nat)) (1 : Nat) (0 : Nat) (0 : Nat) (0 : Nat) n none])] (V.int IntKind.i64 (↑n : Int)) [(Nm.o (nat_lit 70), B.flat [V.sl (Nm.o (0 : Nat)) (1 : Nat) (0 : Nat) (0 : Nat) (0 : Nat) n none])], T Try.prog 91 [.agg [.fn (.func (44 : FuncId)) [] [.ptr (.o 1) 0 0 0 0, .ptr (.o 2) 0 0 0 0], .fn (.func g) [] []], .int .i64 ↑n] [(.o 0, .rows 1 n (fun k => [.int .i64 (F k)]) true), (.o 1, .flat [.fn (.func (42 : FuncId)) [] [.ptr (.o 3) 0 0 0 0, .ptr (.o 4) 0 0 0 0, .ptr (.o 5) 0 0 0 0]]), (.o 2, .flat [.sl (.o 0) 1 0 0 0 n none]), (.o 3, .flat [.int .i64 e]), (.o 4, .flat [.int .i64 (SCfg.nodes c), .int .i64 (SCfg.clients c), .int .i64 (SCfg.window c), .int .i64 (SCfg.buckets c), .int .i64 (SCfg.cap c), .int .i64 (SCfg.slots c), .int .i64 (SCfg.requests c), .int .i64 (SCfg.timeout c), .int .i64 (SCfg.penalty c), .int .i64 (SCfg.last c)]), (.o 5, .flat [.int .i64 nd])] (.tup []) [(.o 0, .rows 1 n (fun k => [.int .i64 (F k)]) true), (.o 1, .flat [.fn (.func (42 : FuncId)) [] [.ptr (.o 3) 0 0 0 0, .ptr (.o 4) 0 0 0 0, .ptr (.o 5) 0 0 0 0]]), (.o 2, .flat [.sl (.o 0) 1 0 0 0 n none]), (.o 3, .flat [.int .i64 e]), (.o 4, .flat [.int .i64 (SCfg.nodes c), .int .i64 (SCfg.clients c), .int .i64 (SCfg.window c), .int .i64 (SCfg.buckets c), .int .i64 (SCfg.cap c), .int .i64 (SCfg.slots c), .int .i64 (SCfg.requests c), .int .i64 (SCfg.timeout c), .int .i64 (SCfg.penalty c), .int .i64 (SCfg.last c)]), (.o 5, .flat [.int .i64 nd])]]) : Option (V × Heap × List Prop)) := by kernel_rfl

theorem bdB1_p (c : SCfg) (e : Int) (l : List Int) (nd : Int) (b : Int) (o : Int) :
  along Try.prog (bdB1 c e l nd b o) [] = (some (.bool (decide (o = nd)), [(.o 0, .flat [.int .i64 (SCfg.nodes c), .int .i64 (SCfg.clients c), .int .i64 (SCfg.window c), .int .i64 (SCfg.buckets c), .int .i64 (SCfg.cap c), .int .i64 (SCfg.slots c), .int .i64 (SCfg.requests c), .int .i64 (SCfg.timeout c), .int .i64 (SCfg.penalty c), .int .i64 (SCfg.last c)]), (.o 1, .flat [.int .i64 e]), (.o 2, .flat [.ros 1 (List.length l) (li l) false]), (.o 3, .flat [.int .i64 nd])], [T Try.prog 16 [.agg [.int .i64 (SCfg.nodes c), .int .i64 (SCfg.clients c), .int .i64 (SCfg.window c), .int .i64 (SCfg.buckets c), .int .i64 (SCfg.cap c), .int .i64 (SCfg.slots c), .int .i64 (SCfg.requests c), .int .i64 (SCfg.timeout c), .int .i64 (SCfg.penalty c), .int .i64 (SCfg.last c)], .int .i64 e, .ros 1 (List.length l) (li l) false, .int .i64 b] [] (.int .i64 o) []]) : Option (V × Heap × List Prop)) := by kernel_rfl

theorem bdSmC_p (c : SCfg) (e : Int) (l : List Int) (nd : Int) (n : Nat) :
  along Try.prog (bdSmC c e l nd n) [] = (some (.sl (.o 4) 1 0 0 0 (List.length (bkQ c e l nd n)) none, [(.o 0, .flat [.int .i64 (SCfg.nodes c), .int .i64 (SCfg.clients c), .int .i64 (SCfg.window c), .int .i64 (SCfg.buckets c), .int .i64 (SCfg.cap c), .int .i64 (SCfg.slots c), .int .i64 (SCfg.requests c), .int .i64 (SCfg.timeout c), .int .i64 (SCfg.penalty c), .int .i64 (SCfg.last c)]), (.o 1, .flat [.int .i64 e]), (.o 2, .flat [.ros 1 (List.length l) (li l) false]), (.o 3, .flat [.int .i64 nd]), (.o 4, .rows 1 (List.length (bkQ c e l nd n)) (li (bkQ c e l nd n)) true)], [RLoop Try.prog none 4 (cB (cB (cR (cL (cR (bodyOf (Bd.f (bdSmC c e l nd n)))))))) (n + 1) (St.mk [.any, .fn (.func (41 : FuncId)) [] [.ptr (.o 0) 0 0 0 0, .ptr (.o 1) 0 0 0 0, .ptr (.o 2) 0 0 0 0, .ptr (.o 3) 0 0 0 0], .any, .any, .sl (.o 4) 1 0 0 0 0 none, .any, .int .i64 ↑n, .int .i64 0, .any, .any, .any, .any, .any, .any, .any, .any, .any, .any, .any] [(.o 0, .flat [.int .i64 (SCfg.nodes c), .int .i64 (SCfg.clients c), .int .i64 (SCfg.window c), .int .i64 (SCfg.buckets c), .int .i64 (SCfg.cap c), .int .i64 (SCfg.slots c), .int .i64 (SCfg.requests c), .int .i64 (SCfg.timeout c), .int .i64 (SCfg.penalty c), .int .i64 (SCfg.last c)]), (.o 1, .flat [.int .i64 e]), (.o 2, .flat [.ros 1 (List.length l) (li l) false]), (.o 3, .flat [.int .i64 nd]), (.o 4, .rows 1 0 (li []) true)] 5 []) (.exit 0) (St.mk [.any, .fn (.func (41 : FuncId)) [] [.ptr (.o 0) 0 0 0 0, .ptr (.o 1) 0 0 0 0, .ptr (.o 2) 0 0 0 0, .ptr (.o 3) 0 0 0 0], .any, .any, .sl (.o 4) 1 0 0 0 (List.length (bkQ c e l nd n)) none, .any, .int .i64 ↑n, .int .i64 ↑n, .any, .any, .any, .any, .any, .any, .any, .any, .any, .any, .any] [(.o 0, .flat [.int .i64 (SCfg.nodes c), .int .i64 (SCfg.clients c), .int .i64 (SCfg.window c), .int .i64 (SCfg.buckets c), .int .i64 (SCfg.cap c), .int .i64 (SCfg.slots c), .int .i64 (SCfg.requests c), .int .i64 (SCfg.timeout c), .int .i64 (SCfg.penalty c), .int .i64 (SCfg.last c)]), (.o 1, .flat [.int .i64 e]), (.o 2, .flat [.ros 1 (List.length l) (li l) false]), (.o 3, .flat [.int .i64 nd]), (.o 4, .rows 1 (List.length (bkQ c e l nd n)) (li (bkQ c e l nd n)) true)] 5 []), q (SCfg.nodes c), q (SCfg.clients c), q (SCfg.window c), q (SCfg.buckets c), q (SCfg.cap c), q (SCfg.slots c), q (SCfg.requests c), q (SCfg.timeout c), q (SCfg.penalty c), q (SCfg.last c), q e, q (List.length l), ∀ (k : Nat), k < List.length l → [V.int IntKind.i64 (List.getD l k (0 : Int))] = [V.int IntKind.i64 (List.getD l k (0 : Int))], false = true → false = true, q nd, (0 : Nat) = nat_lit 0, ∀ (k : Nat), k < (0 : Nat) → [] = [V.int IntKind.i64 (0 : Int)], true = false → true = false, q0, q0, q0, q0, q0, q0, q0, q0, q0, q0, q0, q0, q0, q0, q0, (0 : Nat) = nat_lit 0, (none : Option Nat) = none ∨ (none : Option Nat) = none, q (↑n : Int), q1]) : Option (V × Heap × List Prop)) := by kernel_rfl

noncomputable def pcSmC_c (c : SCfg) (e : Int) (l : List Int) (nd : Int) (n : Nat) (k : Nat) (b : Bool) : Nat → List Prop
 | 0 => [decide ((↑k : Int) < (↑n : Int)) = true, T Try.prog (41 : FuncId) [.int .i64 ↑k, .ptr (.o 0) 0 0 0 0, .ptr (.o 1) 0 0 0 0, .ptr (.o 2) 0 0 0 0, .ptr (.o 3) 0 0 0 0] [(.o 0, .flat [.int .i64 (SCfg.nodes c), .int .i64 (SCfg.clients c), .int .i64 (SCfg.window c), .int .i64 (SCfg.buckets c), .int .i64 (SCfg.cap c), .int .i64 (SCfg.slots c), .int .i64 (SCfg.requests c), .int .i64 (SCfg.timeout c), .int .i64 (SCfg.penalty c), .int .i64 (SCfg.last c)]), (.o 1, .flat [.int .i64 e]), (.o 2, .flat [.ros 1 (List.length l) (li l) false]), (.o 3, .flat [.int .i64 nd])] (.bool b) [(.o 0, .flat [.int .i64 (SCfg.nodes c), .int .i64 (SCfg.clients c), .int .i64 (SCfg.window c), .int .i64 (SCfg.buckets c), .int .i64 (SCfg.cap c), .int .i64 (SCfg.slots c), .int .i64 (SCfg.requests c), .int .i64 (SCfg.timeout c), .int .i64 (SCfg.penalty c), .int .i64 (SCfg.last c)]), (.o 1, .flat [.int .i64 e]), (.o 2, .flat [.ros 1 (List.length l) (li l) false]), (.o 3, .flat [.int .i64 nd])]]
 | _ => []
theorem pcSmC_p11 (c : SCfg) (e : Int) (l : List Int) (nd : Int) (n : Nat) (k : Nat) (b : Bool) :
 alongPc Try.prog (pcSmC c e l nd n k b) [true, true] = (some (.normal, St.mk [.any, .fn (.func (41 : FuncId)) [] [.ptr (.o 0) 0 0 0 0, .ptr (.o 1) 0 0 0 0, .ptr (.o 2) 0 0 0 0, .ptr (.o 3) 0 0 0 0], .any, .any, .sl (.o 4) 1 0 0 0 (List.length (bkQ c e l nd (k + 1))) none, .any, .int .i64 ↑n, .int .i64 (↑(k + 1) : Int), .any, .any, .any, .any, .any, .any, .any, .any, .any, .any, .any] [(.o 0, .flat [.int .i64 (SCfg.nodes c), .int .i64 (SCfg.clients c), .int .i64 (SCfg.window c), .int .i64 (SCfg.buckets c), .int .i64 (SCfg.cap c), .int .i64 (SCfg.slots c), .int .i64 (SCfg.requests c), .int .i64 (SCfg.timeout c), .int .i64 (SCfg.penalty c), .int .i64 (SCfg.last c)]), (.o 1, .flat [.int .i64 e]), (.o 2, .flat [.ros 1 (List.length l) (li l) false]), (.o 3, .flat [.int .i64 nd]), (.o 4, .rows 1 (List.length (bkQ c e l nd (k + 1))) (li (bkQ c e l nd (k + 1))) true)] 5 [], pcSmC_c c e l nd n k b 0 ++ [b = true, q (List.length (bkQ c e l nd k)), nat_lit 1 ≤ (1 : Nat), ∀ (k_1 : Nat), k_1 < (1 : Nat) → solid (getL [[V.int IntKind.i64 (↑k : Int)]] ((0 : Nat) + k_1)) = true, (List.length (bkQ c e l nd k) + (1 : Nat)) * (8 : Nat) ≤ (140737488355328 : Nat), InR IntKind.i64 ((↑k : Int) + (1 : Int)), q (SCfg.nodes c), q (SCfg.clients c), q (SCfg.window c), q (SCfg.buckets c), q (SCfg.cap c), q (SCfg.slots c), q (SCfg.requests c), q (SCfg.timeout c), q (SCfg.penalty c), q (SCfg.last c), q e, q (List.length l), ∀ (k : Nat), k < List.length l → [V.int IntKind.i64 (List.getD l k (0 : Int))] = [V.int IntKind.i64 (List.getD l k (0 : Int))], false = true → false = true, q nd, List.length (bkQ c e l nd k) + (1 : Nat) = List.length (bkQ c e l nd (k + (1 : Nat))), ∀ (k_1 : Nat), k_1 < List.length (bkQ c e l nd k) + (1 : Nat) → catF (List.length (bkQ c e l nd k)) (li (bkQ c e l nd k)) (fun k_2 => getL [[V.int IntKind.i64 (↑k : Int)]] ((0 : Nat) + k_2)) k_1 = [V.int IntKind.i64 (List.getD (bkQ c e l nd (k + (1 : Nat))) k_1 (0 : Int))], true = false → true = false, q0, q0, q0, q0, q0, q0, q0, q0, q0, q0, q0, q0, q0, q0, q0, List.length (bkQ c e l nd k) + (1 : Nat) = List.length (bkQ c e l nd (k + (1 : Nat))), (none : Option Nat) = none ∨ (none : Option Nat) = none, q (↑n : Int), (↑k : Int) + (1 : Int) = (↑(k + (1 : Nat)) : Int)]) : Option (Exit × St × List Prop)) := by kernel_rfl
theorem pcSmC_p10 (c : SCfg) (e : Int) (l : List Int) (nd : Int) (n : Nat) (k : Nat) (b : Bool) :
 alongPc Try.prog (pcSmC c e l nd n k b) [true, false] = (some (.normal, St.mk [.any, .fn (.func (41 : FuncId)) [] [.ptr (.o 0) 0 0 0 0, .ptr (.o 1) 0 0 0 0, .ptr (.o 2) 0 0 0 0, .ptr (.o 3) 0 0 0 0], .any, .any, .sl (.o 4) 1 0 0 0 (List.length (bkQ c e l nd (k + 1))) none, .any, .int .i64 ↑n, .int .i64 (↑(k + 1) : Int), .any, .any, .any, .any, .any, .any, .any, .any, .any, .any, .any] [(.o 0, .flat [.int .i64 (SCfg.nodes c), .int .i64 (SCfg.clients c), .int .i64 (SCfg.window c), .int .i64 (SCfg.buckets c), .int .i64 (SCfg.cap c), .int .i64 (SCfg.slots c), .int .i64 (SCfg.requests c), .int .i64 (SCfg.timeout c), .int .i64 (SCfg.penalty c), .int .i64 (SCfg.last c)]), (.o 1, .flat [.int .i64 e]), (.o 2, .flat [.ros 1 (List.length l) (li l) false]), (.o 3, .flat [.int .i64 nd]), (.o 4, .rows 1 (List.length (bkQ c e l nd (k + 1))) (li (bkQ c e l nd (k + 1))) true)] 5 [], pcSmC_c c e l nd n k b 0 ++ [b = false, InR IntKind.i64 ((↑k : Int) + (1 : Int)), q (SCfg.nodes c), q (SCfg.clients c), q (SCfg.window c), q (SCfg.buckets c), q (SCfg.cap c), q (SCfg.slots c), q (SCfg.requests c), q (SCfg.timeout c), q (SCfg.penalty c), q (SCfg.last c), q e, q (List.length l), ∀ (k : Nat), k < List.length l → [V.int IntKind.i64 (List.getD l k (0 : Int))] = [V.int IntKind.i64 (List.getD l k (0 : Int))], false = true → false = true, q nd, List.length (bkQ c e l nd k) = List.length (bkQ c e l nd (k + (1 : Nat))), ∀ (k_1 : Nat), k_1 < List.length (bkQ c e l nd k) → [V.int IntKind.i64 (List.getD (bkQ c e l nd k) k_1 (0 : Int))] = [V.int IntKind.i64 (List.getD (bkQ c e l nd (k + (1 : Nat))) k_1 (0 : Int))], true = false → true = false, q0, q0, q0, q0, q0, q0, q0, q0, q0, q0, q0, q0, q0, q0, q0, List.length (bkQ c e l nd k) = List.length (bkQ c e l nd (k + (1 : Nat))), (none : Option Nat) = none ∨ (none : Option Nat) = none, q (↑n : Int), (↑k : Int) + (1 : Int) = (↑(k + (1 : Nat)) : Int)]) : Option (Exit × St × List Prop)) := by kernel_rfl
theorem pcSmC_p0 (c : SCfg) (e : Int) (l : List Int) (nd : Int) (n : Nat) (k : Nat) (b : Bool) :
 alongPc Try.prog (pcSmC c e l nd n k b) [false] = (some (.exit 0, St.mk [.any, .fn (.func (41 : FuncId)) [] [.ptr (.o 0) 0 0 0 0, .ptr (.o 1) 0 0 0 0, .ptr (.o 2) 0 0 0 0, .ptr (.o 3) 0 0 0 0], .any, .any, .sl (.o 4) 1 0 0 0 (List.length (bkQ c e l nd n)) none, .any, .int .i64 ↑n, .int .i64 ↑n, .any, .any, .any, .any, .any, .any, .any, .any, .any, .any, .any] [(.o 0, .flat [.int .i64 (SCfg.nodes c), .int .i64 (SCfg.clients c), .int .i64 (SCfg.window c), .int .i64 (SCfg.buckets c), .int .i64 (SCfg.cap c), .int .i64 (SCfg.slots c), .int .i64 (SCfg.requests c), .int .i64 (SCfg.timeout c), .int .i64 (SCfg.penalty c), .int .i64 (SCfg.last c)]), (.o 1, .flat [.int .i64 e]), (.o 2, .flat [.ros 1 (List.length l) (li l) false]), (.o 3, .flat [.int .i64 nd]), (.o 4, .rows 1 (List.length (bkQ c e l nd n)) (li (bkQ c e l nd n)) true)] 5 [], [decide ((↑k : Int) < (↑n : Int)) = false, q (SCfg.nodes c), q (SCfg.clients c), q (SCfg.window c), q (SCfg.buckets c), q (SCfg.cap c), q (SCfg.slots c), q (SCfg.requests c), q (SCfg.timeout c), q (SCfg.penalty c), q (SCfg.last c), q e, q (List.length l), ∀ (k : Nat), k < List.length l → [V.int IntKind.i64 (List.getD l k (0 : Int))] = [V.int IntKind.i64 (List.getD l k (0 : Int))], false = true → false = true, q nd, List.length (bkQ c e l nd k) = List.length (bkQ c e l nd n), ∀ (k_1 : Nat), k_1 < List.length (bkQ c e l nd k) → [V.int IntKind.i64 (List.getD (bkQ c e l nd k) k_1 (0 : Int))] = [V.int IntKind.i64 (List.getD (bkQ c e l nd n) k_1 (0 : Int))], true = false → true = false, q0, q0, q0, q0, q0, q0, q0, q0, q0, q0, q0, q0, q0, q0, q0, List.length (bkQ c e l nd k) = List.length (bkQ c e l nd n), (none : Option Nat) = none ∨ (none : Option Nat) = none, q (↑n : Int), (↑k : Int) = (↑n : Int)]) : Option (Exit × St × List Prop)) := by kernel_rfl

theorem bdBk_p00 (c : SCfg) (e : Int) (l : List Int) (nd : Int) (n : Nat) (L : List Int) (M : List Int) :
  along Try.prog (bdBk c e l nd n L M) [false, false] = (some (.sl (.o 1024) 1 0 0 0 n none, [(.o 1024, .rows 1 n (li M) true)], [T Try.prog 35 [.agg [.int .i64 (SCfg.nodes c), .int .i64 (SCfg.clients c), .int .i64 (SCfg.window c), .int .i64 (SCfg.buckets c), .int .i64 (SCfg.cap c), .int .i64 (SCfg.slots c), .int .i64 (SCfg.requests c), .int .i64 (SCfg.timeout c), .int .i64 (SCfg.penalty c), .int .i64 (SCfg.last c)], .int .i64 e] [] (.bool true) [], q false, decide (nd < (0 : Int)) = false, T Try.prog 36 [.int .i64 (SCfg.buckets c), .fn (.func 41) [] [.ptr (.o 0) 0 0 0 0, .ptr (.o 64) 0 0 0 0, .ptr (.o 128) 0 0 0 0, .ptr (.o 192) 0 0 0 0]] [(.o 0, .flat [.int .i64 (SCfg.nodes c), .int .i64 (SCfg.clients c), .int .i64 (SCfg.window c), .int .i64 (SCfg.buckets c), .int .i64 (SCfg.cap c), .int .i64 (SCfg.slots c), .int .i64 (SCfg.requests c), .int .i64 (SCfg.timeout c), .int .i64 (SCfg.penalty c), .int .i64 (SCfg.last c)]), (.o 64, .flat [.int .i64 e]), (.o 128, .flat [.ros 1 (List.length l) (li l) false]), (.o 192, .flat [.int .i64 nd])] (.sl (.o 1024) 1 0 0 0 (List.length L) none) [(.o 0, .flat [.int .i64 (SCfg.nodes c), .int .i64 (SCfg.clients c), .int .i64 (SCfg.window c), .int .i64 (SCfg.buckets c), .int .i64 (SCfg.cap c), .int .i64 (SCfg.slots c), .int .i64 (SCfg.requests c), .int .i64 (SCfg.timeout c), .int .i64 (SCfg.penalty c), .int .i64 (SCfg.last c)]), (.o 64, .flat [.int .i64 e]), (.o 128, .flat [.ros 1 (List.length l) (li l) false]), (.o 192, .flat [.int .i64 nd]), (.o 1024, .rows 1 (List.length L) (li L) true)], T Try.prog 43 [.ifc 24 (.sl (.o 1024) 1 0 0 0 (List.length L) none), .fn (.func 44) [] [.ptr (.o 1280) 0 0 0 0, .ptr (.o 1088) 0 0 0 0]] [(.o 1024, .rows 1 (List.length L) (li L) true), (.o 1280, .flat [.fn (.func 42) [] [.ptr (.o 64) 0 0 0 0, .ptr (.o 0) 0 0 0 0, .ptr (.o 192) 0 0 0 0]]), (.o 1088, .flat [.sl (.o 1024) 1 0 0 0 (List.length L) none]), (.o 64, .flat [.int .i64 e]), (.o 0, .flat [.int .i64 (SCfg.nodes c), .int .i64 (SCfg.clients c), .int .i64 (SCfg.window c), .int .i64 (SCfg.buckets c), .int .i64 (SCfg.cap c), .int .i64 (SCfg.slots c), .int .i64 (SCfg.requests c), .int .i64 (SCfg.timeout c), .int .i64 (SCfg.penalty c), .int .i64 (SCfg.last c)]), (.o 192, .flat [.int .i64 nd])] (.tup []) [(.o 1024, .rows 1 n (li M) true), (.o 1280, .flat [.fn (.func (42 : FuncId)) [] [.ptr (.o 64) 0 0 0 0, .ptr (.o 0) 0 0 0 0, .ptr (.o 192) 0 0 0 0]]), (.o 1088, .flat [.sl (.o 1024) 1 0 0 0 n none]), (.o 64, .flat [.int .i64 e]), (.o 0, .flat [.int .i64 (SCfg.nodes c), .int .i64 (SCfg.clients c), .int .i64 (SCfg.window c), .int .i64 (SCfg.buckets c), .int .i64 (SCfg.cap c), .int .i64 (SCfg.slots c), .int .i64 (SCfg.requests c), .int .i64 (SCfg.timeout c), .int .i64 (SCfg.penalty c), .int .i64 (SCfg.last c)]), (.o 192, .flat [.int .i64 nd])]]) : Option (V × Heap × List Prop)) := by kernel_rfl

theorem hx89 : ∀ zs w, (callFunc 89 zs).run Try.prog w = ((Extern.ReflectliteValue.unpack (zs.getD 0 (.tuple #[]))).run Try.prog w).andThen fun v w' => .ok (.value v) w' :=
 fun zs w => run_callFunc_extern Try.func89 (by kernel_rfl) (by kernel_rfl) (by kernel_rfl) (e := fun zs => Extern.ReflectliteValue.unpack (zs.getD 0 (.tuple #[]))) (by kernel_rfl) zs w
theorem hx90 : ∀ zs w, (callFunc 90 zs).run Try.prog w = ((Extern.ReflectliteSwapper.swapper "internal/reflectlite" (Extern.ReflectliteValue.valueError "Swapper") zs).run Try.prog w).andThen fun v w' => .ok (.value v) w' :=
 fun zs w => run_callFunc_extern Try.func90 (by kernel_rfl) (by kernel_rfl) (by kernel_rfl) (e := Extern.ReflectliteSwapper.swapper "internal/reflectlite" (Extern.ReflectliteValue.valueError "Swapper")) (by kernel_rfl) zs w
theorem hx92 : ∀ zs w, (callFunc 92 zs).run Try.prog w = ((Extern.ReflectliteValue.method (Extern.ReflectliteValue.valueError "reflectlite.Value.Len" 0) Extern.ReflectliteValue.len zs).run Try.prog w).andThen fun v w' => .ok (.value v) w' :=
 fun zs w => run_callFunc_extern Try.func92 (by kernel_rfl) (by kernel_rfl) (by kernel_rfl) (e := Extern.ReflectliteValue.method (Extern.ReflectliteValue.valueError "reflectlite.Value.Len" 0) Extern.ReflectliteValue.len) (by kernel_rfl) zs w
theorem intK : ∃ ie, Try.prog.info? 3 = some ie ∧ ie.hasPointers = false ∧ ie.bytes = 8 ∧ ∀ w, (Extern.Rtype.kind 3).run Try.prog w = .ok 2 w := by
 obtain ⟨ie, h1, h2, h3, h4, h5⟩ : ∃ ie, Try.prog.info? 3 = some ie ∧ ie.hasPointers = false ∧ ie.bytes = 8 ∧ ie.desc = .int .i64 ∧ ie.str = "int" := ⟨(Try.prog.info? 3).get (by kernel_rfl), by kernel_rfl, by kernel_rfl, by kernel_rfl, by kernel_rfl, by kernel_rfl⟩
 refine ⟨ie, h1, h2, h3, fun w => ?_⟩
 simp [Extern.Rtype.kind, Extern.Rtype.under, typeInfo, h1, h4, h5, Result.andThen]
theorem slI : ∃ ti, Try.prog.info? 24 = some ti ∧ ti.desc = .slice 3 := ⟨(Try.prog.info? 24).get (by kernel_rfl), by kernel_rfl, by kernel_rfl⟩
theorem T_vo (n a : Nat) : TV Try.prog (.fn (.func 89) [] []) [.ifc 24 (slC n)] [] (.agg [.abs G0 24, .ptr (.o a) 0 0 0 0, .int .u64 151]) [(.o a, .flat [slC n])] := by
 obtain ⟨ti, h1, h2⟩ := slI
 exact TV_valueOf hx89 h1 h2 a
theorem T_vl (n a : Nat) : TV Try.prog (.fn (.func 92) [] []) [.agg [.abs G0 24, .ptr (.o a) 0 0 0 0, .int .u64 151]] [(.o a, .flat [slC n])] (.int .i64 n) [(.o a, .flat [slC n])] := by
 obtain ⟨ti, h1, h2⟩ := slI
 exact TV_vlen hx92 h1 h2 (by kernel_rfl) a
theorem T_sw2 {n : Nat} (h : 2 ≤ n) : TV Try.prog (.fn (.func 90) [] []) [.ifc 24 (slC n)] [] (swV n) [] := by
 obtain ⟨ti, h1, h2⟩ := slI
 obtain ⟨ie, i1, i2, i3, i4⟩ := intK
 have hk : Go.Lib.swapperK n ie 2 = 5 := by
  unfold Go.Lib.swapperK
  rw [if_neg (by simp; omega), if_neg (by simp; omega), i2, i3]; rfl
 exact TV_swapper hx90 h1 h2 i1 i4 hk (by kernel_rfl) rfl
theorem T_sw1 : TV Try.prog (.fn (.func 90) [] []) [.ifc 24 (slC 1)] [] (fn0 126) [] := by
 obtain ⟨ti, h1, h2⟩ := slI
 obtain ⟨ie, i1, i2, i3, i4⟩ := intK
 exact TV_swapper hx90 h1 h2 i1 i4 (k := 2) rfl (by kernel_rfl) rfl
theorem T_sw0 : TV Try.prog (.fn (.func 90) [] []) [.ifc 24 (slC 0)] [] (fn0 125) [] := by
 obtain ⟨ti, h1, h2⟩ := slI
 obtain ⟨ie, i1, i2, i3, i4⟩ := intK
 exact TV_swapper hx90 h1 h2 i1 i4 (k := 1) rfl (by kernel_rfl) rfl
theorem T_i0 (c : SCfg) (e nd : Int) {n : Nat} (h : n ≤ 1) (F : Nat → Int) (g : Nat) : T Try.prog 134 [.agg [lsV, fn0 g], .int .i64 0, .int .i64 n] (hpS c e nd n F) (.tup []) (hpS c e nd n F) := by
 refine T_al (bdI0_p0 c e nd n F g) Try.func134 ?_
 simp only [All, All_append, pcSmC_c]; and_intros
 all_goals first
  | (rw [decide_eq_true_eq]; omega)
  | (rw [decide_eq_false_iff_not]; omega)
  | omega
  | with_reducible rfl
  | (intro _ _; rfl)
  | (intro _ _; trivial)
  | (intro h; exact h)
  | exact .inl rfl
  | (simp only [IntKind.min, IntKind.max, IntKind.signed, IntKind.bits, if_true]; omega)
  | trivial
theorem T_s0 (c : SCfg) (e nd : Int) {n : Nat} (h : n ≤ 1) (F : Nat → Int) (g : Nat) : T Try.prog 91 [.agg [lsV, fn0 g], .int .i64 n] (hpS c e nd n F) (.tup []) (hpS c e nd n F) := by
 have hI := T_i0 c e nd h F g
 refine T_al (bdS0_p00 c e nd n F g) Try.func91 ?_
 simp only [All, All_append, pcSmC_c]; and_intros
 all_goals first
  | exact hI
  | (rw [decide_eq_true_eq]; omega)
  | (rw [decide_eq_false_iff_not]; omega)
  | omega
  | with_reducible rfl
  | (intro _ _; rfl)
  | (intro _ _; trivial)
  | (intro h; exact h)
  | exact .inl rfl
  | (simp only [IntKind.min, IntKind.max, IntKind.signed, IntKind.bits, if_true]; omega)
  | trivial
theorem T_SB (c : SCfg) (e nd : Int) {n : Nat} (h : n ≤ 1) (F : Nat → Int) : T Try.prog 43 [.ifc 24 (slC n), lsV] (hpS c e nd n F) (.tup []) (hpS c e nd n F) := by
 have hV := T_vo n 70
 have hL := T_vl n 70
 obtain ⟨g, hg⟩ : ∃ g, TV Try.prog (.fn (.func 90) [] []) [.ifc 24 (slC n)] [] (fn0 g) [] := by
  by_cases h0 : n = 0
  ·subst h0; exact ⟨_, T_sw0⟩
  ·obtain rfl : n = 1 := by omega
   exact ⟨_, T_sw1⟩
 have hS := T_s0 c e nd h F g
 refine T_al (bdSB_p c e nd n F g) Try.func43 ?_
 simp only [All, All_append, pcSmC_c]; and_intros
 all_goals first
  | exact hV
  | exact hL
  | exact hg
  | exact hS
  | (rw [decide_eq_true_eq]; omega)
  | (rw [decide_eq_false_iff_not]; omega)
  | omega
  | with_reducible rfl
  | (intro _ _; rfl)
  | (intro _ _; trivial)
  | (intro h; exact h)
  | exact .inl rfl
  | (simp only [IntKind.min, IntKind.max, IntKind.signed, IntKind.bits, if_true]; omega)
  | trivial
theorem T_SS {c : SCfg} {e : Int} (nd : Int) {n t : Nat} {F : Nat → Int} (h : OkF c e n F) (ho : OneAt c e nd n F t) (h64 : n ≤ 64) : T Try.prog 43 [.ifc 24 (slC n), lsV] (hpS c e nd n F) (.tup []) (hpS c e nd n (mvF F (if t < n then 0 else t) t)) := by
 by_cases h2 : 2 ≤ n
 ·have hV := T_vo n 70
  have hL := T_vl n 70
  have hg := T_sw2 h2
  have hS := T_st nd h ho h64
  refine T_al (bdSA_p c e nd n F (mvF F (if t < n then 0 else t) t)) Try.func43 ?_
  simp only [All, All_append, pcSmC_c]; and_intros
  all_goals first
   | exact hV
   | exact hL
   | exact hg
   | exact hS
   | (rw [decide_eq_true_eq]; omega)
   | (rw [decide_eq_false_iff_not]; omega)
   | omega
   | with_reducible rfl
   | (intro _ _; rfl)
   | (intro _ _; trivial)
   | (intro h; exact h)
   | exact .inl rfl
   | (simp only [IntKind.min, IntKind.max, IntKind.signed, IntKind.bits, if_true]; omega)
   | trivial
 ·have := T_SB c e nd (n := n) (by omega) F
  rwa [show mvF F (if t < n then 0 else t) t = F by
   rw [show (if t < n then 0 else t) = t by split <;> omega, mvF_self]]
/-- The same, of lists. -/
theorem mvL (l1 l2 : List Int) (x : Int) : mvF (fun k => (l1 ++ x :: l2).getD k 0) 0 l1.length = fun k => (x :: (l1 ++ l2)).getD k 0 := by
 funext k
 unfold mvF
 simp only [List.getD_eq_getElem?_getD]
 split
 ·rename_i h; subst h; simp
 ·rename_i h0
  obtain ⟨j, rfl⟩ : ∃ j, k = j + 1 := ⟨k - 1, by omega⟩
  rw [List.getElem?_cons_succ]
  split
  ·rename_i h
   rw [Nat.add_sub_cancel, List.getElem?_append_left (by omega), List.getElem?_append_left (by omega)]
  ·rename_i h
   rw [List.getElem?_append_right (by omega), List.getElem?_append_right (by omega), show j + 1 - l1.length = (j - l1.length) + 1 by omega, List.getElem?_cons_succ]
def ownL (c : SCfg) (e nd : Int) (L : List Int) : List Int := L.filter (fun x => ownB c e nd x) ++ L.filter (fun x => !ownB c e nd x)
theorem T_SL {c : SCfg} {e : Int} (nd : Int) {L : List Int} (e0 : 0 ≤ e) (e1 : e ≤ 2000000) (hc : 0 < c.nodes) (hL : ∀ x ∈ L, 0 ≤ x ∧ x < c.nodes ∧ x ≤ 1000) (hp : L.Pairwise (· < ·)) (h64 : L.length ≤ 64) :
  T Try.prog 43 [.ifc 24 (slC L.length), lsV] (hpS c e nd L.length fun k => L.getD k 0) (.tup []) (hpS c e nd L.length fun k => (ownL c e nd L).getD k 0) := by
 have hok : OkF c e L.length fun k => L.getD k 0 := by
  refine ⟨fun k hk => ?_, fun k hk => ?_, e0, e1, hc, by omega⟩
  ·rw [List.getD_eq_getElem?_getD, List.getElem?_eq_getElem hk]; exact (hL _ (List.getElem_mem hk)).1
  ·rw [List.getD_eq_getElem?_getD, List.getElem?_eq_getElem hk]; exact (hL _ (List.getElem_mem hk)).2.2
 have uniq : ∀ x ∈ L, ∀ y ∈ L, ownB c e nd x = true → ownB c e nd y = true → x < y → False := fun x hx y hy g1 g2 hxy => by
  simp only [ownB, decide_eq_true_eq] at g1 g2
  have := hL x hx; have := hL y hy
  have e3 : (y + e - (x + e)) % c.nodes = 0 := Int.emod_eq_emod_iff_emod_sub_eq_zero.1 (by rw [g1, g2])
  rw [show y + e - (x + e) = y - x by omega, Int.emod_eq_of_lt (by omega) (by omega)] at e3
  omega
 by_cases hx : ∃ x ∈ L, ownB c e nd x = true
 ·obtain ⟨x, hx, hox⟩ := hx
  obtain ⟨l1, l2, rfl⟩ := List.append_of_mem hx
  have n1 : ∀ y ∈ l1, ownB c e nd y = false := fun y hy => Bool.eq_false_iff.mpr fun hh => uniq y (by simp [hy]) x hx hh hox (by
   rw [List.pairwise_append] at hp; exact hp.2.2 y hy x (by simp))
  have n2 : ∀ y ∈ l2, ownB c e nd y = false := fun y hy => Bool.eq_false_iff.mpr fun hh => uniq x hx y (by simp [hy]) hox hh (by
   rw [List.pairwise_append, List.pairwise_cons] at hp; exact hp.2.1.1 y hy)
  have eo : ownL c e nd (l1 ++ x :: l2) = x :: (l1 ++ l2) := by
   unfold ownL
   rw [List.filter_append, List.filter_append, List.filter_cons_of_pos (by exact hox), List.filter_cons_of_neg (by simp [hox]),
    List.filter_eq_nil_iff.2 (fun y hy => by simp [n1 y hy]), List.filter_eq_nil_iff.2 (fun y hy => by simp [n2 y hy]),
    List.filter_eq_self.2 (fun y hy => by simp [n1 y hy]), List.filter_eq_self.2 (fun y hy => by simp [n2 y hy])]
   rfl
  have hone : OneAt c e nd (l1 ++ x :: l2).length (fun k => (l1 ++ x :: l2).getD k 0) l1.length := by
   intro k hk
   simp only [List.getD_eq_getElem?_getD]
   rcases Nat.lt_trichotomy k l1.length with g | g | g
   ·rw [List.getElem?_append_left g, List.getElem?_eq_getElem g]
    simp only [Option.getD_some, n1 _ (List.getElem_mem g)]
    simp; omega
   ·subst g; simp [hox]
   ·obtain ⟨j, rfl⟩ : ∃ j, k = l1.length + (j + 1) := ⟨k - l1.length - 1, by omega⟩
    have hj : j < l2.length := by simp at hk; omega
    rw [List.getElem?_append_right (by omega), show l1.length + (j + 1) - l1.length = j + 1 by omega, List.getElem?_cons_succ, List.getElem?_eq_getElem hj]
    simp only [Option.getD_some, n2 _ (List.getElem_mem hj)]
    simp
  have := T_SS nd hok hone h64
  rw [if_pos (by simp), mvL] at this
  rw [eo]; exact this
 ·have n1 : ∀ y ∈ L, ownB c e nd y = false := fun y hy => Bool.eq_false_iff.mpr fun hh => hx ⟨y, hy, hh⟩
  have eo : ownL c e nd L = L := by
   unfold ownL
   rw [List.filter_eq_nil_iff.2 (fun y hy => by simp [n1 y hy]), List.filter_eq_self.2 (fun y hy => by simp [n1 y hy])]
   rfl
  have hone : OneAt c e nd L.length (fun k => L.getD k 0) L.length := by
   intro k hk
   simp only [List.getD_eq_getElem?_getD]
   rw [List.getElem?_eq_getElem hk]
   simp only [Option.getD_some, n1 _ (List.getElem_mem hk)]
   simp; omega
  have := T_SS nd hok hone h64
  rw [if_neg (by omega), mvF_self] at this
  rw [eo]; exact this
theorem T_b1 (c : SCfg) (e : Int) {l : List Int} (nd b : Int) (hl : l.length ≤ 1000000) : T Try.prog 41 [.int .i64 b, .ptr (.o 0) 0 0 0 0, .ptr (.o 1) 0 0 0 0, .ptr (.o 2) 0 0 0 0, .ptr (.o 3) 0 0 0 0] (hpB c e l nd) (.bool (decide (ownerS c e l b = nd))) (hpB c e l nd) := by
 have hO := T_ow c (e := e) (l := l) (b := b) hl
 refine T_al (bdB1_p c e l nd b (ownerS c e l b)) Try.func41 ?_
 simp only [All, All_append, pcSmC_c]; and_intros
 all_goals first
  | exact hO
  | (rw [decide_eq_true_eq]; omega)
  | (rw [decide_eq_false_iff_not]; omega)
  | omega
  | with_reducible rfl
  | (intro _ _; rfl)
  | (intro _ _; trivial)
  | (intro h; exact h)
  | exact .inl rfl
  | (simp only [IntKind.min, IntKind.max, IntKind.signed, IntKind.bits, if_true]; omega)
  | trivial
theorem T_smC (c : SCfg) (e : Int) {l : List Int} (nd : Int) (n : Nat) (hl : l.length ≤ 1000000) (hn : n ≤ 1000000) : T Try.prog 36 [.int .i64 n, .fn (.func 41) [] [.ptr (.o 0) 0 0 0 0, .ptr (.o 1) 0 0 0 0, .ptr (.o 2) 0 0 0 0, .ptr (.o 3) 0 0 0 0]] (hpB c e l nd) (ls 4 (bkQ c e l nd n)) (hpB c e l nd ++ [(.o 4, lb (bkQ c e l nd n))]) := by
 have hlen := fun k => filS_len (fun i => decide (ownerS c e l i = nd)) k
 have hstep : ∀ k, k < n → R Try.prog none 4 (cB (cB (cR (cL (cR (bodyOf Try.f36)))))) (smCI c e l nd n k) .normal (smCI c e l nd n (k + 1)) := fun k hk => by
  have hT := T_b1 c e nd k hl
  have hlk : (bkQ c e l nd k).length ≤ k := hlen k
  cases hb : decide (ownerS c e l k = nd) with
  | true =>
   rw [hb] at hT
   have ee : bkQ c e l nd (k + 1) = bkQ c e l nd k ++ [(k : Int)] := by unfold bkQ; rw [filS, if_pos hb]
   refine R_alongPc NG MO _ (pcSmC_p11 c e l nd n k true) ?_ (by show 4 ≤ 5; decide)
   simp only [All, All_append, pcSmC_c]; and_intros
   all_goals first
    | exact hT
    | (rw [decide_eq_true_eq]; omega)
    | exact catF_li ee
    | with_reducible rfl
    | (intro _ _; rfl)
    | (intro _ _; trivial)
    | (intro j hj; obtain rfl : j = 0 := by omega
       rfl)
    | (intro h; exact h)
    | exact .inl rfl
    | (rw [ee, List.length_append]; rfl)
    | omega
    | (simp only [IntKind.min, IntKind.max, IntKind.signed, IntKind.bits, if_true]; omega)
    | trivial
  | false =>
   rw [hb] at hT
   have ee : bkQ c e l nd (k + 1) = bkQ c e l nd k := by unfold bkQ; rw [filS, if_neg (by rw [hb]; simp)]
   refine R_alongPc NG MO _ (pcSmC_p10 c e l nd n k false) ?_ (by show 4 ≤ 5; decide)
   simp only [All, All_append, pcSmC_c, ee]; and_intros
   all_goals first
    | exact hT
    | (rw [decide_eq_true_eq]; omega)
    | (rw [decide_eq_false_iff_not]; omega)
    | omega
    | with_reducible rfl
    | (intro _ _; rfl)
    | (intro _ _; trivial)
    | (intro h; exact h)
    | exact .inl rfl
    | (simp only [IntKind.min, IntKind.max, IntKind.signed, IntKind.bits, if_true]; omega)
    | trivial
 have hend : R Try.prog none 4 (cB (cB (cR (cL (cR (bodyOf Try.f36)))))) (smCI c e l nd n n) (.exit 0) (smCI c e l nd n n) := by
  refine R_alongPc NG MO _ (pcSmC_p0 c e l nd n n true) ?_ (by show 4 ≤ 5; decide)
  simp only [All, All_append, pcSmC_c]; and_intros
  all_goals first
   | (rw [decide_eq_true_eq]; omega)
   | (rw [decide_eq_false_iff_not]; omega)
   | omega
   | with_reducible rfl
   | (intro _ _; rfl)
   | (intro _ _; trivial)
   | (intro h; exact h)
   | exact .inl rfl
   | (simp only [IntKind.min, IntKind.max, IntKind.signed, IntKind.bits, if_true]; omega)
   | trivial
 have hL := RLoop.inv (smCI c e l nd n) n hstep hend (by simp)
 refine T_al (bdSmC_p c e l nd n) Try.func36 ?_
 simp only [All, All_append, pcSmC_c]; and_intros
 all_goals first
  | exact hL
  | (intro k hk; exact absurd hk (Nat.not_lt_zero k))
  | (intro h; cases h; done)
  | (rw [decide_eq_true_eq]; omega)
  | (rw [decide_eq_false_iff_not]; omega)
  | omega
  | with_reducible rfl
  | (intro _ _; rfl)
  | (intro _ _; trivial)
  | (intro h; exact h)
  | exact .inl rfl
  | (simp only [IntKind.min, IntKind.max, IntKind.signed, IntKind.bits, if_true]; omega)
  | trivial
theorem filS_mem (q : Nat → Bool) : ∀ n (x : Int), x ∈ filS q n ↔ ∃ i : Nat, i < n ∧ x = i ∧ q i = true
 | 0, x => by simp [filS]
 | n + 1, x => by
  have ih := filS_mem q n x
  rw [filS]
  split
  ·rename_i h
   rw [List.mem_append, ih, List.mem_singleton]
   constructor
   ·rintro (⟨i, h1, h2, h3⟩ | h1)
    ·exact ⟨i, by omega, h2, h3⟩
    ·exact ⟨n, by omega, h1, h⟩
   ·rintro ⟨i, h1, h2, h3⟩
    by_cases g : i = n
    ·subst g; exact .inr h2
    ·exact .inl ⟨i, by omega, h2, h3⟩
  ·rename_i h
   rw [ih]
   constructor
   ·rintro ⟨i, h1, h2, h3⟩; exact ⟨i, by omega, h2, h3⟩
   ·rintro ⟨i, h1, h2, h3⟩
    by_cases g : i = n
    ·subst g; exact absurd h3 h
    ·exact ⟨i, by omega, h2, h3⟩
theorem filS_pw (q : Nat → Bool) : ∀ n, (filS q n).Pairwise (· < ·)
 | 0 => by simp [filS]
 | n + 1 => by
  have ih := filS_pw q n
  rw [filS]
  split
  ·rw [List.pairwise_append]
   refine ⟨ih, by simp, fun x hx y hy => ?_⟩
   obtain ⟨i, h1, h2, _⟩ := (filS_mem q n x).1 hx
   rw [List.mem_singleton] at hy
   omega
  ·exact ih
def bucS (c : SCfg) (e : Int) (l : List Int) (nd : Int) : List Int := ownL c e nd (bkQ c e l nd c.buckets.toNat)
theorem ownL_len (c : SCfg) (e nd : Int) : ∀ L : List Int, (ownL c e nd L).length = L.length
 | [] => rfl
 | x :: L => by
  have ih := ownL_len c e nd L
  unfold ownL at ih ⊢
  rw [List.length_append] at ih ⊢
  cases h : ownB c e nd x with
  | true => rw [List.filter_cons_of_pos (by exact h), List.filter_cons_of_neg (by simp [h])]; simp only [List.length_cons]; omega
  | false => rw [List.filter_cons_of_neg (by simp [h]), List.filter_cons_of_pos (by simp [h])]; simp only [List.length_cons]; omega
theorem T_bk0 {c : SCfg} {e : Int} {l : List Int} {nd : Int} (hm : mayS c e = true) (hl : l.length ≤ 1000000) (hnd : 0 ≤ nd) : T Try.prog 15 [.agg c.c, .int .i64 e, lr l, .int .i64 nd] [] (ls 1024 (bucS c e l nd)) [(.o 1024, lb (bucS c e l nd))] := by
 have hM := T_my c e
 rw [hm] at hM
 obtain ⟨m1, m2, m3⟩ := mayS_iff.1 hm
 obtain ⟨g1, g2, g3⟩ := nodesB m1
 have gb := (goodC_iff.1 m1).2.2.2.1
 obtain ⟨L, hL⟩ : ∃ L, L = bkQ c e l nd c.buckets.toNat := ⟨_, rfl⟩
 have hlL : L.length ≤ c.buckets.toNat := by rw [hL]; exact filS_len _ _
 have hlM : (bucS c e l nd).length = L.length := by rw [bucS, ownL_len, hL]
 have hS := T_smC c e nd c.buckets.toNat hl (by omega)
 rw [Int.toNat_of_nonneg (by omega), ← hL] at hS
 obtain ⟨σ, hσ, hS⟩ := T.at hS [.o 0, .o 1, .o 2, .o 3, .o 4] [.o 0, .o 64, .o 128, .o 192, .o 1024] (by decide) (by decide) rfl
 simp only [List.map_cons, List.map_nil, List.cons.injEq, and_true] at hσ
 have hX := T_SL (c := c) (e := e) nd (L := L) (by omega) (by omega) (by omega) (fun x hx => by
  rw [hL] at hx
  obtain ⟨i, h1, h2, _⟩ := (filS_mem _ _ _).1 hx
  omega) (by rw [hL]; exact filS_pw _ _) (by omega)
 rw [show ownL c e nd L = bucS c e l nd by rw [bucS, hL]] at hX
 obtain ⟨τ, hτ, hX⟩ := T.at hX [.o 0, .o 1, .o 2, .o 3, .o 4, .o 5] [.o 1024, .o 1280, .o 1088, .o 64, .o 0, .o 192] (by decide) (by decide) rfl
 simp only [List.map_cons, List.map_nil, List.cons.injEq, and_true] at hτ
 obtain ⟨s1, s2, s3, s4, s5⟩ := hσ
 obtain ⟨t1, t2, t3, t4, t5, t6⟩ := hτ
 simp only [V.rens, V.ren, lr, hpB, Heap.ren, B.ren, ls, lb, List.map_cons, List.map_nil, List.cons_append, List.nil_append, s1, s2, s3, s4, s5, SCfg.c] at hS
 simp only [V.rens, V.ren, slC, lsV, hpS, rwB, Heap.ren, B.ren, List.map_cons, List.map_nil, t1, t2, t3, t4, t5, t6, SCfg.c] at hX
 have key : T Try.prog 15 [.agg c.c, .int .i64 e, lr l, .int .i64 nd] [] (.sl (.o 1024) 1 0 0 0 L.length none) [(.o 1024, .rows 1 L.length (li (bucS c e l nd)) true)] := by
  refine T_al (bdBk_p00 c e l nd L.length L (bucS c e l nd)) Try.func15 ?_
  simp only [All, All_append, pcSmC_c]; and_intros
  all_goals first
   | exact hM
   | exact hS
   | exact hX
   | (rw [decide_eq_true_eq]; omega)
   | (rw [decide_eq_false_iff_not]; omega)
   | omega
   | with_reducible rfl
   | (intro _ _; rfl)
   | (intro _ _; trivial)
   | (intro h; exact h)
   | exact .inl rfl
   | (simp only [IntKind.min, IntKind.max, IntKind.signed, IntKind.bits, if_true]; omega)
   | trivial
 rw [← hlM] at key
 exact key
theorem T_bk {c : SCfg} {e : Int} {l : List Int} {nd : Int} (hm : mayS c e = true) (hl : l.length ≤ 1000000) (hnd : 0 ≤ nd) (a : Nat) : T Try.prog 15 [.agg c.c, .int .i64 e, lr l, .int .i64 nd] [] (ls a (bucS c e l nd)) [(.o a, lb (bucS c e l nd))] := by
 obtain ⟨σ, hσ, h1⟩ := T.at (T_bk0 hm hl hnd) [.o 1024] [.o a] (by decide) (by simp) rfl
 simp only [List.map_cons, List.map_nil, List.cons.injEq, and_true] at hσ
 simpa [V.rens, V.ren, Heap.ren, B.ren, lr, ls, lb, SCfg.c, hσ] using h1
end Go.Proofs.Ythifjamdfpjilaa
namespace Go.Proofs.Ythifjamdfpjilaa
open Go Sy Go.Proofs
def plC : SCfg := ⟨4, 2, 4, 4, 2, 2, 2, 12, 1, 100⟩
noncomputable def bdPl : Bd := { f := Try.f33, args := [], kb := kb0 }
def ieDb : List V → Heap → Nat → List Cl := fun a _ _ => match a with
 | [.ros _ _ _ _, .sl b _ _ _ _ _ _] => [{ rd := [b], val := .bool true }]
 | [.sl a _ _ _ _ _ _, .sl b _ _ _ _ _ _] => [{ rd := [a, b], val := .bool true }]
 | _ => []
def owDb : List V → Heap → Nat → List Cl := fun a _ _ => match a with
 | [_, _, _, .int _ b] => [{ val := .int .i64 (ownerS plC 1 [0, 1, 2, 3] b) }]
 | _ => []
def bkDb : List V → Heap → Nat → List Cl := fun a _ lo => match a with
 | [_, _, .sl b _ _ _ _ _ _, _] => [{ rd := [b], val := ls lo [1, 0], post := [(.o lo, lb [1, 0])] }]
 | _ => []
noncomputable def bdLv : Bd := { f := Try.f12, args := [], kb := { db := dbQ [(33, cVal (.agg plC.c)), (13, cVal (lr [0, 1, 2, 3])), (11, cVal (.int .i64 0)), (34, ieDb), (16, owDb), (15, bkDb)] } }
end Go.Proofs.Ythifjamdfpjilaa
namespace Go.Proofs.Ythifjamdfpjilaa
open Go Sy Go.Proofs
theorem bdPl_p :
  along Try.prog (bdPl) [] = (some (.agg [.int .i64 4, .int .i64 2, .int .i64 4, .int .i64 4, .int .i64 2, .int .i64 2, .int .i64 2, .int .i64 12, .int .i64 1, .int .i64 100], [], []) : Option (V × Heap × List Prop)) := by kernel_rfl

theorem bdLv_p1111 :
  along Try.prog (bdLv) [true, true, true, true] = (some (.bool true, [], [T Try.prog 33 [] [] (.agg [.int .i64 4, .int .i64 2, .int .i64 4, .int .i64 4, .int .i64 2, .int .i64 2, .int .i64 2, .int .i64 12, .int .i64 1, .int .i64 100]) [], T Try.prog 13 [.agg [.int .i64 4, .int .i64 2, .int .i64 4, .int .i64 4, .int .i64 2, .int .i64 2, .int .i64 2, .int .i64 12, .int .i64 1, .int .i64 100], .int .i64 1, .snil] [] (.ros 1 4 (li [(0 : Int), (1 : Int), (2 : Int), (3 : Int)]) false) [], T Try.prog 11 [.agg [.int .i64 4, .int .i64 2, .int .i64 4, .int .i64 4, .int .i64 2, .int .i64 2, .int .i64 2, .int .i64 12, .int .i64 1, .int .i64 100]] [] (.int .i64 0) [], q2, T Try.prog 34 [.ros 1 4 (li [(0 : Int), (1 : Int), (2 : Int), (3 : Int)]) false, .sl (.o 768) 1 0 0 0 4 (some 4)] [(.o 768, .rows 1 4 (getL [[.int .i64 0], [.int .i64 1], [.int .i64 2], [.int .i64 3]]) false)] (.bool true) [(.o 768, .rows 1 4 (getL [[.int .i64 0], [.int .i64 1], [.int .i64 2], [.int .i64 3]]) false)], q2, T Try.prog 16 [.agg [.int .i64 4, .int .i64 2, .int .i64 4, .int .i64 4, .int .i64 2, .int .i64 2, .int .i64 2, .int .i64 12, .int .i64 1, .int .i64 100], .int .i64 1, .ros 1 4 (li [(0 : Int), (1 : Int), (2 : Int), (3 : Int)]) false, .int .i64 0] [] (.int .i64 1) [], q2, T Try.prog 16 [.agg [.int .i64 4, .int .i64 2, .int .i64 4, .int .i64 4, .int .i64 2, .int .i64 2, .int .i64 2, .int .i64 12, .int .i64 1, .int .i64 100], .int .i64 1, .ros 1 4 (li [(0 : Int), (1 : Int), (2 : Int), (3 : Int)]) false, .int .i64 3] [] (.int .i64 0) [], q2, T Try.prog 15 [.agg [.int .i64 4, .int .i64 2, .int .i64 4, .int .i64 4, .int .i64 2, .int .i64 2, .int .i64 2, .int .i64 12, .int .i64 1, .int .i64 100], .int .i64 1, .sl (.o 1856) 1 0 0 0 3 (some 3), .int .i64 2] [(.o 1856, .rows 1 3 (getL [[.int .i64 0], [.int .i64 2], [.int .i64 3]]) false)] (.sl (.o 1920) 1 0 0 0 2 none) [(.o 1920, .rows 1 2 (li [(1 : Int), (0 : Int)]) true), (.o 1856, .rows 1 3 (getL [[.int .i64 0], [.int .i64 2], [.int .i64 3]]) false)], T Try.prog 34 [.sl (.o 1920) 1 0 0 0 2 none, .sl (.o 1984) 1 0 0 0 2 (some 2)] [(.o 1920, .rows 1 2 (li [(1 : Int), (0 : Int)]) true), (.o 1984, .rows 1 2 (getL [[.int .i64 1], [.int .i64 0]]) false)] (.bool true) [(.o 1920, .rows 1 2 (li [(1 : Int), (0 : Int)]) true), (.o 1984, .rows 1 2 (getL [[.int .i64 1], [.int .i64 0]]) false)]]) : Option (V × Heap × List Prop)) := by kernel_rfl

theorem T_pl : T Try.prog 33 [] [] (.agg plC.c) [] :=
 T_along NG MO _ bdPl_p Try.func33 (by kernel_rfl) trivial (pinH_ok (by kernel_rfl)) (by kernel_rfl)
theorem T_lv : T Try.prog 12 [] [] (.bool true) [] := by
 have h1 := T_pl
 have h2 : T Try.prog 13 [.agg plC.c, .int .i64 1, .snil] [] (lr [0, 1, 2, 3]) [] := by
  have := T_ls plC 1 []
  rw [show listS plC 1 [] = [0, 1, 2, 3] by decide] at this
  refine T.args this rfl ?_
  simp [All]
 have h3 : T Try.prog 11 [.agg plC.c] [] (.int .i64 0) [] := by
  have := T_cg plC
  rwa [show goodE plC = 0 by decide] at this
 have h4 : ∀ x, T Try.prog 16 [.agg plC.c, .int .i64 1, lr [0, 1, 2, 3], .int .i64 x] [] (.int .i64 (ownerS plC 1 [0, 1, 2, 3] x)) [] := fun x => T_ow plC (by decide)
 have h5 : T Try.prog 16 [.agg plC.c, .int .i64 1, lr [0, 1, 2, 3], .int .i64 0] [] (.int .i64 1) [] := by
  have := h4 0
  rwa [show ownerS plC 1 [0, 1, 2, 3] 0 = 1 by decide] at this
 have h6 : T Try.prog 16 [.agg plC.c, .int .i64 1, lr [0, 1, 2, 3], .int .i64 3] [] (.int .i64 0) [] := by
  have := h4 3
  rwa [show ownerS plC 1 [0, 1, 2, 3] 3 = 0 by decide] at this
 have h7 := T_bk (c := plC) (e := 1) (l := [0, 2, 3]) (nd := 2) (by decide) (by decide) (by decide) 1920
 rw [show bucS plC 1 [0, 2, 3] 2 = [1, 0] by decide] at h7
 refine T_al bdLv_p1111 Try.func12 ?_
 simp only [All]; and_intros
 all_goals first
  | exact h1
  | exact h2
  | exact h3
  | exact h5
  | exact h6
  | (refine T.lend (T_ie (a := [0, 1, 2, 3]) (b := [0, 1, 2, 3]) (by decide)) rfl ?_; simp only [All]; and_intros <;> first | rfl | trivial | omega | (intro h; exact h) | (intro k hk; rcases k with _ | _ | _ | _ | k <;> first | rfl | omega))
  | (refine T.lend (T_ie (a := [1, 0]) (b := [1, 0]) (by decide)) rfl ?_; simp only [All]; and_intros <;> first | rfl | trivial | omega | (intro h; exact h) | (intro k hk; rcases k with _ | _ | _ | _ | k <;> first | rfl | omega))
  | exact T.lendG h7 rfl (by simp only [All]; and_intros <;> first | rfl | trivial | omega | (intro h; exact h) | (intro k hk; rcases k with _ | _ | _ | _ | k <;> first | rfl | omega)) (FreeV.sl _ _ _ _ _ _ _) (fun x hx => by rw [List.mem_singleton] at hx; subst hx; exact FreeB.ints) (fun n hn => by obtain ⟨b, hb⟩ := hn; rw [List.mem_singleton] at hb; cases hb; rintro ⟨b, hb⟩; rw [List.mem_singleton] at hb; cases hb)
  | rfl
  | trivial
end Go.Proofs.Ythifjamdfpjilaa
namespace Go.Proofs.Ythifjamdfpjilaa
open Go Sy Go.Proofs
def fwQ (e : Int) (pen : List Int) : Nat → Bool := fun i => decide (penS pen i ≤ e)
def fwI (c : SCfg) (e : Int) (pen : List Int) (n k : Nat) (m : Int) : St := ⟨mkT 90 [(1, .int .i64 e), (2, lr pen), (3, .ptr (.o 0) 0 0 0 0), (7, .int .i64 m), (30, .int .i64 n), (31, .int .i64 k)], [(.o 0, .flat c.c)], 1, []⟩
def fwJ (c : SCfg) (e : Int) (pen L : List Int) (k : Nat) : St := ⟨mkT 90 [(1, .int .i64 e), (2, lr pen), (3, .ptr (.o 0) 0 0 0 0), (70, lr L), (71, .int .i64 (L.length : Nat)), (72, .int .i64 k)], [(.o 0, .flat c.c)], 1, []⟩
noncomputable def bdFw (c : SCfg) (e : Int) (pen : List Int) (g s : Int) (n : Nat) (m : Int) (L : List Int) : Bd := { f := Try.f5, args := [.agg c.c, .int .i64 e, lr pen], kb := { db := dbQ [(11, cVal (.int .i64 g)), (12, cVal (.bool true)), (13, cVal (lr L)), (14, cVal (.int .i64 s))], lp := fun id t => bif Nat.beq id 0 then [(True, .loop (n + 1) (wToS [(.o 0, nmV (getV t.tmps 3))] (fwI c e pen n 0 0)) (.exit 0) (fwI c e pen n n m))] else [(True, .loop (L.length + 1) (wToS [(.o 0, nmV (getV t.tmps 3))] (fwJ c e pen L 0)) (.exit 2) (fwJ c e pen L L.length))] } }
noncomputable def fwC0 : Code := cB (cB (cR (cL (cR (cR (cR (bodyOf Try.f5)))))))
noncomputable def fwC2 : Code := cB (cB (cR (cL (cR (cR (cR (cR (cR (cR (cR (bodyOf Try.f5)))))))))))
noncomputable def pcFi (c : SCfg) (e : Int) (pen : List Int) (n k : Nat) (m m' : Int) : Pc := { c := fwC0, st := fwI c e pen n k m, p := 0, kb := kb0, k := fun x_ _ => match x_ with
 | .normal => some (wTo (fwI c e pen n (k + 1) m'))
 | _ => some (wTo (fwI c e pen n k m)) }
noncomputable def pcFj (c : SCfg) (e : Int) (pen L : List Int) (k : Nat) : Pc := { c := fwC2, st := fwJ c e pen L k, p := 0, kb := kb0, k := fun x_ _ => match x_ with
 | .normal => some (wTo (fwJ c e pen L (k + 1)))
 | _ => some (wTo (fwJ c e pen L k)) }
end Go.Proofs.Ythifjamdfpjilaa
namespace Go.Proofs.Ythifjamdfpjilaa
open Go Sy Go.Proofs
noncomputable def bdFw_c (c : SCfg) (e : Int) (pen : List Int) (g : Int) (s : Int) (n : Nat) (m : Int) (L : List Int) : Nat → List Prop
 | 0 => [T Try.prog 11 [.agg [.int .i64 (SCfg.nodes c), .int .i64 (SCfg.clients c), .int .i64 (SCfg.window c), .int .i64 (SCfg.buckets c), .int .i64 (SCfg.cap c), .int .i64 (SCfg.slots c), .int .i64 (SCfg.requests c), .int .i64 (SCfg.timeout c), .int .i64 (SCfg.penalty c), .int .i64 (SCfg.last c)]] [] (.int .i64 g) []]
 | 1 => [decide ((200 : Int) < (↑(List.length pen) : Int)) = false, RLoop Try.prog none 0 (cB (cB (cR (cL (cR (cR (cR (bodyOf (Bd.f (bdFw c e pen g s n m L)))))))))) (n + 1) (St.mk [.any, .int .i64 e, .ros 1 (List.length pen) (li pen) false, .ptr (.o 0) 0 0 0 0, .any, .any, .any, .int .i64 0, .any, .any, .any, .any, .any, .any, .any, .any, .any, .any, .any, .any, .any, .any, .any, .any, .any, .any, .any, .any, .any, .any, .int .i64 ↑n, .int .i64 0, .any, .any, .any, .any, .any, .any, .any, .any, .any, .any, .any, .any, .any, .any, .any, .any, .any, .any, .any, .any, .any, .any, .any, .any, .any, .any, .any, .any, .any, .any, .any, .any, .any, .any, .any, .any, .any, .any, .any, .any, .any, .any, .any, .any, .any, .any, .any, .any, .any, .any, .any, .any, .any, .any, .any, .any, .any, .any] [(.o 0, .flat [.int .i64 (SCfg.nodes c), .int .i64 (SCfg.clients c), .int .i64 (SCfg.window c), .int .i64 (SCfg.buckets c), .int .i64 (SCfg.cap c), .int .i64 (SCfg.slots c), .int .i64 (SCfg.requests c), .int .i64 (SCfg.timeout c), .int .i64 (SCfg.penalty c), .int .i64 (SCfg.last c)])] 1 []) (.exit 0) (St.mk [.any, .int .i64 e, .ros 1 (List.length pen) (li pen) false, .ptr (.o 0) 0 0 0 0, .any, .any, .any, .int .i64 m, .any, .any, .any, .any, .any, .any, .any, .any, .any, .any, .any, .any, .any, .any, .any, .any, .any, .any, .any, .any, .any, .any, .int .i64 ↑n, .int .i64 ↑n, .any, .any, .any, .any, .any, .any, .any, .any, .any, .any, .any, .any, .any, .any, .any, .any, .any, .any, .any, .any, .any, .any, .any, .any, .any, .any, .any, .any, .any, .any, .any, .any, .any, .any, .any, .any, .any, .any, .any, .any, .any, .any, .any, .any, .any, .any, .any, .any, .any, .any, .any, .any, .any, .any, .any, .any, .any, .any] [(.o 0, .flat [.int .i64 (SCfg.nodes c), .int .i64 (SCfg.clients c), .int .i64 (SCfg.window c), .int .i64 (SCfg.buckets c), .int .i64 (SCfg.cap c), .int .i64 (SCfg.slots c), .int .i64 (SCfg.requests c), .int .i64 (SCfg.timeout c), .int .i64 (SCfg.penalty c), .int .i64 (SCfg.last c)])] 1 []), q (SCfg.nodes c), q (SCfg.clients c), q (SCfg.window c), q (SCfg.buckets c), q (SCfg.cap c), q (SCfg.slots c), q (SCfg.requests c), q (SCfg.timeout c), q (SCfg.penalty c), q (SCfg.last c), q e, q (List.length pen), ∀ (k : Nat), k < List.length pen → [V.int IntKind.i64 (List.getD pen k (0 : Int))] = [V.int IntKind.i64 (List.getD pen k (0 : Int))], false = true → false = true, q0, q0, q0, q1, SCfg.nodes c = (↑n : Int), q1, T Try.prog 13 [.agg [.int .i64 (SCfg.nodes c), .int .i64 (SCfg.clients c), .int .i64 (SCfg.window c), .int .i64 (SCfg.buckets c), .int .i64 (SCfg.cap c), .int .i64 (SCfg.slots c), .int .i64 (SCfg.requests c), .int .i64 (SCfg.timeout c), .int .i64 (SCfg.penalty c), .int .i64 (SCfg.last c)], .int .i64 e, .ros 1 (List.length pen) (li pen) false] [] (.ros 1 (List.length L) (li L) false) [], T Try.prog 14 [.int .i64 (SCfg.nodes c)] [] (.int .i64 s) []]
 | _ => []
theorem bdFw_p1111 (c : SCfg) (e : Int) (pen : List Int) (g : Int) (s : Int) (n : Nat) (m : Int) (L : List Int) :
 along Try.prog (bdFw c e pen g s n m L) [true, true, true, true] = (some (.bool true, [], bdFw_c c e pen g s n m L 0 ++ [(!decide (g = (0 : Int))) = true, q2, q2, q2, T Try.prog 12 [] [] (.bool true) []]) : Option (V × Heap × List Prop)) := by kernel_rfl

theorem bdFw_p0111 (c : SCfg) (e : Int) (pen : List Int) (g : Int) (s : Int) (n : Nat) (m : Int) (L : List Int) :
 along Try.prog (bdFw c e pen g s n m L) [false, true, true, true] = (some (.bool true, [], bdFw_c c e pen g s n m L 0 ++ [(!decide (g = (0 : Int))) = false, decide (e < (1 : Int)) = true, q2, q2, T Try.prog 12 [] [] (.bool true) []]) : Option (V × Heap × List Prop)) := by kernel_rfl

theorem bdFw_p0011 (c : SCfg) (e : Int) (pen : List Int) (g : Int) (s : Int) (n : Nat) (m : Int) (L : List Int) :
 along Try.prog (bdFw c e pen g s n m L) [false, false, true, true] = (some (.bool true, [], bdFw_c c e pen g s n m L 0 ++ [(!decide (g = (0 : Int))) = false, decide (e < (1 : Int)) = false, decide ((1048576 : Int) < e) = true, q2, T Try.prog 12 [] [] (.bool true) []]) : Option (V × Heap × List Prop)) := by kernel_rfl

theorem bdFw_p0001 (c : SCfg) (e : Int) (pen : List Int) (g : Int) (s : Int) (n : Nat) (m : Int) (L : List Int) :
 along Try.prog (bdFw c e pen g s n m L) [false, false, false, true] = (some (.bool true, [], bdFw_c c e pen g s n m L 0 ++ [(!decide (g = (0 : Int))) = false, decide (e < (1 : Int)) = false, decide ((1048576 : Int) < e) = false, decide ((200 : Int) < (↑(List.length pen) : Int)) = true, T Try.prog 12 [] [] (.bool true) []]) : Option (V × Heap × List Prop)) := by kernel_rfl

theorem bdFw_p000000 (c : SCfg) (e : Int) (pen : List Int) (g : Int) (s : Int) (n : Nat) (m : Int) (L : List Int) :
 along Try.prog (bdFw c e pen g s n m L) [false, false, false, false, false, false] = (some (.bool true, [], bdFw_c c e pen g s n m L 0 ++ ([(!decide (g = (0 : Int))) = false, decide (e < (1 : Int)) = false, decide ((1048576 : Int) < e) = false] ++ (bdFw_c c e pen g s n m L 1 ++ [decide (m < s) = false, (!decide ((↑(List.length L) : Int) = m)) = false, RLoop Try.prog none 0 (cB (cB (cR (cL (cR (cR (cR (cR (cR (cR (cR (bodyOf (Bd.f (bdFw c e pen g s n m L)))))))))))))) (List.length L + 1) (St.mk [.any, .int .i64 e, .ros 1 (List.length pen) (li pen) false, .ptr (.o 0) 0 0 0 0, .any, .any, .any, .any, .any, .any, .any, .any, .any, .any, .any, .any, .any, .any, .any, .any, .any, .any, .any, .any, .any, .any, .any, .any, .any, .any, .any, .any, .any, .any, .any, .any, .any, .any, .any, .any, .any, .any, .any, .any, .any, .any, .any, .any, .any, .any, .any, .any, .any, .any, .any, .any, .any, .any, .any, .any, .any, .any, .any, .any, .any, .any, .any, .any, .any, .any, .ros 1 (List.length L) (li L) false, .int .i64 (↑(List.length L) : Int), .int .i64 0, .any, .any, .any, .any, .any, .any, .any, .any, .any, .any, .any, .any, .any, .any, .any, .any, .any] [(.o 0, .flat [.int .i64 (SCfg.nodes c), .int .i64 (SCfg.clients c), .int .i64 (SCfg.window c), .int .i64 (SCfg.buckets c), .int .i64 (SCfg.cap c), .int .i64 (SCfg.slots c), .int .i64 (SCfg.requests c), .int .i64 (SCfg.timeout c), .int .i64 (SCfg.penalty c), .int .i64 (SCfg.last c)])] 1 []) (.exit 2) (St.mk [.any, .int .i64 e, .ros 1 (List.length pen) (li pen) false, .ptr (.o 0) 0 0 0 0, .any, .any, .any, .any, .any, .any, .any, .any, .any, .any, .any, .any, .any, .any, .any, .any, .any, .any, .any, .any, .any, .any, .any, .any, .any, .any, .any, .any, .any, .any, .any, .any, .any, .any, .any, .any, .any, .any, .any, .any, .any, .any, .any, .any, .any, .any, .any, .any, .any, .any, .any, .any, .any, .any, .any, .any, .any, .any, .any, .any, .any, .any, .any, .any, .any, .any, .ros 1 (List.length L) (li L) false, .int .i64 (↑(List.length L) : Int), .int .i64 (↑(List.length L) : Int), .any, .any, .any, .any, .any, .any, .any, .any, .any, .any, .any, .any, .any, .any, .any, .any, .any] [(.o 0, .flat [.int .i64 (SCfg.nodes c), .int .i64 (SCfg.clients c), .int .i64 (SCfg.window c), .int .i64 (SCfg.buckets c), .int .i64 (SCfg.cap c), .int .i64 (SCfg.slots c), .int .i64 (SCfg.requests c), .int .i64 (SCfg.timeout c), .int .i64 (SCfg.penalty c), .int .i64 (SCfg.last c)])] 1 []), q (SCfg.nodes c), q (SCfg.clients c), q (SCfg.window c), q (SCfg.buckets c), q (SCfg.cap c), q (SCfg.slots c), q (SCfg.requests c), q (SCfg.timeout c), q (SCfg.penalty c), q (SCfg.last c), q e, q (List.length pen), ∀ (k : Nat), k < List.length pen → [V.int IntKind.i64 (List.getD pen k (0 : Int))] = [V.int IntKind.i64 (List.getD pen k (0 : Int))], false = true → false = true, q0, q0, q0, q (List.length L), ∀ (k : Nat), k < List.length L → [V.int IntKind.i64 (List.getD L k (0 : Int))] = [V.int IntKind.i64 (List.getD L k (0 : Int))], false = true → false = true, q (↑(List.length L) : Int), q1, T Try.prog 12 [] [] (.bool true) []]))) : Option (V × Heap × List Prop)) := by kernel_rfl

theorem bdFw_p000011 (c : SCfg) (e : Int) (pen : List Int) (g : Int) (s : Int) (n : Nat) (m : Int) (L : List Int) :
 along Try.prog (bdFw c e pen g s n m L) [false, false, false, false, true, true] = (some (.bool true, [], bdFw_c c e pen g s n m L 0 ++ ([(!decide (g = (0 : Int))) = false, decide (e < (1 : Int)) = false, decide ((1048576 : Int) < e) = false] ++ (bdFw_c c e pen g s n m L 1 ++ [decide (m < s) = true, decide ((↑(List.length L) : Int) = SCfg.nodes c) = true, T Try.prog 12 [] [] (.bool true) []]))) : Option (V × Heap × List Prop)) := by kernel_rfl

theorem pcFi_p111 (c : SCfg) (e : Int) (pen : List Int) (n : Nat) (k : Nat) (m : Int) (m' : Int) :
  alongPc Try.prog (pcFi c e pen n k m m') [true, true, true] = (some (.normal, St.mk [.any, .int .i64 e, .ros 1 (List.length pen) (li pen) false, .ptr (.o 0) 0 0 0 0, .any, .any, .any, .int .i64 m', .any, .any, .any, .any, .any, .any, .any, .any, .any, .any, .any, .any, .any, .any, .any, .any, .any, .any, .any, .any, .any, .any, .int .i64 ↑n, .int .i64 (↑(k + 1) : Int), .any, .any, .any, .any, .any, .any, .any, .any, .any, .any, .any, .any, .any, .any, .any, .any, .any, .any, .any, .any, .any, .any, .any, .any, .any, .any, .any, .any, .any, .any, .any, .any, .any, .any, .any, .any, .any, .any, .any, .any, .any, .any, .any, .any, .any, .any, .any, .any, .any, .any, .any, .any, .any, .any, .any, .any, .any, .any] [(.o 0, .flat [.int .i64 (SCfg.nodes c), .int .i64 (SCfg.clients c), .int .i64 (SCfg.window c), .int .i64 (SCfg.buckets c), .int .i64 (SCfg.cap c), .int .i64 (SCfg.slots c), .int .i64 (SCfg.requests c), .int .i64 (SCfg.timeout c), .int .i64 (SCfg.penalty c), .int .i64 (SCfg.last c)])] 1 [], [decide ((↑k : Int) < (↑n : Int)) = true, decide ((↑(List.length pen) : Int) ≤ (↑k : Int)) = true, q2, InR IntKind.i64 (m + (1 : Int)), InR IntKind.i64 ((↑k : Int) + (1 : Int)), q (SCfg.nodes c), q (SCfg.clients c), q (SCfg.window c), q (SCfg.buckets c), q (SCfg.cap c), q (SCfg.slots c), q (SCfg.requests c), q (SCfg.timeout c), q (SCfg.penalty c), q (SCfg.last c), q e, q (List.length pen), ∀ (k : Nat), k < List.length pen → [V.int IntKind.i64 (List.getD pen k (0 : Int))] = [V.int IntKind.i64 (List.getD pen k (0 : Int))], false = true → false = true, q0, q0, q0, m + (1 : Int) = m', q (↑n : Int), (↑k : Int) + (1 : Int) = (↑(k + (1 : Nat)) : Int)]) : Option (Exit × St × List Prop)) := by kernel_rfl
theorem pcFi_p101 (c : SCfg) (e : Int) (pen : List Int) (n : Nat) (k : Nat) (m : Int) (m' : Int) :
  alongPc Try.prog (pcFi c e pen n k m m') [true, false, true] = (some (.normal, St.mk [.any, .int .i64 e, .ros 1 (List.length pen) (li pen) false, .ptr (.o 0) 0 0 0 0, .any, .any, .any, .int .i64 m', .any, .any, .any, .any, .any, .any, .any, .any, .any, .any, .any, .any, .any, .any, .any, .any, .any, .any, .any, .any, .any, .any, .int .i64 ↑n, .int .i64 (↑(k + 1) : Int), .any, .any, .any, .any, .any, .any, .any, .any, .any, .any, .any, .any, .any, .any, .any, .any, .any, .any, .any, .any, .any, .any, .any, .any, .any, .any, .any, .any, .any, .any, .any, .any, .any, .any, .any, .any, .any, .any, .any, .any, .any, .any, .any, .any, .any, .any, .any, .any, .any, .any, .any, .any, .any, .any, .any, .any, .any, .any] [(.o 0, .flat [.int .i64 (SCfg.nodes c), .int .i64 (SCfg.clients c), .int .i64 (SCfg.window c), .int .i64 (SCfg.buckets c), .int .i64 (SCfg.cap c), .int .i64 (SCfg.slots c), .int .i64 (SCfg.requests c), .int .i64 (SCfg.timeout c), .int .i64 (SCfg.penalty c), .int .i64 (SCfg.last c)])] 1 [], [decide ((↑k : Int) < (↑n : Int)) = true, decide ((↑(List.length pen) : Int) ≤ (↑k : Int)) = false, (0 : Int) ≤ (↑k : Int) ∧ (↑k : Int) < (↑(List.length pen) : Int), decide (List.getD pen (Int.toNat (↑k : Int)) (0 : Int) ≤ e) = true, InR IntKind.i64 (m + (1 : Int)), InR IntKind.i64 ((↑k : Int) + (1 : Int)), q (SCfg.nodes c), q (SCfg.clients c), q (SCfg.window c), q (SCfg.buckets c), q (SCfg.cap c), q (SCfg.slots c), q (SCfg.requests c), q (SCfg.timeout c), q (SCfg.penalty c), q (SCfg.last c), q e, q (List.length pen), ∀ (k : Nat), k < List.length pen → [V.int IntKind.i64 (List.getD pen k (0 : Int))] = [V.int IntKind.i64 (List.getD pen k (0 : Int))], false = true → false = true, q0, q0, q0, m + (1 : Int) = m', q (↑n : Int), (↑k : Int) + (1 : Int) = (↑(k + (1 : Nat)) : Int)]) : Option (Exit × St × List Prop)) := by kernel_rfl
theorem pcFi_p100 (c : SCfg) (e : Int) (pen : List Int) (n : Nat) (k : Nat) (m : Int) (m' : Int) :
  alongPc Try.prog (pcFi c e pen n k m m') [true, false, false] = (some (.normal, St.mk [.any, .int .i64 e, .ros 1 (List.length pen) (li pen) false, .ptr (.o 0) 0 0 0 0, .any, .any, .any, .int .i64 m', .any, .any, .any, .any, .any, .any, .any, .any, .any, .any, .any, .any, .any, .any, .any, .any, .any, .any, .any, .any, .any, .any, .int .i64 ↑n, .int .i64 (↑(k + 1) : Int), .any, .any, .any, .any, .any, .any, .any, .any, .any, .any, .any, .any, .any, .any, .any, .any, .any, .any, .any, .any, .any, .any, .any, .any, .any, .any, .any, .any, .any, .any, .any, .any, .any, .any, .any, .any, .any, .any, .any, .any, .any, .any, .any, .any, .any, .any, .any, .any, .any, .any, .any, .any, .any, .any, .any, .any, .any, .any] [(.o 0, .flat [.int .i64 (SCfg.nodes c), .int .i64 (SCfg.clients c), .int .i64 (SCfg.window c), .int .i64 (SCfg.buckets c), .int .i64 (SCfg.cap c), .int .i64 (SCfg.slots c), .int .i64 (SCfg.requests c), .int .i64 (SCfg.timeout c), .int .i64 (SCfg.penalty c), .int .i64 (SCfg.last c)])] 1 [], [decide ((↑k : Int) < (↑n : Int)) = true, decide ((↑(List.length pen) : Int) ≤ (↑k : Int)) = false, (0 : Int) ≤ (↑k : Int) ∧ (↑k : Int) < (↑(List.length pen) : Int), decide (List.getD pen (Int.toNat (↑k : Int)) (0 : Int) ≤ e) = false, InR IntKind.i64 ((↑k : Int) + (1 : Int)), q (SCfg.nodes c), q (SCfg.clients c), q (SCfg.window c), q (SCfg.buckets c), q (SCfg.cap c), q (SCfg.slots c), q (SCfg.requests c), q (SCfg.timeout c), q (SCfg.penalty c), q (SCfg.last c), q e, q (List.length pen), ∀ (k : Nat), k < List.length pen → [V.int IntKind.i64 (List.getD pen k (0 : Int))] = [V.int IntKind.i64 (List.getD pen k (0 : Int))], false = true → false = true, q0, q0, q0, m = m', q (↑n : Int), (↑k : Int) + (1 : Int) = (↑(k + (1 : Nat)) : Int)]) : Option (Exit × St × List Prop)) := by kernel_rfl
theorem pcFi_p0 (c : SCfg) (e : Int) (pen : List Int) (n : Nat) (k : Nat) (m : Int) (m' : Int) :
  alongPc Try.prog (pcFi c e pen n k m m') [false] = (some (.exit 0, St.mk [.any, .int .i64 e, .ros 1 (List.length pen) (li pen) false, .ptr (.o 0) 0 0 0 0, .any, .any, .any, .int .i64 m, .any, .any, .any, .any, .any, .any, .any, .any, .any, .any, .any, .any, .any, .any, .any, .any, .any, .any, .any, .any, .any, .any, .int .i64 ↑n, .int .i64 ↑k, .any, .any, .any, .any, .any, .any, .any, .any, .any, .any, .any, .any, .any, .any, .any, .any, .any, .any, .any, .any, .any, .any, .any, .any, .any, .any, .any, .any, .any, .any, .any, .any, .any, .any, .any, .any, .any, .any, .any, .any, .any, .any, .any, .any, .any, .any, .any, .any, .any, .any, .any, .any, .any, .any, .any, .any, .any, .any] [(.o 0, .flat [.int .i64 (SCfg.nodes c), .int .i64 (SCfg.clients c), .int .i64 (SCfg.window c), .int .i64 (SCfg.buckets c), .int .i64 (SCfg.cap c), .int .i64 (SCfg.slots c), .int .i64 (SCfg.requests c), .int .i64 (SCfg.timeout c), .int .i64 (SCfg.penalty c), .int .i64 (SCfg.last c)])] 1 [], [decide ((↑k : Int) < (↑n : Int)) = false, q (SCfg.nodes c), q (SCfg.clients c), q (SCfg.window c), q (SCfg.buckets c), q (SCfg.cap c), q (SCfg.slots c), q (SCfg.requests c), q (SCfg.timeout c), q (SCfg.penalty c), q (SCfg.last c), q e, q (List.length pen), ∀ (k : Nat), k < List.length pen → [V.int IntKind.i64 (List.getD pen k (0 : Int))] = [V.int IntKind.i64 (List.getD pen k (0 : Int))], false = true → false = true, q0, q0, q0, q m, q (↑n : Int), q (↑k : Int)]) : Option (Exit × St × List Prop)) := by kernel_rfl

theorem pcFj_p111 (c : SCfg) (e : Int) (pen : List Int) (L : List Int) (k : Nat) :
  alongPc Try.prog (pcFj c e pen L k) [true, true, true] = (some (.ret, St.mk [.any, .int .i64 e, .ros 1 (List.length pen) (li pen) false, .ptr (.o 0) 0 0 0 0, .any, .any, .any, .any, .any, .any, .any, .any, .any, .any, .any, .any, .any, .any, .any, .any, .any, .any, .any, .any, .any, .any, .any, .any, .any, .any, .any, .any, .any, .any, .any, .any, .any, .any, .any, .any, .any, .any, .any, .any, .any, .any, .any, .any, .any, .any, .any, .any, .any, .any, .any, .any, .any, .any, .any, .any, .any, .any, .any, .any, .any, .any, .any, .any, .any, .any, .ros 1 (List.length L) (li L) false, .int .i64 (↑(List.length L) : Int), .int .i64 ↑k, .any, .any, .any, .any, .any, .any, .any, .any, .any, .any, .any, .any, .any, .any, .any, .any, .any] [(.o 0, .flat [.int .i64 (SCfg.nodes c), .int .i64 (SCfg.clients c), .int .i64 (SCfg.window c), .int .i64 (SCfg.buckets c), .int .i64 (SCfg.cap c), .int .i64 (SCfg.slots c), .int .i64 (SCfg.requests c), .int .i64 (SCfg.timeout c), .int .i64 (SCfg.penalty c), .int .i64 (SCfg.last c)])] 1 [], [decide ((↑k : Int) < (↑(List.length L) : Int)) = true, (0 : Int) ≤ (↑k : Int) ∧ (↑k : Int) < (↑(List.length L) : Int), decide (List.getD L (Int.toNat (↑k : Int)) (0 : Int) < (↑(List.length pen) : Int)) = true, (0 : Int) ≤ List.getD L (Int.toNat (↑k : Int)) (0 : Int) ∧ List.getD L (Int.toNat (↑k : Int)) (0 : Int) < (↑(List.length pen) : Int), decide (e < List.getD pen (Int.toNat (List.getD L (Int.toNat (↑k : Int)) (0 : Int))) (0 : Int)) = true, q (SCfg.nodes c), q (SCfg.clients c), q (SCfg.window c), q (SCfg.buckets c), q (SCfg.cap c), q (SCfg.slots c), q (SCfg.requests c), q (SCfg.timeout c), q (SCfg.penalty c), q (SCfg.last c), q e, q (List.length pen), ∀ (k : Nat), k < List.length pen → [V.int IntKind.i64 (List.getD pen k (0 : Int))] = [V.int IntKind.i64 (List.getD pen k (0 : Int))], false = true → false = true, q0, q0, q0, q (List.length L), ∀ (k : Nat), k < List.length L → [V.int IntKind.i64 (List.getD L k (0 : Int))] = [V.int IntKind.i64 (List.getD L k (0 : Int))], false = true → false = true, q (↑(List.length L) : Int), q (↑k : Int)]) : Option (Exit × St × List Prop)) := by kernel_rfl
theorem pcFj_p110 (c : SCfg) (e : Int) (pen : List Int) (L : List Int) (k : Nat) :
  alongPc Try.prog (pcFj c e pen L k) [true, true, false] = (some (.normal, St.mk [.any, .int .i64 e, .ros 1 (List.length pen) (li pen) false, .ptr (.o 0) 0 0 0 0, .any, .any, .any, .any, .any, .any, .any, .any, .any, .any, .any, .any, .any, .any, .any, .any, .any, .any, .any, .any, .any, .any, .any, .any, .any, .any, .any, .any, .any, .any, .any, .any, .any, .any, .any, .any, .any, .any, .any, .any, .any, .any, .any, .any, .any, .any, .any, .any, .any, .any, .any, .any, .any, .any, .any, .any, .any, .any, .any, .any, .any, .any, .any, .any, .any, .any, .ros 1 (List.length L) (li L) false, .int .i64 (↑(List.length L) : Int), .int .i64 (↑(k + 1) : Int), .any, .any, .any, .any, .any, .any, .any, .any, .any, .any, .any, .any, .any, .any, .any, .any, .any] [(.o 0, .flat [.int .i64 (SCfg.nodes c), .int .i64 (SCfg.clients c), .int .i64 (SCfg.window c), .int .i64 (SCfg.buckets c), .int .i64 (SCfg.cap c), .int .i64 (SCfg.slots c), .int .i64 (SCfg.requests c), .int .i64 (SCfg.timeout c), .int .i64 (SCfg.penalty c), .int .i64 (SCfg.last c)])] 1 [], [decide ((↑k : Int) < (↑(List.length L) : Int)) = true, (0 : Int) ≤ (↑k : Int) ∧ (↑k : Int) < (↑(List.length L) : Int), decide (List.getD L (Int.toNat (↑k : Int)) (0 : Int) < (↑(List.length pen) : Int)) = true, (0 : Int) ≤ List.getD L (Int.toNat (↑k : Int)) (0 : Int) ∧ List.getD L (Int.toNat (↑k : Int)) (0 : Int) < (↑(List.length pen) : Int), decide (e < List.getD pen (Int.toNat (List.getD L (Int.toNat (↑k : Int)) (0 : Int))) (0 : Int)) = false, InR IntKind.i64 ((↑k : Int) + (1 : Int)), q (SCfg.nodes c), q (SCfg.clients c), q (SCfg.window c), q (SCfg.buckets c), q (SCfg.cap c), q (SCfg.slots c), q (SCfg.requests c), q (SCfg.timeout c), q (SCfg.penalty c), q (SCfg.last c), q e, q (List.length pen), ∀ (k : Nat), k < List.length pen → [V.int IntKind.i64 (List.getD pen k (0 : Int))] = [V.int IntKind.i64 (List.getD pen k (0 : Int))], false = true → false = true, q0, q0, q0, q (List.length L), ∀ (k : Nat), k < List.length L → [V.int IntKind.i64 (List.getD L k (0 : Int))] = [V.int IntKind.i64 (List.getD L k (0 : Int))], false = true → false = true, q (↑(List.length L) : Int), (↑k : Int) + (1 : Int) = (↑(k + (1 : Nat)) : Int)]) : Option (Exit × St × List Prop)) := by kernel_rfl
theorem pcFj_p100 (c : SCfg) (e : Int) (pen : List Int) (L : List Int) (k : Nat) :
  alongPc Try.prog (pcFj c e pen L k) [true, false, false] = (some (.normal, St.mk [.any, .int .i64 e, .ros 1 (List.length pen) (li pen) false, .ptr (.o 0) 0 0 0 0, .any, .any, .any, .any, .any, .any, .any, .any, .any, .any, .any, .any, .any, .any, .any, .any, .any, .any, .any, .any, .any, .any, .any, .any, .any, .any, .any, .any, .any, .any, .any, .any, .any, .any, .any, .any, .any, .any, .any, .any, .any, .any, .any, .any, .any, .any, .any, .any, .any, .any, .any, .any, .any, .any, .any, .any, .any, .any, .any, .any, .any, .any, .any, .any, .any, .any, .ros 1 (List.length L) (li L) false, .int .i64 (↑(List.length L) : Int), .int .i64 (↑(k + 1) : Int), .any, .any, .any, .any, .any, .any, .any, .any, .any, .any, .any, .any, .any, .any, .any, .any, .any] [(.o 0, .flat [.int .i64 (SCfg.nodes c), .int .i64 (SCfg.clients c), .int .i64 (SCfg.window c), .int .i64 (SCfg.buckets c), .int .i64 (SCfg.cap c), .int .i64 (SCfg.slots c), .int .i64 (SCfg.requests c), .int .i64 (SCfg.timeout c), .int .i64 (SCfg.penalty c), .int .i64 (SCfg.last c)])] 1 [], [decide ((↑k : Int) < (↑(List.length L) : Int)) = true, (0 : Int) ≤ (↑k : Int) ∧ (↑k : Int) < (↑(List.length L) : Int), decide (List.getD L (Int.toNat (↑k : Int)) (0 : Int) < (↑(List.length pen) : Int)) = false, q false, InR IntKind.i64 ((↑k : Int) + (1 : Int)), q (SCfg.nodes c), q (SCfg.clients c), q (SCfg.window c), q (SCfg.buckets c), q (SCfg.cap c), q (SCfg.slots c), q (SCfg.requests c), q (SCfg.timeout c), q (SCfg.penalty c), q (SCfg.last c), q e, q (List.length pen), ∀ (k : Nat), k < List.length pen → [V.int IntKind.i64 (List.getD pen k (0 : Int))] = [V.int IntKind.i64 (List.getD pen k (0 : Int))], false = true → false = true, q0, q0, q0, q (List.length L), ∀ (k : Nat), k < List.length L → [V.int IntKind.i64 (List.getD L k (0 : Int))] = [V.int IntKind.i64 (List.getD L k (0 : Int))], false = true → false = true, q (↑(List.length L) : Int), (↑k : Int) + (1 : Int) = (↑(k + (1 : Nat)) : Int)]) : Option (Exit × St × List Prop)) := by kernel_rfl
theorem pcFj_p0 (c : SCfg) (e : Int) (pen : List Int) (L : List Int) (k : Nat) :
  alongPc Try.prog (pcFj c e pen L k) [false] = (some (.exit 2, St.mk [.any, .int .i64 e, .ros 1 (List.length pen) (li pen) false, .ptr (.o 0) 0 0 0 0, .any, .any, .any, .any, .any, .any, .any, .any, .any, .any, .any, .any, .any, .any, .any, .any, .any, .any, .any, .any, .any, .any, .any, .any, .any, .any, .any, .any, .any, .any, .any, .any, .any, .any, .any, .any, .any, .any, .any, .any, .any, .any, .any, .any, .any, .any, .any, .any, .any, .any, .any, .any, .any, .any, .any, .any, .any, .any, .any, .any, .any, .any, .any, .any, .any, .any, .ros 1 (List.length L) (li L) false, .int .i64 (↑(List.length L) : Int), .int .i64 ↑k, .any, .any, .any, .any, .any, .any, .any, .any, .any, .any, .any, .any, .any, .any, .any, .any, .any] [(.o 0, .flat [.int .i64 (SCfg.nodes c), .int .i64 (SCfg.clients c), .int .i64 (SCfg.window c), .int .i64 (SCfg.buckets c), .int .i64 (SCfg.cap c), .int .i64 (SCfg.slots c), .int .i64 (SCfg.requests c), .int .i64 (SCfg.timeout c), .int .i64 (SCfg.penalty c), .int .i64 (SCfg.last c)])] 1 [], [decide ((↑k : Int) < (↑(List.length L) : Int)) = false, q (SCfg.nodes c), q (SCfg.clients c), q (SCfg.window c), q (SCfg.buckets c), q (SCfg.cap c), q (SCfg.slots c), q (SCfg.requests c), q (SCfg.timeout c), q (SCfg.penalty c), q (SCfg.last c), q e, q (List.length pen), ∀ (k : Nat), k < List.length pen → [V.int IntKind.i64 (List.getD pen k (0 : Int))] = [V.int IntKind.i64 (List.getD pen k (0 : Int))], false = true → false = true, q0, q0, q0, q (List.length L), ∀ (k : Nat), k < List.length L → [V.int IntKind.i64 (List.getD L k (0 : Int))] = [V.int IntKind.i64 (List.getD L k (0 : Int))], false = true → false = true, q (↑(List.length L) : Int), q (↑k : Int)]) : Option (Exit × St × List Prop)) := by kernel_rfl

set_option maxHeartbeats 1000000
theorem goodE_ne {c : SCfg} (h : ¬ goodE c = 0) : (!decide (goodE c = 0)) = true := by rw [decide_eq_false h]; rfl
theorem goodE_eq {c : SCfg} (h : goodE c = 0) : (!decide (goodE c = 0)) = false := by rw [decide_eq_true h]; rfl
theorem T_fw (c : SCfg) (e : Int) (pen : List Int) : T Try.prog 5 [.agg c.c, .int .i64 e, lr pen] [] (.bool true) [] := by
 have hL := T_lv
 have hG := T_cg c
 by_cases g1 : goodE c = 0
 rotate_left
 ·have g1 := goodE_ne g1
  refine T_al (bdFw_p1111 c e pen (goodE c) 0 0 0 []) Try.func5 ?_
  simp only [All, All_append, bdFw_c]; and_intros
  all_goals first
   | exact hL
   | exact hG
   | exact g1
   | (rw [decide_eq_true_eq]; omega)
   | (rw [decide_eq_false_iff_not]; omega)
   | omega
   | with_reducible rfl
   | (intro _ _; rfl)
   | (intro _ _; trivial)
   | (intro h; exact h)
   | exact .inl rfl
   | (simp only [IntKind.min, IntKind.max, IntKind.signed, IntKind.bits, if_true]; omega)
   | rfl
   | trivial
 have hm1 := goodE_zero.1 g1
 have g1 := goodE_eq g1
 by_cases g2 : e < 1
 ·skip
  refine T_al (bdFw_p0111 c e pen (goodE c) 0 0 0 []) Try.func5 ?_
  simp only [All, All_append, bdFw_c]; and_intros
  all_goals first
   | exact hL
   | exact hG
   | exact g1
   | (rw [decide_eq_true_eq]; omega)
   | (rw [decide_eq_false_iff_not]; omega)
   | omega
   | with_reducible rfl
   | (intro _ _; rfl)
   | (intro _ _; trivial)
   | (intro h; exact h)
   | exact .inl rfl
   | (simp only [IntKind.min, IntKind.max, IntKind.signed, IntKind.bits, if_true]; omega)
   | rfl
   | trivial
 by_cases g3 : 1048576 < e
 ·skip
  refine T_al (bdFw_p0011 c e pen (goodE c) 0 0 0 []) Try.func5 ?_
  simp only [All, All_append, bdFw_c]; and_intros
  all_goals first
   | exact hL
   | exact hG
   | exact g1
   | (rw [decide_eq_true_eq]; omega)
   | (rw [decide_eq_false_iff_not]; omega)
   | omega
   | with_reducible rfl
   | (intro _ _; rfl)
   | (intro _ _; trivial)
   | (intro h; exact h)
   | exact .inl rfl
   | (simp only [IntKind.min, IntKind.max, IntKind.signed, IntKind.bits, if_true]; omega)
   | rfl
   | trivial
 by_cases g4 : 200 < pen.length
 ·skip
  refine T_al (bdFw_p0001 c e pen (goodE c) 0 0 0 []) Try.func5 ?_
  simp only [All, All_append, bdFw_c]; and_intros
  all_goals first
   | exact hL
   | exact hG
   | exact g1
   | (rw [decide_eq_true_eq]; omega)
   | (rw [decide_eq_false_iff_not]; omega)
   | omega
   | with_reducible rfl
   | (intro _ _; rfl)
   | (intro _ _; trivial)
   | (intro h; exact h)
   | exact .inl rfl
   | (simp only [IntKind.min, IntKind.max, IntKind.signed, IntKind.bits, if_true]; omega)
   | rfl
   | trivial
 have hm : mayS c e = true := mayS_iff.2 ⟨hm1, by omega, by omega⟩
 obtain ⟨n1, n2, n3⟩ := nodesB hm1
 obtain ⟨n, hn⟩ : ∃ n, n = c.nodes.toNat := ⟨_, rfl⟩
 have hn' : (n : Int) = c.nodes := by omega
 have hq : ∀ k : Nat, fwQ e pen k = true ↔ penS pen k ≤ e := fun k => by simp [fwQ]
 have hlen := fun k => filS_len (fwQ e pen) k
 have step : ∀ k, k < n → R Try.prog none 0 fwC0 (fwI c e pen n k ((filS (fwQ e pen) k).length : Nat)) .normal (fwI c e pen n (k + 1) ((filS (fwQ e pen) (k + 1)).length : Nat)) := fun k hk => by
  have := hlen k
  by_cases h1 : pen.length ≤ k
  ·have hqk : fwQ e pen k = true := (hq k).2 (by rw [penS, Int.toNat_natCast, List.getD_eq_getElem?_getD, List.getElem?_eq_none h1]; show (0 : Int) ≤ e; omega)
   have e1 : (filS (fwQ e pen) (k + 1)).length = (filS (fwQ e pen) k).length + 1 := by rw [filS, if_pos hqk]; simp
   refine R_alongPc NG MO _ (pcFi_p111 c e pen n k ((filS (fwQ e pen) k).length : Nat) ((filS (fwQ e pen) (k + 1)).length : Nat)) ?_ (by show 0 ≤ 1; decide)
   simp only [All, All_append, bdFw_c, Int.toNat_natCast]; and_intros
   all_goals first
    | (rw [decide_eq_true_eq]; omega)
    | (rw [decide_eq_false_iff_not]; omega)
    | omega
    | with_reducible rfl
    | (intro _ _; rfl)
    | (intro _ _; trivial)
    | (intro h; exact h)
    | exact .inl rfl
    | (simp only [IntKind.min, IntKind.max, IntKind.signed, IntKind.bits, if_true]; omega)
    | rfl
    | trivial
  ·by_cases h2 : pen.getD k 0 ≤ e
   ·have hqk : fwQ e pen k = true := (hq k).2 h2
    have e1 : (filS (fwQ e pen) (k + 1)).length = (filS (fwQ e pen) k).length + 1 := by rw [filS, if_pos hqk]; simp
    refine R_alongPc NG MO _ (pcFi_p101 c e pen n k ((filS (fwQ e pen) k).length : Nat) ((filS (fwQ e pen) (k + 1)).length : Nat)) ?_ (by show 0 ≤ 1; decide)
    simp only [All, All_append, bdFw_c, Int.toNat_natCast]; and_intros
    all_goals first
     | (rw [decide_eq_true_eq]; omega)
     | (rw [decide_eq_false_iff_not]; omega)
     | omega
     | with_reducible rfl
     | (intro _ _; rfl)
     | (intro _ _; trivial)
     | (intro h; exact h)
     | exact .inl rfl
     | (simp only [IntKind.min, IntKind.max, IntKind.signed, IntKind.bits, if_true]; omega)
     | rfl
     | trivial
   ·have hqk : ¬ fwQ e pen k = true := fun h => h2 ((hq k).1 h)
    have e1 : (filS (fwQ e pen) (k + 1)).length = (filS (fwQ e pen) k).length := by rw [filS, if_neg hqk]
    refine R_alongPc NG MO _ (pcFi_p100 c e pen n k ((filS (fwQ e pen) k).length : Nat) ((filS (fwQ e pen) (k + 1)).length : Nat)) ?_ (by show 0 ≤ 1; decide)
    simp only [All, All_append, bdFw_c, Int.toNat_natCast]; and_intros
    all_goals first
     | (rw [decide_eq_true_eq]; omega)
     | (rw [decide_eq_false_iff_not]; omega)
     | omega
     | with_reducible rfl
     | (intro _ _; rfl)
     | (intro _ _; trivial)
     | (intro h; exact h)
     | exact .inl rfl
     | (simp only [IntKind.min, IntKind.max, IntKind.signed, IntKind.bits, if_true]; omega)
     | rfl
     | trivial
 have out : R Try.prog none 0 fwC0 (fwI c e pen n n ((filS (fwQ e pen) n).length : Nat)) (.exit 0) (fwI c e pen n n ((filS (fwQ e pen) n).length : Nat)) := by
  refine R_alongPc NG MO _ (pcFi_p0 c e pen n n ((filS (fwQ e pen) n).length : Nat) 0) ?_ (by show 0 ≤ 1; decide)
  simp only [All, All_append, bdFw_c, Int.toNat_natCast]; and_intros
  all_goals first
   | (rw [decide_eq_true_eq]; omega)
   | (rw [decide_eq_false_iff_not]; omega)
   | omega
   | with_reducible rfl
   | (intro _ _; rfl)
   | (intro _ _; trivial)
   | (intro h; exact h)
   | exact .inl rfl
   | (simp only [IntKind.min, IntKind.max, IntKind.signed, IntKind.bits, if_true]; omega)
   | rfl
   | trivial
 have hL0 := RLoop.inv (fun k => fwI c e pen n k ((filS (fwQ e pen) k).length : Nat)) n step out (by simp)
 have hLs := T_ls c e pen
 have hS := T_sm c.nodes
 have hll : ((filS (fwQ e pen) n).length : Int) < someS c.nodes → listS c e pen = filS (fun _ => true) n := fun h => by
  rw [listS, if_pos hm, ← hn]; exact if_pos h
 have hlg : ¬ ((filS (fwQ e pen) n).length : Int) < someS c.nodes → listS c e pen = filS (fwQ e pen) n := fun h => by
  rw [listS, if_pos hm, ← hn]; exact if_neg h
 have hall : ∀ k, (filS (fun _ => true) k).length = k := fun k => by
  induction k with
  | zero => rfl
  | succ k ih => rw [filS, if_pos rfl]; simp [ih]
 by_cases h5 : ((filS (fwQ e pen) n).length : Int) < someS c.nodes
 ·rw [hll h5] at hLs
  have hal := hall n
  refine T_al (bdFw_p000011 c e pen (goodE c) (someS c.nodes) n ((filS (fwQ e pen) n).length : Nat) (filS (fun _ => true) n)) Try.func5 ?_
  simp only [All, All_append, bdFw_c]; and_intros
  all_goals first
   | exact hL
   | exact hG
   | exact g1
   | exact hLs
   | exact hS
   | exact hL0
   | (rw [decide_eq_true_eq]; omega)
   | (rw [decide_eq_false_iff_not]; omega)
   | omega
   | with_reducible rfl
   | (intro _ _; rfl)
   | (intro _ _; trivial)
   | (intro h; exact h)
   | exact .inl rfl
   | (simp only [IntKind.min, IntKind.max, IntKind.signed, IntKind.bits, if_true]; omega)
   | rfl
   | trivial
 ·rw [hlg h5] at hLs
  have step2 : ∀ k, k < (filS (fwQ e pen) n).length → R Try.prog none 0 fwC2 (fwJ c e pen (filS (fwQ e pen) n) k) .normal (fwJ c e pen (filS (fwQ e pen) n) (k + 1)) := fun k hk => by
   have hmem : (filS (fwQ e pen) n).getD k 0 ∈ filS (fwQ e pen) n := by
    rw [List.getD_eq_getElem?_getD, List.getElem?_eq_getElem hk]; exact List.getElem_mem hk
   obtain ⟨i, i1, i2, i3⟩ := (filS_mem _ _ _).1 hmem
   have i4 := (hq i).1 i3
   rw [penS, Int.toNat_natCast] at i4
   have := hlen n
   by_cases h1 : i < pen.length
   ·skip
    refine R_alongPc NG MO _ (pcFj_p110 c e pen (filS (fwQ e pen) n) k) ?_ (by show 0 ≤ 1; decide)
    simp only [All, All_append, bdFw_c, Int.toNat_natCast]; and_intros
    all_goals first
     | (rw [decide_eq_false_iff_not, i2, Int.toNat_natCast]; omega)
     | (rw [i2]; omega)
     | (rw [decide_eq_true_eq, i2]; omega)
     | (rw [decide_eq_true_eq]; omega)
     | (rw [decide_eq_false_iff_not]; omega)
     | omega
     | with_reducible rfl
     | (intro _ _; rfl)
     | (intro _ _; trivial)
     | (intro h; exact h)
     | exact .inl rfl
     | (simp only [IntKind.min, IntKind.max, IntKind.signed, IntKind.bits, if_true]; omega)
     | rfl
     | trivial
   ·skip
    refine R_alongPc NG MO _ (pcFj_p100 c e pen (filS (fwQ e pen) n) k) ?_ (by show 0 ≤ 1; decide)
    simp only [All, All_append, bdFw_c, Int.toNat_natCast]; and_intros
    all_goals first
     | (rw [decide_eq_false_iff_not, i2]; omega)
     | (rw [decide_eq_true_eq]; omega)
     | (rw [decide_eq_false_iff_not]; omega)
     | omega
     | with_reducible rfl
     | (intro _ _; rfl)
     | (intro _ _; trivial)
     | (intro h; exact h)
     | exact .inl rfl
     | (simp only [IntKind.min, IntKind.max, IntKind.signed, IntKind.bits, if_true]; omega)
     | rfl
     | trivial
  have out2 : R Try.prog none 0 fwC2 (fwJ c e pen (filS (fwQ e pen) n) (filS (fwQ e pen) n).length) (.exit 2) (fwJ c e pen (filS (fwQ e pen) n) (filS (fwQ e pen) n).length) := by
   refine R_alongPc NG MO _ (pcFj_p0 c e pen (filS (fwQ e pen) n) (filS (fwQ e pen) n).length) ?_ (by show 0 ≤ 1; decide)
   simp only [All, All_append, bdFw_c, Int.toNat_natCast]; and_intros
   all_goals first
    | (rw [decide_eq_true_eq]; omega)
    | (rw [decide_eq_false_iff_not]; omega)
    | omega
    | with_reducible rfl
    | (intro _ _; rfl)
    | (intro _ _; trivial)
    | (intro h; exact h)
    | exact .inl rfl
    | (simp only [IntKind.min, IntKind.max, IntKind.signed, IntKind.bits, if_true]; omega)
    | rfl
    | trivial
  have hL2 := RLoop.inv (fun k => fwJ c e pen (filS (fwQ e pen) n) k) (filS (fwQ e pen) n).length step2 out2 (by simp)
  have ge : (!decide (((filS (fwQ e pen) n).length : Int) = ((filS (fwQ e pen) n).length : Int))) = false := by simp
  refine T_al (bdFw_p000000 c e pen (goodE c) (someS c.nodes) n ((filS (fwQ e pen) n).length : Nat) (filS (fwQ e pen) n)) Try.func5 ?_
  simp only [All, All_append, bdFw_c]; and_intros
  all_goals first
   | exact hL
   | exact hG
   | exact g1
   | exact ge
   | exact hLs
   | exact hS
   | exact hL0
   | exact hL2
   | (rw [decide_eq_true_eq]; omega)
   | (rw [decide_eq_false_iff_not]; omega)
   | omega
   | with_reducible rfl
   | (intro _ _; rfl)
   | (intro _ _; trivial)
   | (intro h; exact h)
   | exact .inl rfl
   | (simp only [IntKind.min, IntKind.max, IntKind.signed, IntKind.bits, if_true]; omega)
   | rfl
   | trivial
end Go.Proofs.Ythifjamdfpjilaa
namespace Go.Proofs.Ythifjamdfpjilaa
open Go Sy Go.Proofs
def baI (c : SCfg) (e : Int) (pen bad p L : List Int) (k : Nat) : St := ⟨mkT 125 [(1, .int .i64 e), (2, lr pen), (3, lr bad), (5, .ptr (.o 0) 0 0 0 0), (11, lr p), (13, lr L), (58, lr bad), (59, .int .i64 (bad.length : Nat)), (60, .int .i64 k)], [(.o 0, .flat c.c)], 1, []⟩
def baJ (c : SCfg) (e : Int) (pen bad p : List Int) (k : Nat) : St := ⟨mkT 125 [(1, .int .i64 e), (2, lr pen), (3, lr bad), (5, .ptr (.o 0) 0 0 0 0), (11, lr p), (84, lr p), (85, .int .i64 (p.length : Nat)), (86, .int .i64 k)], [(.o 0, .flat c.c)], 1, []⟩
noncomputable def bdBa (c : SCfg) (e : Int) (pen bad : List Int) (sd : Int) (g : Int) (p L : List Int) : Bd := { f := Try.f6, args := [.agg c.c, .int .i64 e, lr pen, lr bad, .int .i64 sd], kb := { db := dbQ [(11, cVal (.int .i64 g)), (12, cVal (.bool true)), (17, cVal (lr p)), (13, cVal (lr L))], lp := fun id t => bif Nat.beq id 0 then [(True, .loop (bad.length + 1) (wToS [(.o 0, nmV (getV t.tmps 5))] (baI c e pen bad p L 0)) (.exit 0) (baI c e pen bad p L bad.length))] else [(True, .loop (p.length + 1) (wToS [(.o 0, nmV (getV t.tmps 5))] (baJ c e pen bad p 0)) (.exit 2) (baJ c e pen bad p p.length))] } }
noncomputable def baC0 : Code := cB (cB (cR (cL (cR (cR (cR (cR (cR (bodyOf Try.f6)))))))))
noncomputable def baC2 : Code := cB (cB (cR (cL (cR (cR (cR (cR (cR (cR (cR (bodyOf Try.f6)))))))))))
noncomputable def pcBi (c : SCfg) (e : Int) (pen bad p L : List Int) (k : Nat) (b : Bool) : Pc := { c := baC0, st := baI c e pen bad p L k, p := 0, kb := { db := dbQ [(18, cVal (.bool b))] }, k := fun x_ _ => match x_ with
 | .normal => some (wTo (baI c e pen bad p L (k + 1)))
 | _ => some (wTo (baI c e pen bad p L k)) }
noncomputable def pcBj (c : SCfg) (e : Int) (pen bad p : List Int) (k : Nat) (b : Bool) : Pc := { c := baC2, st := baJ c e pen bad p k, p := 0, kb := { db := dbQ [(18, cVal (.bool b))] }, k := fun x_ _ => match x_ with
 | .normal => some (wTo (baJ c e pen bad p (k + 1)))
 | _ => some (wTo (baJ c e pen bad p k)) }
end Go.Proofs.Ythifjamdfpjilaa
