/-
  Contracts and laws that the claim's theorem leans on, joined out of the texts La6 La7D (own work of this seat): Contracts: the library's merging of two neighbours; Contracts: the library's stable sort of at most 64 numbers.
-/
import Derived.Test.YthifjamdfpjilaaC06
set_option linter.unusedVariables false
set_option linter.unusedSimpArgs false
set_option maxHeartbeats 1000000
namespace Go.Proofs.Ythifjamdfpjilaa
open Go Sy Go.Proofs
noncomputable def bdMa_c (c : SCfg) (e : Int) (nd : Int) (n : Nat) (a : Nat) (m : Nat) (b : Nat) (F : Nat → Int) (G : Nat → Int) (R : Nat) (z : Nat) : Nat → List Prop
 | 0 => [InR IntKind.i64 ((↑m : Int) - (↑a : Int)), decide ((↑m : Int) - (↑a : Int) = (1 : Int)) = true, RLoop Try.prog none 6 (cB (cB (cL (cR (cR (cT (cR (cL (cR (bodyOf (Bd.f (bdMa c e nd n a m b F G R z)))))))))))) R (St.mk [.any, .int .i64 ↑a, .int .i64 ↑m, .int .i64 ↑b, .ptr (.o 6) 0 0 0 0, .any, .any, .any, .int .i64 ↑m, .int .i64 ↑b, .any, .any, .any, .any, .any, .any, .any, .any, .any, .any, .any, .any, .any, .any, .any, .any, .any, .any, .any, .any, .any, .any, .any, .any, .any, .any, .any, .any, .any, .any, .any, .any, .any, .any, .any, .any, .any, .any, .any, .any, .any, .any, .any, .any, .any, .any, .any, .any, .any, .any, .any, .any, .any, .any, .any, .any, .any, .any, .any, .any, .any, .any, .any, .any, .any, .any, .any, .any, .any, .any, .any, .any, .any, .any, .any, .any, .any, .any, .any, .any, .any, .any, .any, .any, .any, .any, .any, .any, .any, .any, .any, .any, .any, .any, .any, .any, .any, .any, .any, .any, .any, .any, .any, .any, .any, .any, .any, .any, .any, .any, .any, .any, .any, .any, .any, .any, .any, .any, .any, .any, .any, .any, .any, .any, .any, .any, .any, .any, .any, .any, .any, .any, .any, .any, .any, .any, .any, .any, .any, .any, .any, .any, .any, .any, .any, .any, .any, .any, .any, .any, .any, .any, .any, .any, .any, .any, .any, .any, .any, .any, .any, .any, .any, .any, .any, .any, .any] [(.o 0, .rows 1 n (fun k => [.int .i64 (F k)]) true), (.o 1, .flat [.fn (.func (42 : FuncId)) [] [.ptr (.o 3) 0 0 0 0, .ptr (.o 4) 0 0 0 0, .ptr (.o 5) 0 0 0 0]]), (.o 2, .flat [.sl (.o 0) 1 0 0 0 n none]), (.o 3, .flat [.int .i64 e]), (.o 4, .flat [.int .i64 (SCfg.nodes c), .int .i64 (SCfg.clients c), .int .i64 (SCfg.window c), .int .i64 (SCfg.buckets c), .int .i64 (SCfg.cap c), .int .i64 (SCfg.slots c), .int .i64 (SCfg.requests c), .int .i64 (SCfg.timeout c), .int .i64 (SCfg.penalty c), .int .i64 (SCfg.last c)]), (.o 5, .flat [.int .i64 nd]), (.o 6, .flat [.fn (.func (44 : FuncId)) [] [.ptr (.o 1) 0 0 0 0, .ptr (.o 2) 0 0 0 0], .fn (.func (129 : FuncId)) [] [.sl (.o 0) 1 0 0 0 n none, V.abs 0 3]])] 7 []) (.exit 0) (St.mk [.any, .int .i64 ↑a, .int .i64 ↑m, .int .i64 ↑b, .ptr (.o 6) 0 0 0 0, .any, .any, .any, .int .i64 ↑z, .int .i64 ↑z, .any, .any, .any, .any, .any, .any, .any, .any, .any, .any, .any, .any, .any, .any, .any, .any, .any, .any, .any, .any, .any, .any, .any, .any, .any, .any, .any, .any, .any, .any, .any, .any, .any, .any, .any, .any, .any, .any, .any, .any, .any, .any, .any, .any, .any, .any, .any, .any, .any, .any, .any, .any, .any, .any, .any, .any, .any, .any, .any, .any, .any, .any, .any, .any, .any, .any, .any, .any, .any, .any, .any, .any, .any, .any, .any, .any, .any, .any, .any, .any, .any, .any, .any, .any, .any, .any, .any, .any, .any, .any, .any, .any, .any, .any, .any, .any, .any, .any, .any, .any, .any, .any, .any, .any, .any, .any, .any, .any, .any, .any, .any, .any, .any, .any, .any, .any, .any, .any, .any, .any, .any, .any, .any, .any, .any, .any, .any, .any, .any, .any, .any, .any, .any, .any, .any, .any, .any, .any, .any, .any, .any, .any, .any, .any, .any, .any, .any, .any, .any, .any, .any, .any, .any, .any, .any, .any, .any, .any, .any, .any, .any, .any, .any, .any, .any, .any, .any] [(.o 0, .rows 1 n (fun k => [.int .i64 (F k)]) true), (.o 1, .flat [.fn (.func (42 : FuncId)) [] [.ptr (.o 3) 0 0 0 0, .ptr (.o 4) 0 0 0 0, .ptr (.o 5) 0 0 0 0]]), (.o 2, .flat [.sl (.o 0) 1 0 0 0 n none]), (.o 3, .flat [.int .i64 e]), (.o 4, .flat [.int .i64 (SCfg.nodes c), .int .i64 (SCfg.clients c), .int .i64 (SCfg.window c), .int .i64 (SCfg.buckets c), .int .i64 (SCfg.cap c), .int .i64 (SCfg.slots c), .int .i64 (SCfg.requests c), .int .i64 (SCfg.timeout c), .int .i64 (SCfg.penalty c), .int .i64 (SCfg.last c)]), (.o 5, .flat [.int .i64 nd]), (.o 6, .flat [.fn (.func (44 : FuncId)) [] [.ptr (.o 1) 0 0 0 0, .ptr (.o 2) 0 0 0 0], .fn (.func (129 : FuncId)) [] [.sl (.o 0) 1 0 0 0 n none, V.abs 0 3]])] 7 []), q n, ∀ (k : Nat), k < n → [V.int IntKind.i64 (F k)] = [V.int IntKind.i64 (F k)], true = false → true = false, q0, q0, q0, q0, q0, q0, q0, q0, q0, q0, q0, q0, q n, (none : Option Nat) = none ∨ (none : Option Nat) = none, q e, q (SCfg.nodes c), q (SCfg.clients c), q (SCfg.window c), q (SCfg.buckets c), q (SCfg.cap c), q (SCfg.slots c), q (SCfg.requests c), q (SCfg.timeout c), q (SCfg.penalty c), q (SCfg.last c), q nd, q0, q0, q0, q0, q0, q0, q0, q0, q0, q n, (none : Option Nat) = none ∨ (none : Option Nat) = none, q (nat_lit 0), q (3 : Nat), q (↑a : Int), q (↑m : Int), q (↑b : Int), q0, q0, q0, q (↑m : Int), q (↑b : Int), InR IntKind.i64 ((↑z : Int) - (1 : Int))]
 | _ => []
theorem bdMa_p110 (c : SCfg) (e : Int) (nd : Int) (n : Nat) (a : Nat) (m : Nat) (b : Nat) (F : Nat → Int) (G : Nat → Int) (R : Nat) (z : Nat) :
 along Try.prog (bdMa c e nd n a m b F G R z) [true, true, false] = (some (.tup [], [(.o 0, .rows 1 n (fun k => [.int .i64 (G k)]) true), (.o 1, .flat [.fn (.func (42 : FuncId)) [] [.ptr (.o 3) 0 0 0 0, .ptr (.o 4) 0 0 0 0, .ptr (.o 5) 0 0 0 0]]), (.o 2, .flat [.sl (.o 0) 1 0 0 0 n none]), (.o 3, .flat [.int .i64 e]), (.o 4, .flat [.int .i64 (SCfg.nodes c), .int .i64 (SCfg.clients c), .int .i64 (SCfg.window c), .int .i64 (SCfg.buckets c), .int .i64 (SCfg.cap c), .int .i64 (SCfg.slots c), .int .i64 (SCfg.requests c), .int .i64 (SCfg.timeout c), .int .i64 (SCfg.penalty c), .int .i64 (SCfg.last c)]), (.o 5, .flat [.int .i64 nd])], bdMa_c c e nd n a m b F G R z 0 ++ [decide ((↑a : Int) < (↑z : Int) - (1 : Int)) = true, InR IntKind.i64 ((↑a : Int) + (1 : Int)), TV Try.prog (V.fn (Fn.func (129 : FuncId)) [] [V.sl (Nm.o (0 : Nat)) (1 : Nat) (0 : Nat) (0 : Nat) (0 : Nat) n none, V.abs (nat_lit 0) (3 : Nat)]) [V.int IntKind.i64 (↑a : Int), V.int IntKind.i64 ((↑a : Int) + (1 : Int))] [(Nm.o (0 : Nat), B.rows (1 : Nat) n (fun k => [V.int IntKind.i64 (F k)]) true)] (V.tup []) [(Nm.o (0 : Nat), B.rows (1 : Nat) n (fun k => [V.int IntKind.i64 (G k)]) true)], InR IntKind.i64 ((↑a : Int) + (1 : Int)), InR IntKind.i64 ((↑z : Int) - (1 : Int)), decide ((↑a : Int) + (1 : Int) < (↑z : Int) - (1 : Int)) = false]) : Option (V × Heap × List Prop)) := by kernel_rfl

theorem bdMa_p10 (c : SCfg) (e : Int) (nd : Int) (n : Nat) (a : Nat) (m : Nat) (b : Nat) (F : Nat → Int) (G : Nat → Int) (R : Nat) (z : Nat) :
 along Try.prog (bdMa c e nd n a m b F G R z) [true, false] = (some (.tup [], [(.o 0, .rows 1 n (fun k => [.int .i64 (F k)]) true), (.o 1, .flat [.fn (.func (42 : FuncId)) [] [.ptr (.o 3) 0 0 0 0, .ptr (.o 4) 0 0 0 0, .ptr (.o 5) 0 0 0 0]]), (.o 2, .flat [.sl (.o 0) 1 0 0 0 n none]), (.o 3, .flat [.int .i64 e]), (.o 4, .flat [.int .i64 (SCfg.nodes c), .int .i64 (SCfg.clients c), .int .i64 (SCfg.window c), .int .i64 (SCfg.buckets c), .int .i64 (SCfg.cap c), .int .i64 (SCfg.slots c), .int .i64 (SCfg.requests c), .int .i64 (SCfg.timeout c), .int .i64 (SCfg.penalty c), .int .i64 (SCfg.last c)]), (.o 5, .flat [.int .i64 nd])], bdMa_c c e nd n a m b F G R z 0 ++ [decide ((↑a : Int) < (↑z : Int) - (1 : Int)) = false]) : Option (V × Heap × List Prop)) := by kernel_rfl

theorem bdMb_p01 (c : SCfg) (e : Int) (nd : Int) (n : Nat) (a : Nat) (m : Nat) (b : Nat) (F : Nat → Int) (G : Nat → Int) (R : Nat) (z : Nat) (R6 : Nat) :
  along Try.prog (bdMb c e nd n a m b F G R z R6) [false, true] = (some (.tup [], [(.o 0, .rows 1 n (fun k => [.int .i64 (G k)]) true), (.o 1, .flat [.fn (.func (42 : FuncId)) [] [.ptr (.o 3) 0 0 0 0, .ptr (.o 4) 0 0 0 0, .ptr (.o 5) 0 0 0 0]]), (.o 2, .flat [.sl (.o 0) 1 0 0 0 n none]), (.o 3, .flat [.int .i64 e]), (.o 4, .flat [.int .i64 (SCfg.nodes c), .int .i64 (SCfg.clients c), .int .i64 (SCfg.window c), .int .i64 (SCfg.buckets c), .int .i64 (SCfg.cap c), .int .i64 (SCfg.slots c), .int .i64 (SCfg.requests c), .int .i64 (SCfg.timeout c), .int .i64 (SCfg.penalty c), .int .i64 (SCfg.last c)]), (.o 5, .flat [.int .i64 nd])], [InR IntKind.i64 ((↑m : Int) - (↑a : Int)), decide ((↑m : Int) - (↑a : Int) = (1 : Int)) = false, InR IntKind.i64 ((↑b : Int) - (↑m : Int)), decide ((↑b : Int) - (↑m : Int) = (1 : Int)) = true, RLoop Try.prog none 6 (cB (cB (cL (cR (cR (cT (cR (cL (cR (cR (bodyOf (Bd.f (bdMb c e nd n a m b F G R z R6))))))))))))) R (St.mk [.any, .int .i64 ↑a, .int .i64 ↑m, .int .i64 ↑b, .ptr (.o 6) 0 0 0 0, .any, .any, .any, .any, .any, .any, .any, .int .i64 ↑a, .int .i64 ↑m, .any, .any, .any, .any, .any, .any, .any, .any, .any, .any, .any, .any, .any, .any, .any, .any, .any, .any, .any, .any, .any, .any, .any, .any, .any, .any, .any, .any, .any, .any, .any, .any, .any, .any, .any, .any, .any, .any, .any, .any, .any, .any, .any, .any, .any, .any, .any, .any, .any, .any, .any, .any, .any, .any, .any, .any, .any, .any, .any, .any, .any, .any, .any, .any, .any, .any, .any, .any, .any, .any, .any, .any, .any, .any, .any, .any, .any, .any, .any, .any, .any, .any, .any, .any, .any, .any, .any, .any, .any, .any, .any, .any, .any, .any, .any, .any, .any, .any, .any, .any, .any, .any, .any, .any, .any, .any, .any, .any, .any, .any, .any, .any, .any, .any, .any, .any, .any, .any, .any, .any, .any, .any, .any, .any, .any, .any, .any, .any, .any, .any, .any, .any, .any, .any, .any, .any, .any, .any, .any, .any, .any, .any, .any, .any, .any, .any, .any, .any, .any, .any, .any, .any, .any, .any, .any, .any, .any, .any, .any, .any, .any, .any, .any] [(.o 0, .rows 1 n (fun k => [.int .i64 (F k)]) true), (.o 1, .flat [.fn (.func (42 : FuncId)) [] [.ptr (.o 3) 0 0 0 0, .ptr (.o 4) 0 0 0 0, .ptr (.o 5) 0 0 0 0]]), (.o 2, .flat [.sl (.o 0) 1 0 0 0 n none]), (.o 3, .flat [.int .i64 e]), (.o 4, .flat [.int .i64 (SCfg.nodes c), .int .i64 (SCfg.clients c), .int .i64 (SCfg.window c), .int .i64 (SCfg.buckets c), .int .i64 (SCfg.cap c), .int .i64 (SCfg.slots c), .int .i64 (SCfg.requests c), .int .i64 (SCfg.timeout c), .int .i64 (SCfg.penalty c), .int .i64 (SCfg.last c)]), (.o 5, .flat [.int .i64 nd]), (.o 6, .flat [.fn (.func (44 : FuncId)) [] [.ptr (.o 1) 0 0 0 0, .ptr (.o 2) 0 0 0 0], .fn (.func (129 : FuncId)) [] [.sl (.o 0) 1 0 0 0 n none, V.abs 0 3]])] 7 []) (.exit 4) (St.mk [.any, .int .i64 ↑a, .int .i64 ↑m, .int .i64 ↑b, .ptr (.o 6) 0 0 0 0, .any, .any, .any, .any, .any, .any, .any, .int .i64 ↑z, .int .i64 ↑z, .any, .any, .any, .any, .any, .any, .any, .any, .any, .any, .any, .any, .any, .any, .any, .any, .any, .any, .any, .any, .any, .any, .any, .any, .any, .any, .any, .any, .any, .any, .any, .any, .any, .any, .any, .any, .any, .any, .any, .any, .any, .any, .any, .any, .any, .any, .any, .any, .any, .any, .any, .any, .any, .any, .any, .any, .any, .any, .any, .any, .any, .any, .any, .any, .any, .any, .any, .any, .any, .any, .any, .any, .any, .any, .any, .any, .any, .any, .any, .any, .any, .any, .any, .any, .any, .any, .any, .any, .any, .any, .any, .any, .any, .any, .any, .any, .any, .any, .any, .any, .any, .any, .any, .any, .any, .any, .any, .any, .any, .any, .any, .any, .any, .any, .any, .any, .any, .any, .any, .any, .any, .any, .any, .any, .any, .any, .any, .any, .any, .any, .any, .any, .any, .any, .any, .any, .any, .any, .any, .any, .any, .any, .any, .any, .any, .any, .any, .any, .any, .any, .any, .any, .any, .any, .any, .any, .any, .any, .any, .any, .any, .any, .any] [(.o 0, .rows 1 n (fun k => [.int .i64 (F k)]) true), (.o 1, .flat [.fn (.func (42 : FuncId)) [] [.ptr (.o 3) 0 0 0 0, .ptr (.o 4) 0 0 0 0, .ptr (.o 5) 0 0 0 0]]), (.o 2, .flat [.sl (.o 0) 1 0 0 0 n none]), (.o 3, .flat [.int .i64 e]), (.o 4, .flat [.int .i64 (SCfg.nodes c), .int .i64 (SCfg.clients c), .int .i64 (SCfg.window c), .int .i64 (SCfg.buckets c), .int .i64 (SCfg.cap c), .int .i64 (SCfg.slots c), .int .i64 (SCfg.requests c), .int .i64 (SCfg.timeout c), .int .i64 (SCfg.penalty c), .int .i64 (SCfg.last c)]), (.o 5, .flat [.int .i64 nd]), (.o 6, .flat [.fn (.func (44 : FuncId)) [] [.ptr (.o 1) 0 0 0 0, .ptr (.o 2) 0 0 0 0], .fn (.func (129 : FuncId)) [] [.sl (.o 0) 1 0 0 0 n none, V.abs 0 3]])] 7 []), q n, ∀ (k : Nat), k < n → [V.int IntKind.i64 (F k)] = [V.int IntKind.i64 (F k)], true = false → true = false, q0, q0, q0, q0, q0, q0, q0, q0, q0, q0, q0, q0, q n, (none : Option Nat) = none ∨ (none : Option Nat) = none, q e, q (SCfg.nodes c), q (SCfg.clients c), q (SCfg.window c), q (SCfg.buckets c), q (SCfg.cap c), q (SCfg.slots c), q (SCfg.requests c), q (SCfg.timeout c), q (SCfg.penalty c), q (SCfg.last c), q nd, q0, q0, q0, q0, q0, q0, q0, q0, q0, q n, (none : Option Nat) = none ∨ (none : Option Nat) = none, q (nat_lit 0), q (3 : Nat), q (↑a : Int), q (↑m : Int), q (↑b : Int), q0, q0, q0, q (↑a : Int), q (↑m : Int), RLoop Try.prog none 6 (cB (cB (cR (cL (cR (cR (cR (cT (cR (cL (cR (cR (bodyOf (Bd.f (bdMb c e nd n a m b F G R z R6))))))))))))))) R6 (St.mk [.any, .int .i64 ↑a, .int .i64 ↑m, .int .i64 ↑b, .ptr (.o 6) 0 0 0 0, .any, .any, .any, .any, .any, .any, .any, .int .i64 ↑z, .any, .any, .int .i64 ↑m, .any, .any, .any, .any, .any, .any, .any, .any, .any, .any, .any, .any, .any, .any, .any, .any, .any, .any, .any, .any, .any, .any, .any, .any, .any, .any, .any, .any, .any, .any, .any, .any, .any, .any, .any, .any, .any, .any, .any, .any, .any, .any, .any, .any, .any, .any, .any, .any, .any, .any, .any, .any, .any, .any, .any, .any, .any, .any, .any, .any, .any, .any, .any, .any, .any, .any, .any, .any, .any, .any, .any, .any, .any, .any, .any, .any, .any, .any, .any, .any, .any, .any, .any, .any, .any, .any, .any, .any, .any, .any, .any, .any, .any, .any, .any, .any, .any, .any, .any, .any, .any, .any, .any, .any, .any, .any, .any, .any, .any, .any, .any, .any, .any, .any, .any, .any, .any, .any, .any, .any, .any, .any, .any, .any, .any, .any, .any, .any, .any, .any, .any, .any, .any, .any, .any, .any, .any, .any, .any, .any, .any, .any, .any, .any, .any, .any, .any, .any, .any, .any, .any, .any, .any, .any, .any, .any, .any, .any, .any, .any, .any] [(.o 0, .rows 1 n (fun k => [.int .i64 (F k)]) true), (.o 1, .flat [.fn (.func (42 : FuncId)) [] [.ptr (.o 3) 0 0 0 0, .ptr (.o 4) 0 0 0 0, .ptr (.o 5) 0 0 0 0]]), (.o 2, .flat [.sl (.o 0) 1 0 0 0 n none]), (.o 3, .flat [.int .i64 e]), (.o 4, .flat [.int .i64 (SCfg.nodes c), .int .i64 (SCfg.clients c), .int .i64 (SCfg.window c), .int .i64 (SCfg.buckets c), .int .i64 (SCfg.cap c), .int .i64 (SCfg.slots c), .int .i64 (SCfg.requests c), .int .i64 (SCfg.timeout c), .int .i64 (SCfg.penalty c), .int .i64 (SCfg.last c)]), (.o 5, .flat [.int .i64 nd]), (.o 6, .flat [.fn (.func (44 : FuncId)) [] [.ptr (.o 1) 0 0 0 0, .ptr (.o 2) 0 0 0 0], .fn (.func (129 : FuncId)) [] [.sl (.o 0) 1 0 0 0 n none, V.abs 0 3]])] 7 []) (.exit 6) (St.mk [.any, .int .i64 ↑a, .int .i64 ↑m, .int .i64 ↑b, .ptr (.o 6) 0 0 0 0, .any, .any, .any, .any, .any, .any, .any, .int .i64 ↑z, .any, .any, .int .i64 ↑z, .any, .any, .any, .any, .any, .any, .any, .any, .any, .any, .any, .any, .any, .any, .any, .any, .any, .any, .any, .any, .any, .any, .any, .any, .any, .any, .any, .any, .any, .any, .any, .any, .any, .any, .any, .any, .any, .any, .any, .any, .any, .any, .any, .any, .any, .any, .any, .any, .any, .any, .any, .any, .any, .any, .any, .any, .any, .any, .any, .any, .any, .any, .any, .any, .any, .any, .any, .any, .any, .any, .any, .any, .any, .any, .any, .any, .any, .any, .any, .any, .any, .any, .any, .any, .any, .any, .any, .any, .any, .any, .any, .any, .any, .any, .any, .any, .any, .any, .any, .any, .any, .any, .any, .any, .any, .any, .any, .any, .any, .any, .any, .any, .any, .any, .any, .any, .any, .any, .any, .any, .any, .any, .any, .any, .any, .any, .any, .any, .any, .any, .any, .any, .any, .any, .any, .any, .any, .any, .any, .any, .any, .any, .any, .any, .any, .any, .any, .any, .any, .any, .any, .any, .any, .any, .any, .any, .any, .any, .any, .any, .any] [(.o 0, .rows 1 n (fun k => [.int .i64 (G k)]) true), (.o 1, .flat [.fn (.func (42 : FuncId)) [] [.ptr (.o 3) 0 0 0 0, .ptr (.o 4) 0 0 0 0, .ptr (.o 5) 0 0 0 0]]), (.o 2, .flat [.sl (.o 0) 1 0 0 0 n none]), (.o 3, .flat [.int .i64 e]), (.o 4, .flat [.int .i64 (SCfg.nodes c), .int .i64 (SCfg.clients c), .int .i64 (SCfg.window c), .int .i64 (SCfg.buckets c), .int .i64 (SCfg.cap c), .int .i64 (SCfg.slots c), .int .i64 (SCfg.requests c), .int .i64 (SCfg.timeout c), .int .i64 (SCfg.penalty c), .int .i64 (SCfg.last c)]), (.o 5, .flat [.int .i64 nd]), (.o 6, .flat [.fn (.func (44 : FuncId)) [] [.ptr (.o 1) 0 0 0 0, .ptr (.o 2) 0 0 0 0], .fn (.func (129 : FuncId)) [] [.sl (.o 0) 1 0 0 0 n none, V.abs 0 3]])] 7 []), q n, ∀ (k : Nat), k < n → [V.int IntKind.i64 (F k)] = [V.int IntKind.i64 (F k)], true = false → true = false, q0, q0, q0, q0, q0, q0, q0, q0, q0, q0, q0, q0, q n, (none : Option Nat) = none ∨ (none : Option Nat) = none, q e, q (SCfg.nodes c), q (SCfg.clients c), q (SCfg.window c), q (SCfg.buckets c), q (SCfg.cap c), q (SCfg.slots c), q (SCfg.requests c), q (SCfg.timeout c), q (SCfg.penalty c), q (SCfg.last c), q nd, q0, q0, q0, q0, q0, q0, q0, q0, q0, q n, (none : Option Nat) = none ∨ (none : Option Nat) = none, q (nat_lit 0), q (3 : Nat), q (↑a : Int), q (↑m : Int), q (↑b : Int), q0, q0, q0, q (↑z : Int), q (↑m : Int)]) : Option (V × Heap × List Prop)) := by kernel_rfl

noncomputable def bdMg_c (c : SCfg) (e : Int) (nd : Int) (n : Nat) (a : Nat) (m : Nat) (b : Nat) (d : Nat) (i : Nat) (j : Nat) (F : Nat → Int) (G1 : Nat → Int) (G2 : Nat → Int) (G3 : Nat → Int) (R : Nat) (z : Nat) : Nat → List Prop
 | 0 => [InR IntKind.i64 ((↑m : Int) - (↑a : Int)), decide ((↑m : Int) - (↑a : Int) = (1 : Int)) = false, InR IntKind.i64 ((↑b : Int) - (↑m : Int)), decide ((↑b : Int) - (↑m : Int) = (1 : Int)) = false, InR IntKind.i64 ((↑a : Int) + (↑b : Int)), (0 : Int) ≤ (1 : Int) ∧ (1 : Int) ≤ (64 : Int), InR IntKind.i64 (IntKind.wrap IntKind.u64 ((↑a : Int) + (↑b : Int)) / (2 : Int)), InR IntKind.i64 (IntKind.wrap IntKind.u64 ((↑a : Int) + (↑b : Int)) / (2 : Int) + (↑m : Int))]
 | 1 => [decide (IntKind.wrap IntKind.u64 ((↑a : Int) + (↑b : Int)) / (2 : Int) < (↑m : Int)) = true, InR IntKind.i64 (IntKind.wrap IntKind.u64 ((↑a : Int) + (↑b : Int)) / (2 : Int) + (↑m : Int) - (↑b : Int)), InR IntKind.i64 (IntKind.wrap IntKind.u64 ((↑a : Int) + (↑b : Int)) / (2 : Int) + (↑m : Int) - (1 : Int)), RLoop Try.prog none 6 (cB (cB (cL (cR (cR (cR (cR (cR (cR (cR (cR (bodyOf (Bd.f (bdMg c e nd n a m b d i j F G1 G2 G3 R z)))))))))))))) R (St.mk [.any, .int .i64 ↑a, .int .i64 ↑m, .int .i64 ↑b, .ptr (.o 6) 0 0 0 0, .any, .any, .any, .any, .any, .any, .any, .any, .any, .any, .any, .int .i64 ↑d, .int .i64 (↑(d + m) : Int), .int .i64 ↑i, .int .i64 ↑j, .int .i64 (↑(d + m - 1) : Int), .any, .any, .any, .any, .any, .any, .any, .any, .any, .any, .any, .any, .any, .any, .any, .any, .any, .any, .any, .any, .any, .any, .any, .any, .any, .any, .any, .any, .any, .any, .any, .any, .any, .any, .any, .any, .any, .any, .any, .any, .any, .any, .any, .any, .any, .any, .any, .any, .any, .any, .any, .any, .any, .any, .any, .any, .any, .any, .any, .any, .any, .any, .any, .any, .any, .any, .any, .any, .any, .any, .any, .any, .any, .any, .any, .any, .any, .any, .any, .any, .any, .any, .any, .any, .any, .any, .any, .any, .any, .any, .any, .any, .any, .any, .any, .any, .any, .any, .any, .any, .any, .any, .any, .any, .any, .any, .any, .any, .any, .any, .any, .any, .any, .any, .any, .any, .any, .any, .any, .any, .any, .any, .any, .any, .any, .any, .any, .any, .any, .any, .any, .any, .any, .any, .any, .any, .any, .any, .any, .any, .any, .any, .any, .any, .any, .any, .any, .any, .any, .any, .any, .any, .any, .any, .any, .any] [(.o 0, .rows 1 n (fun k => [.int .i64 (F k)]) true), (.o 1, .flat [.fn (.func (42 : FuncId)) [] [.ptr (.o 3) 0 0 0 0, .ptr (.o 4) 0 0 0 0, .ptr (.o 5) 0 0 0 0]]), (.o 2, .flat [.sl (.o 0) 1 0 0 0 n none]), (.o 3, .flat [.int .i64 e]), (.o 4, .flat [.int .i64 (SCfg.nodes c), .int .i64 (SCfg.clients c), .int .i64 (SCfg.window c), .int .i64 (SCfg.buckets c), .int .i64 (SCfg.cap c), .int .i64 (SCfg.slots c), .int .i64 (SCfg.requests c), .int .i64 (SCfg.timeout c), .int .i64 (SCfg.penalty c), .int .i64 (SCfg.last c)]), (.o 5, .flat [.int .i64 nd]), (.o 6, .flat [.fn (.func (44 : FuncId)) [] [.ptr (.o 1) 0 0 0 0, .ptr (.o 2) 0 0 0 0], .fn (.func (129 : FuncId)) [] [.sl (.o 0) 1 0 0 0 n none, V.abs 0 3]])] 7 []) (.exit 8) (St.mk [.any, .int .i64 ↑a, .int .i64 ↑m, .int .i64 ↑b, .ptr (.o 6) 0 0 0 0, .any, .any, .any, .any, .any, .any, .any, .any, .any, .any, .any, .int .i64 ↑d, .int .i64 (↑(d + m) : Int), .int .i64 ↑z, .int .i64 ↑z, .int .i64 (↑(d + m - 1) : Int), .any, .any, .any, .any, .any, .any, .any, .any, .any, .any, .any, .any, .any, .any, .any, .any, .any, .any, .any, .any, .any, .any, .any, .any, .any, .any, .any, .any, .any, .any, .any, .any, .any, .any, .any, .any, .any, .any, .any, .any, .any, .any, .any, .any, .any, .any, .any, .any, .any, .any, .any, .any, .any, .any, .any, .any, .any, .any, .any, .any, .any, .any, .any, .any, .any, .any, .any, .any, .any, .any, .any, .any, .any, .any, .any, .any, .any, .any, .any, .any, .any, .any, .any, .any, .any, .any, .any, .any, .any, .any, .any, .any, .any, .any, .any, .any, .any, .any, .any, .any, .any, .any, .any, .any, .any, .any, .any, .any, .any, .any, .any, .any, .any, .any, .any, .any, .any, .any, .any, .any, .any, .any, .any, .any, .any, .any, .any, .any, .any, .any, .any, .any, .any, .any, .any, .any, .any, .any, .any, .any, .any, .any, .any, .any, .any, .any, .any, .any, .any, .any, .any, .any, .any, .any, .any, .any] [(.o 0, .rows 1 n (fun k => [.int .i64 (F k)]) true), (.o 1, .flat [.fn (.func (42 : FuncId)) [] [.ptr (.o 3) 0 0 0 0, .ptr (.o 4) 0 0 0 0, .ptr (.o 5) 0 0 0 0]]), (.o 2, .flat [.sl (.o 0) 1 0 0 0 n none]), (.o 3, .flat [.int .i64 e]), (.o 4, .flat [.int .i64 (SCfg.nodes c), .int .i64 (SCfg.clients c), .int .i64 (SCfg.window c), .int .i64 (SCfg.buckets c), .int .i64 (SCfg.cap c), .int .i64 (SCfg.slots c), .int .i64 (SCfg.requests c), .int .i64 (SCfg.timeout c), .int .i64 (SCfg.penalty c), .int .i64 (SCfg.last c)]), (.o 5, .flat [.int .i64 nd]), (.o 6, .flat [.fn (.func (44 : FuncId)) [] [.ptr (.o 1) 0 0 0 0, .ptr (.o 2) 0 0 0 0], .fn (.func (129 : FuncId)) [] [.sl (.o 0) 1 0 0 0 n none, V.abs 0 3]])] 7 []), q n, ∀ (k : Nat), k < n → [V.int IntKind.i64 (F k)] = [V.int IntKind.i64 (F k)], true = false → true = false, q0, q0, q0, q0, q0, q0, q0, q0, q0, q0, q0, q0, q n, (none : Option Nat) = none ∨ (none : Option Nat) = none, q e, q (SCfg.nodes c), q (SCfg.clients c), q (SCfg.window c), q (SCfg.buckets c), q (SCfg.cap c), q (SCfg.slots c), q (SCfg.requests c), q (SCfg.timeout c), q (SCfg.penalty c), q (SCfg.last c), q nd, q0, q0, q0, q0, q0, q0, q0, q0, q0, q n, (none : Option Nat) = none ∨ (none : Option Nat) = none, q (nat_lit 0), q (3 : Nat), q (↑a : Int), q (↑m : Int), q (↑b : Int), q0, q0, q0, IntKind.wrap IntKind.u64 ((↑a : Int) + (↑b : Int)) / (2 : Int) = (↑d : Int), IntKind.wrap IntKind.u64 ((↑a : Int) + (↑b : Int)) / (2 : Int) + (↑m : Int) = (↑(d + m) : Int), IntKind.wrap IntKind.u64 ((↑a : Int) + (↑b : Int)) / (2 : Int) + (↑m : Int) - (↑b : Int) = (↑i : Int), IntKind.wrap IntKind.u64 ((↑a : Int) + (↑b : Int)) / (2 : Int) = (↑j : Int), IntKind.wrap IntKind.u64 ((↑a : Int) + (↑b : Int)) / (2 : Int) + (↑m : Int) - (1 : Int) = (↑(d + m - (1 : Nat)) : Int), InR IntKind.i64 ((↑(d + m) : Int) - (↑z : Int)), decide ((↑z : Int) < (↑m : Int)) = true]
 | 2 => [decide ((↑m : Int) < (↑(d + m) : Int) - (↑z : Int)) = true, T Try.prog 142 [.agg [.fn (.func (44 : FuncId)) [] [.ptr (.o 1) 0 0 0 0, .ptr (.o 2) 0 0 0 0], .fn (.func (129 : FuncId)) [] [.sl (.o 0) 1 0 0 0 n none, V.abs 0 3]], .int .i64 ↑z, .int .i64 ↑m, .int .i64 ((↑(d + m) : Int) - (↑z : Int))] [(.o 0, .rows 1 n (fun k => [.int .i64 (F k)]) true)] (.tup []) [(.o 0, .rows 1 n (fun k => [.int .i64 (G1 k)]) true)]]
 | 3 => [decide ((↑a : Int) < (↑z : Int)) = true, decide ((↑z : Int) < (↑d : Int)) = true, T Try.prog 135 [.agg [.fn (.func (44 : FuncId)) [] [.ptr (.o 1) 0 0 0 0, .ptr (.o 2) 0 0 0 0], .fn (.func (129 : FuncId)) [] [.sl (.o 0) 1 0 0 0 n none, V.abs 0 3]], .int .i64 ↑a, .int .i64 ↑z, .int .i64 ↑d] [(.o 0, .rows 1 n (fun k => [.int .i64 (G1 k)]) true), (.o 1, .flat [.fn (.func (42 : FuncId)) [] [.ptr (.o 3) 0 0 0 0, .ptr (.o 4) 0 0 0 0, .ptr (.o 5) 0 0 0 0]]), (.o 2, .flat [.sl (.o 0) 1 0 0 0 n none]), (.o 3, .flat [.int .i64 e]), (.o 4, .flat [.int .i64 (SCfg.nodes c), .int .i64 (SCfg.clients c), .int .i64 (SCfg.window c), .int .i64 (SCfg.buckets c), .int .i64 (SCfg.cap c), .int .i64 (SCfg.slots c), .int .i64 (SCfg.requests c), .int .i64 (SCfg.timeout c), .int .i64 (SCfg.penalty c), .int .i64 (SCfg.last c)]), (.o 5, .flat [.int .i64 nd])] (.tup []) [(.o 0, .rows 1 n (fun k => [.int .i64 (G2 k)]) true), (.o 1, .flat [.fn (.func (42 : FuncId)) [] [.ptr (.o 3) 0 0 0 0, .ptr (.o 4) 0 0 0 0, .ptr (.o 5) 0 0 0 0]]), (.o 2, .flat [.sl (.o 0) 1 0 0 0 n none]), (.o 3, .flat [.int .i64 e]), (.o 4, .flat [.int .i64 (SCfg.nodes c), .int .i64 (SCfg.clients c), .int .i64 (SCfg.window c), .int .i64 (SCfg.buckets c), .int .i64 (SCfg.cap c), .int .i64 (SCfg.slots c), .int .i64 (SCfg.requests c), .int .i64 (SCfg.timeout c), .int .i64 (SCfg.penalty c), .int .i64 (SCfg.last c)]), (.o 5, .flat [.int .i64 nd])], decide ((↑d : Int) < (↑(d + m) : Int) - (↑z : Int)) = true]
 | 4 => [decide (IntKind.wrap IntKind.u64 ((↑a : Int) + (↑b : Int)) / (2 : Int) < (↑m : Int)) = false, InR IntKind.i64 (IntKind.wrap IntKind.u64 ((↑a : Int) + (↑b : Int)) / (2 : Int) + (↑m : Int) - (1 : Int)), RLoop Try.prog none 6 (cB (cB (cL (cR (cR (cR (cR (cR (cR (cR (cR (bodyOf (Bd.f (bdMg c e nd n a m b d i j F G1 G2 G3 R z)))))))))))))) R (St.mk [.any, .int .i64 ↑a, .int .i64 ↑m, .int .i64 ↑b, .ptr (.o 6) 0 0 0 0, .any, .any, .any, .any, .any, .any, .any, .any, .any, .any, .any, .int .i64 ↑d, .int .i64 (↑(d + m) : Int), .int .i64 ↑i, .int .i64 ↑j, .int .i64 (↑(d + m - 1) : Int), .any, .any, .any, .any, .any, .any, .any, .any, .any, .any, .any, .any, .any, .any, .any, .any, .any, .any, .any, .any, .any, .any, .any, .any, .any, .any, .any, .any, .any, .any, .any, .any, .any, .any, .any, .any, .any, .any, .any, .any, .any, .any, .any, .any, .any, .any, .any, .any, .any, .any, .any, .any, .any, .any, .any, .any, .any, .any, .any, .any, .any, .any, .any, .any, .any, .any, .any, .any, .any, .any, .any, .any, .any, .any, .any, .any, .any, .any, .any, .any, .any, .any, .any, .any, .any, .any, .any, .any, .any, .any, .any, .any, .any, .any, .any, .any, .any, .any, .any, .any, .any, .any, .any, .any, .any, .any, .any, .any, .any, .any, .any, .any, .any, .any, .any, .any, .any, .any, .any, .any, .any, .any, .any, .any, .any, .any, .any, .any, .any, .any, .any, .any, .any, .any, .any, .any, .any, .any, .any, .any, .any, .any, .any, .any, .any, .any, .any, .any, .any, .any, .any, .any, .any, .any, .any, .any] [(.o 0, .rows 1 n (fun k => [.int .i64 (F k)]) true), (.o 1, .flat [.fn (.func (42 : FuncId)) [] [.ptr (.o 3) 0 0 0 0, .ptr (.o 4) 0 0 0 0, .ptr (.o 5) 0 0 0 0]]), (.o 2, .flat [.sl (.o 0) 1 0 0 0 n none]), (.o 3, .flat [.int .i64 e]), (.o 4, .flat [.int .i64 (SCfg.nodes c), .int .i64 (SCfg.clients c), .int .i64 (SCfg.window c), .int .i64 (SCfg.buckets c), .int .i64 (SCfg.cap c), .int .i64 (SCfg.slots c), .int .i64 (SCfg.requests c), .int .i64 (SCfg.timeout c), .int .i64 (SCfg.penalty c), .int .i64 (SCfg.last c)]), (.o 5, .flat [.int .i64 nd]), (.o 6, .flat [.fn (.func (44 : FuncId)) [] [.ptr (.o 1) 0 0 0 0, .ptr (.o 2) 0 0 0 0], .fn (.func (129 : FuncId)) [] [.sl (.o 0) 1 0 0 0 n none, V.abs 0 3]])] 7 []) (.exit 8) (St.mk [.any, .int .i64 ↑a, .int .i64 ↑m, .int .i64 ↑b, .ptr (.o 6) 0 0 0 0, .any, .any, .any, .any, .any, .any, .any, .any, .any, .any, .any, .int .i64 ↑d, .int .i64 (↑(d + m) : Int), .int .i64 ↑z, .int .i64 ↑z, .int .i64 (↑(d + m - 1) : Int), .any, .any, .any, .any, .any, .any, .any, .any, .any, .any, .any, .any, .any, .any, .any, .any, .any, .any, .any, .any, .any, .any, .any, .any, .any, .any, .any, .any, .any, .any, .any, .any, .any, .any, .any, .any, .any, .any, .any, .any, .any, .any, .any, .any, .any, .any, .any, .any, .any, .any, .any, .any, .any, .any, .any, .any, .any, .any, .any, .any, .any, .any, .any, .any, .any, .any, .any, .any, .any, .any, .any, .any, .any, .any, .any, .any, .any, .any, .any, .any, .any, .any, .any, .any, .any, .any, .any, .any, .any, .any, .any, .any, .any, .any, .any, .any, .any, .any, .any, .any, .any, .any, .any, .any, .any, .any, .any, .any, .any, .any, .any, .any, .any, .any, .any, .any, .any, .any, .any, .any, .any, .any, .any, .any, .any, .any, .any, .any, .any, .any, .any, .any, .any, .any, .any, .any, .any, .any, .any, .any, .any, .any, .any, .any, .any, .any, .any, .any, .any, .any, .any, .any, .any, .any, .any, .any] [(.o 0, .rows 1 n (fun k => [.int .i64 (F k)]) true), (.o 1, .flat [.fn (.func (42 : FuncId)) [] [.ptr (.o 3) 0 0 0 0, .ptr (.o 4) 0 0 0 0, .ptr (.o 5) 0 0 0 0]]), (.o 2, .flat [.sl (.o 0) 1 0 0 0 n none]), (.o 3, .flat [.int .i64 e]), (.o 4, .flat [.int .i64 (SCfg.nodes c), .int .i64 (SCfg.clients c), .int .i64 (SCfg.window c), .int .i64 (SCfg.buckets c), .int .i64 (SCfg.cap c), .int .i64 (SCfg.slots c), .int .i64 (SCfg.requests c), .int .i64 (SCfg.timeout c), .int .i64 (SCfg.penalty c), .int .i64 (SCfg.last c)]), (.o 5, .flat [.int .i64 nd]), (.o 6, .flat [.fn (.func (44 : FuncId)) [] [.ptr (.o 1) 0 0 0 0, .ptr (.o 2) 0 0 0 0], .fn (.func (129 : FuncId)) [] [.sl (.o 0) 1 0 0 0 n none, V.abs 0 3]])] 7 []), q n, ∀ (k : Nat), k < n → [V.int IntKind.i64 (F k)] = [V.int IntKind.i64 (F k)], true = false → true = false, q0, q0, q0, q0, q0, q0, q0, q0, q0, q0, q0, q0, q n, (none : Option Nat) = none ∨ (none : Option Nat) = none, q e, q (SCfg.nodes c), q (SCfg.clients c), q (SCfg.window c), q (SCfg.buckets c), q (SCfg.cap c), q (SCfg.slots c), q (SCfg.requests c), q (SCfg.timeout c), q (SCfg.penalty c), q (SCfg.last c), q nd, q0, q0, q0, q0, q0, q0, q0, q0, q0, q n, (none : Option Nat) = none ∨ (none : Option Nat) = none, q (nat_lit 0), q (3 : Nat), q (↑a : Int), q (↑m : Int), q (↑b : Int), q0, q0, q0, IntKind.wrap IntKind.u64 ((↑a : Int) + (↑b : Int)) / (2 : Int) = (↑d : Int), IntKind.wrap IntKind.u64 ((↑a : Int) + (↑b : Int)) / (2 : Int) + (↑m : Int) = (↑(d + m) : Int), (↑a : Int) = (↑i : Int), (↑m : Int) = (↑j : Int), IntKind.wrap IntKind.u64 ((↑a : Int) + (↑b : Int)) / (2 : Int) + (↑m : Int) - (1 : Int) = (↑(d + m - (1 : Nat)) : Int), InR IntKind.i64 ((↑(d + m) : Int) - (↑z : Int))]
 | 5 => [decide ((↑z : Int) < (↑m : Int)) = true, decide ((↑m : Int) < (↑(d + m) : Int) - (↑z : Int)) = true, T Try.prog 142 [.agg [.fn (.func (44 : FuncId)) [] [.ptr (.o 1) 0 0 0 0, .ptr (.o 2) 0 0 0 0], .fn (.func (129 : FuncId)) [] [.sl (.o 0) 1 0 0 0 n none, V.abs 0 3]], .int .i64 ↑z, .int .i64 ↑m, .int .i64 ((↑(d + m) : Int) - (↑z : Int))] [(.o 0, .rows 1 n (fun k => [.int .i64 (F k)]) true)] (.tup []) [(.o 0, .rows 1 n (fun k => [.int .i64 (G1 k)]) true)]]
 | 6 => [decide ((↑a : Int) < (↑z : Int)) = true, decide ((↑z : Int) < (↑d : Int)) = true, T Try.prog 135 [.agg [.fn (.func (44 : FuncId)) [] [.ptr (.o 1) 0 0 0 0, .ptr (.o 2) 0 0 0 0], .fn (.func (129 : FuncId)) [] [.sl (.o 0) 1 0 0 0 n none, V.abs 0 3]], .int .i64 ↑a, .int .i64 ↑z, .int .i64 ↑d] [(.o 0, .rows 1 n (fun k => [.int .i64 (G1 k)]) true), (.o 1, .flat [.fn (.func (42 : FuncId)) [] [.ptr (.o 3) 0 0 0 0, .ptr (.o 4) 0 0 0 0, .ptr (.o 5) 0 0 0 0]]), (.o 2, .flat [.sl (.o 0) 1 0 0 0 n none]), (.o 3, .flat [.int .i64 e]), (.o 4, .flat [.int .i64 (SCfg.nodes c), .int .i64 (SCfg.clients c), .int .i64 (SCfg.window c), .int .i64 (SCfg.buckets c), .int .i64 (SCfg.cap c), .int .i64 (SCfg.slots c), .int .i64 (SCfg.requests c), .int .i64 (SCfg.timeout c), .int .i64 (SCfg.penalty c), .int .i64 (SCfg.last c)]), (.o 5, .flat [.int .i64 nd])] (.tup []) [(.o 0, .rows 1 n (fun k => [.int .i64 (G2 k)]) true), (.o 1, .flat [.fn (.func (42 : FuncId)) [] [.ptr (.o 3) 0 0 0 0, .ptr (.o 4) 0 0 0 0, .ptr (.o 5) 0 0 0 0]]), (.o 2, .flat [.sl (.o 0) 1 0 0 0 n none]), (.o 3, .flat [.int .i64 e]), (.o 4, .flat [.int .i64 (SCfg.nodes c), .int .i64 (SCfg.clients c), .int .i64 (SCfg.window c), .int .i64 (SCfg.buckets c), .int .i64 (SCfg.cap c), .int .i64 (SCfg.slots c), .int .i64 (SCfg.requests c), .int .i64 (SCfg.timeout c), .int .i64 (SCfg.penalty c), .int .i64 (SCfg.last c)]), (.o 5, .flat [.int .i64 nd])], decide ((↑d : Int) < (↑(d + m) : Int) - (↑z : Int)) = true]
 | _ => []
theorem bdMg_p001101011 (c : SCfg) (e : Int) (nd : Int) (n : Nat) (a : Nat) (m : Nat) (b : Nat) (d : Nat) (i : Nat) (j : Nat) (F : Nat → Int) (G1 : Nat → Int) (G2 : Nat → Int) (G3 : Nat → Int) (R : Nat) (z : Nat) :
 along Try.prog (bdMg c e nd n a m b d i j F G1 G2 G3 R z) [false, false, true, true, false, true, false, true, true] = (some (.tup [], [(.o 0, .rows 1 n (fun k => [.int .i64 (G2 k)]) true), (.o 1, .flat [.fn (.func (42 : FuncId)) [] [.ptr (.o 3) 0 0 0 0, .ptr (.o 4) 0 0 0 0, .ptr (.o 5) 0 0 0 0]]), (.o 2, .flat [.sl (.o 0) 1 0 0 0 n none]), (.o 3, .flat [.int .i64 e]), (.o 4, .flat [.int .i64 (SCfg.nodes c), .int .i64 (SCfg.clients c), .int .i64 (SCfg.window c), .int .i64 (SCfg.buckets c), .int .i64 (SCfg.cap c), .int .i64 (SCfg.slots c), .int .i64 (SCfg.requests c), .int .i64 (SCfg.timeout c), .int .i64 (SCfg.penalty c), .int .i64 (SCfg.last c)]), (.o 5, .flat [.int .i64 nd])], bdMg_c c e nd n a m b d i j F G1 G2 G3 R z 0 ++ (bdMg_c c e nd n a m b d i j F G1 G2 G3 R z 1 ++ [decide ((↑m : Int) < (↑(d + m) : Int) - (↑z : Int)) = false, decide ((↑a : Int) < (↑z : Int)) = true, decide ((↑z : Int) < (↑d : Int)) = false, decide ((↑d : Int) < (↑(d + m) : Int) - (↑z : Int)) = true, decide ((↑(d + m) : Int) - (↑z : Int) < (↑b : Int)) = true, T Try.prog 135 [.agg [.fn (.func (44 : FuncId)) [] [.ptr (.o 1) 0 0 0 0, .ptr (.o 2) 0 0 0 0], .fn (.func (129 : FuncId)) [] [.sl (.o 0) 1 0 0 0 n none, V.abs 0 3]], .int .i64 ↑d, .int .i64 ((↑(d + m) : Int) - (↑z : Int)), .int .i64 ↑b] [(.o 0, .rows 1 n (fun k => [.int .i64 (F k)]) true), (.o 1, .flat [.fn (.func (42 : FuncId)) [] [.ptr (.o 3) 0 0 0 0, .ptr (.o 4) 0 0 0 0, .ptr (.o 5) 0 0 0 0]]), (.o 2, .flat [.sl (.o 0) 1 0 0 0 n none]), (.o 3, .flat [.int .i64 e]), (.o 4, .flat [.int .i64 (SCfg.nodes c), .int .i64 (SCfg.clients c), .int .i64 (SCfg.window c), .int .i64 (SCfg.buckets c), .int .i64 (SCfg.cap c), .int .i64 (SCfg.slots c), .int .i64 (SCfg.requests c), .int .i64 (SCfg.timeout c), .int .i64 (SCfg.penalty c), .int .i64 (SCfg.last c)]), (.o 5, .flat [.int .i64 nd])] (.tup []) [(.o 0, .rows 1 n (fun k => [.int .i64 (G2 k)]) true), (.o 1, .flat [.fn (.func (42 : FuncId)) [] [.ptr (.o 3) 0 0 0 0, .ptr (.o 4) 0 0 0 0, .ptr (.o 5) 0 0 0 0]]), (.o 2, .flat [.sl (.o 0) 1 0 0 0 n none]), (.o 3, .flat [.int .i64 e]), (.o 4, .flat [.int .i64 (SCfg.nodes c), .int .i64 (SCfg.clients c), .int .i64 (SCfg.window c), .int .i64 (SCfg.buckets c), .int .i64 (SCfg.cap c), .int .i64 (SCfg.slots c), .int .i64 (SCfg.requests c), .int .i64 (SCfg.timeout c), .int .i64 (SCfg.penalty c), .int .i64 (SCfg.last c)]), (.o 5, .flat [.int .i64 nd])]])) : Option (V × Heap × List Prop)) := by kernel_rfl

theorem bdMg_p000001100 (c : SCfg) (e : Int) (nd : Int) (n : Nat) (a : Nat) (m : Nat) (b : Nat) (d : Nat) (i : Nat) (j : Nat) (F : Nat → Int) (G1 : Nat → Int) (G2 : Nat → Int) (G3 : Nat → Int) (R : Nat) (z : Nat) :
 along Try.prog (bdMg c e nd n a m b d i j F G1 G2 G3 R z) [false, false, false, false, false, true, true, false, false] = (some (.tup [], [(.o 0, .rows 1 n (fun k => [.int .i64 (G2 k)]) true), (.o 1, .flat [.fn (.func (42 : FuncId)) [] [.ptr (.o 3) 0 0 0 0, .ptr (.o 4) 0 0 0 0, .ptr (.o 5) 0 0 0 0]]), (.o 2, .flat [.sl (.o 0) 1 0 0 0 n none]), (.o 3, .flat [.int .i64 e]), (.o 4, .flat [.int .i64 (SCfg.nodes c), .int .i64 (SCfg.clients c), .int .i64 (SCfg.window c), .int .i64 (SCfg.buckets c), .int .i64 (SCfg.cap c), .int .i64 (SCfg.slots c), .int .i64 (SCfg.requests c), .int .i64 (SCfg.timeout c), .int .i64 (SCfg.penalty c), .int .i64 (SCfg.last c)]), (.o 5, .flat [.int .i64 nd])], bdMg_c c e nd n a m b d i j F G1 G2 G3 R z 0 ++ (bdMg_c c e nd n a m b d i j F G1 G2 G3 R z 4 ++ [decide ((↑z : Int) < (↑m : Int)) = false, q false, decide ((↑a : Int) < (↑z : Int)) = true, decide ((↑z : Int) < (↑d : Int)) = true, T Try.prog 135 [.agg [.fn (.func (44 : FuncId)) [] [.ptr (.o 1) 0 0 0 0, .ptr (.o 2) 0 0 0 0], .fn (.func (129 : FuncId)) [] [.sl (.o 0) 1 0 0 0 n none, V.abs 0 3]], .int .i64 ↑a, .int .i64 ↑z, .int .i64 ↑d] [(.o 0, .rows 1 n (fun k => [.int .i64 (F k)]) true), (.o 1, .flat [.fn (.func (42 : FuncId)) [] [.ptr (.o 3) 0 0 0 0, .ptr (.o 4) 0 0 0 0, .ptr (.o 5) 0 0 0 0]]), (.o 2, .flat [.sl (.o 0) 1 0 0 0 n none]), (.o 3, .flat [.int .i64 e]), (.o 4, .flat [.int .i64 (SCfg.nodes c), .int .i64 (SCfg.clients c), .int .i64 (SCfg.window c), .int .i64 (SCfg.buckets c), .int .i64 (SCfg.cap c), .int .i64 (SCfg.slots c), .int .i64 (SCfg.requests c), .int .i64 (SCfg.timeout c), .int .i64 (SCfg.penalty c), .int .i64 (SCfg.last c)]), (.o 5, .flat [.int .i64 nd])] (.tup []) [(.o 0, .rows 1 n (fun k => [.int .i64 (G2 k)]) true), (.o 1, .flat [.fn (.func (42 : FuncId)) [] [.ptr (.o 3) 0 0 0 0, .ptr (.o 4) 0 0 0 0, .ptr (.o 5) 0 0 0 0]]), (.o 2, .flat [.sl (.o 0) 1 0 0 0 n none]), (.o 3, .flat [.int .i64 e]), (.o 4, .flat [.int .i64 (SCfg.nodes c), .int .i64 (SCfg.clients c), .int .i64 (SCfg.window c), .int .i64 (SCfg.buckets c), .int .i64 (SCfg.cap c), .int .i64 (SCfg.slots c), .int .i64 (SCfg.requests c), .int .i64 (SCfg.timeout c), .int .i64 (SCfg.penalty c), .int .i64 (SCfg.last c)]), (.o 5, .flat [.int .i64 nd])], decide ((↑d : Int) < (↑(d + m) : Int) - (↑z : Int)) = false, q false])) : Option (V × Heap × List Prop)) := by kernel_rfl

theorem bdMg_p000001000 (c : SCfg) (e : Int) (nd : Int) (n : Nat) (a : Nat) (m : Nat) (b : Nat) (d : Nat) (i : Nat) (j : Nat) (F : Nat → Int) (G1 : Nat → Int) (G2 : Nat → Int) (G3 : Nat → Int) (R : Nat) (z : Nat) :
 along Try.prog (bdMg c e nd n a m b d i j F G1 G2 G3 R z) [false, false, false, false, false, true, false, false, false] = (some (.tup [], [(.o 0, .rows 1 n (fun k => [.int .i64 (F k)]) true), (.o 1, .flat [.fn (.func (42 : FuncId)) [] [.ptr (.o 3) 0 0 0 0, .ptr (.o 4) 0 0 0 0, .ptr (.o 5) 0 0 0 0]]), (.o 2, .flat [.sl (.o 0) 1 0 0 0 n none]), (.o 3, .flat [.int .i64 e]), (.o 4, .flat [.int .i64 (SCfg.nodes c), .int .i64 (SCfg.clients c), .int .i64 (SCfg.window c), .int .i64 (SCfg.buckets c), .int .i64 (SCfg.cap c), .int .i64 (SCfg.slots c), .int .i64 (SCfg.requests c), .int .i64 (SCfg.timeout c), .int .i64 (SCfg.penalty c), .int .i64 (SCfg.last c)]), (.o 5, .flat [.int .i64 nd])], bdMg_c c e nd n a m b d i j F G1 G2 G3 R z 0 ++ (bdMg_c c e nd n a m b d i j F G1 G2 G3 R z 4 ++ [decide ((↑z : Int) < (↑m : Int)) = false, q false, decide ((↑a : Int) < (↑z : Int)) = true, decide ((↑z : Int) < (↑d : Int)) = false, decide ((↑d : Int) < (↑(d + m) : Int) - (↑z : Int)) = false, q false])) : Option (V × Heap × List Prop)) := by kernel_rfl

theorem bdMg_p001111111 (c : SCfg) (e : Int) (nd : Int) (n : Nat) (a : Nat) (m : Nat) (b : Nat) (d : Nat) (i : Nat) (j : Nat) (F : Nat → Int) (G1 : Nat → Int) (G2 : Nat → Int) (G3 : Nat → Int) (R : Nat) (z : Nat) :
 along Try.prog (bdMg c e nd n a m b d i j F G1 G2 G3 R z) [false, false, true, true, true, true, true, true, true] = (some (.tup [], [(.o 0, .rows 1 n (fun k => [.int .i64 (G3 k)]) true), (.o 1, .flat [.fn (.func (42 : FuncId)) [] [.ptr (.o 3) 0 0 0 0, .ptr (.o 4) 0 0 0 0, .ptr (.o 5) 0 0 0 0]]), (.o 2, .flat [.sl (.o 0) 1 0 0 0 n none]), (.o 3, .flat [.int .i64 e]), (.o 4, .flat [.int .i64 (SCfg.nodes c), .int .i64 (SCfg.clients c), .int .i64 (SCfg.window c), .int .i64 (SCfg.buckets c), .int .i64 (SCfg.cap c), .int .i64 (SCfg.slots c), .int .i64 (SCfg.requests c), .int .i64 (SCfg.timeout c), .int .i64 (SCfg.penalty c), .int .i64 (SCfg.last c)]), (.o 5, .flat [.int .i64 nd])], bdMg_c c e nd n a m b d i j F G1 G2 G3 R z 0 ++ (bdMg_c c e nd n a m b d i j F G1 G2 G3 R z 1 ++ (bdMg_c c e nd n a m b d i j F G1 G2 G3 R z 2 ++ (bdMg_c c e nd n a m b d i j F G1 G2 G3 R z 3 ++ [decide ((↑(d + m) : Int) - (↑z : Int) < (↑b : Int)) = true, T Try.prog 135 [.agg [.fn (.func (44 : FuncId)) [] [.ptr (.o 1) 0 0 0 0, .ptr (.o 2) 0 0 0 0], .fn (.func (129 : FuncId)) [] [.sl (.o 0) 1 0 0 0 n none, V.abs 0 3]], .int .i64 ↑d, .int .i64 ((↑(d + m) : Int) - (↑z : Int)), .int .i64 ↑b] [(.o 0, .rows 1 n (fun k => [.int .i64 (G2 k)]) true), (.o 1, .flat [.fn (.func (42 : FuncId)) [] [.ptr (.o 3) 0 0 0 0, .ptr (.o 4) 0 0 0 0, .ptr (.o 5) 0 0 0 0]]), (.o 2, .flat [.sl (.o 0) 1 0 0 0 n none]), (.o 3, .flat [.int .i64 e]), (.o 4, .flat [.int .i64 (SCfg.nodes c), .int .i64 (SCfg.clients c), .int .i64 (SCfg.window c), .int .i64 (SCfg.buckets c), .int .i64 (SCfg.cap c), .int .i64 (SCfg.slots c), .int .i64 (SCfg.requests c), .int .i64 (SCfg.timeout c), .int .i64 (SCfg.penalty c), .int .i64 (SCfg.last c)]), (.o 5, .flat [.int .i64 nd])] (.tup []) [(.o 0, .rows 1 n (fun k => [.int .i64 (G3 k)]) true), (.o 1, .flat [.fn (.func (42 : FuncId)) [] [.ptr (.o 3) 0 0 0 0, .ptr (.o 4) 0 0 0 0, .ptr (.o 5) 0 0 0 0]]), (.o 2, .flat [.sl (.o 0) 1 0 0 0 n none]), (.o 3, .flat [.int .i64 e]), (.o 4, .flat [.int .i64 (SCfg.nodes c), .int .i64 (SCfg.clients c), .int .i64 (SCfg.window c), .int .i64 (SCfg.buckets c), .int .i64 (SCfg.cap c), .int .i64 (SCfg.slots c), .int .i64 (SCfg.requests c), .int .i64 (SCfg.timeout c), .int .i64 (SCfg.penalty c), .int .i64 (SCfg.last c)]), (.o 5, .flat [.int .i64 nd])]])))) : Option (V × Heap × List Prop)) := by kernel_rfl

theorem bdMg_p001111110 (c : SCfg) (e : Int) (nd : Int) (n : Nat) (a : Nat) (m : Nat) (b : Nat) (d : Nat) (i : Nat) (j : Nat) (F : Nat → Int) (G1 : Nat → Int) (G2 : Nat → Int) (G3 : Nat → Int) (R : Nat) (z : Nat) :
 along Try.prog (bdMg c e nd n a m b d i j F G1 G2 G3 R z) [false, false, true, true, true, true, true, true, false] = (some (.tup [], [(.o 0, .rows 1 n (fun k => [.int .i64 (G2 k)]) true), (.o 1, .flat [.fn (.func (42 : FuncId)) [] [.ptr (.o 3) 0 0 0 0, .ptr (.o 4) 0 0 0 0, .ptr (.o 5) 0 0 0 0]]), (.o 2, .flat [.sl (.o 0) 1 0 0 0 n none]), (.o 3, .flat [.int .i64 e]), (.o 4, .flat [.int .i64 (SCfg.nodes c), .int .i64 (SCfg.clients c), .int .i64 (SCfg.window c), .int .i64 (SCfg.buckets c), .int .i64 (SCfg.cap c), .int .i64 (SCfg.slots c), .int .i64 (SCfg.requests c), .int .i64 (SCfg.timeout c), .int .i64 (SCfg.penalty c), .int .i64 (SCfg.last c)]), (.o 5, .flat [.int .i64 nd])], bdMg_c c e nd n a m b d i j F G1 G2 G3 R z 0 ++ (bdMg_c c e nd n a m b d i j F G1 G2 G3 R z 1 ++ (bdMg_c c e nd n a m b d i j F G1 G2 G3 R z 2 ++ (bdMg_c c e nd n a m b d i j F G1 G2 G3 R z 3 ++ [decide ((↑(d + m) : Int) - (↑z : Int) < (↑b : Int)) = false])))) : Option (V × Heap × List Prop)) := by kernel_rfl

theorem bdMg_p001110011 (c : SCfg) (e : Int) (nd : Int) (n : Nat) (a : Nat) (m : Nat) (b : Nat) (d : Nat) (i : Nat) (j : Nat) (F : Nat → Int) (G1 : Nat → Int) (G2 : Nat → Int) (G3 : Nat → Int) (R : Nat) (z : Nat) :
 along Try.prog (bdMg c e nd n a m b d i j F G1 G2 G3 R z) [false, false, true, true, true, false, false, true, true] = (some (.tup [], [(.o 0, .rows 1 n (fun k => [.int .i64 (G2 k)]) true), (.o 1, .flat [.fn (.func (42 : FuncId)) [] [.ptr (.o 3) 0 0 0 0, .ptr (.o 4) 0 0 0 0, .ptr (.o 5) 0 0 0 0]]), (.o 2, .flat [.sl (.o 0) 1 0 0 0 n none]), (.o 3, .flat [.int .i64 e]), (.o 4, .flat [.int .i64 (SCfg.nodes c), .int .i64 (SCfg.clients c), .int .i64 (SCfg.window c), .int .i64 (SCfg.buckets c), .int .i64 (SCfg.cap c), .int .i64 (SCfg.slots c), .int .i64 (SCfg.requests c), .int .i64 (SCfg.timeout c), .int .i64 (SCfg.penalty c), .int .i64 (SCfg.last c)]), (.o 5, .flat [.int .i64 nd])], bdMg_c c e nd n a m b d i j F G1 G2 G3 R z 0 ++ (bdMg_c c e nd n a m b d i j F G1 G2 G3 R z 1 ++ (bdMg_c c e nd n a m b d i j F G1 G2 G3 R z 2 ++ [decide ((↑a : Int) < (↑z : Int)) = false, q false, decide ((↑d : Int) < (↑(d + m) : Int) - (↑z : Int)) = true, decide ((↑(d + m) : Int) - (↑z : Int) < (↑b : Int)) = true, T Try.prog 135 [.agg [.fn (.func (44 : FuncId)) [] [.ptr (.o 1) 0 0 0 0, .ptr (.o 2) 0 0 0 0], .fn (.func (129 : FuncId)) [] [.sl (.o 0) 1 0 0 0 n none, V.abs 0 3]], .int .i64 ↑d, .int .i64 ((↑(d + m) : Int) - (↑z : Int)), .int .i64 ↑b] [(.o 0, .rows 1 n (fun k => [.int .i64 (G1 k)]) true), (.o 1, .flat [.fn (.func (42 : FuncId)) [] [.ptr (.o 3) 0 0 0 0, .ptr (.o 4) 0 0 0 0, .ptr (.o 5) 0 0 0 0]]), (.o 2, .flat [.sl (.o 0) 1 0 0 0 n none]), (.o 3, .flat [.int .i64 e]), (.o 4, .flat [.int .i64 (SCfg.nodes c), .int .i64 (SCfg.clients c), .int .i64 (SCfg.window c), .int .i64 (SCfg.buckets c), .int .i64 (SCfg.cap c), .int .i64 (SCfg.slots c), .int .i64 (SCfg.requests c), .int .i64 (SCfg.timeout c), .int .i64 (SCfg.penalty c), .int .i64 (SCfg.last c)]), (.o 5, .flat [.int .i64 nd])] (.tup []) [(.o 0, .rows 1 n (fun k => [.int .i64 (G2 k)]) true), (.o 1, .flat [.fn (.func (42 : FuncId)) [] [.ptr (.o 3) 0 0 0 0, .ptr (.o 4) 0 0 0 0, .ptr (.o 5) 0 0 0 0]]), (.o 2, .flat [.sl (.o 0) 1 0 0 0 n none]), (.o 3, .flat [.int .i64 e]), (.o 4, .flat [.int .i64 (SCfg.nodes c), .int .i64 (SCfg.clients c), .int .i64 (SCfg.window c), .int .i64 (SCfg.buckets c), .int .i64 (SCfg.cap c), .int .i64 (SCfg.slots c), .int .i64 (SCfg.requests c), .int .i64 (SCfg.timeout c), .int .i64 (SCfg.penalty c), .int .i64 (SCfg.last c)]), (.o 5, .flat [.int .i64 nd])]]))) : Option (V × Heap × List Prop)) := by kernel_rfl

theorem bdMg_p001110010 (c : SCfg) (e : Int) (nd : Int) (n : Nat) (a : Nat) (m : Nat) (b : Nat) (d : Nat) (i : Nat) (j : Nat) (F : Nat → Int) (G1 : Nat → Int) (G2 : Nat → Int) (G3 : Nat → Int) (R : Nat) (z : Nat) :
 along Try.prog (bdMg c e nd n a m b d i j F G1 G2 G3 R z) [false, false, true, true, true, false, false, true, false] = (some (.tup [], [(.o 0, .rows 1 n (fun k => [.int .i64 (G1 k)]) true), (.o 1, .flat [.fn (.func (42 : FuncId)) [] [.ptr (.o 3) 0 0 0 0, .ptr (.o 4) 0 0 0 0, .ptr (.o 5) 0 0 0 0]]), (.o 2, .flat [.sl (.o 0) 1 0 0 0 n none]), (.o 3, .flat [.int .i64 e]), (.o 4, .flat [.int .i64 (SCfg.nodes c), .int .i64 (SCfg.clients c), .int .i64 (SCfg.window c), .int .i64 (SCfg.buckets c), .int .i64 (SCfg.cap c), .int .i64 (SCfg.slots c), .int .i64 (SCfg.requests c), .int .i64 (SCfg.timeout c), .int .i64 (SCfg.penalty c), .int .i64 (SCfg.last c)]), (.o 5, .flat [.int .i64 nd])], bdMg_c c e nd n a m b d i j F G1 G2 G3 R z 0 ++ (bdMg_c c e nd n a m b d i j F G1 G2 G3 R z 1 ++ (bdMg_c c e nd n a m b d i j F G1 G2 G3 R z 2 ++ [decide ((↑a : Int) < (↑z : Int)) = false, q false, decide ((↑d : Int) < (↑(d + m) : Int) - (↑z : Int)) = true, decide ((↑(d + m) : Int) - (↑z : Int) < (↑b : Int)) = false]))) : Option (V × Heap × List Prop)) := by kernel_rfl

theorem bdMg_p000111111 (c : SCfg) (e : Int) (nd : Int) (n : Nat) (a : Nat) (m : Nat) (b : Nat) (d : Nat) (i : Nat) (j : Nat) (F : Nat → Int) (G1 : Nat → Int) (G2 : Nat → Int) (G3 : Nat → Int) (R : Nat) (z : Nat) :
 along Try.prog (bdMg c e nd n a m b d i j F G1 G2 G3 R z) [false, false, false, true, true, true, true, true, true] = (some (.tup [], [(.o 0, .rows 1 n (fun k => [.int .i64 (G3 k)]) true), (.o 1, .flat [.fn (.func (42 : FuncId)) [] [.ptr (.o 3) 0 0 0 0, .ptr (.o 4) 0 0 0 0, .ptr (.o 5) 0 0 0 0]]), (.o 2, .flat [.sl (.o 0) 1 0 0 0 n none]), (.o 3, .flat [.int .i64 e]), (.o 4, .flat [.int .i64 (SCfg.nodes c), .int .i64 (SCfg.clients c), .int .i64 (SCfg.window c), .int .i64 (SCfg.buckets c), .int .i64 (SCfg.cap c), .int .i64 (SCfg.slots c), .int .i64 (SCfg.requests c), .int .i64 (SCfg.timeout c), .int .i64 (SCfg.penalty c), .int .i64 (SCfg.last c)]), (.o 5, .flat [.int .i64 nd])], bdMg_c c e nd n a m b d i j F G1 G2 G3 R z 0 ++ (bdMg_c c e nd n a m b d i j F G1 G2 G3 R z 4 ++ (bdMg_c c e nd n a m b d i j F G1 G2 G3 R z 5 ++ (bdMg_c c e nd n a m b d i j F G1 G2 G3 R z 6 ++ [decide ((↑(d + m) : Int) - (↑z : Int) < (↑b : Int)) = true, T Try.prog 135 [.agg [.fn (.func (44 : FuncId)) [] [.ptr (.o 1) 0 0 0 0, .ptr (.o 2) 0 0 0 0], .fn (.func (129 : FuncId)) [] [.sl (.o 0) 1 0 0 0 n none, V.abs 0 3]], .int .i64 ↑d, .int .i64 ((↑(d + m) : Int) - (↑z : Int)), .int .i64 ↑b] [(.o 0, .rows 1 n (fun k => [.int .i64 (G2 k)]) true), (.o 1, .flat [.fn (.func (42 : FuncId)) [] [.ptr (.o 3) 0 0 0 0, .ptr (.o 4) 0 0 0 0, .ptr (.o 5) 0 0 0 0]]), (.o 2, .flat [.sl (.o 0) 1 0 0 0 n none]), (.o 3, .flat [.int .i64 e]), (.o 4, .flat [.int .i64 (SCfg.nodes c), .int .i64 (SCfg.clients c), .int .i64 (SCfg.window c), .int .i64 (SCfg.buckets c), .int .i64 (SCfg.cap c), .int .i64 (SCfg.slots c), .int .i64 (SCfg.requests c), .int .i64 (SCfg.timeout c), .int .i64 (SCfg.penalty c), .int .i64 (SCfg.last c)]), (.o 5, .flat [.int .i64 nd])] (.tup []) [(.o 0, .rows 1 n (fun k => [.int .i64 (G3 k)]) true), (.o 1, .flat [.fn (.func (42 : FuncId)) [] [.ptr (.o 3) 0 0 0 0, .ptr (.o 4) 0 0 0 0, .ptr (.o 5) 0 0 0 0]]), (.o 2, .flat [.sl (.o 0) 1 0 0 0 n none]), (.o 3, .flat [.int .i64 e]), (.o 4, .flat [.int .i64 (SCfg.nodes c), .int .i64 (SCfg.clients c), .int .i64 (SCfg.window c), .int .i64 (SCfg.buckets c), .int .i64 (SCfg.cap c), .int .i64 (SCfg.slots c), .int .i64 (SCfg.requests c), .int .i64 (SCfg.timeout c), .int .i64 (SCfg.penalty c), .int .i64 (SCfg.last c)]), (.o 5, .flat [.int .i64 nd])]])))) : Option (V × Heap × List Prop)) := by kernel_rfl

theorem bdMg_p000111110 (c : SCfg) (e : Int) (nd : Int) (n : Nat) (a : Nat) (m : Nat) (b : Nat) (d : Nat) (i : Nat) (j : Nat) (F : Nat → Int) (G1 : Nat → Int) (G2 : Nat → Int) (G3 : Nat → Int) (R : Nat) (z : Nat) :
 along Try.prog (bdMg c e nd n a m b d i j F G1 G2 G3 R z) [false, false, false, true, true, true, true, true, false] = (some (.tup [], [(.o 0, .rows 1 n (fun k => [.int .i64 (G2 k)]) true), (.o 1, .flat [.fn (.func (42 : FuncId)) [] [.ptr (.o 3) 0 0 0 0, .ptr (.o 4) 0 0 0 0, .ptr (.o 5) 0 0 0 0]]), (.o 2, .flat [.sl (.o 0) 1 0 0 0 n none]), (.o 3, .flat [.int .i64 e]), (.o 4, .flat [.int .i64 (SCfg.nodes c), .int .i64 (SCfg.clients c), .int .i64 (SCfg.window c), .int .i64 (SCfg.buckets c), .int .i64 (SCfg.cap c), .int .i64 (SCfg.slots c), .int .i64 (SCfg.requests c), .int .i64 (SCfg.timeout c), .int .i64 (SCfg.penalty c), .int .i64 (SCfg.last c)]), (.o 5, .flat [.int .i64 nd])], bdMg_c c e nd n a m b d i j F G1 G2 G3 R z 0 ++ (bdMg_c c e nd n a m b d i j F G1 G2 G3 R z 4 ++ (bdMg_c c e nd n a m b d i j F G1 G2 G3 R z 5 ++ (bdMg_c c e nd n a m b d i j F G1 G2 G3 R z 6 ++ [decide ((↑(d + m) : Int) - (↑z : Int) < (↑b : Int)) = false])))) : Option (V × Heap × List Prop)) := by kernel_rfl

theorem bdMg_p000110011 (c : SCfg) (e : Int) (nd : Int) (n : Nat) (a : Nat) (m : Nat) (b : Nat) (d : Nat) (i : Nat) (j : Nat) (F : Nat → Int) (G1 : Nat → Int) (G2 : Nat → Int) (G3 : Nat → Int) (R : Nat) (z : Nat) :
 along Try.prog (bdMg c e nd n a m b d i j F G1 G2 G3 R z) [false, false, false, true, true, false, false, true, true] = (some (.tup [], [(.o 0, .rows 1 n (fun k => [.int .i64 (G2 k)]) true), (.o 1, .flat [.fn (.func (42 : FuncId)) [] [.ptr (.o 3) 0 0 0 0, .ptr (.o 4) 0 0 0 0, .ptr (.o 5) 0 0 0 0]]), (.o 2, .flat [.sl (.o 0) 1 0 0 0 n none]), (.o 3, .flat [.int .i64 e]), (.o 4, .flat [.int .i64 (SCfg.nodes c), .int .i64 (SCfg.clients c), .int .i64 (SCfg.window c), .int .i64 (SCfg.buckets c), .int .i64 (SCfg.cap c), .int .i64 (SCfg.slots c), .int .i64 (SCfg.requests c), .int .i64 (SCfg.timeout c), .int .i64 (SCfg.penalty c), .int .i64 (SCfg.last c)]), (.o 5, .flat [.int .i64 nd])], bdMg_c c e nd n a m b d i j F G1 G2 G3 R z 0 ++ (bdMg_c c e nd n a m b d i j F G1 G2 G3 R z 4 ++ (bdMg_c c e nd n a m b d i j F G1 G2 G3 R z 5 ++ [decide ((↑a : Int) < (↑z : Int)) = false, q false, decide ((↑d : Int) < (↑(d + m) : Int) - (↑z : Int)) = true, decide ((↑(d + m) : Int) - (↑z : Int) < (↑b : Int)) = true, T Try.prog 135 [.agg [.fn (.func (44 : FuncId)) [] [.ptr (.o 1) 0 0 0 0, .ptr (.o 2) 0 0 0 0], .fn (.func (129 : FuncId)) [] [.sl (.o 0) 1 0 0 0 n none, V.abs 0 3]], .int .i64 ↑d, .int .i64 ((↑(d + m) : Int) - (↑z : Int)), .int .i64 ↑b] [(.o 0, .rows 1 n (fun k => [.int .i64 (G1 k)]) true), (.o 1, .flat [.fn (.func (42 : FuncId)) [] [.ptr (.o 3) 0 0 0 0, .ptr (.o 4) 0 0 0 0, .ptr (.o 5) 0 0 0 0]]), (.o 2, .flat [.sl (.o 0) 1 0 0 0 n none]), (.o 3, .flat [.int .i64 e]), (.o 4, .flat [.int .i64 (SCfg.nodes c), .int .i64 (SCfg.clients c), .int .i64 (SCfg.window c), .int .i64 (SCfg.buckets c), .int .i64 (SCfg.cap c), .int .i64 (SCfg.slots c), .int .i64 (SCfg.requests c), .int .i64 (SCfg.timeout c), .int .i64 (SCfg.penalty c), .int .i64 (SCfg.last c)]), (.o 5, .flat [.int .i64 nd])] (.tup []) [(.o 0, .rows 1 n (fun k => [.int .i64 (G2 k)]) true), (.o 1, .flat [.fn (.func (42 : FuncId)) [] [.ptr (.o 3) 0 0 0 0, .ptr (.o 4) 0 0 0 0, .ptr (.o 5) 0 0 0 0]]), (.o 2, .flat [.sl (.o 0) 1 0 0 0 n none]), (.o 3, .flat [.int .i64 e]), (.o 4, .flat [.int .i64 (SCfg.nodes c), .int .i64 (SCfg.clients c), .int .i64 (SCfg.window c), .int .i64 (SCfg.buckets c), .int .i64 (SCfg.cap c), .int .i64 (SCfg.slots c), .int .i64 (SCfg.requests c), .int .i64 (SCfg.timeout c), .int .i64 (SCfg.penalty c), .int .i64 (SCfg.last c)]), (.o 5, .flat [.int .i64 nd])]]))) : Option (V × Heap × List Prop)) := by kernel_rfl

theorem bdMg_p000110010 (c : SCfg) (e : Int) (nd : Int) (n : Nat) (a : Nat) (m : Nat) (b : Nat) (d : Nat) (i : Nat) (j : Nat) (F : Nat → Int) (G1 : Nat → Int) (G2 : Nat → Int) (G3 : Nat → Int) (R : Nat) (z : Nat) :
 along Try.prog (bdMg c e nd n a m b d i j F G1 G2 G3 R z) [false, false, false, true, true, false, false, true, false] = (some (.tup [], [(.o 0, .rows 1 n (fun k => [.int .i64 (G1 k)]) true), (.o 1, .flat [.fn (.func (42 : FuncId)) [] [.ptr (.o 3) 0 0 0 0, .ptr (.o 4) 0 0 0 0, .ptr (.o 5) 0 0 0 0]]), (.o 2, .flat [.sl (.o 0) 1 0 0 0 n none]), (.o 3, .flat [.int .i64 e]), (.o 4, .flat [.int .i64 (SCfg.nodes c), .int .i64 (SCfg.clients c), .int .i64 (SCfg.window c), .int .i64 (SCfg.buckets c), .int .i64 (SCfg.cap c), .int .i64 (SCfg.slots c), .int .i64 (SCfg.requests c), .int .i64 (SCfg.timeout c), .int .i64 (SCfg.penalty c), .int .i64 (SCfg.last c)]), (.o 5, .flat [.int .i64 nd])], bdMg_c c e nd n a m b d i j F G1 G2 G3 R z 0 ++ (bdMg_c c e nd n a m b d i j F G1 G2 G3 R z 4 ++ (bdMg_c c e nd n a m b d i j F G1 G2 G3 R z 5 ++ [decide ((↑a : Int) < (↑z : Int)) = false, q false, decide ((↑d : Int) < (↑(d + m) : Int) - (↑z : Int)) = true, decide ((↑(d + m) : Int) - (↑z : Int) < (↑b : Int)) = false]))) : Option (V × Heap × List Prop)) := by kernel_rfl

noncomputable def pcM0_c (c : SCfg) (e : Int) (nd : Int) (n : Nat) (a : Nat) (m : Nat) (b : Nat) (F : Nat → Int) (i : Nat) (j : Nat) (x : Bool) (i' : Nat) (j' : Nat) : Nat → List Prop
 | 0 => [decide ((↑i : Int) < (↑j : Int)) = true, InR IntKind.i64 ((↑i : Int) + (↑j : Int)), (0 : Int) ≤ (1 : Int) ∧ (1 : Int) ≤ (64 : Int), InR IntKind.i64 (IntKind.wrap IntKind.u64 ((↑i : Int) + (↑j : Int)) / (2 : Int)), T Try.prog (44 : FuncId) [.int .i64 (IntKind.wrap .u64 ((↑i : Int) + (↑j : Int)) / (2 : Int)), .int .i64 ↑a, .ptr (.o 1) 0 0 0 0, .ptr (.o 2) 0 0 0 0] [(.o 0, .rows 1 n (fun k => [.int .i64 (F k)]) true), (.o 1, .flat [.fn (.func (42 : FuncId)) [] [.ptr (.o 3) 0 0 0 0, .ptr (.o 4) 0 0 0 0, .ptr (.o 5) 0 0 0 0]]), (.o 2, .flat [.sl (.o 0) 1 0 0 0 n none]), (.o 3, .flat [.int .i64 e]), (.o 4, .flat [.int .i64 (SCfg.nodes c), .int .i64 (SCfg.clients c), .int .i64 (SCfg.window c), .int .i64 (SCfg.buckets c), .int .i64 (SCfg.cap c), .int .i64 (SCfg.slots c), .int .i64 (SCfg.requests c), .int .i64 (SCfg.timeout c), .int .i64 (SCfg.penalty c), .int .i64 (SCfg.last c)]), (.o 5, .flat [.int .i64 nd])] (.bool x) [(.o 0, .rows 1 n (fun k => [.int .i64 (F k)]) true), (.o 1, .flat [.fn (.func (42 : FuncId)) [] [.ptr (.o 3) 0 0 0 0, .ptr (.o 4) 0 0 0 0, .ptr (.o 5) 0 0 0 0]]), (.o 2, .flat [.sl (.o 0) 1 0 0 0 n none]), (.o 3, .flat [.int .i64 e]), (.o 4, .flat [.int .i64 (SCfg.nodes c), .int .i64 (SCfg.clients c), .int .i64 (SCfg.window c), .int .i64 (SCfg.buckets c), .int .i64 (SCfg.cap c), .int .i64 (SCfg.slots c), .int .i64 (SCfg.requests c), .int .i64 (SCfg.timeout c), .int .i64 (SCfg.penalty c), .int .i64 (SCfg.last c)]), (.o 5, .flat [.int .i64 nd])]]
 | _ => []
theorem pcM0_p11 (c : SCfg) (e : Int) (nd : Int) (n : Nat) (a : Nat) (m : Nat) (b : Nat) (F : Nat → Int) (i : Nat) (j : Nat) (x : Bool) (i' : Nat) (j' : Nat) :
 alongPc Try.prog (pcM0 c e nd n a m b F i j x i' j') [true, true] = (some (.normal, St.mk [.any, .int .i64 ↑a, .int .i64 ↑m, .int .i64 ↑b, .ptr (.o 6) 0 0 0 0, .any, .any, .any, .int .i64 (↑i' : Int), .int .i64 (↑j' : Int), .any, .any, .any, .any, .any, .any, .any, .any, .any, .any, .any, .any, .any, .any, .any, .any, .any, .any, .any, .any, .any, .any, .any, .any, .any, .any, .any, .any, .any, .any, .any, .any, .any, .any, .any, .any, .any, .any, .any, .any, .any, .any, .any, .any, .any, .any, .any, .any, .any, .any, .any, .any, .any, .any, .any, .any, .any, .any, .any, .any, .any, .any, .any, .any, .any, .any, .any, .any, .any, .any, .any, .any, .any, .any, .any, .any, .any, .any, .any, .any, .any, .any, .any, .any, .any, .any, .any, .any, .any, .any, .any, .any, .any, .any, .any, .any, .any, .any, .any, .any, .any, .any, .any, .any, .any, .any, .any, .any, .any, .any, .any, .any, .any, .any, .any, .any, .any, .any, .any, .any, .any, .any, .any, .any, .any, .any, .any, .any, .any, .any, .any, .any, .any, .any, .any, .any, .any, .any, .any, .any, .any, .any, .any, .any, .any, .any, .any, .any, .any, .any, .any, .any, .any, .any, .any, .any, .any, .any, .any, .any, .any, .any, .any, .any, .any, .any, .any] [(.o 0, .rows 1 n (fun k => [.int .i64 (F k)]) true), (.o 1, .flat [.fn (.func (42 : FuncId)) [] [.ptr (.o 3) 0 0 0 0, .ptr (.o 4) 0 0 0 0, .ptr (.o 5) 0 0 0 0]]), (.o 2, .flat [.sl (.o 0) 1 0 0 0 n none]), (.o 3, .flat [.int .i64 e]), (.o 4, .flat [.int .i64 (SCfg.nodes c), .int .i64 (SCfg.clients c), .int .i64 (SCfg.window c), .int .i64 (SCfg.buckets c), .int .i64 (SCfg.cap c), .int .i64 (SCfg.slots c), .int .i64 (SCfg.requests c), .int .i64 (SCfg.timeout c), .int .i64 (SCfg.penalty c), .int .i64 (SCfg.last c)]), (.o 5, .flat [.int .i64 nd]), (.o 6, .flat [.fn (.func (44 : FuncId)) [] [.ptr (.o 1) 0 0 0 0, .ptr (.o 2) 0 0 0 0], .fn (.func (129 : FuncId)) [] [.sl (.o 0) 1 0 0 0 n none, V.abs 0 3]])] 7 [], pcM0_c c e nd n a m b F i j x i' j' 0 ++ [x = true, InR IntKind.i64 (IntKind.wrap IntKind.u64 ((↑i : Int) + (↑j : Int)) / (2 : Int) + (1 : Int)), q n, ∀ (k : Nat), k < n → [V.int IntKind.i64 (F k)] = [V.int IntKind.i64 (F k)], true = false → true = false, q0, q0, q0, q0, q0, q0, q0, q0, q0, q0, q0, q0, q n, (none : Option Nat) = none ∨ (none : Option Nat) = none, q e, q (SCfg.nodes c), q (SCfg.clients c), q (SCfg.window c), q (SCfg.buckets c), q (SCfg.cap c), q (SCfg.slots c), q (SCfg.requests c), q (SCfg.timeout c), q (SCfg.penalty c), q (SCfg.last c), q nd, q0, q0, q0, q0, q0, q0, q0, q0, q0, q n, (none : Option Nat) = none ∨ (none : Option Nat) = none, q (nat_lit 0), q (3 : Nat), q (↑a : Int), q (↑m : Int), q (↑b : Int), q0, q0, q0, IntKind.wrap IntKind.u64 ((↑i : Int) + (↑j : Int)) / (2 : Int) + (1 : Int) = (↑i' : Int), (↑j : Int) = (↑j' : Int)]) : Option (Exit × St × List Prop)) := by kernel_rfl
theorem pcM0_p10 (c : SCfg) (e : Int) (nd : Int) (n : Nat) (a : Nat) (m : Nat) (b : Nat) (F : Nat → Int) (i : Nat) (j : Nat) (x : Bool) (i' : Nat) (j' : Nat) :
 alongPc Try.prog (pcM0 c e nd n a m b F i j x i' j') [true, false] = (some (.normal, St.mk [.any, .int .i64 ↑a, .int .i64 ↑m, .int .i64 ↑b, .ptr (.o 6) 0 0 0 0, .any, .any, .any, .int .i64 (↑i' : Int), .int .i64 (↑j' : Int), .any, .any, .any, .any, .any, .any, .any, .any, .any, .any, .any, .any, .any, .any, .any, .any, .any, .any, .any, .any, .any, .any, .any, .any, .any, .any, .any, .any, .any, .any, .any, .any, .any, .any, .any, .any, .any, .any, .any, .any, .any, .any, .any, .any, .any, .any, .any, .any, .any, .any, .any, .any, .any, .any, .any, .any, .any, .any, .any, .any, .any, .any, .any, .any, .any, .any, .any, .any, .any, .any, .any, .any, .any, .any, .any, .any, .any, .any, .any, .any, .any, .any, .any, .any, .any, .any, .any, .any, .any, .any, .any, .any, .any, .any, .any, .any, .any, .any, .any, .any, .any, .any, .any, .any, .any, .any, .any, .any, .any, .any, .any, .any, .any, .any, .any, .any, .any, .any, .any, .any, .any, .any, .any, .any, .any, .any, .any, .any, .any, .any, .any, .any, .any, .any, .any, .any, .any, .any, .any, .any, .any, .any, .any, .any, .any, .any, .any, .any, .any, .any, .any, .any, .any, .any, .any, .any, .any, .any, .any, .any, .any, .any, .any, .any, .any, .any, .any] [(.o 0, .rows 1 n (fun k => [.int .i64 (F k)]) true), (.o 1, .flat [.fn (.func (42 : FuncId)) [] [.ptr (.o 3) 0 0 0 0, .ptr (.o 4) 0 0 0 0, .ptr (.o 5) 0 0 0 0]]), (.o 2, .flat [.sl (.o 0) 1 0 0 0 n none]), (.o 3, .flat [.int .i64 e]), (.o 4, .flat [.int .i64 (SCfg.nodes c), .int .i64 (SCfg.clients c), .int .i64 (SCfg.window c), .int .i64 (SCfg.buckets c), .int .i64 (SCfg.cap c), .int .i64 (SCfg.slots c), .int .i64 (SCfg.requests c), .int .i64 (SCfg.timeout c), .int .i64 (SCfg.penalty c), .int .i64 (SCfg.last c)]), (.o 5, .flat [.int .i64 nd]), (.o 6, .flat [.fn (.func (44 : FuncId)) [] [.ptr (.o 1) 0 0 0 0, .ptr (.o 2) 0 0 0 0], .fn (.func (129 : FuncId)) [] [.sl (.o 0) 1 0 0 0 n none, V.abs 0 3]])] 7 [], pcM0_c c e nd n a m b F i j x i' j' 0 ++ [x = false, q n, ∀ (k : Nat), k < n → [V.int IntKind.i64 (F k)] = [V.int IntKind.i64 (F k)], true = false → true = false, q0, q0, q0, q0, q0, q0, q0, q0, q0, q0, q0, q0, q n, (none : Option Nat) = none ∨ (none : Option Nat) = none, q e, q (SCfg.nodes c), q (SCfg.clients c), q (SCfg.window c), q (SCfg.buckets c), q (SCfg.cap c), q (SCfg.slots c), q (SCfg.requests c), q (SCfg.timeout c), q (SCfg.penalty c), q (SCfg.last c), q nd, q0, q0, q0, q0, q0, q0, q0, q0, q0, q n, (none : Option Nat) = none ∨ (none : Option Nat) = none, q (nat_lit 0), q (3 : Nat), q (↑a : Int), q (↑m : Int), q (↑b : Int), q0, q0, q0, (↑i : Int) = (↑i' : Int), IntKind.wrap IntKind.u64 ((↑i : Int) + (↑j : Int)) / (2 : Int) = (↑j' : Int)]) : Option (Exit × St × List Prop)) := by kernel_rfl
theorem pcM0_p0 (c : SCfg) (e : Int) (nd : Int) (n : Nat) (a : Nat) (m : Nat) (b : Nat) (F : Nat → Int) (i : Nat) (j : Nat) (x : Bool) (i' : Nat) (j' : Nat) :
 alongPc Try.prog (pcM0 c e nd n a m b F i j x i' j') [false] = (some (.exit 0, St.mk [.any, .int .i64 ↑a, .int .i64 ↑m, .int .i64 ↑b, .ptr (.o 6) 0 0 0 0, .any, .any, .any, .int .i64 ↑i, .int .i64 ↑j, .any, .any, .any, .any, .any, .any, .any, .any, .any, .any, .any, .any, .any, .any, .any, .any, .any, .any, .any, .any, .any, .any, .any, .any, .any, .any, .any, .any, .any, .any, .any, .any, .any, .any, .any, .any, .any, .any, .any, .any, .any, .any, .any, .any, .any, .any, .any, .any, .any, .any, .any, .any, .any, .any, .any, .any, .any, .any, .any, .any, .any, .any, .any, .any, .any, .any, .any, .any, .any, .any, .any, .any, .any, .any, .any, .any, .any, .any, .any, .any, .any, .any, .any, .any, .any, .any, .any, .any, .any, .any, .any, .any, .any, .any, .any, .any, .any, .any, .any, .any, .any, .any, .any, .any, .any, .any, .any, .any, .any, .any, .any, .any, .any, .any, .any, .any, .any, .any, .any, .any, .any, .any, .any, .any, .any, .any, .any, .any, .any, .any, .any, .any, .any, .any, .any, .any, .any, .any, .any, .any, .any, .any, .any, .any, .any, .any, .any, .any, .any, .any, .any, .any, .any, .any, .any, .any, .any, .any, .any, .any, .any, .any, .any, .any, .any, .any, .any] [(.o 0, .rows 1 n (fun k => [.int .i64 (F k)]) true), (.o 1, .flat [.fn (.func (42 : FuncId)) [] [.ptr (.o 3) 0 0 0 0, .ptr (.o 4) 0 0 0 0, .ptr (.o 5) 0 0 0 0]]), (.o 2, .flat [.sl (.o 0) 1 0 0 0 n none]), (.o 3, .flat [.int .i64 e]), (.o 4, .flat [.int .i64 (SCfg.nodes c), .int .i64 (SCfg.clients c), .int .i64 (SCfg.window c), .int .i64 (SCfg.buckets c), .int .i64 (SCfg.cap c), .int .i64 (SCfg.slots c), .int .i64 (SCfg.requests c), .int .i64 (SCfg.timeout c), .int .i64 (SCfg.penalty c), .int .i64 (SCfg.last c)]), (.o 5, .flat [.int .i64 nd]), (.o 6, .flat [.fn (.func (44 : FuncId)) [] [.ptr (.o 1) 0 0 0 0, .ptr (.o 2) 0 0 0 0], .fn (.func (129 : FuncId)) [] [.sl (.o 0) 1 0 0 0 n none, V.abs 0 3]])] 7 [], [decide ((↑i : Int) < (↑j : Int)) = false, q n, ∀ (k : Nat), k < n → [V.int IntKind.i64 (F k)] = [V.int IntKind.i64 (F k)], true = false → true = false, q0, q0, q0, q0, q0, q0, q0, q0, q0, q0, q0, q0, q n, (none : Option Nat) = none ∨ (none : Option Nat) = none, q e, q (SCfg.nodes c), q (SCfg.clients c), q (SCfg.window c), q (SCfg.buckets c), q (SCfg.cap c), q (SCfg.slots c), q (SCfg.requests c), q (SCfg.timeout c), q (SCfg.penalty c), q (SCfg.last c), q nd, q0, q0, q0, q0, q0, q0, q0, q0, q0, q n, (none : Option Nat) = none ∨ (none : Option Nat) = none, q (nat_lit 0), q (3 : Nat), q (↑a : Int), q (↑m : Int), q (↑b : Int), q0, q0, q0, q (↑i : Int), q (↑j : Int)]) : Option (Exit × St × List Prop)) := by kernel_rfl

noncomputable def pcM4_c (c : SCfg) (e : Int) (nd : Int) (n : Nat) (a : Nat) (m : Nat) (b : Nat) (F : Nat → Int) (i : Nat) (j : Nat) (x : Bool) (i' : Nat) (j' : Nat) : Nat → List Prop
 | 0 => [decide ((↑i : Int) < (↑j : Int)) = true, InR IntKind.i64 ((↑i : Int) + (↑j : Int)), (0 : Int) ≤ (1 : Int) ∧ (1 : Int) ≤ (64 : Int), InR IntKind.i64 (IntKind.wrap IntKind.u64 ((↑i : Int) + (↑j : Int)) / (2 : Int)), T Try.prog (44 : FuncId) [.int .i64 ↑m, .int .i64 (IntKind.wrap .u64 ((↑i : Int) + (↑j : Int)) / (2 : Int)), .ptr (.o 1) 0 0 0 0, .ptr (.o 2) 0 0 0 0] [(.o 0, .rows 1 n (fun k => [.int .i64 (F k)]) true), (.o 1, .flat [.fn (.func (42 : FuncId)) [] [.ptr (.o 3) 0 0 0 0, .ptr (.o 4) 0 0 0 0, .ptr (.o 5) 0 0 0 0]]), (.o 2, .flat [.sl (.o 0) 1 0 0 0 n none]), (.o 3, .flat [.int .i64 e]), (.o 4, .flat [.int .i64 (SCfg.nodes c), .int .i64 (SCfg.clients c), .int .i64 (SCfg.window c), .int .i64 (SCfg.buckets c), .int .i64 (SCfg.cap c), .int .i64 (SCfg.slots c), .int .i64 (SCfg.requests c), .int .i64 (SCfg.timeout c), .int .i64 (SCfg.penalty c), .int .i64 (SCfg.last c)]), (.o 5, .flat [.int .i64 nd])] (.bool x) [(.o 0, .rows 1 n (fun k => [.int .i64 (F k)]) true), (.o 1, .flat [.fn (.func (42 : FuncId)) [] [.ptr (.o 3) 0 0 0 0, .ptr (.o 4) 0 0 0 0, .ptr (.o 5) 0 0 0 0]]), (.o 2, .flat [.sl (.o 0) 1 0 0 0 n none]), (.o 3, .flat [.int .i64 e]), (.o 4, .flat [.int .i64 (SCfg.nodes c), .int .i64 (SCfg.clients c), .int .i64 (SCfg.window c), .int .i64 (SCfg.buckets c), .int .i64 (SCfg.cap c), .int .i64 (SCfg.slots c), .int .i64 (SCfg.requests c), .int .i64 (SCfg.timeout c), .int .i64 (SCfg.penalty c), .int .i64 (SCfg.last c)]), (.o 5, .flat [.int .i64 nd])]]
 | _ => []
theorem pcM4_p11 (c : SCfg) (e : Int) (nd : Int) (n : Nat) (a : Nat) (m : Nat) (b : Nat) (F : Nat → Int) (i : Nat) (j : Nat) (x : Bool) (i' : Nat) (j' : Nat) :
 alongPc Try.prog (pcM4 c e nd n a m b F i j x i' j') [true, true] = (some (.normal, St.mk [.any, .int .i64 ↑a, .int .i64 ↑m, .int .i64 ↑b, .ptr (.o 6) 0 0 0 0, .any, .any, .any, .any, .any, .any, .any, .int .i64 (↑i' : Int), .int .i64 (↑j' : Int), .any, .any, .any, .any, .any, .any, .any, .any, .any, .any, .any, .any, .any, .any, .any, .any, .any, .any, .any, .any, .any, .any, .any, .any, .any, .any, .any, .any, .any, .any, .any, .any, .any, .any, .any, .any, .any, .any, .any, .any, .any, .any, .any, .any, .any, .any, .any, .any, .any, .any, .any, .any, .any, .any, .any, .any, .any, .any, .any, .any, .any, .any, .any, .any, .any, .any, .any, .any, .any, .any, .any, .any, .any, .any, .any, .any, .any, .any, .any, .any, .any, .any, .any, .any, .any, .any, .any, .any, .any, .any, .any, .any, .any, .any, .any, .any, .any, .any, .any, .any, .any, .any, .any, .any, .any, .any, .any, .any, .any, .any, .any, .any, .any, .any, .any, .any, .any, .any, .any, .any, .any, .any, .any, .any, .any, .any, .any, .any, .any, .any, .any, .any, .any, .any, .any, .any, .any, .any, .any, .any, .any, .any, .any, .any, .any, .any, .any, .any, .any, .any, .any, .any, .any, .any, .any, .any, .any, .any, .any, .any, .any, .any, .any] [(.o 0, .rows 1 n (fun k => [.int .i64 (F k)]) true), (.o 1, .flat [.fn (.func (42 : FuncId)) [] [.ptr (.o 3) 0 0 0 0, .ptr (.o 4) 0 0 0 0, .ptr (.o 5) 0 0 0 0]]), (.o 2, .flat [.sl (.o 0) 1 0 0 0 n none]), (.o 3, .flat [.int .i64 e]), (.o 4, .flat [.int .i64 (SCfg.nodes c), .int .i64 (SCfg.clients c), .int .i64 (SCfg.window c), .int .i64 (SCfg.buckets c), .int .i64 (SCfg.cap c), .int .i64 (SCfg.slots c), .int .i64 (SCfg.requests c), .int .i64 (SCfg.timeout c), .int .i64 (SCfg.penalty c), .int .i64 (SCfg.last c)]), (.o 5, .flat [.int .i64 nd]), (.o 6, .flat [.fn (.func (44 : FuncId)) [] [.ptr (.o 1) 0 0 0 0, .ptr (.o 2) 0 0 0 0], .fn (.func (129 : FuncId)) [] [.sl (.o 0) 1 0 0 0 n none, V.abs 0 3]])] 7 [], pcM4_c c e nd n a m b F i j x i' j' 0 ++ [(!x) = true, InR IntKind.i64 (IntKind.wrap IntKind.u64 ((↑i : Int) + (↑j : Int)) / (2 : Int) + (1 : Int)), q n, ∀ (k : Nat), k < n → [V.int IntKind.i64 (F k)] = [V.int IntKind.i64 (F k)], true = false → true = false, q0, q0, q0, q0, q0, q0, q0, q0, q0, q0, q0, q0, q n, (none : Option Nat) = none ∨ (none : Option Nat) = none, q e, q (SCfg.nodes c), q (SCfg.clients c), q (SCfg.window c), q (SCfg.buckets c), q (SCfg.cap c), q (SCfg.slots c), q (SCfg.requests c), q (SCfg.timeout c), q (SCfg.penalty c), q (SCfg.last c), q nd, q0, q0, q0, q0, q0, q0, q0, q0, q0, q n, (none : Option Nat) = none ∨ (none : Option Nat) = none, q (nat_lit 0), q (3 : Nat), q (↑a : Int), q (↑m : Int), q (↑b : Int), q0, q0, q0, IntKind.wrap IntKind.u64 ((↑i : Int) + (↑j : Int)) / (2 : Int) + (1 : Int) = (↑i' : Int), (↑j : Int) = (↑j' : Int)]) : Option (Exit × St × List Prop)) := by kernel_rfl
theorem pcM4_p10 (c : SCfg) (e : Int) (nd : Int) (n : Nat) (a : Nat) (m : Nat) (b : Nat) (F : Nat → Int) (i : Nat) (j : Nat) (x : Bool) (i' : Nat) (j' : Nat) :
 alongPc Try.prog (pcM4 c e nd n a m b F i j x i' j') [true, false] = (some (.normal, St.mk [.any, .int .i64 ↑a, .int .i64 ↑m, .int .i64 ↑b, .ptr (.o 6) 0 0 0 0, .any, .any, .any, .any, .any, .any, .any, .int .i64 (↑i' : Int), .int .i64 (↑j' : Int), .any, .any, .any, .any, .any, .any, .any, .any, .any, .any, .any, .any, .any, .any, .any, .any, .any, .any, .any, .any, .any, .any, .any, .any, .any, .any, .any, .any, .any, .any, .any, .any, .any, .any, .any, .any, .any, .any, .any, .any, .any, .any, .any, .any, .any, .any, .any, .any, .any, .any, .any, .any, .any, .any, .any, .any, .any, .any, .any, .any, .any, .any, .any, .any, .any, .any, .any, .any, .any, .any, .any, .any, .any, .any, .any, .any, .any, .any, .any, .any, .any, .any, .any, .any, .any, .any, .any, .any, .any, .any, .any, .any, .any, .any, .any, .any, .any, .any, .any, .any, .any, .any, .any, .any, .any, .any, .any, .any, .any, .any, .any, .any, .any, .any, .any, .any, .any, .any, .any, .any, .any, .any, .any, .any, .any, .any, .any, .any, .any, .any, .any, .any, .any, .any, .any, .any, .any, .any, .any, .any, .any, .any, .any, .any, .any, .any, .any, .any, .any, .any, .any, .any, .any, .any, .any, .any, .any, .any, .any, .any, .any, .any, .any] [(.o 0, .rows 1 n (fun k => [.int .i64 (F k)]) true), (.o 1, .flat [.fn (.func (42 : FuncId)) [] [.ptr (.o 3) 0 0 0 0, .ptr (.o 4) 0 0 0 0, .ptr (.o 5) 0 0 0 0]]), (.o 2, .flat [.sl (.o 0) 1 0 0 0 n none]), (.o 3, .flat [.int .i64 e]), (.o 4, .flat [.int .i64 (SCfg.nodes c), .int .i64 (SCfg.clients c), .int .i64 (SCfg.window c), .int .i64 (SCfg.buckets c), .int .i64 (SCfg.cap c), .int .i64 (SCfg.slots c), .int .i64 (SCfg.requests c), .int .i64 (SCfg.timeout c), .int .i64 (SCfg.penalty c), .int .i64 (SCfg.last c)]), (.o 5, .flat [.int .i64 nd]), (.o 6, .flat [.fn (.func (44 : FuncId)) [] [.ptr (.o 1) 0 0 0 0, .ptr (.o 2) 0 0 0 0], .fn (.func (129 : FuncId)) [] [.sl (.o 0) 1 0 0 0 n none, V.abs 0 3]])] 7 [], pcM4_c c e nd n a m b F i j x i' j' 0 ++ [(!x) = false, q n, ∀ (k : Nat), k < n → [V.int IntKind.i64 (F k)] = [V.int IntKind.i64 (F k)], true = false → true = false, q0, q0, q0, q0, q0, q0, q0, q0, q0, q0, q0, q0, q n, (none : Option Nat) = none ∨ (none : Option Nat) = none, q e, q (SCfg.nodes c), q (SCfg.clients c), q (SCfg.window c), q (SCfg.buckets c), q (SCfg.cap c), q (SCfg.slots c), q (SCfg.requests c), q (SCfg.timeout c), q (SCfg.penalty c), q (SCfg.last c), q nd, q0, q0, q0, q0, q0, q0, q0, q0, q0, q n, (none : Option Nat) = none ∨ (none : Option Nat) = none, q (nat_lit 0), q (3 : Nat), q (↑a : Int), q (↑m : Int), q (↑b : Int), q0, q0, q0, (↑i : Int) = (↑i' : Int), IntKind.wrap IntKind.u64 ((↑i : Int) + (↑j : Int)) / (2 : Int) = (↑j' : Int)]) : Option (Exit × St × List Prop)) := by kernel_rfl
theorem pcM4_p0 (c : SCfg) (e : Int) (nd : Int) (n : Nat) (a : Nat) (m : Nat) (b : Nat) (F : Nat → Int) (i : Nat) (j : Nat) (x : Bool) (i' : Nat) (j' : Nat) :
 alongPc Try.prog (pcM4 c e nd n a m b F i j x i' j') [false] = (some (.exit 4, St.mk [.any, .int .i64 ↑a, .int .i64 ↑m, .int .i64 ↑b, .ptr (.o 6) 0 0 0 0, .any, .any, .any, .any, .any, .any, .any, .int .i64 ↑i, .int .i64 ↑j, .any, .any, .any, .any, .any, .any, .any, .any, .any, .any, .any, .any, .any, .any, .any, .any, .any, .any, .any, .any, .any, .any, .any, .any, .any, .any, .any, .any, .any, .any, .any, .any, .any, .any, .any, .any, .any, .any, .any, .any, .any, .any, .any, .any, .any, .any, .any, .any, .any, .any, .any, .any, .any, .any, .any, .any, .any, .any, .any, .any, .any, .any, .any, .any, .any, .any, .any, .any, .any, .any, .any, .any, .any, .any, .any, .any, .any, .any, .any, .any, .any, .any, .any, .any, .any, .any, .any, .any, .any, .any, .any, .any, .any, .any, .any, .any, .any, .any, .any, .any, .any, .any, .any, .any, .any, .any, .any, .any, .any, .any, .any, .any, .any, .any, .any, .any, .any, .any, .any, .any, .any, .any, .any, .any, .any, .any, .any, .any, .any, .any, .any, .any, .any, .any, .any, .any, .any, .any, .any, .any, .any, .any, .any, .any, .any, .any, .any, .any, .any, .any, .any, .any, .any, .any, .any, .any, .any, .any, .any, .any, .any, .any, .any] [(.o 0, .rows 1 n (fun k => [.int .i64 (F k)]) true), (.o 1, .flat [.fn (.func (42 : FuncId)) [] [.ptr (.o 3) 0 0 0 0, .ptr (.o 4) 0 0 0 0, .ptr (.o 5) 0 0 0 0]]), (.o 2, .flat [.sl (.o 0) 1 0 0 0 n none]), (.o 3, .flat [.int .i64 e]), (.o 4, .flat [.int .i64 (SCfg.nodes c), .int .i64 (SCfg.clients c), .int .i64 (SCfg.window c), .int .i64 (SCfg.buckets c), .int .i64 (SCfg.cap c), .int .i64 (SCfg.slots c), .int .i64 (SCfg.requests c), .int .i64 (SCfg.timeout c), .int .i64 (SCfg.penalty c), .int .i64 (SCfg.last c)]), (.o 5, .flat [.int .i64 nd]), (.o 6, .flat [.fn (.func (44 : FuncId)) [] [.ptr (.o 1) 0 0 0 0, .ptr (.o 2) 0 0 0 0], .fn (.func (129 : FuncId)) [] [.sl (.o 0) 1 0 0 0 n none, V.abs 0 3]])] 7 [], [decide ((↑i : Int) < (↑j : Int)) = false, q n, ∀ (k : Nat), k < n → [V.int IntKind.i64 (F k)] = [V.int IntKind.i64 (F k)], true = false → true = false, q0, q0, q0, q0, q0, q0, q0, q0, q0, q0, q0, q0, q n, (none : Option Nat) = none ∨ (none : Option Nat) = none, q e, q (SCfg.nodes c), q (SCfg.clients c), q (SCfg.window c), q (SCfg.buckets c), q (SCfg.cap c), q (SCfg.slots c), q (SCfg.requests c), q (SCfg.timeout c), q (SCfg.penalty c), q (SCfg.last c), q nd, q0, q0, q0, q0, q0, q0, q0, q0, q0, q n, (none : Option Nat) = none ∨ (none : Option Nat) = none, q (nat_lit 0), q (3 : Nat), q (↑a : Int), q (↑m : Int), q (↑b : Int), q0, q0, q0, q (↑i : Int), q (↑j : Int)]) : Option (Exit × St × List Prop)) := by kernel_rfl

noncomputable def pcM8_c (c : SCfg) (e : Int) (nd : Int) (n : Nat) (a : Nat) (m : Nat) (b : Nat) (d : Nat) (F : Nat → Int) (i : Nat) (j : Nat) (x : Bool) (i' : Nat) (j' : Nat) : Nat → List Prop
 | 0 => [decide ((↑i : Int) < (↑j : Int)) = true, InR IntKind.i64 ((↑i : Int) + (↑j : Int)), (0 : Int) ≤ (1 : Int) ∧ (1 : Int) ≤ (64 : Int), InR IntKind.i64 (IntKind.wrap IntKind.u64 ((↑i : Int) + (↑j : Int)) / (2 : Int)), InR IntKind.i64 ((↑(d + m - (1 : Nat)) : Int) - IntKind.wrap IntKind.u64 ((↑i : Int) + (↑j : Int)) / (2 : Int)), T Try.prog (44 : FuncId) [.int .i64 ((↑(d + m - 1) : Int) - IntKind.wrap .u64 ((↑i : Int) + (↑j : Int)) / (2 : Int)), .int .i64 (IntKind.wrap .u64 ((↑i : Int) + (↑j : Int)) / (2 : Int)), .ptr (.o 1) 0 0 0 0, .ptr (.o 2) 0 0 0 0] [(.o 0, .rows 1 n (fun k => [.int .i64 (F k)]) true), (.o 1, .flat [.fn (.func (42 : FuncId)) [] [.ptr (.o 3) 0 0 0 0, .ptr (.o 4) 0 0 0 0, .ptr (.o 5) 0 0 0 0]]), (.o 2, .flat [.sl (.o 0) 1 0 0 0 n none]), (.o 3, .flat [.int .i64 e]), (.o 4, .flat [.int .i64 (SCfg.nodes c), .int .i64 (SCfg.clients c), .int .i64 (SCfg.window c), .int .i64 (SCfg.buckets c), .int .i64 (SCfg.cap c), .int .i64 (SCfg.slots c), .int .i64 (SCfg.requests c), .int .i64 (SCfg.timeout c), .int .i64 (SCfg.penalty c), .int .i64 (SCfg.last c)]), (.o 5, .flat [.int .i64 nd])] (.bool x) [(.o 0, .rows 1 n (fun k => [.int .i64 (F k)]) true), (.o 1, .flat [.fn (.func (42 : FuncId)) [] [.ptr (.o 3) 0 0 0 0, .ptr (.o 4) 0 0 0 0, .ptr (.o 5) 0 0 0 0]]), (.o 2, .flat [.sl (.o 0) 1 0 0 0 n none]), (.o 3, .flat [.int .i64 e]), (.o 4, .flat [.int .i64 (SCfg.nodes c), .int .i64 (SCfg.clients c), .int .i64 (SCfg.window c), .int .i64 (SCfg.buckets c), .int .i64 (SCfg.cap c), .int .i64 (SCfg.slots c), .int .i64 (SCfg.requests c), .int .i64 (SCfg.timeout c), .int .i64 (SCfg.penalty c), .int .i64 (SCfg.last c)]), (.o 5, .flat [.int .i64 nd])]]
 | _ => []
theorem pcM8_p11 (c : SCfg) (e : Int) (nd : Int) (n : Nat) (a : Nat) (m : Nat) (b : Nat) (d : Nat) (F : Nat → Int) (i : Nat) (j : Nat) (x : Bool) (i' : Nat) (j' : Nat) :
 alongPc Try.prog (pcM8 c e nd n a m b d F i j x i' j') [true, true] = (some (.normal, St.mk [.any, .int .i64 ↑a, .int .i64 ↑m, .int .i64 ↑b, .ptr (.o 6) 0 0 0 0, .any, .any, .any, .any, .any, .any, .any, .any, .any, .any, .any, .int .i64 ↑d, .int .i64 (↑(d + m) : Int), .int .i64 (↑i' : Int), .int .i64 (↑j' : Int), .int .i64 (↑(d + m - 1) : Int), .any, .any, .any, .any, .any, .any, .any, .any, .any, .any, .any, .any, .any, .any, .any, .any, .any, .any, .any, .any, .any, .any, .any, .any, .any, .any, .any, .any, .any, .any, .any, .any, .any, .any, .any, .any, .any, .any, .any, .any, .any, .any, .any, .any, .any, .any, .any, .any, .any, .any, .any, .any, .any, .any, .any, .any, .any, .any, .any, .any, .any, .any, .any, .any, .any, .any, .any, .any, .any, .any, .any, .any, .any, .any, .any, .any, .any, .any, .any, .any, .any, .any, .any, .any, .any, .any, .any, .any, .any, .any, .any, .any, .any, .any, .any, .any, .any, .any, .any, .any, .any, .any, .any, .any, .any, .any, .any, .any, .any, .any, .any, .any, .any, .any, .any, .any, .any, .any, .any, .any, .any, .any, .any, .any, .any, .any, .any, .any, .any, .any, .any, .any, .any, .any, .any, .any, .any, .any, .any, .any, .any, .any, .any, .any, .any, .any, .any, .any, .any, .any, .any, .any, .any, .any, .any, .any] [(.o 0, .rows 1 n (fun k => [.int .i64 (F k)]) true), (.o 1, .flat [.fn (.func (42 : FuncId)) [] [.ptr (.o 3) 0 0 0 0, .ptr (.o 4) 0 0 0 0, .ptr (.o 5) 0 0 0 0]]), (.o 2, .flat [.sl (.o 0) 1 0 0 0 n none]), (.o 3, .flat [.int .i64 e]), (.o 4, .flat [.int .i64 (SCfg.nodes c), .int .i64 (SCfg.clients c), .int .i64 (SCfg.window c), .int .i64 (SCfg.buckets c), .int .i64 (SCfg.cap c), .int .i64 (SCfg.slots c), .int .i64 (SCfg.requests c), .int .i64 (SCfg.timeout c), .int .i64 (SCfg.penalty c), .int .i64 (SCfg.last c)]), (.o 5, .flat [.int .i64 nd]), (.o 6, .flat [.fn (.func (44 : FuncId)) [] [.ptr (.o 1) 0 0 0 0, .ptr (.o 2) 0 0 0 0], .fn (.func (129 : FuncId)) [] [.sl (.o 0) 1 0 0 0 n none, V.abs 0 3]])] 7 [], pcM8_c c e nd n a m b d F i j x i' j' 0 ++ [(!x) = true, InR IntKind.i64 (IntKind.wrap IntKind.u64 ((↑i : Int) + (↑j : Int)) / (2 : Int) + (1 : Int)), q n, ∀ (k : Nat), k < n → [V.int IntKind.i64 (F k)] = [V.int IntKind.i64 (F k)], true = false → true = false, q0, q0, q0, q0, q0, q0, q0, q0, q0, q0, q0, q0, q n, (none : Option Nat) = none ∨ (none : Option Nat) = none, q e, q (SCfg.nodes c), q (SCfg.clients c), q (SCfg.window c), q (SCfg.buckets c), q (SCfg.cap c), q (SCfg.slots c), q (SCfg.requests c), q (SCfg.timeout c), q (SCfg.penalty c), q (SCfg.last c), q nd, q0, q0, q0, q0, q0, q0, q0, q0, q0, q n, (none : Option Nat) = none ∨ (none : Option Nat) = none, q (nat_lit 0), q (3 : Nat), q (↑a : Int), q (↑m : Int), q (↑b : Int), q0, q0, q0, q (↑d : Int), q (↑(d + m) : Int), IntKind.wrap IntKind.u64 ((↑i : Int) + (↑j : Int)) / (2 : Int) + (1 : Int) = (↑i' : Int), (↑j : Int) = (↑j' : Int), q (↑(d + m - (1 : Nat)) : Int)]) : Option (Exit × St × List Prop)) := by kernel_rfl
theorem pcM8_p10 (c : SCfg) (e : Int) (nd : Int) (n : Nat) (a : Nat) (m : Nat) (b : Nat) (d : Nat) (F : Nat → Int) (i : Nat) (j : Nat) (x : Bool) (i' : Nat) (j' : Nat) :
 alongPc Try.prog (pcM8 c e nd n a m b d F i j x i' j') [true, false] = (some (.normal, St.mk [.any, .int .i64 ↑a, .int .i64 ↑m, .int .i64 ↑b, .ptr (.o 6) 0 0 0 0, .any, .any, .any, .any, .any, .any, .any, .any, .any, .any, .any, .int .i64 ↑d, .int .i64 (↑(d + m) : Int), .int .i64 (↑i' : Int), .int .i64 (↑j' : Int), .int .i64 (↑(d + m - 1) : Int), .any, .any, .any, .any, .any, .any, .any, .any, .any, .any, .any, .any, .any, .any, .any, .any, .any, .any, .any, .any, .any, .any, .any, .any, .any, .any, .any, .any, .any, .any, .any, .any, .any, .any, .any, .any, .any, .any, .any, .any, .any, .any, .any, .any, .any, .any, .any, .any, .any, .any, .any, .any, .any, .any, .any, .any, .any, .any, .any, .any, .any, .any, .any, .any, .any, .any, .any, .any, .any, .any, .any, .any, .any, .any, .any, .any, .any, .any, .any, .any, .any, .any, .any, .any, .any, .any, .any, .any, .any, .any, .any, .any, .any, .any, .any, .any, .any, .any, .any, .any, .any, .any, .any, .any, .any, .any, .any, .any, .any, .any, .any, .any, .any, .any, .any, .any, .any, .any, .any, .any, .any, .any, .any, .any, .any, .any, .any, .any, .any, .any, .any, .any, .any, .any, .any, .any, .any, .any, .any, .any, .any, .any, .any, .any, .any, .any, .any, .any, .any, .any, .any, .any, .any, .any, .any, .any] [(.o 0, .rows 1 n (fun k => [.int .i64 (F k)]) true), (.o 1, .flat [.fn (.func (42 : FuncId)) [] [.ptr (.o 3) 0 0 0 0, .ptr (.o 4) 0 0 0 0, .ptr (.o 5) 0 0 0 0]]), (.o 2, .flat [.sl (.o 0) 1 0 0 0 n none]), (.o 3, .flat [.int .i64 e]), (.o 4, .flat [.int .i64 (SCfg.nodes c), .int .i64 (SCfg.clients c), .int .i64 (SCfg.window c), .int .i64 (SCfg.buckets c), .int .i64 (SCfg.cap c), .int .i64 (SCfg.slots c), .int .i64 (SCfg.requests c), .int .i64 (SCfg.timeout c), .int .i64 (SCfg.penalty c), .int .i64 (SCfg.last c)]), (.o 5, .flat [.int .i64 nd]), (.o 6, .flat [.fn (.func (44 : FuncId)) [] [.ptr (.o 1) 0 0 0 0, .ptr (.o 2) 0 0 0 0], .fn (.func (129 : FuncId)) [] [.sl (.o 0) 1 0 0 0 n none, V.abs 0 3]])] 7 [], pcM8_c c e nd n a m b d F i j x i' j' 0 ++ [(!x) = false, q n, ∀ (k : Nat), k < n → [V.int IntKind.i64 (F k)] = [V.int IntKind.i64 (F k)], true = false → true = false, q0, q0, q0, q0, q0, q0, q0, q0, q0, q0, q0, q0, q n, (none : Option Nat) = none ∨ (none : Option Nat) = none, q e, q (SCfg.nodes c), q (SCfg.clients c), q (SCfg.window c), q (SCfg.buckets c), q (SCfg.cap c), q (SCfg.slots c), q (SCfg.requests c), q (SCfg.timeout c), q (SCfg.penalty c), q (SCfg.last c), q nd, q0, q0, q0, q0, q0, q0, q0, q0, q0, q n, (none : Option Nat) = none ∨ (none : Option Nat) = none, q (nat_lit 0), q (3 : Nat), q (↑a : Int), q (↑m : Int), q (↑b : Int), q0, q0, q0, q (↑d : Int), q (↑(d + m) : Int), (↑i : Int) = (↑i' : Int), IntKind.wrap IntKind.u64 ((↑i : Int) + (↑j : Int)) / (2 : Int) = (↑j' : Int), q (↑(d + m - (1 : Nat)) : Int)]) : Option (Exit × St × List Prop)) := by kernel_rfl
theorem pcM8_p0 (c : SCfg) (e : Int) (nd : Int) (n : Nat) (a : Nat) (m : Nat) (b : Nat) (d : Nat) (F : Nat → Int) (i : Nat) (j : Nat) (x : Bool) (i' : Nat) (j' : Nat) :
 alongPc Try.prog (pcM8 c e nd n a m b d F i j x i' j') [false] = (some (.exit 8, St.mk [.any, .int .i64 ↑a, .int .i64 ↑m, .int .i64 ↑b, .ptr (.o 6) 0 0 0 0, .any, .any, .any, .any, .any, .any, .any, .any, .any, .any, .any, .int .i64 ↑d, .int .i64 (↑(d + m) : Int), .int .i64 ↑i, .int .i64 ↑j, .int .i64 (↑(d + m - 1) : Int), .any, .any, .any, .any, .any, .any, .any, .any, .any, .any, .any, .any, .any, .any, .any, .any, .any, .any, .any, .any, .any, .any, .any, .any, .any, .any, .any, .any, .any, .any, .any, .any, .any, .any, .any, .any, .any, .any, .any, .any, .any, .any, .any, .any, .any, .any, .any, .any, .any, .any, .any, .any, .any, .any, .any, .any, .any, .any, .any, .any, .any, .any, .any, .any, .any, .any, .any, .any, .any, .any, .any, .any, .any, .any, .any, .any, .any, .any, .any, .any, .any, .any, .any, .any, .any, .any, .any, .any, .any, .any, .any, .any, .any, .any, .any, .any, .any, .any, .any, .any, .any, .any, .any, .any, .any, .any, .any, .any, .any, .any, .any, .any, .any, .any, .any, .any, .any, .any, .any, .any, .any, .any, .any, .any, .any, .any, .any, .any, .any, .any, .any, .any, .any, .any, .any, .any, .any, .any, .any, .any, .any, .any, .any, .any, .any, .any, .any, .any, .any, .any, .any, .any, .any, .any, .any, .any] [(.o 0, .rows 1 n (fun k => [.int .i64 (F k)]) true), (.o 1, .flat [.fn (.func (42 : FuncId)) [] [.ptr (.o 3) 0 0 0 0, .ptr (.o 4) 0 0 0 0, .ptr (.o 5) 0 0 0 0]]), (.o 2, .flat [.sl (.o 0) 1 0 0 0 n none]), (.o 3, .flat [.int .i64 e]), (.o 4, .flat [.int .i64 (SCfg.nodes c), .int .i64 (SCfg.clients c), .int .i64 (SCfg.window c), .int .i64 (SCfg.buckets c), .int .i64 (SCfg.cap c), .int .i64 (SCfg.slots c), .int .i64 (SCfg.requests c), .int .i64 (SCfg.timeout c), .int .i64 (SCfg.penalty c), .int .i64 (SCfg.last c)]), (.o 5, .flat [.int .i64 nd]), (.o 6, .flat [.fn (.func (44 : FuncId)) [] [.ptr (.o 1) 0 0 0 0, .ptr (.o 2) 0 0 0 0], .fn (.func (129 : FuncId)) [] [.sl (.o 0) 1 0 0 0 n none, V.abs 0 3]])] 7 [], [decide ((↑i : Int) < (↑j : Int)) = false, q n, ∀ (k : Nat), k < n → [V.int IntKind.i64 (F k)] = [V.int IntKind.i64 (F k)], true = false → true = false, q0, q0, q0, q0, q0, q0, q0, q0, q0, q0, q0, q0, q n, (none : Option Nat) = none ∨ (none : Option Nat) = none, q e, q (SCfg.nodes c), q (SCfg.clients c), q (SCfg.window c), q (SCfg.buckets c), q (SCfg.cap c), q (SCfg.slots c), q (SCfg.requests c), q (SCfg.timeout c), q (SCfg.penalty c), q (SCfg.last c), q nd, q0, q0, q0, q0, q0, q0, q0, q0, q0, q n, (none : Option Nat) = none ∨ (none : Option Nat) = none, q (nat_lit 0), q (3 : Nat), q (↑a : Int), q (↑m : Int), q (↑b : Int), q0, q0, q0, q (↑d : Int), q (↑(d + m) : Int), q (↑i : Int), q (↑j : Int), q (↑(d + m - (1 : Nat)) : Int)]) : Option (Exit × St × List Prop)) := by kernel_rfl

theorem pcM6_p1 (c : SCfg) (e : Int) (nd : Int) (n : Nat) (a : Nat) (m : Nat) (b : Nat) (z : Nat) (k : Nat) (F : Nat → Int) (G : Nat → Int) :
  alongPc Try.prog (pcM6 c e nd n a m b z k F G) [true] = (some (.normal, St.mk [.any, .int .i64 ↑a, .int .i64 ↑m, .int .i64 ↑b, .ptr (.o 6) 0 0 0 0, .any, .any, .any, .any, .any, .any, .any, .int .i64 ↑z, .any, .any, .int .i64 (↑(k - 1) : Int), .any, .any, .any, .any, .any, .any, .any, .any, .any, .any, .any, .any, .any, .any, .any, .any, .any, .any, .any, .any, .any, .any, .any, .any, .any, .any, .any, .any, .any, .any, .any, .any, .any, .any, .any, .any, .any, .any, .any, .any, .any, .any, .any, .any, .any, .any, .any, .any, .any, .any, .any, .any, .any, .any, .any, .any, .any, .any, .any, .any, .any, .any, .any, .any, .any, .any, .any, .any, .any, .any, .any, .any, .any, .any, .any, .any, .any, .any, .any, .any, .any, .any, .any, .any, .any, .any, .any, .any, .any, .any, .any, .any, .any, .any, .any, .any, .any, .any, .any, .any, .any, .any, .any, .any, .any, .any, .any, .any, .any, .any, .any, .any, .any, .any, .any, .any, .any, .any, .any, .any, .any, .any, .any, .any, .any, .any, .any, .any, .any, .any, .any, .any, .any, .any, .any, .any, .any, .any, .any, .any, .any, .any, .any, .any, .any, .any, .any, .any, .any, .any, .any, .any, .any, .any, .any, .any, .any, .any, .any, .any, .any] [(.o 0, .rows 1 n (fun k => [.int .i64 (G k)]) true), (.o 1, .flat [.fn (.func (42 : FuncId)) [] [.ptr (.o 3) 0 0 0 0, .ptr (.o 4) 0 0 0 0, .ptr (.o 5) 0 0 0 0]]), (.o 2, .flat [.sl (.o 0) 1 0 0 0 n none]), (.o 3, .flat [.int .i64 e]), (.o 4, .flat [.int .i64 (SCfg.nodes c), .int .i64 (SCfg.clients c), .int .i64 (SCfg.window c), .int .i64 (SCfg.buckets c), .int .i64 (SCfg.cap c), .int .i64 (SCfg.slots c), .int .i64 (SCfg.requests c), .int .i64 (SCfg.timeout c), .int .i64 (SCfg.penalty c), .int .i64 (SCfg.last c)]), (.o 5, .flat [.int .i64 nd]), (.o 6, .flat [.fn (.func (44 : FuncId)) [] [.ptr (.o 1) 0 0 0 0, .ptr (.o 2) 0 0 0 0], .fn (.func (129 : FuncId)) [] [.sl (.o 0) 1 0 0 0 n none, V.abs 0 3]])] 7 [], [decide ((↑z : Int) < (↑k : Int)) = true, InR IntKind.i64 ((↑k : Int) - (1 : Int)), TV Try.prog (V.fn (Fn.func (129 : FuncId)) [] [V.sl (Nm.o (0 : Nat)) (1 : Nat) (0 : Nat) (0 : Nat) (0 : Nat) n none, V.abs (nat_lit 0) (3 : Nat)]) [V.int IntKind.i64 (↑k : Int), V.int IntKind.i64 ((↑k : Int) - (1 : Int))] [(Nm.o (0 : Nat), B.rows (1 : Nat) n (fun k => [V.int IntKind.i64 (F k)]) true)] (V.tup []) [(Nm.o (0 : Nat), B.rows (1 : Nat) n (fun k => [V.int IntKind.i64 (G k)]) true)], InR IntKind.i64 ((↑k : Int) - (1 : Int)), q n, ∀ (k : Nat), k < n → [V.int IntKind.i64 (G k)] = [V.int IntKind.i64 (G k)], true = false → true = false, q0, q0, q0, q0, q0, q0, q0, q0, q0, q0, q0, q0, q n, (none : Option Nat) = none ∨ (none : Option Nat) = none, q e, q (SCfg.nodes c), q (SCfg.clients c), q (SCfg.window c), q (SCfg.buckets c), q (SCfg.cap c), q (SCfg.slots c), q (SCfg.requests c), q (SCfg.timeout c), q (SCfg.penalty c), q (SCfg.last c), q nd, q0, q0, q0, q0, q0, q0, q0, q0, q0, q n, (none : Option Nat) = none ∨ (none : Option Nat) = none, q (nat_lit 0), q (3 : Nat), q (↑a : Int), q (↑m : Int), q (↑b : Int), q0, q0, q0, q (↑z : Int), (↑k : Int) - (1 : Int) = (↑(k - (1 : Nat)) : Int)]) : Option (Exit × St × List Prop)) := by kernel_rfl
theorem pcM6_p0 (c : SCfg) (e : Int) (nd : Int) (n : Nat) (a : Nat) (m : Nat) (b : Nat) (z : Nat) (k : Nat) (F : Nat → Int) (G : Nat → Int) :
  alongPc Try.prog (pcM6 c e nd n a m b z k F G) [false] = (some (.exit 6, St.mk [.any, .int .i64 ↑a, .int .i64 ↑m, .int .i64 ↑b, .ptr (.o 6) 0 0 0 0, .any, .any, .any, .any, .any, .any, .any, .int .i64 ↑z, .any, .any, .int .i64 ↑k, .any, .any, .any, .any, .any, .any, .any, .any, .any, .any, .any, .any, .any, .any, .any, .any, .any, .any, .any, .any, .any, .any, .any, .any, .any, .any, .any, .any, .any, .any, .any, .any, .any, .any, .any, .any, .any, .any, .any, .any, .any, .any, .any, .any, .any, .any, .any, .any, .any, .any, .any, .any, .any, .any, .any, .any, .any, .any, .any, .any, .any, .any, .any, .any, .any, .any, .any, .any, .any, .any, .any, .any, .any, .any, .any, .any, .any, .any, .any, .any, .any, .any, .any, .any, .any, .any, .any, .any, .any, .any, .any, .any, .any, .any, .any, .any, .any, .any, .any, .any, .any, .any, .any, .any, .any, .any, .any, .any, .any, .any, .any, .any, .any, .any, .any, .any, .any, .any, .any, .any, .any, .any, .any, .any, .any, .any, .any, .any, .any, .any, .any, .any, .any, .any, .any, .any, .any, .any, .any, .any, .any, .any, .any, .any, .any, .any, .any, .any, .any, .any, .any, .any, .any, .any, .any, .any, .any, .any, .any, .any, .any] [(.o 0, .rows 1 n (fun k => [.int .i64 (F k)]) true), (.o 1, .flat [.fn (.func (42 : FuncId)) [] [.ptr (.o 3) 0 0 0 0, .ptr (.o 4) 0 0 0 0, .ptr (.o 5) 0 0 0 0]]), (.o 2, .flat [.sl (.o 0) 1 0 0 0 n none]), (.o 3, .flat [.int .i64 e]), (.o 4, .flat [.int .i64 (SCfg.nodes c), .int .i64 (SCfg.clients c), .int .i64 (SCfg.window c), .int .i64 (SCfg.buckets c), .int .i64 (SCfg.cap c), .int .i64 (SCfg.slots c), .int .i64 (SCfg.requests c), .int .i64 (SCfg.timeout c), .int .i64 (SCfg.penalty c), .int .i64 (SCfg.last c)]), (.o 5, .flat [.int .i64 nd]), (.o 6, .flat [.fn (.func (44 : FuncId)) [] [.ptr (.o 1) 0 0 0 0, .ptr (.o 2) 0 0 0 0], .fn (.func (129 : FuncId)) [] [.sl (.o 0) 1 0 0 0 n none, V.abs 0 3]])] 7 [], [decide ((↑z : Int) < (↑k : Int)) = false, q n, ∀ (k : Nat), k < n → [V.int IntKind.i64 (F k)] = [V.int IntKind.i64 (F k)], true = false → true = false, q0, q0, q0, q0, q0, q0, q0, q0, q0, q0, q0, q0, q n, (none : Option Nat) = none ∨ (none : Option Nat) = none, q e, q (SCfg.nodes c), q (SCfg.clients c), q (SCfg.window c), q (SCfg.buckets c), q (SCfg.cap c), q (SCfg.slots c), q (SCfg.requests c), q (SCfg.timeout c), q (SCfg.penalty c), q (SCfg.last c), q nd, q0, q0, q0, q0, q0, q0, q0, q0, q0, q n, (none : Option Nat) = none ∨ (none : Option Nat) = none, q (nat_lit 0), q (3 : Nat), q (↑a : Int), q (↑m : Int), q (↑b : Int), q0, q0, q0, q (↑z : Int), q (↑k : Int)]) : Option (Exit × St × List Prop)) := by kernel_rfl

theorem T_lq {c : SCfg} {e : Int} (nd : Int) {n t : Nat} {F : Nat → Int} (h : OkF c e n F) (ho : OneAt c e nd n F t) {i j : Nat} (hi : i < n) (hj : j < n) (hij : i ≠ j) {x : Bool} (hx : x = decide (i = t)) : T Try.prog 44 [.int .i64 i, .int .i64 j, .ptr (.o 1) 0 0 0 0, .ptr (.o 2) 0 0 0 0] (hpS c e nd n F) (.bool x) (hpS c e nd n F) := by
 have := T_le nd h hi hj
 rw [show (ownB c e nd (F i) && !ownB c e nd (F j)) = x by
  subst hx
  by_cases g : i = t
  ·rw [(ho i hi).2 g, show ownB c e nd (F j) = false from Bool.eq_false_iff.mpr fun hh => by have := (ho j hj).1 hh; omega, decide_eq_true g]; rfl
  ·rw [show ownB c e nd (F i) = false from Bool.eq_false_iff.mpr fun hh => g ((ho i hi).1 hh), decide_eq_false g]; rfl] at this
 exact this
theorem bs_loop {code : Code} {S : Nat → Nat → St} {x l z r : Nat}
  (hlo : ∀ i j, l ≤ i → i < j → j ≤ r → (i + j) / 2 < z → R Try.prog none 6 code (S i j) .normal (S ((i + j) / 2 + 1) j))
  (hhi : ∀ i j, l ≤ i → i < j → j ≤ r → z ≤ (i + j) / 2 → R Try.prog none 6 code (S i j) .normal (S i ((i + j) / 2)))
  (hout : R Try.prog none 6 code (S z z) (.exit x) (S z z)) : ∀ d i j, j - i ≤ d → l ≤ i → i ≤ z → z ≤ j → j ≤ r → ∃ R, RLoop Try.prog none 6 code R (S i j) (.exit x) (S z z) := by
 intro d
 induction d with
 | zero =>
  intro i j h1 h2 h3 h4 h5
  obtain rfl : i = z := by omega
  obtain rfl : j = i := by omega
  exact ⟨1, RLoop.out hout (by simp)⟩
 | succ d ih =>
  intro i j h1 h2 h3 h4 h5
  by_cases g : i < j
  ·by_cases g2 : (i + j) / 2 < z
   ·obtain ⟨R, hR⟩ := ih ((i + j) / 2 + 1) j (by omega) (by omega) (by omega) h4 h5
    exact ⟨R + 1, RLoop.step (hlo i j h2 g h5 g2) hR⟩
   ·obtain ⟨R, hR⟩ := ih i ((i + j) / 2) (by omega) h2 h3 (by omega) (by omega)
    exact ⟨R + 1, RLoop.step (hhi i j h2 g h5 (by omega)) hR⟩
  ·obtain rfl : i = z := by omega
   obtain rfl : j = i := by omega
   exact ⟨1, RLoop.out hout (by simp)⟩
theorem wrapH (i j : Nat) (h : i + j ≤ 1000000) : IntKind.wrap IntKind.u64 ((i : Int) + (j : Int)) / 2 = (((i + j) / 2 : Nat) : Int) := by
 have : IntKind.wrap IntKind.u64 ((i : Int) + (j : Int)) = (i : Int) + j := by
  simp only [IntKind.wrap, IntKind.signed, IntKind.bits]; simp; omega
 rw [this]; omega
theorem mvF_mv (F : Nat → Int) {r p t : Nat} (h1 : r ≤ p) (h2 : p ≤ t) : mvF (mvF F p t) r p = mvF F r t := by
 funext k
 unfold mvF
 repeat' split
 all_goals first
  | omega
  | rfl
  | (congr 1 <;> omega)
theorem L_m0 {c : SCfg} {e : Int} (nd : Int) {n a m b t : Nat} {F : Nat → Int} (h : OkF c e n F) (ho : OneAt c e nd n F t) (ha : a < m) (hm : m < b) (hb : b ≤ n) (ht : ¬ (m < t ∧ t < b))  :
  ∃ R, RLoop Try.prog none 6 (cB (cB (cL (cR (cR (cT (cR (cL (cR smB))))))))) R (smS0 c e nd n a m b F (m) (b)) (.exit 0) (smS0 c e nd n a m b F (if t = m then m + 1 else m) (if t = m then m + 1 else m)) := by
 have hn := h.n
 obtain ⟨z, hz⟩ : ∃ z, z = (if t = m then m + 1 else m) := ⟨_, rfl⟩
 rw [← hz]
 refine bs_loop (l := m) (r := b) (fun i j g1 g2 g3 g4 => ?_) (fun i j g1 g2 g3 g4 => ?_) ?_ ((b) - (m)) (m) (b) (by omega) (by omega) (by split at hz <;> omega) (by split at hz <;> omega) (by omega)
 ·have hT := T_lq nd h ho (i := (i + j) / 2) (j := a) (x := true) (by omega) (by omega) (by omega) (by symm; first | (rw [decide_eq_true_eq]; split at hz <;> omega) | (rw [decide_eq_false_iff_not]; split at hz <;> omega))
  have hw := wrapH i j (by omega)
  refine R_alongPc NG MO _ (pcM0_p11 c e nd n a m b F i j true ((i + j) / 2 + 1) j) ?_ (by show 6 ≤ 7; decide)
  simp only [All, All_append, bdMa_c, bdMg_c, pcM0_c, pcM4_c, pcM8_c, hw]; and_intros
  all_goals first
   | exact hT
   | (rw [decide_eq_true_eq]; omega)
   | (rw [decide_eq_false_iff_not]; omega)
   | omega
   | with_reducible rfl
   | (intro _ _; rfl)
   | (intro _ _; trivial)
   | (intro h; exact h)
   | exact .inl rfl
   | (simp only [IntKind.min, IntKind.max, IntKind.signed, IntKind.bits, if_true]; omega)
   | trivial
 ·have hT := T_lq nd h ho (i := (i + j) / 2) (j := a) (x := false) (by omega) (by omega) (by omega) (by symm; first | (rw [decide_eq_true_eq]; split at hz <;> omega) | (rw [decide_eq_false_iff_not]; split at hz <;> omega))
  have hw := wrapH i j (by omega)
  refine R_alongPc NG MO _ (pcM0_p10 c e nd n a m b F i j false i ((i + j) / 2)) ?_ (by show 6 ≤ 7; decide)
  simp only [All, All_append, bdMa_c, bdMg_c, pcM0_c, pcM4_c, pcM8_c, hw]; and_intros
  all_goals first
   | exact hT
   | (rw [decide_eq_true_eq]; omega)
   | (rw [decide_eq_false_iff_not]; omega)
   | omega
   | with_reducible rfl
   | (intro _ _; rfl)
   | (intro _ _; trivial)
   | (intro h; exact h)
   | exact .inl rfl
   | (simp only [IntKind.min, IntKind.max, IntKind.signed, IntKind.bits, if_true]; omega)
   | trivial
 ·refine R_alongPc NG MO _ (pcM0_p0 c e nd n a m b F z z true z z) ?_ (by show 6 ≤ 7; decide)
  simp only [All, All_append, bdMa_c, bdMg_c, pcM0_c, pcM4_c, pcM8_c]; and_intros
  all_goals first
   | (rw [decide_eq_true_eq]; omega)
   | (rw [decide_eq_false_iff_not]; omega)
   | omega
   | with_reducible rfl
   | (intro _ _; rfl)
   | (intro _ _; trivial)
   | (intro h; exact h)
   | exact .inl rfl
   | (simp only [IntKind.min, IntKind.max, IntKind.signed, IntKind.bits, if_true]; omega)
   | trivial
theorem L_m4 {c : SCfg} {e : Int} (nd : Int) {n a m b t : Nat} {F : Nat → Int} (h : OkF c e n F) (ho : OneAt c e nd n F t) (ha : a < m) (hm : m < b) (hb : b ≤ n) (ht : ¬ (m < t ∧ t < b))  :
  ∃ R, RLoop Try.prog none 6 (cB (cB (cL (cR (cR (cT (cR (cL (cR (cR smB)))))))))) R (smS4 c e nd n a m b F (a) (m)) (.exit 4) (smS4 c e nd n a m b F (if t = m then a else m) (if t = m then a else m)) := by
 have hn := h.n
 obtain ⟨z, hz⟩ : ∃ z, z = (if t = m then a else m) := ⟨_, rfl⟩
 rw [← hz]
 refine bs_loop (l := a) (r := m) (fun i j g1 g2 g3 g4 => ?_) (fun i j g1 g2 g3 g4 => ?_) ?_ ((m) - (a)) (a) (m) (by omega) (by omega) (by split at hz <;> omega) (by split at hz <;> omega) (by omega)
 ·have hT := T_lq nd h ho (i := m) (j := (i + j) / 2) (x := false) (by omega) (by omega) (by omega) (by symm; first | (rw [decide_eq_true_eq]; split at hz <;> omega) | (rw [decide_eq_false_iff_not]; split at hz <;> omega))
  have hw := wrapH i j (by omega)
  refine R_alongPc NG MO _ (pcM4_p11 c e nd n a m b F i j false ((i + j) / 2 + 1) j) ?_ (by show 6 ≤ 7; decide)
  simp only [All, All_append, bdMa_c, bdMg_c, pcM0_c, pcM4_c, pcM8_c, hw]; and_intros
  all_goals first
   | exact hT
   | (rw [decide_eq_true_eq]; omega)
   | (rw [decide_eq_false_iff_not]; omega)
   | omega
   | with_reducible rfl
   | (intro _ _; rfl)
   | (intro _ _; trivial)
   | (intro h; exact h)
   | exact .inl rfl
   | (simp only [IntKind.min, IntKind.max, IntKind.signed, IntKind.bits, if_true]; omega)
   | trivial
 ·have hT := T_lq nd h ho (i := m) (j := (i + j) / 2) (x := true) (by omega) (by omega) (by omega) (by symm; first | (rw [decide_eq_true_eq]; split at hz <;> omega) | (rw [decide_eq_false_iff_not]; split at hz <;> omega))
  have hw := wrapH i j (by omega)
  refine R_alongPc NG MO _ (pcM4_p10 c e nd n a m b F i j true i ((i + j) / 2)) ?_ (by show 6 ≤ 7; decide)
  simp only [All, All_append, bdMa_c, bdMg_c, pcM0_c, pcM4_c, pcM8_c, hw]; and_intros
  all_goals first
   | exact hT
   | (rw [decide_eq_true_eq]; omega)
   | (rw [decide_eq_false_iff_not]; omega)
   | omega
   | with_reducible rfl
   | (intro _ _; rfl)
   | (intro _ _; trivial)
   | (intro h; exact h)
   | exact .inl rfl
   | (simp only [IntKind.min, IntKind.max, IntKind.signed, IntKind.bits, if_true]; omega)
   | trivial
 ·refine R_alongPc NG MO _ (pcM4_p0 c e nd n a m b F z z true z z) ?_ (by show 6 ≤ 7; decide)
  simp only [All, All_append, bdMa_c, bdMg_c, pcM0_c, pcM4_c, pcM8_c]; and_intros
  all_goals first
   | (rw [decide_eq_true_eq]; omega)
   | (rw [decide_eq_false_iff_not]; omega)
   | omega
   | with_reducible rfl
   | (intro _ _; rfl)
   | (intro _ _; trivial)
   | (intro h; exact h)
   | exact .inl rfl
   | (simp only [IntKind.min, IntKind.max, IntKind.signed, IntKind.bits, if_true]; omega)
   | trivial
theorem L_m8 {c : SCfg} {e : Int} (nd : Int) {n a m b t d : Nat} {F : Nat → Int} (h : OkF c e n F) (ho : OneAt c e nd n F t) (ha : a < m) (hm : m < b) (hb : b ≤ n) (ht : ¬ (m < t ∧ t < b)) (hd : d = (a + b) / 2) {s r : Nat} (hr : (d < m ∧ r = d ∧ s = d + m - b) ∨ (m ≤ d ∧ r = m ∧ s = a)) :
  ∃ R, RLoop Try.prog none 6 (cB (cB (cL (cR (cR (cR (cR (cR (cR (cR (cR smB))))))))))) R (smS8 c e nd n a m b d F (s) (r)) (.exit 8) (smS8 c e nd n a m b d F (if t = m ∧ d ≤ m then d - 1 else r) (if t = m ∧ d ≤ m then d - 1 else r)) := by
 have hn := h.n
 obtain ⟨z, hz⟩ : ∃ z, z = (if t = m ∧ d ≤ m then d - 1 else r) := ⟨_, rfl⟩
 rw [← hz]
 refine bs_loop (l := s) (r := r) (fun i j g1 g2 g3 g4 => ?_) (fun i j g1 g2 g3 g4 => ?_) ?_ ((r) - (s)) (s) (r) (by omega) (by omega) (by split at hz <;> omega) (by split at hz <;> omega) (by omega)
 ·have hT := by
   have := T_lq nd h ho (i := d + m - 1 - (i + j) / 2) (j := (i + j) / 2) (x := false) (by omega) (by omega) (by omega) (by symm; first | (rw [decide_eq_true_eq]; split at hz <;> omega) | (rw [decide_eq_false_iff_not]; split at hz <;> omega))
   rwa [show ((d + m - 1 - (i + j) / 2 : Nat) : Int) = ((d + m - 1 : Nat) : Int) - (((i + j) / 2 : Nat) : Int) by omega] at this
  have hw := wrapH i j (by omega)
  refine R_alongPc NG MO _ (pcM8_p11 c e nd n a m b d F i j false ((i + j) / 2 + 1) j) ?_ (by show 6 ≤ 7; decide)
  simp only [All, All_append, bdMa_c, bdMg_c, pcM0_c, pcM4_c, pcM8_c, hw]; and_intros
  all_goals first
   | exact hT
   | (rw [decide_eq_true_eq]; omega)
   | (rw [decide_eq_false_iff_not]; omega)
   | omega
   | with_reducible rfl
   | (intro _ _; rfl)
   | (intro _ _; trivial)
   | (intro h; exact h)
   | exact .inl rfl
   | (simp only [IntKind.min, IntKind.max, IntKind.signed, IntKind.bits, if_true]; omega)
   | trivial
 ·have hT := by
   have := T_lq nd h ho (i := d + m - 1 - (i + j) / 2) (j := (i + j) / 2) (x := true) (by omega) (by omega) (by omega) (by symm; first | (rw [decide_eq_true_eq]; split at hz <;> omega) | (rw [decide_eq_false_iff_not]; split at hz <;> omega))
   rwa [show ((d + m - 1 - (i + j) / 2 : Nat) : Int) = ((d + m - 1 : Nat) : Int) - (((i + j) / 2 : Nat) : Int) by omega] at this
  have hw := wrapH i j (by omega)
  refine R_alongPc NG MO _ (pcM8_p10 c e nd n a m b d F i j true i ((i + j) / 2)) ?_ (by show 6 ≤ 7; decide)
  simp only [All, All_append, bdMa_c, bdMg_c, pcM0_c, pcM4_c, pcM8_c, hw]; and_intros
  all_goals first
   | exact hT
   | (rw [decide_eq_true_eq]; omega)
   | (rw [decide_eq_false_iff_not]; omega)
   | omega
   | with_reducible rfl
   | (intro _ _; rfl)
   | (intro _ _; trivial)
   | (intro h; exact h)
   | exact .inl rfl
   | (simp only [IntKind.min, IntKind.max, IntKind.signed, IntKind.bits, if_true]; omega)
   | trivial
 ·refine R_alongPc NG MO _ (pcM8_p0 c e nd n a m b d F z z true z z) ?_ (by show 6 ≤ 7; decide)
  simp only [All, All_append, bdMa_c, bdMg_c, pcM0_c, pcM4_c, pcM8_c]; and_intros
  all_goals first
   | (rw [decide_eq_true_eq]; omega)
   | (rw [decide_eq_false_iff_not]; omega)
   | omega
   | with_reducible rfl
   | (intro _ _; rfl)
   | (intro _ _; trivial)
   | (intro h; exact h)
   | exact .inl rfl
   | (simp only [IntKind.min, IntKind.max, IntKind.signed, IntKind.bits, if_true]; omega)
   | trivial
set_option maxHeartbeats 1000000
theorem L_m6 {c : SCfg} {e : Int} (nd : Int) {n a m b : Nat} {F : Nat → Int} (h : OkF c e n F) (ha : a < m) (hm : m < b) (hb : b ≤ n) :
  RLoop Try.prog none 6 (cB (cB (cR (cL (cR (cR (cR (cT (cR (cL (cR (cR smB)))))))))))) (m - a + 1) (smS6 c e nd n a m b a m F) (.exit 6) (smS6 c e nd n a m b a a (mvF F a m)) := by
 have hn := h.n
 have := RLoop.inv (P := Try.prog) (ro := none) (p := 6) (c := cB (cB (cR (cL (cR (cR (cR (cT (cR (cL (cR (cR smB)))))))))))) (e := .exit 6) (st1 := smS6 c e nd n a m b a a (mvF F a m)) (fun j => smS6 c e nd n a m b a (m - j) (mvF F (m - j) m)) (m - a) (fun j hj => ?_) ?_ (by simp)
 ·simp only [Nat.sub_zero, mvF_self] at this
  exact this
 ·have hS := T_swp (n := n) (i := m - j) (j := m - j - 1) (by omega) (by omega) (mvF F (m - j) m) (mvF F (m - j - 1) m) (fun t => by
   unfold swF mvF
   repeat' split
   all_goals first
    | omega
    | rfl
    | (congr 1 <;> omega))
  rw [show ((m - j - 1 : Nat) : Int) = ((m - j : Nat) : Int) - 1 by omega] at hS
  refine R_alongPc NG MO _ (pcM6_p1 c e nd n a m b a (m - j) (mvF F (m - j) m) (mvF F (m - j - 1) m)) ?_ (by show 6 ≤ 7; decide)
  simp only [All, All_append, bdMa_c, bdMg_c, pcM0_c, pcM4_c, pcM8_c]; and_intros
  all_goals first
   | exact hS
   | (rw [decide_eq_true_eq]; omega)
   | (rw [decide_eq_false_iff_not]; omega)
   | omega
   | with_reducible rfl
   | (intro _ _; rfl)
   | (intro _ _; trivial)
   | (intro h; exact h)
   | exact .inl rfl
   | (simp only [IntKind.min, IntKind.max, IntKind.signed, IntKind.bits, if_true]; omega)
   | trivial
 ·simp only [show m - (m - a) = a by omega]
  refine R_alongPc NG MO _ (pcM6_p0 c e nd n a m b a a (mvF F a m) F) ?_ (by show 6 ≤ 7; decide)
  simp only [All, All_append, bdMa_c, bdMg_c, pcM0_c, pcM4_c, pcM8_c]; and_intros
  all_goals first
   | (rw [decide_eq_true_eq]; omega)
   | (rw [decide_eq_false_iff_not]; omega)
   | omega
   | with_reducible rfl
   | (intro _ _; rfl)
   | (intro _ _; trivial)
   | (intro h; exact h)
   | exact .inl rfl
   | (simp only [IntKind.min, IntKind.max, IntKind.signed, IntKind.bits, if_true]; omega)
   | trivial
set_option maxHeartbeats 1000000
theorem T_sy {c : SCfg} {e : Int} (nd : Int) {n : Nat} : ∀ (L a m b t : Nat) (F : Nat → Int), b - a ≤ L → OkF c e n F → OneAt c e nd n F t → a < m → m < b → b ≤ n → ¬ (m < t ∧ t < b) →
  T Try.prog 135 [.agg (dtC n), .int .i64 a, .int .i64 m, .int .i64 b] (hpS c e nd n F) (.tup []) (hpS c e nd n (mvF F (if t = m then a else t) t)) := by
 intro L
 induction L with
 | zero => intro a m b t F h1 _ _ h4 h5; omega
 | succ L ih =>
 intro a m b t F hl h ho ha hm hb ht
 have hn := h.n
 obtain ⟨d, hd⟩ : ∃ d, d = (a + b) / 2 := ⟨_, rfl⟩
 have hw : IntKind.wrap IntKind.u64 ((a : Int) + (b : Int)) / 2 = (d : Int) := by rw [wrapH a b (by omega), hd]
 by_cases c1 : m = a + 1
 ·obtain ⟨R, hL⟩ := L_m0 nd h ho ha hm hb ht
  by_cases hq : t = m
  ·rw [if_pos hq] at hL ⊢
   have hS := T_swp (n := n) (i := a) (j := a + 1) (by omega) (by omega) F (mvF F a t) (fun k => by
    subst hq
    unfold swF mvF
    repeat' split
    all_goals first
     | omega
     | rfl
     | (congr 1 <;> omega))
   rw [show ((a + 1 : Nat) : Int) = (a : Int) + 1 by omega] at hS
   refine T_al (bdMa_p110 c e nd n a m b F (mvF F a t) R (m + 1)) Try.func135 ?_
   simp only [All, All_append, bdMa_c, bdMg_c, pcM0_c, pcM4_c, pcM8_c, hw]; and_intros
   all_goals first
    | exact hL
    | exact hS
    | (rw [decide_eq_true_eq]; omega)
    | (rw [decide_eq_false_iff_not]; omega)
    | omega
    | with_reducible rfl
    | (intro _ _; rfl)
    | (intro _ _; trivial)
    | (intro h; exact h)
    | exact .inl rfl
    | (simp only [IntKind.min, IntKind.max, IntKind.signed, IntKind.bits, if_true]; omega)
    | trivial
  ·rw [if_neg hq] at hL ⊢
   rw [mvF_self]
   refine T_al (bdMa_p10 c e nd n a m b F F R m) Try.func135 ?_
   simp only [All, All_append, bdMa_c, bdMg_c, pcM0_c, pcM4_c, pcM8_c, hw]; and_intros
   all_goals first
    | exact hL
    | (rw [decide_eq_true_eq]; omega)
    | (rw [decide_eq_false_iff_not]; omega)
    | omega
    | with_reducible rfl
    | (intro _ _; rfl)
    | (intro _ _; trivial)
    | (intro h; exact h)
    | exact .inl rfl
    | (simp only [IntKind.min, IntKind.max, IntKind.signed, IntKind.bits, if_true]; omega)
    | trivial
 by_cases c2 : b = m + 1
 ·obtain ⟨R, hL⟩ := L_m4 nd h ho ha hm hb ht
  by_cases hq : t = m
  ·rw [if_pos hq] at hL ⊢
   have hK := L_m6 nd h ha hm hb
   rw [← hq] at hK
   rw [hq] at hK ⊢
   refine T_al (bdMb_p01 c e nd n a m b F (mvF F a m) R a (m - a + 1)) Try.func135 ?_
   simp only [All, All_append, bdMa_c, bdMg_c, pcM0_c, pcM4_c, pcM8_c, hw]; and_intros
   all_goals first
    | exact hL
    | exact hK
    | (rw [decide_eq_true_eq]; omega)
    | (rw [decide_eq_false_iff_not]; omega)
    | omega
    | with_reducible rfl
    | (intro _ _; rfl)
    | (intro _ _; trivial)
    | (intro h; exact h)
    | exact .inl rfl
    | (simp only [IntKind.min, IntKind.max, IntKind.signed, IntKind.bits, if_true]; omega)
    | trivial
  ·rw [if_neg hq] at hL ⊢
   rw [mvF_self]
   have hK : RLoop Try.prog none 6 (cB (cB (cR (cL (cR (cR (cR (cT (cR (cL (cR (cR smB)))))))))))) 1 (smS6 c e nd n a m b m m F) (.exit 6) (smS6 c e nd n a m b m m F) := by
    refine RLoop.out (R_alongPc NG MO _ (pcM6_p0 c e nd n a m b m m F F) ?_ (by show 6 ≤ 7; decide)) (by simp)
    simp only [All, All_append, bdMa_c, bdMg_c, pcM0_c, pcM4_c, pcM8_c]; and_intros
    all_goals first
     | (rw [decide_eq_true_eq]; omega)
     | (rw [decide_eq_false_iff_not]; omega)
     | omega
     | with_reducible rfl
     | (intro _ _; rfl)
     | (intro _ _; trivial)
     | (intro h; exact h)
     | exact .inl rfl
     | (simp only [IntKind.min, IntKind.max, IntKind.signed, IntKind.bits, if_true]; omega)
     | trivial
   refine T_al (bdMb_p01 c e nd n a m b F F R m 1) Try.func135 ?_
   simp only [All, All_append, bdMa_c, bdMg_c, pcM0_c, pcM4_c, pcM8_c, hw]; and_intros
   all_goals first
    | exact hL
    | exact hK
    | (rw [decide_eq_true_eq]; omega)
    | (rw [decide_eq_false_iff_not]; omega)
    | omega
    | with_reducible rfl
    | (intro _ _; rfl)
    | (intro _ _; trivial)
    | (intro h; exact h)
    | exact .inl rfl
    | (simp only [IntKind.min, IntKind.max, IntKind.signed, IntKind.bits, if_true]; omega)
    | trivial
 by_cases hq : t = m ∧ d ≤ m
 ·obtain ⟨hq, hdm⟩ := hq
  subst hq
  rw [if_pos rfl]
  have hR := T_rt (n := n) (a := d - 1) (m := t) (by omega) (by omega) (by omega) F
  have h1 := h.mv (a := d - 1) (q := t) (by omega)
  have o1 := ho.mv (a := d - 1) (by omega) (by omega)
  have h2 := h.mv (a := a) (q := t) (by omega)
  have o2 := ho.mv (a := a) (by omega) (by omega)
  have hA : a < d - 1 → _ := fun g => ih a (d - 1) d (d - 1) (mvF F (d - 1) t) (by omega) h1 o1 g (by omega) (by omega) (by omega)
  simp only [if_true] at hA
  rw [mvF_mv F (by omega) (by omega)] at hA
  have hB : t + 1 < b → _ := fun g => ih d (t + 1) b a (mvF F a t) (by omega) h2 o2 (by omega) g (by omega) (by omega)
  simp only [if_neg (show a ≠ t + 1 by omega), mvF_self] at hB
  rw [show ((t + 1 : Nat) : Int) = ((d + t : Nat) : Int) - ((d - 1 : Nat) : Int) by omega] at hR hB
  have e1 : a = d - 1 → mvF F (d - 1) t = mvF F a t := fun g => by rw [g]
  by_cases hlt : d < t
  ·obtain ⟨R, hL⟩ := L_m8 nd h ho ha hm hb ht hd (.inl ⟨hlt, rfl, rfl⟩)
   rw [if_pos ⟨rfl, by omega⟩] at hL
   by_cases hla : a < d - 1
   ·have hA := hA hla
    by_cases hrb : t + 1 < b
    ·have hB := hB hrb
     refine T_al (bdMg_p001111111 c e nd n a t b d (d + t - b) (d) F (mvF F (d - 1) t) (mvF F a t) (mvF F a t) R (d - 1)) Try.func135 ?_
     simp only [All, All_append, bdMa_c, bdMg_c, pcM0_c, pcM4_c, pcM8_c, hw]; and_intros
     all_goals first
      | exact hL
      | exact hR
      | exact hA
      | exact hB
      | (rw [decide_eq_true_eq]; omega)
      | (rw [decide_eq_false_iff_not]; omega)
      | omega
      | with_reducible rfl
      | (intro _ _; rfl)
      | (intro _ _; trivial)
      | (intro h; exact h)
      | exact .inl rfl
      | (simp only [IntKind.min, IntKind.max, IntKind.signed, IntKind.bits, if_true]; omega)
      | trivial
    ·refine T_al (bdMg_p001111110 c e nd n a t b d (d + t - b) (d) F (mvF F (d - 1) t) (mvF F a t) (mvF F a t) R (d - 1)) Try.func135 ?_
     simp only [All, All_append, bdMa_c, bdMg_c, pcM0_c, pcM4_c, pcM8_c, hw]; and_intros
     all_goals first
      | exact hL
      | exact hR
      | exact hA
      | (rw [decide_eq_true_eq]; omega)
      | (rw [decide_eq_false_iff_not]; omega)
      | omega
      | with_reducible rfl
      | (intro _ _; rfl)
      | (intro _ _; trivial)
      | (intro h; exact h)
      | exact .inl rfl
      | (simp only [IntKind.min, IntKind.max, IntKind.signed, IntKind.bits, if_true]; omega)
      | trivial
   ·have e1 := e1 (by omega)
    rw [e1] at hR
    by_cases hrb : t + 1 < b
    ·have hB := hB hrb
     refine T_al (bdMg_p001110011 c e nd n a t b d (d + t - b) (d) F (mvF F a t) (mvF F a t) (mvF F a t) R (d - 1)) Try.func135 ?_
     simp only [All, All_append, bdMa_c, bdMg_c, pcM0_c, pcM4_c, pcM8_c, hw]; and_intros
     all_goals first
      | exact hL
      | exact hR
      | exact hB
      | (rw [decide_eq_true_eq]; omega)
      | (rw [decide_eq_false_iff_not]; omega)
      | omega
      | with_reducible rfl
      | (intro _ _; rfl)
      | (intro _ _; trivial)
      | (intro h; exact h)
      | exact .inl rfl
      | (simp only [IntKind.min, IntKind.max, IntKind.signed, IntKind.bits, if_true]; omega)
      | trivial
    ·refine T_al (bdMg_p001110010 c e nd n a t b d (d + t - b) (d) F (mvF F a t) (mvF F a t) (mvF F a t) R (d - 1)) Try.func135 ?_
     simp only [All, All_append, bdMa_c, bdMg_c, pcM0_c, pcM4_c, pcM8_c, hw]; and_intros
     all_goals first
      | exact hL
      | exact hR
      | (rw [decide_eq_true_eq]; omega)
      | (rw [decide_eq_false_iff_not]; omega)
      | omega
      | with_reducible rfl
      | (intro _ _; rfl)
      | (intro _ _; trivial)
      | (intro h; exact h)
      | exact .inl rfl
      | (simp only [IntKind.min, IntKind.max, IntKind.signed, IntKind.bits, if_true]; omega)
      | trivial
  ·obtain ⟨R, hL⟩ := L_m8 nd h ho ha hm hb ht hd (.inr ⟨by omega, rfl, rfl⟩)
   rw [if_pos ⟨rfl, by omega⟩] at hL
   by_cases hla : a < d - 1
   ·have hA := hA hla
    by_cases hrb : t + 1 < b
    ·have hB := hB hrb
     refine T_al (bdMg_p000111111 c e nd n a t b d (a) (t) F (mvF F (d - 1) t) (mvF F a t) (mvF F a t) R (d - 1)) Try.func135 ?_
     simp only [All, All_append, bdMa_c, bdMg_c, pcM0_c, pcM4_c, pcM8_c, hw]; and_intros
     all_goals first
      | exact hL
      | exact hR
      | exact hA
      | exact hB
      | (rw [decide_eq_true_eq]; omega)
      | (rw [decide_eq_false_iff_not]; omega)
      | omega
      | with_reducible rfl
      | (intro _ _; rfl)
      | (intro _ _; trivial)
      | (intro h; exact h)
      | exact .inl rfl
      | (simp only [IntKind.min, IntKind.max, IntKind.signed, IntKind.bits, if_true]; omega)
      | trivial
    ·refine T_al (bdMg_p000111110 c e nd n a t b d (a) (t) F (mvF F (d - 1) t) (mvF F a t) (mvF F a t) R (d - 1)) Try.func135 ?_
     simp only [All, All_append, bdMa_c, bdMg_c, pcM0_c, pcM4_c, pcM8_c, hw]; and_intros
     all_goals first
      | exact hL
      | exact hR
      | exact hA
      | (rw [decide_eq_true_eq]; omega)
      | (rw [decide_eq_false_iff_not]; omega)
      | omega
      | with_reducible rfl
      | (intro _ _; rfl)
      | (intro _ _; trivial)
      | (intro h; exact h)
      | exact .inl rfl
      | (simp only [IntKind.min, IntKind.max, IntKind.signed, IntKind.bits, if_true]; omega)
      | trivial
   ·have e1 := e1 (by omega)
    rw [e1] at hR
    by_cases hrb : t + 1 < b
    ·have hB := hB hrb
     refine T_al (bdMg_p000110011 c e nd n a t b d (a) (t) F (mvF F a t) (mvF F a t) (mvF F a t) R (d - 1)) Try.func135 ?_
     simp only [All, All_append, bdMa_c, bdMg_c, pcM0_c, pcM4_c, pcM8_c, hw]; and_intros
     all_goals first
      | exact hL
      | exact hR
      | exact hB
      | (rw [decide_eq_true_eq]; omega)
      | (rw [decide_eq_false_iff_not]; omega)
      | omega
      | with_reducible rfl
      | (intro _ _; rfl)
      | (intro _ _; trivial)
      | (intro h; exact h)
      | exact .inl rfl
      | (simp only [IntKind.min, IntKind.max, IntKind.signed, IntKind.bits, if_true]; omega)
      | trivial
    ·refine T_al (bdMg_p000110010 c e nd n a t b d (a) (t) F (mvF F a t) (mvF F a t) (mvF F a t) R (d - 1)) Try.func135 ?_
     simp only [All, All_append, bdMa_c, bdMg_c, pcM0_c, pcM4_c, pcM8_c, hw]; and_intros
     all_goals first
      | exact hL
      | exact hR
      | (rw [decide_eq_true_eq]; omega)
      | (rw [decide_eq_false_iff_not]; omega)
      | omega
      | with_reducible rfl
      | (intro _ _; rfl)
      | (intro _ _; trivial)
      | (intro h; exact h)
      | exact .inl rfl
      | (simp only [IntKind.min, IntKind.max, IntKind.signed, IntKind.bits, if_true]; omega)
      | trivial
 ·have hbi : ∃ x, x = (if t = m then a else t) := ⟨_, rfl⟩
  by_cases hlt : d < m
  ·obtain ⟨R, hL⟩ := L_m8 nd h ho ha hm hb ht hd (.inl ⟨hlt, rfl, rfl⟩)
   rw [if_neg hq] at hL
   have hqm : t ≠ m := fun g => hq ⟨g, by omega⟩
   rw [if_neg hqm, mvF_self]
   have hB := ih d m b t F (by omega) h ho (by omega) hm hb ht
   rw [if_neg hqm, mvF_self, show (m : Int) = ((d + m : Nat) : Int) - (d : Int) by omega] at hB
   refine T_al (bdMg_p001101011 c e nd n a m b d (d + m - b) d F F F F R d) Try.func135 ?_
   simp only [All, All_append, bdMa_c, bdMg_c, pcM0_c, pcM4_c, pcM8_c, hw]; and_intros
   all_goals first
    | exact hL
    | exact hB
    | (rw [decide_eq_true_eq]; omega)
    | (rw [decide_eq_false_iff_not]; omega)
    | omega
    | with_reducible rfl
    | (intro _ _; rfl)
    | (intro _ _; trivial)
    | (intro h; exact h)
    | exact .inl rfl
    | (simp only [IntKind.min, IntKind.max, IntKind.signed, IntKind.bits, if_true]; omega)
    | trivial
  ·obtain ⟨R, hL⟩ := L_m8 nd h ho ha hm hb ht hd (.inr ⟨by omega, rfl, rfl⟩)
   rw [if_neg hq] at hL
   by_cases hlt : m < d
   ·have hA := ih a m d t F (by omega) h ho ha hlt (by omega) (by omega)
    refine T_al (bdMg_p000001100 c e nd n a m b d a m F F (mvF F (if t = m then a else t) t) F R m) Try.func135 ?_
    simp only [All, All_append, bdMa_c, bdMg_c, pcM0_c, pcM4_c, pcM8_c, hw]; and_intros
    all_goals first
     | exact hL
     | exact hA
     | (rw [decide_eq_true_eq]; omega)
     | (rw [decide_eq_false_iff_not]; omega)
     | omega
     | with_reducible rfl
     | (intro _ _; rfl)
     | (intro _ _; trivial)
     | (intro h; exact h)
     | exact .inl rfl
     | (simp only [IntKind.min, IntKind.max, IntKind.signed, IntKind.bits, if_true]; omega)
     | trivial
   ·have hqm : t ≠ m := fun g => hq ⟨g, by omega⟩
    rw [if_neg hqm, mvF_self]
    refine T_al (bdMg_p000001000 c e nd n a m b d a m F F F F R m) Try.func135 ?_
    simp only [All, All_append, bdMa_c, bdMg_c, pcM0_c, pcM4_c, pcM8_c, hw]; and_intros
    all_goals first
     | exact hL
     | (rw [decide_eq_true_eq]; omega)
     | (rw [decide_eq_false_iff_not]; omega)
     | omega
     | with_reducible rfl
     | (intro _ _; rfl)
     | (intro _ _; trivial)
     | (intro h; exact h)
     | exact .inl rfl
     | (simp only [IntKind.min, IntKind.max, IntKind.signed, IntKind.bits, if_true]; omega)
     | trivial
end Go.Proofs.Ythifjamdfpjilaa
namespace Go.Proofs.Ythifjamdfpjilaa
open Go Sy Go.Proofs
noncomputable def bdSt (c : SCfg) (e nd : Int) (n : Nat) (F : Nat → Int) (G : Nat → Nat → Int) : Bd := { f := Try.f91, args := [.agg (dtC n), .int .i64 n], pre := hpS c e nd n F, base := 6, kb := { db := dbQ [(134, fun _ _ lo => [{ pre := nm6, val := .tup [], post := hpS c e nd n (G lo) }]), (135, fun _ _ lo => [{ pre := nm6, val := .tup [], post := hpS c e nd n (G lo) }])], lp := fun _ _ => [(True, .rounds 6)] }, names := fun _ => nm6 }
end Go.Proofs.Ythifjamdfpjilaa
