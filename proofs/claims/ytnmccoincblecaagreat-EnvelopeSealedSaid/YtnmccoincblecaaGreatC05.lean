/-
  Contracts and laws that the claim's theorem leans on, joined out of the texts Ta4 Ta6D Ta6 Ta7D (own work of this seat): Contracts: the writer's methods, continued; Contracts: what may be told; Contracts: what may be told; Contracts: what is the same.
-/
import Derived.Test.YtnmccoincblecaaGreatC04
set_option linter.unusedVariables false
set_option linter.unusedSimpArgs false
set_option maxHeartbeats 1000000
namespace Go.Proofs.YtnmccoincblecaaGreat
open Go Sy Go.Proofs
theorem bQ3 (l : List UInt8) (d : List Int) :
  f4 zp (cu5 l d) [] = (some (.tup [], [(.o 0, .flat [sb (.o 63) (l ++ l9 d)]), (.o 63, bs (l ++ l9 d))], [T zp 98 [.ptr (.o 0) 0 0 0 0, .sl (.o 2) 0 0 0 0 32 (some 32)] [(.o 0, .flat [sb (.o 1) l]), (.o 1, bs l), (.o 2, .flat [.seg .u8 32 d])] (.tup []) [(.o 0, .flat [sb (.o 194) (l ++ l9 d)]), (.o 194, bs (l ++ l9 d)), (.o 2, .flat [.seg .u8 32 d])], q0, q0, q0, q (List.length (l ++ l9 d)), (none : Option Nat) = none ∨ (none : Option Nat) = none, q (List.length (l ++ l9 d)), ∀ (k : Nat), k < List.length (l ++ l9 d) → bl (l ++ l9 d) k = bl (l ++ l9 d) k, true = false → true = false]) : Option (V × c5 × List Prop)) := by kernel_rfl
theorem bT1 (l : List UInt8) (s : SSign) :
  f4 zp (cw0 l s) [] = (some (.tup [], [(.o 0, .flat [sb (.o 63) (l ++ D8 s)]), (.o 63, bs (l ++ D8 s))], [T zp 53 [.ptr (.o 0) 0 0 0 0, .sl (.o 258) 1 0 0 0 1 (some 1)] [(.o 0, .flat [sb (.o 1) l]), (.o 1, bs l), (.o 258, .rows 1 1 (j4 [[.int .i64 (SSign.node s)]]) false)] (.tup []) [(.o 0, .flat [sb (.o 322) (l ++ c9 [SSign.node s])]), (.o 322, bs (l ++ c9 [SSign.node s])), (.o 258, .rows 1 1 (j4 [[.int .i64 (SSign.node s)]]) false)], T zp 98 [.ptr (.o 0) 0 0 0 0, .sl (.o 2) 0 0 1 0 16 (some 16)] [(.o 0, .flat [sb (.o 322) (l ++ c9 [SSign.node s])]), (.o 322, bs (l ++ c9 [SSign.node s])), (.o 2, .flat (SSign.c s))] (.tup []) [(.o 0, .flat [sb (.o 578) (l ++ c9 [SSign.node s] ++ l9 (SSign.tag s))]), (.o 578, bs (l ++ c9 [SSign.node s] ++ l9 (SSign.tag s))), (.o 2, .flat (SSign.c s))], q0, q0, q0, List.length (l ++ c9 [SSign.node s] ++ l9 (SSign.tag s)) = List.length (l ++ D8 s), (none : Option Nat) = none ∨ (none : Option Nat) = none, List.length (l ++ c9 [SSign.node s] ++ l9 (SSign.tag s)) = List.length (l ++ D8 s), ∀ (k : Nat), k < List.length (l ++ c9 [SSign.node s] ++ l9 (SSign.tag s)) → bl (l ++ c9 [SSign.node s] ++ l9 (SSign.tag s)) k = bl (l ++ D8 s) k, true = false → true = false]) : Option (V × c5 × List Prop)) := by kernel_rfl
theorem bQ4 (l : List UInt8) (e : SEnv) :
  f4 zp (cu6 l e) [] = (some (.tup [], [(.o 0, .flat [sb (.o 63) (l ++ I7 e)]), (.o 63, bs (l ++ I7 e))], [T zp 53 [.ptr (.o 0) 0 0 0 0, .sl (.o 258) 1 0 0 0 1 (some 1)] [(.o 0, .flat [sb (.o 1) l]), (.o 1, bs l), (.o 258, .rows 1 1 (j4 [[.int .i64 (SEnv.src e)]]) false)] (.tup []) [(.o 0, .flat [sb (.o 322) (l ++ c9 [SEnv.src e])]), (.o 322, bs (l ++ c9 [SEnv.src e])), (.o 258, .rows 1 1 (j4 [[.int .i64 (SEnv.src e)]]) false)], T zp 62 [.ptr (.o 0) 0 0 0 0, .str (SEnv.body e)] [(.o 0, .flat [sb (.o 322) (l ++ c9 [SEnv.src e])]), (.o 322, bs (l ++ c9 [SEnv.src e]))] (.tup []) [(.o 0, .flat [sb (.o 578) (l ++ c9 [SEnv.src e] ++ j3 (SEnv.body e))]), (.o 578, bs (l ++ c9 [SEnv.src e] ++ j3 (SEnv.body e)))], T zp 98 [.ptr (.o 0) 0 0 0 0, .sl (.o 2) 0 0 2 0 16 (some 16)] [(.o 0, .flat [sb (.o 578) (l ++ c9 [SEnv.src e] ++ j3 (SEnv.body e))]), (.o 578, bs (l ++ c9 [SEnv.src e] ++ j3 (SEnv.body e))), (.o 2, .flat (SEnv.c e))] (.tup []) [(.o 0, .flat [sb (.o 834) (l ++ c9 [SEnv.src e] ++ j3 (SEnv.body e) ++ l9 (SEnv.tag e))]), (.o 834, bs (l ++ c9 [SEnv.src e] ++ j3 (SEnv.body e) ++ l9 (SEnv.tag e))), (.o 2, .flat (SEnv.c e))], q0, q0, q0, List.length (l ++ c9 [SEnv.src e] ++ j3 (SEnv.body e) ++ l9 (SEnv.tag e)) = List.length (l ++ I7 e), (none : Option Nat) = none ∨ (none : Option Nat) = none, List.length (l ++ c9 [SEnv.src e] ++ j3 (SEnv.body e) ++ l9 (SEnv.tag e)) = List.length (l ++ I7 e), ∀ (k : Nat), k < List.length (l ++ c9 [SEnv.src e] ++ j3 (SEnv.body e) ++ l9 (SEnv.tag e)) → bl (l ++ c9 [SEnv.src e] ++ j3 (SEnv.body e) ++ l9 (SEnv.tag e)) k = bl (l ++ I7 e) k, true = false → true = false]) : Option (V × c5 × List Prop)) := by kernel_rfl
theorem bT3 (l : List UInt8) (v : SVote) :
  f4 zp (cw3 l v) [] = (some (.tup [], [(.o 0, .flat [sb (.o 63) (l ++ r7 v)]), (.o 63, bs (l ++ r7 v))], [T zp 53 [.ptr (.o 0) 0 0 0 0, .sl (.o 642) 1 0 0 0 4 (some 4)] [(.o 0, .flat [sb (.o 1) l]), (.o 1, bs l), (.o 642, .rows 1 4 (j4 [[.int .i64 (SVote.kind v)], [.int .i64 (SVote.epoch v)], [.int .i64 (SVote.view v)], [.int .i64 (SVote.slot v)]]) false)] (.tup []) [(.o 0, .flat [sb (.o 706) (l ++ c9 [SVote.kind v, SVote.epoch v, SVote.view v, SVote.slot v])]), (.o 706, bs (l ++ c9 [SVote.kind v, SVote.epoch v, SVote.view v, SVote.slot v])), (.o 642, .rows 1 4 (j4 [[.int .i64 (SVote.kind v)], [.int .i64 (SVote.epoch v)], [.int .i64 (SVote.view v)], [.int .i64 (SVote.slot v)]]) false)], T zp 60 [.ptr (.o 0) 0 0 0 0, .agg [.seg .u8 32 (SVote.digest v)]] [(.o 0, .flat [sb (.o 706) (l ++ c9 [SVote.kind v, SVote.epoch v, SVote.view v, SVote.slot v])]), (.o 706, bs (l ++ c9 [SVote.kind v, SVote.epoch v, SVote.view v, SVote.slot v]))] (.tup []) [(.o 0, .flat [sb (.o 962) (l ++ r7 v)]), (.o 962, bs (l ++ r7 v))], q0, q0, q0, q (List.length (l ++ r7 v)), (none : Option Nat) = none ∨ (none : Option Nat) = none, q (List.length (l ++ r7 v)), ∀ (k : Nat), k < List.length (l ++ r7 v) → bl (l ++ r7 v) k = bl (l ++ r7 v) k, true = false → true = false]) : Option (V × c5 × List Prop)) := by kernel_rfl
theorem bQ1 (l : List UInt8) (c : SCert) :
  f4 zp (cu1 l c) [] = (some (.tup [], [(.o 0, .flat [sb (.o 63) (l ++ u9 c)]), (.o 63, bs (l ++ u9 c))], [T zp 55 [.ptr (.o 0) 0 0 0 0, .agg (SVote.c (SCert.vote c))] [(.o 0, .flat [sb (.o 1) l]), (.o 1, bs l)] (.tup []) [(.o 0, .flat [sb (.o 258) (l ++ r7 (SCert.vote c))]), (.o 258, bs (l ++ r7 (SCert.vote c)))], T zp 63 [.ptr (.o 0) 0 0 0 0, .ros 17 (SCert.n c) (fun i => SSign.c (SCert.sig c i)) false, .fn (.func 64) [.ptr (.o 0) 0 0 0 0] []] [(.o 0, .flat [sb (.o 258) (l ++ r7 (SCert.vote c))]), (.o 258, bs (l ++ r7 (SCert.vote c)))] (.tup []) [(.o 0, .flat [sb (.o 642) (l ++ r7 (SCert.vote c) ++ (c9 [(↑(SCert.n c) : Int)] ++ l8 (SCert.sig c) (SCert.n c)))]), (.o 642, bs (l ++ r7 (SCert.vote c) ++ (c9 [(↑(SCert.n c) : Int)] ++ l8 (SCert.sig c) (SCert.n c))))], q0, q0, q0, List.length (l ++ r7 (SCert.vote c) ++ (c9 [(↑(SCert.n c) : Int)] ++ l8 (SCert.sig c) (SCert.n c))) = List.length (l ++ u9 c), (none : Option Nat) = none ∨ (none : Option Nat) = none, List.length (l ++ r7 (SCert.vote c) ++ (c9 [(↑(SCert.n c) : Int)] ++ l8 (SCert.sig c) (SCert.n c))) = List.length (l ++ u9 c), ∀ (k : Nat), k < List.length (l ++ r7 (SCert.vote c) ++ (c9 [(↑(SCert.n c) : Int)] ++ l8 (SCert.sig c) (SCert.n c))) → bl (l ++ r7 (SCert.vote c) ++ (c9 [(↑(SCert.n c) : Int)] ++ l8 (SCert.sig c) (SCert.n c))) k = bl (l ++ u9 c) k, true = false → true = false]) : Option (V × c5 × List Prop)) := by kernel_rfl
theorem bR1 (l : List UInt8) (h : SHeld) :
  f4 zp (cv1 l h) [] = (some (.tup [], [(.o 0, .flat [sb (.o 63) (l ++ E2 h)]), (.o 63, bs (l ++ E2 h))], [T zp 54 [.ptr (.o 0) 0 0 0 0, .agg (SBatch.c (SHeld.batch h))] [(.o 0, .flat [sb (.o 1) l]), (.o 1, bs l)] (.tup []) [(.o 0, .flat [sb (.o 258) (l ++ j6 (SHeld.batch h))]), (.o 258, bs (l ++ j6 (SHeld.batch h)))], T zp 61 [.ptr (.o 0) 0 0 0 0, .agg [.int .i64 (SVote.kind (SCert.vote (SHeld.cert h))), .int .i64 (SVote.epoch (SCert.vote (SHeld.cert h))), .int .i64 (SVote.view (SCert.vote (SHeld.cert h))), .int .i64 (SVote.slot (SCert.vote (SHeld.cert h))), .seg .u8 32 (SVote.digest (SCert.vote (SHeld.cert h))), sg (SCert.n (SHeld.cert h)) (SCert.sig (SHeld.cert h))]] [(.o 0, .flat [sb (.o 258) (l ++ j6 (SHeld.batch h))]), (.o 258, bs (l ++ j6 (SHeld.batch h)))] (.tup []) [(.o 0, .flat [sb (.o 514) (l ++ j6 (SHeld.batch h) ++ u9 (SHeld.cert h))]), (.o 514, bs (l ++ j6 (SHeld.batch h) ++ u9 (SHeld.cert h)))], q0, q0, q0, List.length (l ++ j6 (SHeld.batch h) ++ u9 (SHeld.cert h)) = List.length (l ++ E2 h), (none : Option Nat) = none ∨ (none : Option Nat) = none, List.length (l ++ j6 (SHeld.batch h) ++ u9 (SHeld.cert h)) = List.length (l ++ E2 h), ∀ (k : Nat), k < List.length (l ++ j6 (SHeld.batch h) ++ u9 (SHeld.cert h)) → bl (l ++ j6 (SHeld.batch h) ++ u9 (SHeld.cert h)) k = bl (l ++ E2 h) k, true = false → true = false]) : Option (V × c5 × List Prop)) := by kernel_rfl
theorem bS2 (l : List UInt8) (n : Nat) (s : Nat → SSign) :
  f4 zp (bL2 l n s) [] = (some (.tup [], [(.o 0, .flat [sb (.o 63) (l ++ (c9 [(↑n : Int)] ++ l8 s n))]), (.o 63, bs (l ++ (c9 [(↑n : Int)] ++ l8 s n)))], [T zp 53 [.ptr (.o 0) 0 0 0 0, .sl (.o 194) 1 0 0 0 1 (some 1)] [(.o 0, .flat [sb (.o 1) l]), (.o 1, bs l), (.o 194, .rows 1 1 (j4 [[.int .i64 ↑n]]) false)] (.tup []) [(.o 0, .flat [sb (.o 258) (l ++ c9 [(↑n : Int)])]), (.o 258, bs (l ++ c9 [(↑n : Int)])), (.o 194, .rows 1 1 (j4 [[.int .i64 ↑n]]) false)], i5 zp none 2 (cB (cB (cR (cR (f8 (Bd.f (bL2 l n s))))))) (n + 1) (St.mk (mkT 23 [(2, .fn (.func (64 : FuncId)) [.ptr (.o 0) 0 0 0 0] []), (13, .ros 17 n (fun i => SSign.c (s i)) false), (14, .int .i64 ↑n), (15, .int .i64 0)]) [(.o 0, .flat [sb (.o 63) (l ++ (c9 [(↑n : Int)] ++ l8 s 0))]), (.o 63, bs (l ++ (c9 [(↑n : Int)] ++ l8 s 0)))] 64 []) (.exit 0) (St.mk (mkT 23 [(2, .fn (.func (64 : FuncId)) [.ptr (.o 0) 0 0 0 0] []), (13, .ros 17 n (fun i => SSign.c (s i)) false), (14, .int .i64 ↑n), (15, .int .i64 ↑n)]) [(.o 0, .flat [sb (.o 63) (l ++ (c9 [(↑n : Int)] ++ l8 s n))]), (.o 63, bs (l ++ (c9 [(↑n : Int)] ++ l8 s n)))] 64 []), q0, q0, q0, List.length (l ++ c9 [(↑n : Int)]) = List.length (l ++ (c9 [(↑n : Int)] ++ l8 s (0 : Nat))), (none : Option Nat) = none ∨ (none : Option Nat) = none, List.length (l ++ c9 [(↑n : Int)]) = List.length (l ++ (c9 [(↑n : Int)] ++ l8 s (0 : Nat))), ∀ (k : Nat), k < List.length (l ++ c9 [(↑n : Int)]) → bl (l ++ c9 [(↑n : Int)]) k = bl (l ++ (c9 [(↑n : Int)] ++ l8 s (0 : Nat))) k, true = false → true = false, q0, q0, q0, q n, ∀ (k : Nat), k < n → SSign.c (s k) = SSign.c (s k), false = true → false = true, q (↑n : Int), q1, q0, q0, q0, q (List.length (l ++ (c9 [(↑n : Int)] ++ l8 s n))), (none : Option Nat) = none ∨ (none : Option Nat) = none, q (List.length (l ++ (c9 [(↑n : Int)] ++ l8 s n))), ∀ (k : Nat), k < List.length (l ++ (c9 [(↑n : Int)] ++ l8 s n)) → bl (l ++ (c9 [(↑n : Int)] ++ l8 s n)) k = bl (l ++ (c9 [(↑n : Int)] ++ l8 s n)) k, true = false → true = false]) : Option (V × c5 × List Prop)) := by kernel_rfl
theorem bG3 (l : List UInt8) (n : Nat) (s : Nat → SSign) (k : Nat) :
  i6 zp (bM7 l n s k) [true] = (some (.normal, St.mk (mkT 23 [(2, .fn (.func (64 : FuncId)) [.ptr (.o 0) 0 0 0 0] []), (13, .ros 17 n (fun i => SSign.c (s i)) false), (14, .int .i64 ↑n), (15, .int .i64 (↑(k + 1) : Int))]) [(.o 0, .flat [sb (.o 63) (l ++ (c9 [(↑n : Int)] ++ l8 s (k + 1)))]), (.o 63, bs (l ++ (c9 [(↑n : Int)] ++ l8 s (k + 1))))] 64 [], [decide ((↑k : Int) < (↑n : Int)) = true, (0 : Int) ≤ (↑k : Int) ∧ (↑k : Int) < (↑n : Int), T zp (64 : FuncId) [.ptr (.o 0) 0 0 0 0, .agg (SSign.c (s (Int.toNat (↑k : Int))))] [(.o 0, .flat [sb (.o 63) (l ++ (c9 [(↑n : Int)] ++ l8 s k))]), (.o 63, bs (l ++ (c9 [(↑n : Int)] ++ l8 s k)))] (.tup []) [(.o 0, .flat [sb (.o 512) (l ++ (c9 [(↑n : Int)] ++ l8 s (k + 1)))]), (.o 512, bs (l ++ (c9 [(↑n : Int)] ++ l8 s (k + 1))))], InR .i64 ((↑k : Int) + (1 : Int)), q0, q0, q0, q (List.length (l ++ (c9 [(↑n : Int)] ++ l8 s (k + (1 : Nat))))), (none : Option Nat) = none ∨ (none : Option Nat) = none, q (List.length (l ++ (c9 [(↑n : Int)] ++ l8 s (k + (1 : Nat))))), ∀ (k_1 : Nat), k_1 < List.length (l ++ (c9 [(↑n : Int)] ++ l8 s (k + (1 : Nat)))) → bl (l ++ (c9 [(↑n : Int)] ++ l8 s (k + (1 : Nat)))) k_1 = bl (l ++ (c9 [(↑n : Int)] ++ l8 s (k + (1 : Nat)))) k_1, true = false → true = false, q0, q0, q0, q n, ∀ (k : Nat), k < n → SSign.c (s k) = SSign.c (s k), false = true → false = true, q (↑n : Int), (↑k : Int) + (1 : Int) = (↑(k + (1 : Nat)) : Int)]) : Option (Exit × St × List Prop)) := by kernel_rfl
theorem bG2 (l : List UInt8) (n : Nat) (s : Nat → SSign) (k : Nat) :
  i6 zp (bM7 l n s k) [false] = (some (.exit 0, St.mk (mkT 23 [(2, .fn (.func (64 : FuncId)) [.ptr (.o 0) 0 0 0 0] []), (13, .ros 17 n (fun i => SSign.c (s i)) false), (14, .int .i64 ↑n), (15, .int .i64 ↑n)]) [(.o 0, .flat [sb (.o 63) (l ++ (c9 [(↑n : Int)] ++ l8 s n))]), (.o 63, bs (l ++ (c9 [(↑n : Int)] ++ l8 s n)))] 64 [], [decide ((↑k : Int) < (↑n : Int)) = false, q0, q0, q0, List.length (l ++ (c9 [(↑n : Int)] ++ l8 s k)) = List.length (l ++ (c9 [(↑n : Int)] ++ l8 s n)), (none : Option Nat) = none ∨ (none : Option Nat) = none, List.length (l ++ (c9 [(↑n : Int)] ++ l8 s k)) = List.length (l ++ (c9 [(↑n : Int)] ++ l8 s n)), ∀ (k_1 : Nat), k_1 < List.length (l ++ (c9 [(↑n : Int)] ++ l8 s k)) → bl (l ++ (c9 [(↑n : Int)] ++ l8 s k)) k_1 = bl (l ++ (c9 [(↑n : Int)] ++ l8 s n)) k_1, true = false → true = false, q0, q0, q0, q n, ∀ (k : Nat), k < n → SSign.c (s k) = SSign.c (s k), false = true → false = true, q (↑n : Int), (↑k : Int) = (↑n : Int)]) : Option (Exit × St × List Prop)) := by kernel_rfl
theorem bS0 (l : List UInt8) (n : Nat) (s : Nat → SHeld) :
  f4 zp (bL0 l n s) [] = (some (.tup [], [(.o 0, .flat [sb (.o 63) (l ++ (c9 [(↑n : Int)] ++ m6 s n))]), (.o 63, bs (l ++ (c9 [(↑n : Int)] ++ m6 s n)))], [T zp 53 [.ptr (.o 0) 0 0 0 0, .sl (.o 194) 1 0 0 0 1 (some 1)] [(.o 0, .flat [sb (.o 1) l]), (.o 1, bs l), (.o 194, .rows 1 1 (j4 [[.int .i64 ↑n]]) false)] (.tup []) [(.o 0, .flat [sb (.o 258) (l ++ c9 [(↑n : Int)])]), (.o 258, bs (l ++ c9 [(↑n : Int)])), (.o 194, .rows 1 1 (j4 [[.int .i64 ↑n]]) false)], i5 zp none 2 (cB (cB (cR (cR (f8 (Bd.f (bL0 l n s))))))) (n + 1) (St.mk (mkT 23 [(2, .fn (.func (57 : FuncId)) [.ptr (.o 0) 0 0 0 0] []), (13, .ros 39 n (fun i => SHeld.c (s i)) false), (14, .int .i64 ↑n), (15, .int .i64 0)]) [(.o 0, .flat [sb (.o 63) (l ++ (c9 [(↑n : Int)] ++ m6 s 0))]), (.o 63, bs (l ++ (c9 [(↑n : Int)] ++ m6 s 0)))] 64 []) (.exit 0) (St.mk (mkT 23 [(2, .fn (.func (57 : FuncId)) [.ptr (.o 0) 0 0 0 0] []), (13, .ros 39 n (fun i => SHeld.c (s i)) false), (14, .int .i64 ↑n), (15, .int .i64 ↑n)]) [(.o 0, .flat [sb (.o 63) (l ++ (c9 [(↑n : Int)] ++ m6 s n))]), (.o 63, bs (l ++ (c9 [(↑n : Int)] ++ m6 s n)))] 64 []), q0, q0, q0, List.length (l ++ c9 [(↑n : Int)]) = List.length (l ++ (c9 [(↑n : Int)] ++ m6 s (0 : Nat))), (none : Option Nat) = none ∨ (none : Option Nat) = none, List.length (l ++ c9 [(↑n : Int)]) = List.length (l ++ (c9 [(↑n : Int)] ++ m6 s (0 : Nat))), ∀ (k : Nat), k < List.length (l ++ c9 [(↑n : Int)]) → bl (l ++ c9 [(↑n : Int)]) k = bl (l ++ (c9 [(↑n : Int)] ++ m6 s (0 : Nat))) k, true = false → true = false, q0, q0, q0, q n, ∀ (k : Nat), k < n → SHeld.c (s k) = SHeld.c (s k), false = true → false = true, q (↑n : Int), q1, q0, q0, q0, q (List.length (l ++ (c9 [(↑n : Int)] ++ m6 s n))), (none : Option Nat) = none ∨ (none : Option Nat) = none, q (List.length (l ++ (c9 [(↑n : Int)] ++ m6 s n))), ∀ (k : Nat), k < List.length (l ++ (c9 [(↑n : Int)] ++ m6 s n)) → bl (l ++ (c9 [(↑n : Int)] ++ m6 s n)) k = bl (l ++ (c9 [(↑n : Int)] ++ m6 s n)) k, true = false → true = false]) : Option (V × c5 × List Prop)) := by kernel_rfl
theorem bF_ (l : List UInt8) (n : Nat) (s : Nat → SHeld) (k : Nat) :
  i6 zp (bM5 l n s k) [true] = (some (.normal, St.mk (mkT 23 [(2, .fn (.func (57 : FuncId)) [.ptr (.o 0) 0 0 0 0] []), (13, .ros 39 n (fun i => SHeld.c (s i)) false), (14, .int .i64 ↑n), (15, .int .i64 (↑(k + 1) : Int))]) [(.o 0, .flat [sb (.o 63) (l ++ (c9 [(↑n : Int)] ++ m6 s (k + 1)))]), (.o 63, bs (l ++ (c9 [(↑n : Int)] ++ m6 s (k + 1))))] 64 [], [decide ((↑k : Int) < (↑n : Int)) = true, (0 : Int) ≤ (↑k : Int) ∧ (↑k : Int) < (↑n : Int), T zp (57 : FuncId) [.ptr (.o 0) 0 0 0 0, .agg [.bool (SBatch.noop (SHeld.batch (s (Int.toNat (↑k : Int))))), rq (SBatch.n (SHeld.batch (s (Int.toNat (↑k : Int))))) (SBatch.req (SHeld.batch (s (Int.toNat (↑k : Int))))), .int .i64 (SVote.kind (SCert.vote (SHeld.cert (s (Int.toNat (↑k : Int)))))), .int .i64 (SVote.epoch (SCert.vote (SHeld.cert (s (Int.toNat (↑k : Int)))))), .int .i64 (SVote.view (SCert.vote (SHeld.cert (s (Int.toNat (↑k : Int)))))), .int .i64 (SVote.slot (SCert.vote (SHeld.cert (s (Int.toNat (↑k : Int)))))), .seg .u8 32 (SVote.digest (SCert.vote (SHeld.cert (s (Int.toNat (↑k : Int)))))), sg (SCert.n (SHeld.cert (s (Int.toNat (↑k : Int))))) (SCert.sig (SHeld.cert (s (Int.toNat (↑k : Int)))))]] [(.o 0, .flat [sb (.o 63) (l ++ (c9 [(↑n : Int)] ++ m6 s k))]), (.o 63, bs (l ++ (c9 [(↑n : Int)] ++ m6 s k)))] (.tup []) [(.o 0, .flat [sb (.o 512) (l ++ (c9 [(↑n : Int)] ++ m6 s (k + 1)))]), (.o 512, bs (l ++ (c9 [(↑n : Int)] ++ m6 s (k + 1))))], InR .i64 ((↑k : Int) + (1 : Int)), q0, q0, q0, q (List.length (l ++ (c9 [(↑n : Int)] ++ m6 s (k + (1 : Nat))))), (none : Option Nat) = none ∨ (none : Option Nat) = none, q (List.length (l ++ (c9 [(↑n : Int)] ++ m6 s (k + (1 : Nat))))), ∀ (k_1 : Nat), k_1 < List.length (l ++ (c9 [(↑n : Int)] ++ m6 s (k + (1 : Nat)))) → bl (l ++ (c9 [(↑n : Int)] ++ m6 s (k + (1 : Nat)))) k_1 = bl (l ++ (c9 [(↑n : Int)] ++ m6 s (k + (1 : Nat)))) k_1, true = false → true = false, q0, q0, q0, q n, ∀ (k : Nat), k < n → SHeld.c (s k) = SHeld.c (s k), false = true → false = true, q (↑n : Int), (↑k : Int) + (1 : Int) = (↑(k + (1 : Nat)) : Int)]) : Option (Exit × St × List Prop)) := by kernel_rfl
theorem bF9 (l : List UInt8) (n : Nat) (s : Nat → SHeld) (k : Nat) :
  i6 zp (bM5 l n s k) [false] = (some (.exit 0, St.mk (mkT 23 [(2, .fn (.func (57 : FuncId)) [.ptr (.o 0) 0 0 0 0] []), (13, .ros 39 n (fun i => SHeld.c (s i)) false), (14, .int .i64 ↑n), (15, .int .i64 ↑n)]) [(.o 0, .flat [sb (.o 63) (l ++ (c9 [(↑n : Int)] ++ m6 s n))]), (.o 63, bs (l ++ (c9 [(↑n : Int)] ++ m6 s n)))] 64 [], [decide ((↑k : Int) < (↑n : Int)) = false, q0, q0, q0, List.length (l ++ (c9 [(↑n : Int)] ++ m6 s k)) = List.length (l ++ (c9 [(↑n : Int)] ++ m6 s n)), (none : Option Nat) = none ∨ (none : Option Nat) = none, List.length (l ++ (c9 [(↑n : Int)] ++ m6 s k)) = List.length (l ++ (c9 [(↑n : Int)] ++ m6 s n)), ∀ (k_1 : Nat), k_1 < List.length (l ++ (c9 [(↑n : Int)] ++ m6 s k)) → bl (l ++ (c9 [(↑n : Int)] ++ m6 s k)) k_1 = bl (l ++ (c9 [(↑n : Int)] ++ m6 s n)) k_1, true = false → true = false, q0, q0, q0, q n, ∀ (k : Nat), k < n → SHeld.c (s k) = SHeld.c (s k), false = true → false = true, q (↑n : Int), (↑k : Int) = (↑n : Int)]) : Option (Exit × St × List Prop)) := by kernel_rfl
theorem bS1 (l : List UInt8) (n : Nat) (s : Nat → SEnv) :
  f4 zp (bL1 l n s) [] = (some (.tup [], [(.o 0, .flat [sb (.o 63) (l ++ (c9 [(↑n : Int)] ++ n9 s n))]), (.o 63, bs (l ++ (c9 [(↑n : Int)] ++ n9 s n)))], [T zp 53 [.ptr (.o 0) 0 0 0 0, .sl (.o 194) 1 0 0 0 1 (some 1)] [(.o 0, .flat [sb (.o 1) l]), (.o 1, bs l), (.o 194, .rows 1 1 (j4 [[.int .i64 ↑n]]) false)] (.tup []) [(.o 0, .flat [sb (.o 258) (l ++ c9 [(↑n : Int)])]), (.o 258, bs (l ++ c9 [(↑n : Int)])), (.o 194, .rows 1 1 (j4 [[.int .i64 ↑n]]) false)], i5 zp none 2 (cB (cB (cR (cR (f8 (Bd.f (bL1 l n s))))))) (n + 1) (St.mk (mkT 23 [(2, .fn (.func (59 : FuncId)) [.ptr (.o 0) 0 0 0 0] []), (13, .ros 18 n (fun i => SEnv.c (s i)) false), (14, .int .i64 ↑n), (15, .int .i64 0)]) [(.o 0, .flat [sb (.o 63) (l ++ (c9 [(↑n : Int)] ++ n9 s 0))]), (.o 63, bs (l ++ (c9 [(↑n : Int)] ++ n9 s 0)))] 64 []) (.exit 0) (St.mk (mkT 23 [(2, .fn (.func (59 : FuncId)) [.ptr (.o 0) 0 0 0 0] []), (13, .ros 18 n (fun i => SEnv.c (s i)) false), (14, .int .i64 ↑n), (15, .int .i64 ↑n)]) [(.o 0, .flat [sb (.o 63) (l ++ (c9 [(↑n : Int)] ++ n9 s n))]), (.o 63, bs (l ++ (c9 [(↑n : Int)] ++ n9 s n)))] 64 []), q0, q0, q0, List.length (l ++ c9 [(↑n : Int)]) = List.length (l ++ (c9 [(↑n : Int)] ++ n9 s (0 : Nat))), (none : Option Nat) = none ∨ (none : Option Nat) = none, List.length (l ++ c9 [(↑n : Int)]) = List.length (l ++ (c9 [(↑n : Int)] ++ n9 s (0 : Nat))), ∀ (k : Nat), k < List.length (l ++ c9 [(↑n : Int)]) → bl (l ++ c9 [(↑n : Int)]) k = bl (l ++ (c9 [(↑n : Int)] ++ n9 s (0 : Nat))) k, true = false → true = false, q0, q0, q0, q n, ∀ (k : Nat), k < n → SEnv.c (s k) = SEnv.c (s k), false = true → false = true, q (↑n : Int), q1, q0, q0, q0, q (List.length (l ++ (c9 [(↑n : Int)] ++ n9 s n))), (none : Option Nat) = none ∨ (none : Option Nat) = none, q (List.length (l ++ (c9 [(↑n : Int)] ++ n9 s n))), ∀ (k : Nat), k < List.length (l ++ (c9 [(↑n : Int)] ++ n9 s n)) → bl (l ++ (c9 [(↑n : Int)] ++ n9 s n)) k = bl (l ++ (c9 [(↑n : Int)] ++ n9 s n)) k, true = false → true = false]) : Option (V × c5 × List Prop)) := by kernel_rfl
theorem bG1 (l : List UInt8) (n : Nat) (s : Nat → SEnv) (k : Nat) :
  i6 zp (bM6 l n s k) [true] = (some (.normal, St.mk (mkT 23 [(2, .fn (.func (59 : FuncId)) [.ptr (.o 0) 0 0 0 0] []), (13, .ros 18 n (fun i => SEnv.c (s i)) false), (14, .int .i64 ↑n), (15, .int .i64 (↑(k + 1) : Int))]) [(.o 0, .flat [sb (.o 63) (l ++ (c9 [(↑n : Int)] ++ n9 s (k + 1)))]), (.o 63, bs (l ++ (c9 [(↑n : Int)] ++ n9 s (k + 1))))] 64 [], [decide ((↑k : Int) < (↑n : Int)) = true, (0 : Int) ≤ (↑k : Int) ∧ (↑k : Int) < (↑n : Int), T zp (59 : FuncId) [.ptr (.o 0) 0 0 0 0, .agg (SEnv.c (s (Int.toNat (↑k : Int))))] [(.o 0, .flat [sb (.o 63) (l ++ (c9 [(↑n : Int)] ++ n9 s k))]), (.o 63, bs (l ++ (c9 [(↑n : Int)] ++ n9 s k)))] (.tup []) [(.o 0, .flat [sb (.o 512) (l ++ (c9 [(↑n : Int)] ++ n9 s (k + 1)))]), (.o 512, bs (l ++ (c9 [(↑n : Int)] ++ n9 s (k + 1))))], InR .i64 ((↑k : Int) + (1 : Int)), q0, q0, q0, q (List.length (l ++ (c9 [(↑n : Int)] ++ n9 s (k + (1 : Nat))))), (none : Option Nat) = none ∨ (none : Option Nat) = none, q (List.length (l ++ (c9 [(↑n : Int)] ++ n9 s (k + (1 : Nat))))), ∀ (k_1 : Nat), k_1 < List.length (l ++ (c9 [(↑n : Int)] ++ n9 s (k + (1 : Nat)))) → bl (l ++ (c9 [(↑n : Int)] ++ n9 s (k + (1 : Nat)))) k_1 = bl (l ++ (c9 [(↑n : Int)] ++ n9 s (k + (1 : Nat)))) k_1, true = false → true = false, q0, q0, q0, q n, ∀ (k : Nat), k < n → SEnv.c (s k) = SEnv.c (s k), false = true → false = true, q (↑n : Int), (↑k : Int) + (1 : Int) = (↑(k + (1 : Nat)) : Int)]) : Option (Exit × St × List Prop)) := by kernel_rfl
theorem bG0 (l : List UInt8) (n : Nat) (s : Nat → SEnv) (k : Nat) :
  i6 zp (bM6 l n s k) [false] = (some (.exit 0, St.mk (mkT 23 [(2, .fn (.func (59 : FuncId)) [.ptr (.o 0) 0 0 0 0] []), (13, .ros 18 n (fun i => SEnv.c (s i)) false), (14, .int .i64 ↑n), (15, .int .i64 ↑n)]) [(.o 0, .flat [sb (.o 63) (l ++ (c9 [(↑n : Int)] ++ n9 s n))]), (.o 63, bs (l ++ (c9 [(↑n : Int)] ++ n9 s n)))] 64 [], [decide ((↑k : Int) < (↑n : Int)) = false, q0, q0, q0, List.length (l ++ (c9 [(↑n : Int)] ++ n9 s k)) = List.length (l ++ (c9 [(↑n : Int)] ++ n9 s n)), (none : Option Nat) = none ∨ (none : Option Nat) = none, List.length (l ++ (c9 [(↑n : Int)] ++ n9 s k)) = List.length (l ++ (c9 [(↑n : Int)] ++ n9 s n)), ∀ (k_1 : Nat), k_1 < List.length (l ++ (c9 [(↑n : Int)] ++ n9 s k)) → bl (l ++ (c9 [(↑n : Int)] ++ n9 s k)) k_1 = bl (l ++ (c9 [(↑n : Int)] ++ n9 s n)) k_1, true = false → true = false, q0, q0, q0, q n, ∀ (k : Nat), k < n → SEnv.c (s k) = SEnv.c (s k), false = true → false = true, q (↑n : Int), (↑k : Int) = (↑n : Int)]) : Option (Exit × St × List Prop)) := by kernel_rfl
structure SignOk (s : SSign) : Prop where
 node : p9 s.node
 tag : SegOk 16 s.tag
structure VoteOk (v : SVote) : Prop where
 kind : p9 v.kind
 epoch : p9 v.epoch
 view : p9 v.view
 slot : p9 v.slot
 digest : SegOk 32 v.digest
structure CertOk (c : SCert) : Prop where
 vote : VoteOk c.vote
 n : c.n ≤ 1000
 sig : ∀ k, k < c.n → SignOk (c.sig k)
structure HeldOk (h : SHeld) : Prop where
 batch : BatchOk h.batch
 cert : CertOk h.cert
structure EnvOk (e : SEnv) : Prop where
 src : p9 e.src
 body : e.body.size ≤ 10000000
 tag : SegOk 16 e.tag
theorem I0 {a : Int} (h : p9 a) : (c9 [a]).length ≤ 9 := by simpa [c9] using m9 h
theorem aj0 {n : Nat} {xs : List Int} (h : SegOk n xs) : (l9 xs).length = n := by rw [X1, h.len]
theorem bu6 {s : SSign} (h : SignOk s) : (D8 s).length ≤ 25 := by
 have h1 := I0 h.node
 have h2 := aj0 h.tag
 rw [D8, List.length_append]; omega
theorem am1 {s : Nat → SSign} : ∀ {n : Nat}, (∀ k, k < n → SignOk (s k)) → (l8 s n).length ≤ 25 * n
 | 0, _ => by simp [l8]
 | n + 1, h => by
  have := am1 (n := n) fun k hk => h k (by omega)
  have := bu6 (h n (by omega))
  rw [l8, List.length_append]; omega
theorem aJ6 {v : SVote} (h : VoteOk v) : (r7 v).length ≤ 68 := by
 have h1 := m9 h.kind
 have h2 := m9 h.epoch
 have h3 := m9 h.view
 have h4 := m9 h.slot
 have h5 := aj0 h.digest
 simp only [r7, c9, List.length_append, List.length_nil]; omega
theorem bo0 {c : SCert} (h : CertOk c) : (u9 c).length ≤ 26000 := by
 have h1 := aJ6 h.vote
 have h2 := am1 h.sig
 have h3 := h.n
 have h4 := I0 (D2 (n := c.n) (by omega))
 simp only [u9, List.length_append]; omega
theorem bp9 {x : SHeld} (h : HeldOk x) : (E2 x).length ≤ 2000100000 := by
 have h1 := aj6 h.batch
 have h2 := bo0 h.cert
 rw [E2, List.length_append]; omega
theorem aA_ {s : Nat → SHeld} : ∀ {n : Nat}, (∀ k, k < n → HeldOk (s k)) → (m6 s n).length ≤ 2000100000 * n
 | 0, _ => by simp [m6]
 | n + 1, h => by
  have := aA_ (n := n) fun k hk => h k (by omega)
  have := bp9 (h n (by omega))
  rw [m6, List.length_append]; omega
theorem bC6 {e : SEnv} (h : EnvOk e) : (I7 e).length ≤ 10000100 := by
 have h1 := I0 h.src
 have h2 := Q2 (s := e.body) (by have := h.body; omega)
 have h3 := aj0 h.tag
 have h4 := h.body
 simp only [I7, List.length_append]; omega
theorem aH8 {s : Nat → SEnv} : ∀ {n : Nat}, (∀ k, k < n → EnvOk (s k)) → (n9 s n).length ≤ 10000100 * n
 | 0, _ => by simp [n9]
 | n + 1, h => by
  have := aH8 (n := n) fun k hk => h k (by omega)
  have := bC6 (h n (by omega))
  rw [n9, List.length_append]; omega
theorem a_5 {l : List UInt8} {d : List Int} (hl : l.length ≤ 10000000000000) (h : SegOk 32 d) {w x m : Nat} (hn : [Nm.o w, Nm.o x, Nm.o m].Nodup) : T Tryz.prog 60 [.ptr (.o w) 0 0 0 0, .agg [.seg .u8 32 d]] (wr w x l) (.tup []) (wr w m (l ++ l9 d)) := by
 have h0 : T Tryz.prog 60 [.ptr (.o 0) 0 0 0 0, .agg [.seg .u8 32 d]] (wr 0 1 l) (.tup []) (wr 0 63 (l ++ l9 d)) := by
  refine f5 (bQ3 l d) Tryz.func60 ?_
  simp only [All]
  and_intros
  all_goals first | exact ce3 (by omega) h (by decide) | (simp [D8, r7, u9, E2, I7, List.append_assoc]; done)
 obtain ⟨σ, hσ, h1⟩ := T.at h0 [.o 0, .o 1, .o 63] [.o w, .o x, .o m] (by simp) hn rfl
 simp only [List.map_cons, List.map_nil, List.cons.injEq, and_true] at hσ
 simpa [V.rens, V.ren, sb, bs, wr, c5.ren, B.ren, hσ.1, hσ.2.1, hσ.2.2] using h1
theorem ct6 {l : List UInt8} {s : SSign} (hl : l.length ≤ 10000000000000) (h : SignOk s) {w x m : Nat} (hn : [Nm.o w, Nm.o x, Nm.o m].Nodup) : T Tryz.prog 64 [.ptr (.o w) 0 0 0 0, .agg s.c] (wr w x l) (.tup []) (wr w m (l ++ D8 s)) := by
 have h2 := I0 h.node
 have h0 : T Tryz.prog 64 [.ptr (.o 0) 0 0 0 0, .agg s.c] (wr 0 1 l) (.tup []) (wr 0 63 (l ++ D8 s)) := by
  refine f5 (bT1 l s) Tryz.func64 ?_
  simp only [All]
  and_intros
  all_goals first | exact aj4 (by omega) h.node (by decide) | exact ce5 (by first | omega | (simp only [List.length_append]; omega)) h.tag (by decide) | (simp [D8, r7, u9, E2, I7, List.append_assoc]; done)
 obtain ⟨σ, hσ, h1⟩ := T.at h0 [.o 0, .o 1, .o 63] [.o w, .o x, .o m] (by simp) hn rfl
 simp only [List.map_cons, List.map_nil, List.cons.injEq, and_true] at hσ
 simpa [V.rens, V.ren, SSign.c, sb, bs, wr, c5.ren, B.ren, hσ.1, hσ.2.1, hσ.2.2] using h1
theorem cr2 {l : List UInt8} {e : SEnv} (hl : l.length ≤ 10000000000000) (h : EnvOk e) {w x m : Nat} (hn : [Nm.o w, Nm.o x, Nm.o m].Nodup) : T Tryz.prog 59 [.ptr (.o w) 0 0 0 0, .agg e.c] (wr w x l) (.tup []) (wr w m (l ++ I7 e)) := by
 have h2 := I0 h.src
 have h3 := Q2 (s := e.body) (by have := h.body; omega)
 have h4 := h.body
 have h0 : T Tryz.prog 59 [.ptr (.o 0) 0 0 0 0, .agg e.c] (wr 0 1 l) (.tup []) (wr 0 63 (l ++ I7 e)) := by
  refine f5 (bQ4 l e) Tryz.func59 ?_
  simp only [All]
  and_intros
  all_goals first | exact aj4 (by omega) h.src (by decide) | exact bw3 (by first | omega | (simp only [List.length_append]; omega)) (by have := h.body; omega) (by decide) | exact ce4 (by first | omega | (simp only [List.length_append]; omega)) h.tag (by decide) | (simp [D8, r7, u9, E2, I7, List.append_assoc]; done)
 obtain ⟨σ, hσ, h1⟩ := T.at h0 [.o 0, .o 1, .o 63] [.o w, .o x, .o m] (by simp) hn rfl
 simp only [List.map_cons, List.map_nil, List.cons.injEq, and_true] at hσ
 simpa [V.rens, V.ren, SEnv.c, sb, bs, wr, c5.ren, B.ren, hσ.1, hσ.2.1, hσ.2.2] using h1
theorem br4 {v : SVote} (h : VoteOk v) : (c9 [v.kind, v.epoch, v.view, v.slot]).length ≤ 36 := by
 have h1 := m9 h.kind
 have h2 := m9 h.epoch
 have h3 := m9 h.view
 have h4 := m9 h.slot
 simp only [c9, List.length_append, List.length_nil]; omega
theorem a_9 {l : List UInt8} {v : SVote} (hl : l.length ≤ 9000000000000) (h : VoteOk v) {w x m : Nat} (hn : [Nm.o w, Nm.o x, Nm.o m].Nodup) : T Tryz.prog 55 [.ptr (.o w) 0 0 0 0, .agg v.c] (wr w x l) (.tup []) (wr w m (l ++ r7 v)) := by
 have e : l ++ r7 v = (l ++ c9 [v.kind, v.epoch, v.view, v.slot]) ++ l9 v.digest := by simp [r7]
 have h9 := br4 h
 have hT := a_5 (l := l ++ c9 [v.kind, v.epoch, v.view, v.slot]) (by rw [List.length_append]; omega) h.digest (w := 0) (x := 706) (m := 962) (by decide)
 rw [← e] at hT
 have h0 : T Tryz.prog 55 [.ptr (.o 0) 0 0 0 0, .agg v.c] (wr 0 1 l) (.tup []) (wr 0 63 (l ++ r7 v)) := by
  refine f5 (bT3 l v) Tryz.func55 ?_
  simp only [All]
  and_intros
  all_goals first | exact cs9 (by omega) h.kind h.epoch h.view h.slot (by decide) | exact hT | (simp [D8, r7, u9, E2, I7, List.append_assoc]; done)
 obtain ⟨σ, hσ, h1⟩ := T.at h0 [.o 0, .o 1, .o 63] [.o w, .o x, .o m] (by simp) hn rfl
 simp only [List.map_cons, List.map_nil, List.cons.injEq, and_true] at hσ
 simpa [V.rens, V.ren, SVote.c, sb, bs, wr, c5.ren, B.ren, hσ.1, hσ.2.1, hσ.2.2] using h1
theorem cq4 {l : List UInt8} {n : Nat} {s : Nat → SSign} (hl : l.length ≤ 5000000000000) (hn : n ≤ 1000) (h : ∀ k, k < n → SignOk (s k)) : i5 Tryz.prog none 2 (cB (cB (cR (cR (f8 Tryz.f63))))) (n + 1) (aw6 l n s 0) (.exit 0) (aw6 l n s n) :=
 i5.inv (aw6 l n s) n (fun k hk => by
  have h1 := am1 (n := k) fun j hj => h j (by omega)
  have h2 := I0 (D2 (n := n) (by omega))
  have hT := ct6 (l := l ++ (c9 [(n : Int)] ++ l8 s k)) (by simp only [List.length_append]; omega) (h k hk) (w := 0) (x := 63) (m := 512) (by decide)
  have e1 : l ++ (c9 [(n : Int)] ++ l8 s k) ++ D8 (s k) = l ++ (c9 [(n : Int)] ++ l8 s (k + 1)) := by simp [l8]
  rw [e1] at hT
  refine f9 NG MO _ (bG3 l n s k) ?_ (show 2 ≤ 64 by decide)
  simp only [All, Int.toNat_natCast]
  and_intros
  all_goals first | exact hT | (simp [hk, IntKind.min, IntKind.max, IntKind.signed, IntKind.bits] <;> omega))
  (f9 NG MO _ (bG2 l n s n) (by simp [All]) (show 2 ≤ 64 by decide)) (by simp)
theorem a_8 {l : List UInt8} {n : Nat} {s : Nat → SSign} (hl : l.length ≤ 5000000000000) (hnn : n ≤ 1000) (h : ∀ k, k < n → SignOk (s k)) {w x m : Nat} (hn : [Nm.o w, Nm.o x, Nm.o m].Nodup) : T Tryz.prog 63 [.ptr (.o w) 0 0 0 0, sg n s, .fn (.func 64) [.ptr (.o w) 0 0 0 0] []] (wr w x l) (.tup []) (wr w m (l ++ (c9 [(n : Int)] ++ l8 s n))) := by
 have h0 : T Tryz.prog 63 [.ptr (.o 0) 0 0 0 0, sg n s, .fn (.func 64) [.ptr (.o 0) 0 0 0 0] []] (wr 0 1 l) (.tup []) (wr 0 63 (l ++ (c9 [(n : Int)] ++ l8 s n))) := by
  refine f5 (bS2 l n s) Tryz.func63 ?_
  simp only [All]
  and_intros
  all_goals first | exact aj4 (by omega) (D2 (n := n) (by omega)) (by decide) | exact cq4 hl hnn h | (simp [l8]; done)
 obtain ⟨σ, hσ, h1⟩ := T.at h0 [.o 0, .o 1, .o 63] [.o w, .o x, .o m] (by simp) hn rfl
 simp only [List.map_cons, List.map_nil, List.cons.injEq, and_true] at hσ
 simpa [V.rens, V.ren, sg, sb, bs, wr, c5.ren, B.ren, hσ.1, hσ.2.1, hσ.2.2] using h1
theorem a_4 {l : List UInt8} {c : SCert} (hl : l.length ≤ 4000000000000) (h : CertOk c) {w x m : Nat} (hn : [Nm.o w, Nm.o x, Nm.o m].Nodup) : T Tryz.prog 61 [.ptr (.o w) 0 0 0 0, .agg c.c] (wr w x l) (.tup []) (wr w m (l ++ u9 c)) := by
 have h2 := aJ6 h.vote
 have h0 : T Tryz.prog 61 [.ptr (.o 0) 0 0 0 0, .agg c.c] (wr 0 1 l) (.tup []) (wr 0 63 (l ++ u9 c)) := by
  refine f5 (bQ1 l c) Tryz.func61 ?_
  simp only [All]
  and_intros
  all_goals first | exact a_9 (by omega) h.vote (by decide) | exact a_8 (by first | omega | (simp only [List.length_append]; omega)) h.n h.sig (by decide) | (simp [D8, r7, u9, E2, I7, List.append_assoc]; done)
 obtain ⟨σ, hσ, h1⟩ := T.at h0 [.o 0, .o 1, .o 63] [.o w, .o x, .o m] (by simp) hn rfl
 simp only [List.map_cons, List.map_nil, List.cons.injEq, and_true] at hσ
 simpa [V.rens, V.ren, SCert.c, SVote.c, sg, sb, bs, wr, c5.ren, B.ren, hσ.1, hσ.2.1, hσ.2.2] using h1
theorem cs4 {l : List UInt8} {h : SHeld} (hl : l.length ≤ 1000000000000) (hh : HeldOk h) {w x m : Nat} (hn : [Nm.o w, Nm.o x, Nm.o m].Nodup) : T Tryz.prog 57 [.ptr (.o w) 0 0 0 0, .agg h.c] (wr w x l) (.tup []) (wr w m (l ++ E2 h)) := by
 have h2 := aj6 hh.batch
 have h0 : T Tryz.prog 57 [.ptr (.o 0) 0 0 0 0, .agg h.c] (wr 0 1 l) (.tup []) (wr 0 63 (l ++ E2 h)) := by
  refine f5 (bR1 l h) Tryz.func57 ?_
  simp only [All]
  and_intros
  all_goals first | exact aN7 (by omega) hh.batch (by decide) | exact a_4 (by first | omega | (simp only [List.length_append]; omega)) hh.cert (by decide) | (simp [D8, r7, u9, E2, I7, List.append_assoc]; done)
 obtain ⟨σ, hσ, h1⟩ := T.at h0 [.o 0, .o 1, .o 63] [.o w, .o x, .o m] (by simp) hn rfl
 simp only [List.map_cons, List.map_nil, List.cons.injEq, and_true] at hσ
 simpa [V.rens, V.ren, SHeld.c, SBatch.c, SCert.c, SVote.c, rq, sg, sb, bs, wr, c5.ren, B.ren, hσ.1, hσ.2.1, hσ.2.2] using h1
theorem cq2 {l : List UInt8} {n : Nat} {s : Nat → SHeld} (hlen : l.length ≤ 500000000000) (hn : n ≤ 100) (h : ∀ k, k < n → HeldOk (s k)) : i5 Tryz.prog none 2 (cB (cB (cR (cR (f8 Tryz.f56))))) (n + 1) (aw4 l n s 0) (.exit 0) (aw4 l n s n) :=
 i5.inv (aw4 l n s) n (fun k hk => by
  have h1 := aA_ (n := k) fun j hj => h j (by omega)
  have h2 := I0 (D2 (n := n) (by omega))
  have hT := cs4 (l := l ++ (c9 [(n : Int)] ++ m6 s k)) (by simp only [List.length_append]; omega) (h k hk) (w := 0) (x := 63) (m := 512) (by decide)
  have e1 : l ++ (c9 [(n : Int)] ++ m6 s k) ++ E2 (s k) = l ++ (c9 [(n : Int)] ++ m6 s (k + 1)) := by simp [m6]
  rw [e1] at hT
  refine f9 NG MO _ (bF_ l n s k) ?_ (show 2 ≤ 64 by decide)
  simp only [All, Int.toNat_natCast]
  and_intros
  all_goals first | exact hT | (simp [hk, IntKind.min, IntKind.max, IntKind.signed, IntKind.bits] <;> omega))
  (f9 NG MO _ (bF9 l n s n) (by simp [All]) (show 2 ≤ 64 by decide)) (by simp)
theorem bK2 {l : List UInt8} {n : Nat} {s : Nat → SHeld} (hlen : l.length ≤ 500000000000) (hnn : n ≤ 100) (h : ∀ k, k < n → HeldOk (s k)) {w x m : Nat} (hn : [Nm.o w, Nm.o x, Nm.o m].Nodup) : T Tryz.prog 56 [.ptr (.o w) 0 0 0 0, hl n s, .fn (.func 57) [.ptr (.o w) 0 0 0 0] []] (wr w x l) (.tup []) (wr w m (l ++ (c9 [(n : Int)] ++ m6 s n))) := by
 have h0 : T Tryz.prog 56 [.ptr (.o 0) 0 0 0 0, hl n s, .fn (.func 57) [.ptr (.o 0) 0 0 0 0] []] (wr 0 1 l) (.tup []) (wr 0 63 (l ++ (c9 [(n : Int)] ++ m6 s n))) := by
  refine f5 (bS0 l n s) Tryz.func56 ?_
  simp only [All]
  and_intros
  all_goals first | exact aj4 (by omega) (D2 (n := n) (by omega)) (by decide) | exact cq2 hlen hnn h | (simp [m6]; done)
 obtain ⟨σ, hσ, h1⟩ := T.at h0 [.o 0, .o 1, .o 63] [.o w, .o x, .o m] (by simp) hn rfl
 simp only [List.map_cons, List.map_nil, List.cons.injEq, and_true] at hσ
 simpa [V.rens, V.ren, hl, sb, bs, wr, c5.ren, B.ren, hσ.1, hσ.2.1, hσ.2.2] using h1
theorem cq3 {l : List UInt8} {n : Nat} {s : Nat → SEnv} (hl : l.length ≤ 500000000000) (hn : n ≤ 1000) (h : ∀ k, k < n → EnvOk (s k)) : i5 Tryz.prog none 2 (cB (cB (cR (cR (f8 Tryz.f58))))) (n + 1) (aw5 l n s 0) (.exit 0) (aw5 l n s n) :=
 i5.inv (aw5 l n s) n (fun k hk => by
  have h1 := aH8 (n := k) fun j hj => h j (by omega)
  have h2 := I0 (D2 (n := n) (by omega))
  have hT := cr2 (l := l ++ (c9 [(n : Int)] ++ n9 s k)) (by simp only [List.length_append]; omega) (h k hk) (w := 0) (x := 63) (m := 512) (by decide)
  have e1 : l ++ (c9 [(n : Int)] ++ n9 s k) ++ I7 (s k) = l ++ (c9 [(n : Int)] ++ n9 s (k + 1)) := by simp [n9]
  rw [e1] at hT
  refine f9 NG MO _ (bG1 l n s k) ?_ (show 2 ≤ 64 by decide)
  simp only [All, Int.toNat_natCast]
  and_intros
  all_goals first | exact hT | (simp [hk, IntKind.min, IntKind.max, IntKind.signed, IntKind.bits] <;> omega))
  (f9 NG MO _ (bG0 l n s n) (by simp [All]) (show 2 ≤ 64 by decide)) (by simp)
theorem bK3 {l : List UInt8} {n : Nat} {s : Nat → SEnv} (hl : l.length ≤ 500000000000) (hnn : n ≤ 1000) (h : ∀ k, k < n → EnvOk (s k)) {w x m : Nat} (hn : [Nm.o w, Nm.o x, Nm.o m].Nodup) : T Tryz.prog 58 [.ptr (.o w) 0 0 0 0, nw n s, .fn (.func 59) [.ptr (.o w) 0 0 0 0] []] (wr w x l) (.tup []) (wr w m (l ++ (c9 [(n : Int)] ++ n9 s n))) := by
 have h0 : T Tryz.prog 58 [.ptr (.o 0) 0 0 0 0, nw n s, .fn (.func 59) [.ptr (.o 0) 0 0 0 0] []] (wr 0 1 l) (.tup []) (wr 0 63 (l ++ (c9 [(n : Int)] ++ n9 s n))) := by
  refine f5 (bS1 l n s) Tryz.func58 ?_
  simp only [All]
  and_intros
  all_goals first | exact aj4 (by omega) (D2 (n := n) (by omega)) (by decide) | exact cq3 hl hnn h | (simp [n9]; done)
 obtain ⟨σ, hσ, h1⟩ := T.at h0 [.o 0, .o 1, .o 63] [.o w, .o x, .o m] (by simp) hn rfl
 simp only [List.map_cons, List.map_nil, List.cons.injEq, and_true] at hσ
 simpa [V.rens, V.ren, nw, sb, bs, wr, c5.ren, B.ren, hσ.1, hσ.2.1, hσ.2.2] using h1
def j5 (n m : Int) : Bool := decide (0 ≤ n) && decide (n ≤ m)
def A0 (r : SReq) : Bool := j5 r.client 8 && (j5 r.num 1099511627776 && decide (r.data.size ≤ 64))
def u7 (v : SVote) : Bool := (decide (v.kind = 1) || decide (v.kind = 2)) && (j5 v.epoch 1048576 && (j5 v.view 1099511627776 && j5 v.slot 1099511627776))
def r8 (s : SSign) : Bool := j5 s.node 64
def u0 (n most : Nat) (p : Nat → Bool) : Bool := decide (n ≤ most) && decide (∀ i, i < n → p i = true)
def A2 (c : SCert) : Bool := u7 c.vote && u0 c.n 64 (fun i => r8 (c.sig i))
def p8 (b : SBatch) : Bool := !(b.noop && decide (0 < b.n)) && u0 b.n 4 (fun i => A0 (b.req i))
def z8 (h : SHeld) : Bool := p8 h.batch && A2 h.cert
def u4 (e : SEnv) : Bool := j5 e.src 64 && decide (e.body.size ≤ 4194304)
def w9 (m : SMsg) : Bool := j5 m.cepoch 1048576 && (j5 m.cleader 64 && (j5 m.cview 1099511627776 && u0 m.nheld 4 (fun i => z8 (m.held i))))
def ao7 : Nat → List V → c5 → Nat → List Cl
 | 90, [.int _ n, .int _ m], _, _ => [{ val := .bool (j5 n m) }]
 | _, _, _, _ => []
def dbV (l : List (Nat × V)) : Nat → List V → c5 → Nat → List Cl := fun k args h lo => match ao7 k args h lo with
 | [] => match ak8 l k with
  | some v => [{ val := v }]
  | none => []
 | r => r
noncomputable def bm_ (n m : Int) : Bd := { f := Tryz.f90, args := [.int .i64 n, .int .i64 m], kb := kb0 }
noncomputable def by6 (r : SReq) : Bd := { f := Tryz.f132, args := [.agg r.c], kb := { db := ao7 } }
noncomputable def au7 (v : SVote) : Bd := { f := Tryz.f88, args := [.agg v.c], kb := { db := ao7 } }
noncomputable def bdMS (s : SSign) : Bd := { f := Tryz.f96, args := [.agg s.c], kb := { db := ao7 } }
noncomputable def ch8 (e : SEnv) : Bd := { f := Tryz.f94, args := [.agg e.c], kb := { db := ao7 } }
noncomputable def ch7 (c : SCert) : Bd := { f := Tryz.f89, args := [.agg c.c], kb := { db := dbV [(88, .bool (u7 c.vote)), (95, .bool (u0 c.n 64 (fun i => r8 (c.sig i))))] } }
noncomputable def by2 (b : SBatch) : Bd := { f := Tryz.f91, args := [.agg b.c], kb := { db := dbV [(131, .bool (u0 b.n 4 (fun i => A0 (b.req i))))] } }
noncomputable def ch9 (h : SHeld) : Bd := { f := Tryz.f134, args := [.agg h.c], kb := { db := dbV [(91, .bool (p8 h.batch)), (89, .bool (A2 h.cert))] } }
def chC (m : SMsg) : List V := [.int .i64 m.cepoch, .int .i64 m.cleader, .int .i64 m.cview, hl m.nheld m.held]
noncomputable def bb4 (m : SMsg) : Bd := { f := Tryz.f92, args := [.agg (chC m)], kb := { db := dbV [(133, .bool (u0 m.nheld 4 (fun i => z8 (m.held i))))] } }
def alI (v : V) (n : Nat) (isf k : Nat) : St := ⟨mkT 24 [(2, .fn (.func isf) [] []), (13, v), (14, .int .i64 n), (15, .int .i64 k)], [], 0, []⟩
def alF : St := ⟨mkT 24 [(6, .bool false)], [], 0, []⟩
noncomputable def ba2 (f : Func) (v : V) (n : Nat) (most : Int) (isf m : Nat) : Bd := { f := f, args := [v, .int .i64 most, .fn (.func isf) [] []], kb := { db := fun _ _ _ _ => [], lp := fun _ _ => [(True, .loop (n + 1) (wTo (alI v n isf 0)) (.exit 0) (alI v n isf n)), (True, .loop (m + 1) (wTo (alI v n isf 0)) .ret alF)] } }
noncomputable def be8 (f : Func) (v : V) (n isf k : Nat) (p : Bool) : Pc := { c := cB (cB (cR (cL (cR (cR (f8 f)))))), st := alI v n isf k, kb := { db := fun _ _ _ _ => [{ val := .bool p }] }, k := fun e _ => match e with
 | .normal => some (wTo (alI v n isf (k + 1)))
 | .ret => some (wTo alF)
 | _ => some (wTo (alI v n isf n)) }
noncomputable def az4 (n : Nat) (r : Nat → SReq) (most : Int) (m : Nat) : Bd := ba2 Tryz.f131 (rq n r) n most 132 m
noncomputable def bf0 (n : Nat) (r : Nat → SReq) (k : Nat) : Pc := be8 Tryz.f131 (rq n r) n 132 k (A0 (r k))
noncomputable def az5 (n : Nat) (r : Nat → SSign) (most : Int) (m : Nat) : Bd := ba2 Tryz.f95 (sg n r) n most 96 m
noncomputable def bf1 (n : Nat) (r : Nat → SSign) (k : Nat) : Pc := be8 Tryz.f95 (sg n r) n 96 k (r8 (r k))
noncomputable def az3 (n : Nat) (r : Nat → SHeld) (most : Int) (m : Nat) : Bd := ba2 Tryz.f133 (hl n r) n most 134 m
noncomputable def be_ (n : Nat) (r : Nat → SHeld) (k : Nat) : Pc := be8 Tryz.f133 (hl n r) n 134 k (z8 (r k))
noncomputable def az2 (n : Nat) (r : Nat → SEnv) (most : Int) (m : Nat) : Bd := ba2 Tryz.f93 (nw n r) n most 94 m
noncomputable def be9 (n : Nat) (r : Nat → SEnv) (k : Nat) : Pc := be8 Tryz.f93 (nw n r) n 94 k (u4 (r k))
theorem bn1 (n : Int) (m : Int) :
  f4 zp (bm_ n m) [true] = (some (.bool (decide (n ≤ m)), [], [decide ((0 : Int) ≤ n) = true]) : Option (V × c5 × List Prop)) := by kernel_rfl
theorem bn0 (n : Int) (m : Int) :
  f4 zp (bm_ n m) [false] = (some (.bool false, [], [decide ((0 : Int) ≤ n) = false]) : Option (V × c5 × List Prop)) := by kernel_rfl
theorem by9 (r : SReq) :
  f4 zp (by6 r) [true, true] = (some (.bool (decide ((↑(ByteArray.size (SReq.data r)) : Int) ≤ (64 : Int))), [], [T zp 90 [.int .i64 (SReq.client r), .int .i64 8] [] (.bool (j5 (SReq.client r) (8 : Int))) [], j5 (SReq.client r) (8 : Int) = true, T zp 90 [.int .i64 (SReq.num r), .int .i64 1099511627776] [] (.bool (j5 (SReq.num r) (1099511627776 : Int))) [], j5 (SReq.num r) (1099511627776 : Int) = true]) : Option (V × c5 × List Prop)) := by kernel_rfl
theorem by8 (r : SReq) :
  f4 zp (by6 r) [true, false] = (some (.bool false, [], [T zp 90 [.int .i64 (SReq.client r), .int .i64 8] [] (.bool (j5 (SReq.client r) (8 : Int))) [], j5 (SReq.client r) (8 : Int) = true, T zp 90 [.int .i64 (SReq.num r), .int .i64 1099511627776] [] (.bool (j5 (SReq.num r) (1099511627776 : Int))) [], j5 (SReq.num r) (1099511627776 : Int) = false]) : Option (V × c5 × List Prop)) := by kernel_rfl
theorem by7 (r : SReq) :
  f4 zp (by6 r) [false, false] = (some (.bool false, [], [T zp 90 [.int .i64 (SReq.client r), .int .i64 8] [] (.bool (j5 (SReq.client r) (8 : Int))) [], j5 (SReq.client r) (8 : Int) = false, q false]) : Option (V × c5 × List Prop)) := by kernel_rfl
noncomputable def F5 (v : SVote) : Nat → List Prop
 | 0 => [decide (SVote.kind v = (1 : Int)) = true, q2, T zp 90 [.int .i64 (SVote.epoch v), .int .i64 1048576] [] (.bool (j5 (SVote.epoch v) (1048576 : Int))) []]
 | 1 => [j5 (SVote.epoch v) (1048576 : Int) = true, T zp 90 [.int .i64 (SVote.view v), .int .i64 1099511627776] [] (.bool (j5 (SVote.view v) (1099511627776 : Int))) []]
 | 2 => [decide (SVote.kind v = (2 : Int)) = true, T zp 90 [.int .i64 (SVote.epoch v), .int .i64 1048576] [] (.bool (j5 (SVote.epoch v) (1048576 : Int))) []]
 | 3 => [j5 (SVote.epoch v) (1048576 : Int) = true, T zp 90 [.int .i64 (SVote.view v), .int .i64 1099511627776] [] (.bool (j5 (SVote.view v) (1099511627776 : Int))) []]
 | _ => []
theorem bc0 (v : SVote) :
 f4 zp (au7 v) [true, true, true, true] = (some (.bool (j5 (SVote.slot v) (1099511627776 : Int)), [], F5 v 0 ++ (F5 v 1 ++ [j5 (SVote.view v) (1099511627776 : Int) = true, T zp 90 [.int .i64 (SVote.slot v), .int .i64 1099511627776] [] (.bool (j5 (SVote.slot v) (1099511627776 : Int))) []])) : Option (V × c5 × List Prop)) := by kernel_rfl
theorem bb_ (v : SVote) :
 f4 zp (au7 v) [true, true, true, false] = (some (.bool false, [], F5 v 0 ++ (F5 v 1 ++ [j5 (SVote.view v) (1099511627776 : Int) = false])) : Option (V × c5 × List Prop)) := by kernel_rfl
theorem bb9 (v : SVote) :
 f4 zp (au7 v) [true, true, false, false] = (some (.bool false, [], F5 v 0 ++ [j5 (SVote.epoch v) (1048576 : Int) = false, q false]) : Option (V × c5 × List Prop)) := by kernel_rfl
theorem bb8 (v : SVote) :
 f4 zp (au7 v) [false, true, true, true] = (some (.bool (j5 (SVote.slot v) (1099511627776 : Int)), [], [decide (SVote.kind v = (1 : Int)) = false] ++ (F5 v 2 ++ (F5 v 3 ++ [j5 (SVote.view v) (1099511627776 : Int) = true, T zp 90 [.int .i64 (SVote.slot v), .int .i64 1099511627776] [] (.bool (j5 (SVote.slot v) (1099511627776 : Int))) []]))) : Option (V × c5 × List Prop)) := by kernel_rfl
theorem bb7 (v : SVote) :
 f4 zp (au7 v) [false, true, true, false] = (some (.bool false, [], [decide (SVote.kind v = (1 : Int)) = false] ++ (F5 v 2 ++ (F5 v 3 ++ [j5 (SVote.view v) (1099511627776 : Int) = false]))) : Option (V × c5 × List Prop)) := by kernel_rfl
theorem bb6 (v : SVote) :
 f4 zp (au7 v) [false, true, false, false] = (some (.bool false, [], [decide (SVote.kind v = (1 : Int)) = false] ++ (F5 v 2 ++ [j5 (SVote.epoch v) (1048576 : Int) = false, q false])) : Option (V × c5 × List Prop)) := by kernel_rfl
theorem bb5 (v : SVote) :
 f4 zp (au7 v) [false, false, false, false] = (some (.bool false, [], [decide (SVote.kind v = (1 : Int)) = false, decide (SVote.kind v = (2 : Int)) = false, q false, q false]) : Option (V × c5 × List Prop)) := by kernel_rfl
theorem ch_ (s : SSign) :
  f4 zp (bdMS s) [] = (some (.bool (j5 (SSign.node s) (64 : Int)), [], [T zp 90 [.int .i64 (SSign.node s), .int .i64 64] [] (.bool (j5 (SSign.node s) (64 : Int))) []]) : Option (V × c5 × List Prop)) := by kernel_rfl
theorem bR6 (e : SEnv) :
  f4 zp (ch8 e) [true] = (some (.bool (decide ((↑(ByteArray.size (SEnv.body e)) : Int) ≤ (4194304 : Int))), [], [T zp 90 [.int .i64 (SEnv.src e), .int .i64 64] [] (.bool (j5 (SEnv.src e) (64 : Int))) [], j5 (SEnv.src e) (64 : Int) = true]) : Option (V × c5 × List Prop)) := by kernel_rfl
theorem bR5 (e : SEnv) :
  f4 zp (ch8 e) [false] = (some (.bool false, [], [T zp 90 [.int .i64 (SEnv.src e), .int .i64 64] [] (.bool (j5 (SEnv.src e) (64 : Int))) [], j5 (SEnv.src e) (64 : Int) = false]) : Option (V × c5 × List Prop)) := by kernel_rfl
theorem bR4 (c : SCert) :
  f4 zp (ch7 c) [true] = (some (.bool (u0 (SCert.n c) 64 fun i => r8 (SCert.sig c i)), [], [T zp 88 [.agg (SVote.c (SCert.vote c))] [] (.bool (u7 (SCert.vote c))) [], u7 (SCert.vote c) = true, T zp 95 [.ros 17 (SCert.n c) (fun i => SSign.c (SCert.sig c i)) false, .int .i64 64, .fn (.func 96) [] []] [] (.bool (u0 (SCert.n c) 64 fun i => r8 (SCert.sig c i))) []]) : Option (V × c5 × List Prop)) := by kernel_rfl
theorem bR3 (c : SCert) :
  f4 zp (ch7 c) [false] = (some (.bool false, [], [T zp 88 [.agg (SVote.c (SCert.vote c))] [] (.bool (u7 (SCert.vote c))) [], u7 (SCert.vote c) = false]) : Option (V × c5 × List Prop)) := by kernel_rfl
theorem by5 (b : SBatch) :
  f4 zp (by2 b) [true, true] = (some (.bool (u0 (SBatch.n b) 4 fun i => A0 (SBatch.req b i)), [], [SBatch.noop b = true, (!decide ((0 : Int) < (↑(SBatch.n b) : Int))) = true, T zp 131 [.ros 19 (SBatch.n b) (fun i => SReq.c (SBatch.req b i)) false, .int .i64 4, .fn (.func 132) [] []] [] (.bool (u0 (SBatch.n b) 4 fun i => A0 (SBatch.req b i))) []]) : Option (V × c5 × List Prop)) := by kernel_rfl
theorem by4 (b : SBatch) :
  f4 zp (by2 b) [true, false] = (some (.bool false, [], [SBatch.noop b = true, (!decide ((0 : Int) < (↑(SBatch.n b) : Int))) = false]) : Option (V × c5 × List Prop)) := by kernel_rfl
theorem by3 (b : SBatch) :
  f4 zp (by2 b) [false, true] = (some (.bool (u0 (SBatch.n b) 4 fun i => A0 (SBatch.req b i)), [], [SBatch.noop b = false, q2, T zp 131 [.ros 19 (SBatch.n b) (fun i => SReq.c (SBatch.req b i)) false, .int .i64 4, .fn (.func 132) [] []] [] (.bool (u0 (SBatch.n b) 4 fun i => A0 (SBatch.req b i))) []]) : Option (V × c5 × List Prop)) := by kernel_rfl
theorem bR8 (h : SHeld) :
  f4 zp (ch9 h) [true] = (some (.bool (A2 (SHeld.cert h)), [], [T zp 91 [.agg (SBatch.c (SHeld.batch h))] [] (.bool (p8 (SHeld.batch h))) [], p8 (SHeld.batch h) = true, T zp 89 [.agg [.int .i64 (SVote.kind (SCert.vote (SHeld.cert h))), .int .i64 (SVote.epoch (SCert.vote (SHeld.cert h))), .int .i64 (SVote.view (SCert.vote (SHeld.cert h))), .int .i64 (SVote.slot (SCert.vote (SHeld.cert h))), .seg .u8 32 (SVote.digest (SCert.vote (SHeld.cert h))), sg (SCert.n (SHeld.cert h)) (SCert.sig (SHeld.cert h))]] [] (.bool (A2 (SHeld.cert h))) []]) : Option (V × c5 × List Prop)) := by kernel_rfl
theorem bR7 (h : SHeld) :
  f4 zp (ch9 h) [false] = (some (.bool false, [], [T zp 91 [.agg (SBatch.c (SHeld.batch h))] [] (.bool (p8 (SHeld.batch h))) [], p8 (SHeld.batch h) = false]) : Option (V × c5 × List Prop)) := by kernel_rfl
noncomputable def L8 (m : SMsg) : Nat → List Prop
 | 0 => [T zp 90 [.int .i64 (SMsg.cepoch m), .int .i64 1048576] [] (.bool (j5 (SMsg.cepoch m) (1048576 : Int))) []]
 | 1 => [j5 (SMsg.cepoch m) (1048576 : Int) = true, T zp 90 [.int .i64 (SMsg.cleader m), .int .i64 64] [] (.bool (j5 (SMsg.cleader m) (64 : Int))) []]
 | 2 => [j5 (SMsg.cleader m) (64 : Int) = true, T zp 90 [.int .i64 (SMsg.cview m), .int .i64 1099511627776] [] (.bool (j5 (SMsg.cview m) (1099511627776 : Int))) []]
 | _ => []
theorem bk7 (m : SMsg) :
 f4 zp (bb4 m) [true, true, true] = (some (.bool (u0 (SMsg.nheld m) 4 fun i => z8 (SMsg.held m i)), [], L8 m 0 ++ (L8 m 1 ++ (L8 m 2 ++ [j5 (SMsg.cview m) (1099511627776 : Int) = true, T zp 133 [.ros 39 (SMsg.nheld m) (fun i => SHeld.c (SMsg.held m i)) false, .int .i64 4, .fn (.func 134) [] []] [] (.bool (u0 (SMsg.nheld m) 4 fun i => z8 (SMsg.held m i))) []]))) : Option (V × c5 × List Prop)) := by kernel_rfl
theorem bk6 (m : SMsg) :
 f4 zp (bb4 m) [true, true, false] = (some (.bool false, [], L8 m 0 ++ (L8 m 1 ++ (L8 m 2 ++ [j5 (SMsg.cview m) (1099511627776 : Int) = false]))) : Option (V × c5 × List Prop)) := by kernel_rfl
theorem bk5 (m : SMsg) :
 f4 zp (bb4 m) [true, false, false] = (some (.bool false, [], L8 m 0 ++ (L8 m 1 ++ [j5 (SMsg.cleader m) (64 : Int) = false, q false])) : Option (V × c5 × List Prop)) := by kernel_rfl
theorem bk4 (m : SMsg) :
 f4 zp (bb4 m) [false, false, false] = (some (.bool false, [], L8 m 0 ++ [j5 (SMsg.cepoch m) (1048576 : Int) = false, q false, q false]) : Option (V × c5 × List Prop)) := by kernel_rfl
theorem bw_ (n : Nat) (r : Nat → SReq) (most : Int) (m : Nat) :
  f4 zp (az4 n r most m) [true] = (some (.bool false, [], [decide (most < (↑n : Int)) = true]) : Option (V × c5 × List Prop)) := by kernel_rfl
theorem bi9 (n : Nat) (r : Nat → SReq) (most : Int) (m : Nat) :
  f4 zp (az4 n r most m) [false, true] = (some (.bool true, [], [decide (most < (↑n : Int)) = false, i5 zp none 0 (cB (cB (cR (cL (cR (cR (f8 (Bd.f (az4 n r most m))))))))) (n + 1) (St.mk (mkT 24 [(2, .fn (.func 132) [] []), (13, .ros 19 n (fun i => SReq.c (r i)) false), (14, .int .i64 ↑n), (15, .int .i64 0)]) [] 0 []) (.exit 0) (St.mk (mkT 24 [(2, .fn (.func 132) [] []), (13, .ros 19 n (fun i => SReq.c (r i)) false), (14, .int .i64 ↑n), (15, .int .i64 ↑n)]) [] 0 []), q n, ∀ (k : Nat), k < n → SReq.c (r k) = SReq.c (r k), false = true → false = true, q (↑n : Int), q1]) : Option (V × c5 × List Prop)) := by kernel_rfl
theorem bi8 (n : Nat) (r : Nat → SReq) (most : Int) (m : Nat) :
  f4 zp (az4 n r most m) [false, false] = (some (.bool false, [], [decide (most < (↑n : Int)) = false, i5 zp none 0 (cB (cB (cR (cL (cR (cR (f8 (Bd.f (az4 n r most m))))))))) (m + 1) (St.mk (mkT 24 [(2, .fn (.func 132) [] []), (13, .ros 19 n (fun i => SReq.c (r i)) false), (14, .int .i64 ↑n), (15, .int .i64 0)]) [] 0 []) .ret (St.mk (mkT 24 [(6, .bool false)]) [] 0 []), q n, ∀ (k : Nat), k < n → SReq.c (r k) = SReq.c (r k), false = true → false = true, q (↑n : Int), q1]) : Option (V × c5 × List Prop)) := by kernel_rfl
theorem bs2 (n : Nat) (r : Nat → SReq) (k : Nat) :
  i6 zp (bf0 n r k) [true, true] = (some (.ret, St.mk (mkT 24 [(6, .bool false)]) [] 0 [], [decide ((↑k : Int) < (↑n : Int)) = true, (0 : Int) ≤ (↑k : Int) ∧ (↑k : Int) < (↑n : Int), T zp 132 [.agg (SReq.c (r (Int.toNat (↑k : Int))))] [] (.bool (A0 (r k))) [], (!A0 (r k)) = true, q false]) : Option (Exit × St × List Prop)) := by kernel_rfl
theorem bs1 (n : Nat) (r : Nat → SReq) (k : Nat) :
  i6 zp (bf0 n r k) [true, false] = (some (.normal, St.mk (mkT 24 [(2, .fn (.func 132) [] []), (13, .ros 19 n (fun i => SReq.c (r i)) false), (14, .int .i64 ↑n), (15, .int .i64 (↑(k + 1) : Int))]) [] 0 [], [decide ((↑k : Int) < (↑n : Int)) = true, (0 : Int) ≤ (↑k : Int) ∧ (↑k : Int) < (↑n : Int), T zp 132 [.agg (SReq.c (r (Int.toNat (↑k : Int))))] [] (.bool (A0 (r k))) [], (!A0 (r k)) = false, InR .i64 ((↑k : Int) + (1 : Int)), q n, ∀ (k : Nat), k < n → SReq.c (r k) = SReq.c (r k), false = true → false = true, q (↑n : Int), (↑k : Int) + (1 : Int) = (↑(k + (1 : Nat)) : Int)]) : Option (Exit × St × List Prop)) := by kernel_rfl
theorem bF2 (n : Nat) (r : Nat → SReq) (k : Nat) :
  i6 zp (bf0 n r k) [false] = (some (.exit 0, St.mk (mkT 24 [(2, .fn (.func 132) [] []), (13, .ros 19 n (fun i => SReq.c (r i)) false), (14, .int .i64 ↑n), (15, .int .i64 ↑n)]) [] 0 [], [decide ((↑k : Int) < (↑n : Int)) = false, q n, ∀ (k : Nat), k < n → SReq.c (r k) = SReq.c (r k), false = true → false = true, q (↑n : Int), (↑k : Int) = (↑n : Int)]) : Option (Exit × St × List Prop)) := by kernel_rfl
theorem bx0 (n : Nat) (r : Nat → SSign) (most : Int) (m : Nat) :
  f4 zp (az5 n r most m) [true] = (some (.bool false, [], [decide (most < (↑n : Int)) = true]) : Option (V × c5 × List Prop)) := by kernel_rfl
theorem bj0 (n : Nat) (r : Nat → SSign) (most : Int) (m : Nat) :
  f4 zp (az5 n r most m) [false, true] = (some (.bool true, [], [decide (most < (↑n : Int)) = false, i5 zp none 0 (cB (cB (cR (cL (cR (cR (f8 (Bd.f (az5 n r most m))))))))) (n + 1) (St.mk (mkT 24 [(2, .fn (.func 96) [] []), (13, .ros 17 n (fun i => SSign.c (r i)) false), (14, .int .i64 ↑n), (15, .int .i64 0)]) [] 0 []) (.exit 0) (St.mk (mkT 24 [(2, .fn (.func 96) [] []), (13, .ros 17 n (fun i => SSign.c (r i)) false), (14, .int .i64 ↑n), (15, .int .i64 ↑n)]) [] 0 []), q n, ∀ (k : Nat), k < n → SSign.c (r k) = SSign.c (r k), false = true → false = true, q (↑n : Int), q1]) : Option (V × c5 × List Prop)) := by kernel_rfl
theorem bi_ (n : Nat) (r : Nat → SSign) (most : Int) (m : Nat) :
  f4 zp (az5 n r most m) [false, false] = (some (.bool false, [], [decide (most < (↑n : Int)) = false, i5 zp none 0 (cB (cB (cR (cL (cR (cR (f8 (Bd.f (az5 n r most m))))))))) (m + 1) (St.mk (mkT 24 [(2, .fn (.func 96) [] []), (13, .ros 17 n (fun i => SSign.c (r i)) false), (14, .int .i64 ↑n), (15, .int .i64 0)]) [] 0 []) .ret (St.mk (mkT 24 [(6, .bool false)]) [] 0 []), q n, ∀ (k : Nat), k < n → SSign.c (r k) = SSign.c (r k), false = true → false = true, q (↑n : Int), q1]) : Option (V × c5 × List Prop)) := by kernel_rfl
theorem bs4 (n : Nat) (r : Nat → SSign) (k : Nat) :
  i6 zp (bf1 n r k) [true, true] = (some (.ret, St.mk (mkT 24 [(6, .bool false)]) [] 0 [], [decide ((↑k : Int) < (↑n : Int)) = true, (0 : Int) ≤ (↑k : Int) ∧ (↑k : Int) < (↑n : Int), T zp 96 [.agg (SSign.c (r (Int.toNat (↑k : Int))))] [] (.bool (r8 (r k))) [], (!r8 (r k)) = true, q false]) : Option (Exit × St × List Prop)) := by kernel_rfl
theorem bs3 (n : Nat) (r : Nat → SSign) (k : Nat) :
  i6 zp (bf1 n r k) [true, false] = (some (.normal, St.mk (mkT 24 [(2, .fn (.func 96) [] []), (13, .ros 17 n (fun i => SSign.c (r i)) false), (14, .int .i64 ↑n), (15, .int .i64 (↑(k + 1) : Int))]) [] 0 [], [decide ((↑k : Int) < (↑n : Int)) = true, (0 : Int) ≤ (↑k : Int) ∧ (↑k : Int) < (↑n : Int), T zp 96 [.agg (SSign.c (r (Int.toNat (↑k : Int))))] [] (.bool (r8 (r k))) [], (!r8 (r k)) = false, InR .i64 ((↑k : Int) + (1 : Int)), q n, ∀ (k : Nat), k < n → SSign.c (r k) = SSign.c (r k), false = true → false = true, q (↑n : Int), (↑k : Int) + (1 : Int) = (↑(k + (1 : Nat)) : Int)]) : Option (Exit × St × List Prop)) := by kernel_rfl
theorem bF3 (n : Nat) (r : Nat → SSign) (k : Nat) :
  i6 zp (bf1 n r k) [false] = (some (.exit 0, St.mk (mkT 24 [(2, .fn (.func 96) [] []), (13, .ros 17 n (fun i => SSign.c (r i)) false), (14, .int .i64 ↑n), (15, .int .i64 ↑n)]) [] 0 [], [decide ((↑k : Int) < (↑n : Int)) = false, q n, ∀ (k : Nat), k < n → SSign.c (r k) = SSign.c (r k), false = true → false = true, q (↑n : Int), (↑k : Int) = (↑n : Int)]) : Option (Exit × St × List Prop)) := by kernel_rfl
theorem bw9 (n : Nat) (r : Nat → SHeld) (most : Int) (m : Nat) :
  f4 zp (az3 n r most m) [true] = (some (.bool false, [], [decide (most < (↑n : Int)) = true]) : Option (V × c5 × List Prop)) := by kernel_rfl
theorem bi7 (n : Nat) (r : Nat → SHeld) (most : Int) (m : Nat) :
  f4 zp (az3 n r most m) [false, true] = (some (.bool true, [], [decide (most < (↑n : Int)) = false, i5 zp none 0 (cB (cB (cR (cL (cR (cR (f8 (Bd.f (az3 n r most m))))))))) (n + 1) (St.mk (mkT 24 [(2, .fn (.func 134) [] []), (13, .ros 39 n (fun i => SHeld.c (r i)) false), (14, .int .i64 ↑n), (15, .int .i64 0)]) [] 0 []) (.exit 0) (St.mk (mkT 24 [(2, .fn (.func 134) [] []), (13, .ros 39 n (fun i => SHeld.c (r i)) false), (14, .int .i64 ↑n), (15, .int .i64 ↑n)]) [] 0 []), q n, ∀ (k : Nat), k < n → SHeld.c (r k) = SHeld.c (r k), false = true → false = true, q (↑n : Int), q1]) : Option (V × c5 × List Prop)) := by kernel_rfl
theorem bi6 (n : Nat) (r : Nat → SHeld) (most : Int) (m : Nat) :
  f4 zp (az3 n r most m) [false, false] = (some (.bool false, [], [decide (most < (↑n : Int)) = false, i5 zp none 0 (cB (cB (cR (cL (cR (cR (f8 (Bd.f (az3 n r most m))))))))) (m + 1) (St.mk (mkT 24 [(2, .fn (.func 134) [] []), (13, .ros 39 n (fun i => SHeld.c (r i)) false), (14, .int .i64 ↑n), (15, .int .i64 0)]) [] 0 []) .ret (St.mk (mkT 24 [(6, .bool false)]) [] 0 []), q n, ∀ (k : Nat), k < n → SHeld.c (r k) = SHeld.c (r k), false = true → false = true, q (↑n : Int), q1]) : Option (V × c5 × List Prop)) := by kernel_rfl
noncomputable def aa6 (n : Nat) (r : Nat → SHeld) (k : Nat) : Nat → List Prop
 | 0 => [decide ((↑k : Int) < (↑n : Int)) = true, (0 : Int) ≤ (↑k : Int) ∧ (↑k : Int) < (↑n : Int), T zp 134 [.agg [.bool (SBatch.noop (SHeld.batch (r (Int.toNat (↑k : Int))))), rq (SBatch.n (SHeld.batch (r (Int.toNat (↑k : Int))))) (SBatch.req (SHeld.batch (r (Int.toNat (↑k : Int))))), .int .i64 (SVote.kind (SCert.vote (SHeld.cert (r (Int.toNat (↑k : Int)))))), .int .i64 (SVote.epoch (SCert.vote (SHeld.cert (r (Int.toNat (↑k : Int)))))), .int .i64 (SVote.view (SCert.vote (SHeld.cert (r (Int.toNat (↑k : Int)))))), .int .i64 (SVote.slot (SCert.vote (SHeld.cert (r (Int.toNat (↑k : Int)))))), .seg .u8 32 (SVote.digest (SCert.vote (SHeld.cert (r (Int.toNat (↑k : Int)))))), sg (SCert.n (SHeld.cert (r (Int.toNat (↑k : Int))))) (SCert.sig (SHeld.cert (r (Int.toNat (↑k : Int)))))]] [] (.bool (z8 (r k))) []]
 | _ => []
theorem bs0 (n : Nat) (r : Nat → SHeld) (k : Nat) :
 i6 zp (be_ n r k) [true, true] = (some (.ret, St.mk (mkT 24 [(6, .bool false)]) [] 0 [], aa6 n r k 0 ++ [(!z8 (r k)) = true, q false]) : Option (Exit × St × List Prop)) := by kernel_rfl
theorem br_ (n : Nat) (r : Nat → SHeld) (k : Nat) :
 i6 zp (be_ n r k) [true, false] = (some (.normal, St.mk (mkT 24 [(2, .fn (.func 134) [] []), (13, .ros 39 n (fun i => SHeld.c (r i)) false), (14, .int .i64 ↑n), (15, .int .i64 (↑(k + 1) : Int))]) [] 0 [], aa6 n r k 0 ++ [(!z8 (r k)) = false, InR .i64 ((↑k : Int) + (1 : Int)), q n, ∀ (k : Nat), k < n → SHeld.c (r k) = SHeld.c (r k), false = true → false = true, q (↑n : Int), (↑k : Int) + (1 : Int) = (↑(k + (1 : Nat)) : Int)]) : Option (Exit × St × List Prop)) := by kernel_rfl
theorem bF1 (n : Nat) (r : Nat → SHeld) (k : Nat) :
 i6 zp (be_ n r k) [false] = (some (.exit 0, St.mk (mkT 24 [(2, .fn (.func 134) [] []), (13, .ros 39 n (fun i => SHeld.c (r i)) false), (14, .int .i64 ↑n), (15, .int .i64 ↑n)]) [] 0 [], [decide ((↑k : Int) < (↑n : Int)) = false, q n, ∀ (k : Nat), k < n → SHeld.c (r k) = SHeld.c (r k), false = true → false = true, q (↑n : Int), (↑k : Int) = (↑n : Int)]) : Option (Exit × St × List Prop)) := by kernel_rfl
theorem bw8 (n : Nat) (r : Nat → SEnv) (most : Int) (m : Nat) :
  f4 zp (az2 n r most m) [true] = (some (.bool false, [], [decide (most < (↑n : Int)) = true]) : Option (V × c5 × List Prop)) := by kernel_rfl
theorem bi5 (n : Nat) (r : Nat → SEnv) (most : Int) (m : Nat) :
  f4 zp (az2 n r most m) [false, true] = (some (.bool true, [], [decide (most < (↑n : Int)) = false, i5 zp none 0 (cB (cB (cR (cL (cR (cR (f8 (Bd.f (az2 n r most m))))))))) (n + 1) (St.mk (mkT 24 [(2, .fn (.func 94) [] []), (13, .ros 18 n (fun i => SEnv.c (r i)) false), (14, .int .i64 ↑n), (15, .int .i64 0)]) [] 0 []) (.exit 0) (St.mk (mkT 24 [(2, .fn (.func 94) [] []), (13, .ros 18 n (fun i => SEnv.c (r i)) false), (14, .int .i64 ↑n), (15, .int .i64 ↑n)]) [] 0 []), q n, ∀ (k : Nat), k < n → SEnv.c (r k) = SEnv.c (r k), false = true → false = true, q (↑n : Int), q1]) : Option (V × c5 × List Prop)) := by kernel_rfl
theorem bi4 (n : Nat) (r : Nat → SEnv) (most : Int) (m : Nat) :
  f4 zp (az2 n r most m) [false, false] = (some (.bool false, [], [decide (most < (↑n : Int)) = false, i5 zp none 0 (cB (cB (cR (cL (cR (cR (f8 (Bd.f (az2 n r most m))))))))) (m + 1) (St.mk (mkT 24 [(2, .fn (.func 94) [] []), (13, .ros 18 n (fun i => SEnv.c (r i)) false), (14, .int .i64 ↑n), (15, .int .i64 0)]) [] 0 []) .ret (St.mk (mkT 24 [(6, .bool false)]) [] 0 []), q n, ∀ (k : Nat), k < n → SEnv.c (r k) = SEnv.c (r k), false = true → false = true, q (↑n : Int), q1]) : Option (V × c5 × List Prop)) := by kernel_rfl
theorem br9 (n : Nat) (r : Nat → SEnv) (k : Nat) :
  i6 zp (be9 n r k) [true, true] = (some (.ret, St.mk (mkT 24 [(6, .bool false)]) [] 0 [], [decide ((↑k : Int) < (↑n : Int)) = true, (0 : Int) ≤ (↑k : Int) ∧ (↑k : Int) < (↑n : Int), T zp 94 [.agg (SEnv.c (r (Int.toNat (↑k : Int))))] [] (.bool (u4 (r k))) [], (!u4 (r k)) = true, q false]) : Option (Exit × St × List Prop)) := by kernel_rfl
theorem br8 (n : Nat) (r : Nat → SEnv) (k : Nat) :
  i6 zp (be9 n r k) [true, false] = (some (.normal, St.mk (mkT 24 [(2, .fn (.func 94) [] []), (13, .ros 18 n (fun i => SEnv.c (r i)) false), (14, .int .i64 ↑n), (15, .int .i64 (↑(k + 1) : Int))]) [] 0 [], [decide ((↑k : Int) < (↑n : Int)) = true, (0 : Int) ≤ (↑k : Int) ∧ (↑k : Int) < (↑n : Int), T zp 94 [.agg (SEnv.c (r (Int.toNat (↑k : Int))))] [] (.bool (u4 (r k))) [], (!u4 (r k)) = false, InR .i64 ((↑k : Int) + (1 : Int)), q n, ∀ (k : Nat), k < n → SEnv.c (r k) = SEnv.c (r k), false = true → false = true, q (↑n : Int), (↑k : Int) + (1 : Int) = (↑(k + (1 : Nat)) : Int)]) : Option (Exit × St × List Prop)) := by kernel_rfl
theorem bF0 (n : Nat) (r : Nat → SEnv) (k : Nat) :
  i6 zp (be9 n r k) [false] = (some (.exit 0, St.mk (mkT 24 [(2, .fn (.func 94) [] []), (13, .ros 18 n (fun i => SEnv.c (r i)) false), (14, .int .i64 ↑n), (15, .int .i64 ↑n)]) [] 0 [], [decide ((↑k : Int) < (↑n : Int)) = false, q n, ∀ (k : Nat), k < n → SEnv.c (r k) = SEnv.c (r k), false = true → false = true, q (↑n : Int), (↑k : Int) = (↑n : Int)]) : Option (Exit × St × List Prop)) := by kernel_rfl
theorem Q8 (p : Nat → Prop) : ∀ n, ∃ m, m ≤ n ∧ (∀ k, k < m → p k) ∧ (m = n ∨ ¬ p m)
 | 0 => ⟨0, Nat.le_refl _, fun k h => absurd h (Nat.not_lt_zero k), .inl rfl⟩
 | n + 1 => by
  obtain ⟨m, h1, h2, h3⟩ := Q8 p n
  rcases h3 with rfl | h3
  ·by_cases h : p m
   ·refine ⟨m + 1, Nat.le_refl _, fun k hk => ?_, .inl rfl⟩
    rcases Nat.lt_or_ge k m with h4 | h4
    ·exact h2 k h4
    ·have : k = m := by omega
     subst this; exact h
   ·exact ⟨m, Nat.le_succ _, h2, .inr h⟩
  ·exact ⟨m, Nat.le_succ_of_le h1, h2, .inr h3⟩
theorem s7 (n m : Int) : T Tryz.prog 90 [.int .i64 n, .int .i64 m] [] (.bool (j5 n m)) [] := by
 by_cases h1 : 0 ≤ n
 ·refine T.bool (f5 (bn1 n m) Tryz.func90 ?_) (by simp [j5, h1] <;> omega)
  simp only [All]
  and_intros
  all_goals first | (simp [h1]; done)
 ·refine T.bool (f5 (bn0 n m) Tryz.func90 ?_) (by simp [j5, h1] <;> omega)
  simp only [All]
  and_intros
  all_goals first | (simp [h1]; done)
theorem cd2 (r : SReq) : T Tryz.prog 132 [.agg r.c] [] (.bool (A0 r)) [] := by
 by_cases h1 : j5 r.client 8 = true
 ·by_cases h2 : j5 r.num 1099511627776 = true
  ·refine T.bool (f5 (by9 r) Tryz.func132 ?_) (by simp [A0, h1, h2] <;> omega)
   simp only [All]
   and_intros
   all_goals first | exact s7 _ _ | (simp [h1, h2]; done)
  ·refine T.bool (f5 (by8 r) Tryz.func132 ?_) (by simp [A0, h1, h2] <;> omega)
   simp only [All]
   and_intros
   all_goals first | exact s7 _ _ | (simp [h1, h2]; done)
 ·refine T.bool (f5 (by7 r) Tryz.func132 ?_) (by simp [A0, h1] <;> omega)
  simp only [All]
  and_intros
  all_goals first | exact s7 _ _ | (simp [h1]; done)
theorem Y9 (v : SVote) : T Tryz.prog 88 [.agg v.c] [] (.bool (u7 v)) [] := by
 by_cases h1 : v.kind = 1
 ·by_cases h2 : j5 v.epoch 1048576 = true
  ·by_cases h3 : j5 v.view 1099511627776 = true
   ·refine T.bool (f5 (bc0 v) Tryz.func88 ?_) (by simp [u7, h1, h2, h3] <;> omega)
    simp only [All, f3, F5]
    and_intros
    all_goals first | exact s7 _ _ | (simp [h1, h2, h3]; done)
   ·refine T.bool (f5 (bb_ v) Tryz.func88 ?_) (by simp [u7, h1, h2, h3] <;> omega)
    simp only [All, f3, F5]
    and_intros
    all_goals first | exact s7 _ _ | (simp [h1, h2, h3]; done)
  ·refine T.bool (f5 (bb9 v) Tryz.func88 ?_) (by simp [u7, h1, h2] <;> omega)
   simp only [All, f3, F5]
   and_intros
   all_goals first | exact s7 _ _ | (simp [h1, h2]; done)
 ·by_cases h2 : v.kind = 2
  ·by_cases h3 : j5 v.epoch 1048576 = true
   ·by_cases h4 : j5 v.view 1099511627776 = true
    ·refine T.bool (f5 (bb8 v) Tryz.func88 ?_) (by simp [u7, h1, h2, h3, h4] <;> omega)
     simp only [All, f3, F5]
     and_intros
     all_goals first | exact s7 _ _ | (simp [h1, h2, h3, h4]; done)
    ·refine T.bool (f5 (bb7 v) Tryz.func88 ?_) (by simp [u7, h1, h2, h3, h4] <;> omega)
     simp only [All, f3, F5]
     and_intros
     all_goals first | exact s7 _ _ | (simp [h1, h2, h3, h4]; done)
   ·refine T.bool (f5 (bb6 v) Tryz.func88 ?_) (by simp [u7, h1, h2, h3] <;> omega)
    simp only [All, f3, F5]
    and_intros
    all_goals first | exact s7 _ _ | (simp [h1, h2, h3]; done)
  ·refine T.bool (f5 (bb5 v) Tryz.func88 ?_) (by simp [u7, h1, h2] <;> omega)
   simp only [All, f3, F5]
   and_intros
   all_goals first | (simp [h1, h2]; done)
theorem cd3 (s : SSign) : T Tryz.prog 96 [.agg s.c] [] (.bool (r8 s)) [] := by
 refine T.bool (f5 (ch_ s) Tryz.func96 ?_) (by simp [r8, true_and] <;> omega)
 simp only [All]
 and_intros
 all_goals first | exact s7 _ _ | (simp [true_and]; done)
theorem cc_ (e : SEnv) : T Tryz.prog 94 [.agg e.c] [] (.bool (u4 e)) [] := by
 by_cases h1 : j5 e.src 64 = true
 ·refine T.bool (f5 (bR6 e) Tryz.func94 ?_) (by simp [u4, h1] <;> omega)
  simp only [All]
  and_intros
  all_goals first | exact s7 _ _ | (simp [h1]; done)
 ·refine T.bool (f5 (bR5 e) Tryz.func94 ?_) (by simp [u4, h1] <;> omega)
  simp only [All]
  and_intros
  all_goals first | exact s7 _ _ | (simp [h1]; done)
theorem bJ7 {n : Nat} (r : Nat → SReq) {most : Nat} (hm : most ≤ 1000) : T Tryz.prog 131 [rq n r, .int .i64 most, .fn (.func 132) [] []] [] (.bool (u0 n most (fun i => A0 (r i)))) [] := by
 by_cases hn : n ≤ most
 ·have step : ∀ k, k < n → A0 (r k) = true → R Tryz.prog none 0 (cB (cB (cR (cL (cR (cR (f8 Tryz.f131))))))) (alI (rq n r) n 132 k) .normal (alI (rq n r) n 132 (k + 1)) := fun k hk hp => by
   refine f9 NG MO _ (bs1 n r k) ?_ (Nat.zero_le _)
   simp only [All, Int.toNat_natCast]
   and_intros
   all_goals first | exact cd2 (r k) | (simp [hk, hp, IntKind.min, IntKind.max, IntKind.signed, IntKind.bits] <;> omega)
  obtain ⟨m, h1, h2, h3⟩ := Q8 (fun k => A0 (r k) = true) n
  by_cases hmn : m = n
  ·subst hmn
   refine T.bool (f5 (bi9 m r most m) Tryz.func131 ⟨by simp <;> omega, i5.inv (alI (rq m r) m 132) m (fun k hk => step k hk (h2 k hk)) (f9 NG MO _ (bF2 m r m) (by simp [All]) (Nat.zero_le _)) (by simp), ?_⟩) (by simp [u0, hn]; exact h2)
   simp [All]
  ·have hm' : m < n := by omega
   have h3 := h3.resolve_left hmn
   have bad : R Tryz.prog none 0 (cB (cB (cR (cL (cR (cR (f8 Tryz.f131))))))) (alI (rq n r) n 132 m) .ret alF := by
    refine f9 NG MO _ (bs2 n r m) ?_ (Nat.zero_le _)
    simp only [All, Int.toNat_natCast]
    and_intros
    all_goals first | exact cd2 (r m) | (simp [hm', h3] <;> omega)
   refine T.bool (f5 (bi8 n r most m) Tryz.func131 ⟨by simp <;> omega, i5.inv (alI (rq n r) n 132) m (fun k hk => step k (by omega) (h2 k hk)) bad (by simp), ?_⟩) (by
    have : ¬ ∀ i, i < n → A0 (r i) = true := fun h => h3 (h m hm')
    simp only [u0, this, decide_false, Bool.and_false])
   simp [All]
 ·exact T.bool (f5 (bw_ n r most 0) Tryz.func131 ⟨by simp <;> omega, trivial⟩) (by simp [u0, hn])
theorem aj3 {n : Nat} (r : Nat → SSign) {most : Nat} (hm : most ≤ 1000) : T Tryz.prog 95 [sg n r, .int .i64 most, .fn (.func 96) [] []] [] (.bool (u0 n most (fun i => r8 (r i)))) [] := by
 by_cases hn : n ≤ most
 ·have step : ∀ k, k < n → r8 (r k) = true → R Tryz.prog none 0 (cB (cB (cR (cL (cR (cR (f8 Tryz.f95))))))) (alI (sg n r) n 96 k) .normal (alI (sg n r) n 96 (k + 1)) := fun k hk hp => by
   refine f9 NG MO _ (bs3 n r k) ?_ (Nat.zero_le _)
   simp only [All, Int.toNat_natCast]
   and_intros
   all_goals first | exact cd3 (r k) | (simp [hk, hp, IntKind.min, IntKind.max, IntKind.signed, IntKind.bits] <;> omega)
  obtain ⟨m, h1, h2, h3⟩ := Q8 (fun k => r8 (r k) = true) n
  by_cases hmn : m = n
  ·subst hmn
   refine T.bool (f5 (bj0 m r most m) Tryz.func95 ⟨by simp <;> omega, i5.inv (alI (sg m r) m 96) m (fun k hk => step k hk (h2 k hk)) (f9 NG MO _ (bF3 m r m) (by simp [All]) (Nat.zero_le _)) (by simp), ?_⟩) (by simp [u0, hn]; exact h2)
   simp [All]
  ·have hm' : m < n := by omega
   have h3 := h3.resolve_left hmn
   have bad : R Tryz.prog none 0 (cB (cB (cR (cL (cR (cR (f8 Tryz.f95))))))) (alI (sg n r) n 96 m) .ret alF := by
    refine f9 NG MO _ (bs4 n r m) ?_ (Nat.zero_le _)
    simp only [All, Int.toNat_natCast]
    and_intros
    all_goals first | exact cd3 (r m) | (simp [hm', h3] <;> omega)
   refine T.bool (f5 (bi_ n r most m) Tryz.func95 ⟨by simp <;> omega, i5.inv (alI (sg n r) n 96) m (fun k hk => step k (by omega) (h2 k hk)) bad (by simp), ?_⟩) (by
    have : ¬ ∀ i, i < n → r8 (r i) = true := fun h => h3 (h m hm')
    simp only [u0, this, decide_false, Bool.and_false])
   simp [All]
 ·exact T.bool (f5 (bx0 n r most 0) Tryz.func95 ⟨by simp <;> omega, trivial⟩) (by simp [u0, hn])
theorem Z5 {n : Nat} (r : Nat → SEnv) {most : Nat} (hm : most ≤ 1000) : T Tryz.prog 93 [nw n r, .int .i64 most, .fn (.func 94) [] []] [] (.bool (u0 n most (fun i => u4 (r i)))) [] := by
 by_cases hn : n ≤ most
 ·have step : ∀ k, k < n → u4 (r k) = true → R Tryz.prog none 0 (cB (cB (cR (cL (cR (cR (f8 Tryz.f93))))))) (alI (nw n r) n 94 k) .normal (alI (nw n r) n 94 (k + 1)) := fun k hk hp => by
   refine f9 NG MO _ (br8 n r k) ?_ (Nat.zero_le _)
   simp only [All, Int.toNat_natCast]
   and_intros
   all_goals first | exact cc_ (r k) | (simp [hk, hp, IntKind.min, IntKind.max, IntKind.signed, IntKind.bits] <;> omega)
  obtain ⟨m, h1, h2, h3⟩ := Q8 (fun k => u4 (r k) = true) n
  by_cases hmn : m = n
  ·subst hmn
   refine T.bool (f5 (bi5 m r most m) Tryz.func93 ⟨by simp <;> omega, i5.inv (alI (nw m r) m 94) m (fun k hk => step k hk (h2 k hk)) (f9 NG MO _ (bF0 m r m) (by simp [All]) (Nat.zero_le _)) (by simp), ?_⟩) (by simp [u0, hn]; exact h2)
   simp [All]
  ·have hm' : m < n := by omega
   have h3 := h3.resolve_left hmn
   have bad : R Tryz.prog none 0 (cB (cB (cR (cL (cR (cR (f8 Tryz.f93))))))) (alI (nw n r) n 94 m) .ret alF := by
    refine f9 NG MO _ (br9 n r m) ?_ (Nat.zero_le _)
    simp only [All, Int.toNat_natCast]
    and_intros
    all_goals first | exact cc_ (r m) | (simp [hm', h3] <;> omega)
   refine T.bool (f5 (bi4 n r most m) Tryz.func93 ⟨by simp <;> omega, i5.inv (alI (nw n r) n 94) m (fun k hk => step k (by omega) (h2 k hk)) bad (by simp), ?_⟩) (by
    have : ¬ ∀ i, i < n → u4 (r i) = true := fun h => h3 (h m hm')
    simp only [u0, this, decide_false, Bool.and_false])
   simp [All]
 ·exact T.bool (f5 (bw8 n r most 0) Tryz.func93 ⟨by simp <;> omega, trivial⟩) (by simp [u0, hn])
theorem ab0 (c : SCert) : T Tryz.prog 89 [.agg c.c] [] (.bool (A2 c)) [] := by
 by_cases h1 : u7 c.vote = true
 ·refine T.bool (f5 (bR4 c) Tryz.func89 ?_) (by simp [A2, h1] <;> omega)
  simp only [All]
  and_intros
  all_goals first | exact Y9 c.vote | exact aj3 (most := 64) c.sig (by decide) | (simp [h1]; done)
 ·refine T.bool (f5 (bR3 c) Tryz.func89 ?_) (by simp [A2, h1] <;> omega)
  simp only [All]
  and_intros
  all_goals first | exact Y9 c.vote | (simp [h1]; done)
theorem P2 (b : SBatch) : T Tryz.prog 91 [.agg b.c] [] (.bool (p8 b)) [] := by
 by_cases h1 : b.noop = true
 ·by_cases h2 : 0 < b.n
  ·refine T.bool (f5 (by4 b) Tryz.func91 ?_) (by simp [p8, h1, h2] <;> omega)
   simp only [All]
   and_intros
   all_goals first | (simp [h1, h2]; done)
  ·refine T.bool (f5 (by5 b) Tryz.func91 ?_) (by simp [p8, h1, h2] <;> omega)
   simp only [All]
   and_intros
   all_goals first | exact bJ7 (most := 4) b.req (by decide) | (simp [h1, h2]; done)
 ·refine T.bool (f5 (by3 b) Tryz.func91 ?_) (by simp [p8, h1] <;> omega)
  simp only [All]
  and_intros
  all_goals first | exact bJ7 (most := 4) b.req (by decide) | (simp [h1]; done)
theorem cd0 (h : SHeld) : T Tryz.prog 134 [.agg h.c] [] (.bool (z8 h)) [] := by
 by_cases h1 : p8 h.batch = true
 ·refine T.bool (f5 (bR8 h) Tryz.func134 ?_) (by simp [z8, h1] <;> omega)
  simp only [All]
  and_intros
  all_goals first | exact P2 h.batch | exact ab0 h.cert | (simp [h1]; done)
 ·refine T.bool (f5 (bR7 h) Tryz.func134 ?_) (by simp [z8, h1] <;> omega)
  simp only [All]
  and_intros
  all_goals first | exact P2 h.batch | (simp [h1]; done)
theorem cq6 {n : Nat} (r : Nat → SHeld) {most : Nat} (hm : most ≤ 1000) : T Tryz.prog 133 [hl n r, .int .i64 most, .fn (.func 134) [] []] [] (.bool (u0 n most (fun i => z8 (r i)))) [] := by
 by_cases hn : n ≤ most
 ·have step : ∀ k, k < n → z8 (r k) = true → R Tryz.prog none 0 (cB (cB (cR (cL (cR (cR (f8 Tryz.f133))))))) (alI (hl n r) n 134 k) .normal (alI (hl n r) n 134 (k + 1)) := fun k hk hp => by
   refine f9 NG MO _ (br_ n r k) ?_ (Nat.zero_le _)
   simp only [All, f3, aa6, Int.toNat_natCast]
   and_intros
   all_goals first | exact cd0 (r k) | (simp [hk, hp, IntKind.min, IntKind.max, IntKind.signed, IntKind.bits] <;> omega)
  obtain ⟨m, h1, h2, h3⟩ := Q8 (fun k => z8 (r k) = true) n
  by_cases hmn : m = n
  ·subst hmn
   refine T.bool (f5 (bi7 m r most m) Tryz.func133 ⟨by simp <;> omega, i5.inv (alI (hl m r) m 134) m (fun k hk => step k hk (h2 k hk)) (f9 NG MO _ (bF1 m r m) (by simp [All, f3, aa6]) (Nat.zero_le _)) (by simp), ?_⟩) (by simp [u0, hn]; exact h2)
   simp [All, f3, aa6]
  ·have hm' : m < n := by omega
   have h3 := h3.resolve_left hmn
   have bad : R Tryz.prog none 0 (cB (cB (cR (cL (cR (cR (f8 Tryz.f133))))))) (alI (hl n r) n 134 m) .ret alF := by
    refine f9 NG MO _ (bs0 n r m) ?_ (Nat.zero_le _)
    simp only [All, f3, aa6, Int.toNat_natCast]
    and_intros
    all_goals first | exact cd0 (r m) | (simp [hm', h3] <;> omega)
   refine T.bool (f5 (bi6 n r most m) Tryz.func133 ⟨by simp <;> omega, i5.inv (alI (hl n r) n 134) m (fun k hk => step k (by omega) (h2 k hk)) bad (by simp), ?_⟩) (by
    have : ¬ ∀ i, i < n → z8 (r i) = true := fun h => h3 (h m hm')
    simp only [u0, this, decide_false, Bool.and_false])
   simp [All]
 ·exact T.bool (f5 (bw9 n r most 0) Tryz.func133 ⟨by simp <;> omega, trivial⟩) (by simp [u0, hn])
theorem Y8 (m : SMsg) : T Tryz.prog 92 [.agg (chC m)] [] (.bool (w9 m)) [] := by
 by_cases h1 : j5 m.cepoch 1048576 = true
 ·by_cases h2 : j5 m.cleader 64 = true
  ·by_cases h3 : j5 m.cview 1099511627776 = true
   ·refine T.bool (f5 (bk7 m) Tryz.func92 ?_) (by simp [w9, h1, h2, h3] <;> omega)
    simp only [All, f3, L8]
    and_intros
    all_goals first | exact s7 _ _ | exact cq6 (most := 4) m.held (by decide) | (simp [h1, h2, h3]; done)
   ·refine T.bool (f5 (bk6 m) Tryz.func92 ?_) (by simp [w9, h1, h2, h3] <;> omega)
    simp only [All, f3, L8]
    and_intros
    all_goals first | exact s7 _ _ | (simp [h1, h2, h3]; done)
  ·refine T.bool (f5 (bk5 m) Tryz.func92 ?_) (by simp [w9, h1, h2] <;> omega)
   simp only [All, f3, L8]
   and_intros
   all_goals first | exact s7 _ _ | (simp [h1, h2]; done)
 ·refine T.bool (f5 (bk4 m) Tryz.func92 ?_) (by simp [w9, h1] <;> omega)
  simp only [All, f3, L8]
  and_intros
  all_goals first | exact s7 _ _ | (simp [h1]; done)
def Q6 (a b : SReq) : Bool := decide (a.client = b.client) && (decide (a.num = b.num) && (decide (a.data = b.data) && (decide (a.tag = b.tag) && true)))
def D5 (a b : SSign) : Bool := decide (a.node = b.node) && (decide (a.tag = b.tag) && true)
def H9 (a b : SEnv) : Bool := decide (a.src = b.src) && (decide (a.body = b.body) && (decide (a.tag = b.tag) && true))
def ac7 (a b : SVote) : Bool := decide (a.kind = b.kind) && (decide (a.epoch = b.epoch) && (decide (a.view = b.view) && (decide (a.slot = b.slot) && (decide (a.digest = b.digest) && true))))
def z0 (n n' : Nat) (p : Nat → Bool) : Bool := decide (n = n') && decide (∀ i, i < n → p i = true)
def q9 (a b : SBatch) : Bool := (a.noop == b.noop) && z0 a.n b.n (fun i => Q6 (a.req i) (b.req i))
def v9 (a b : SCert) : Bool := ac7 a.vote b.vote && z0 a.n b.n (fun i => D5 (a.sig i) (b.sig i))
def u6 (a b : SHeld) : Bool := q9 a.batch b.batch && v9 a.cert b.cert
def C3 (a b : SMsg) : Bool := decide (a.cepoch = b.cepoch) && (decide (a.cleader = b.cleader) && (decide (a.cview = b.cview) && z0 a.nheld b.nheld (fun i => u6 (a.held i) (b.held i))))
def m7 (a b : SMsg) : Bool := decide (a.kind = b.kind) && (decide (a.epoch = b.epoch) && (decide (a.leader = b.leader) && (decide (a.view = b.view) && (decide (a.slot = b.slot) && (q9 a.batch b.batch && (ac7 a.vote b.vote && (C3 a b && (z0 a.nnews b.nnews (fun i => H9 (a.news i) (b.news i)) && (decide (a.digest = b.digest) && (v9 a.cert b.cert && (decide (a.state = b.state) && z0 a.n b.n (fun i => D5 (a.sig i) (b.sig i)))))))))))))
def smI (a b : V) (n isf k : Nat) : St := ⟨mkT 30 [(0, a), (1, b), (2, .fn (.func isf) [] []), (14, .int .i64 n), (15, .int .i64 k)], [], 0, []⟩
def smF (t nt : Nat) : St := ⟨mkT nt [(t, .bool false)], [], 0, []⟩
noncomputable def bA7 (f : Func) (a b : V) (n isf m : Nat) : Bd := { f := f, args := [a, b, .fn (.func isf) [] []], kb := { db := fun _ _ _ _ => [], lp := fun _ _ => [(True, .loop (n + 1) (wTo (smI a b n isf 0)) (.exit 0) (smI a b n isf n)), (True, .loop (m + 1) (wTo (smI a b n isf 0)) .ret (smF 6 30))] } }
noncomputable def bH0 (f : Func) (a b : V) (n isf k : Nat) (p : Bool) : Pc := { c := cB (cB (cR (cL (cR (cR (f8 f)))))), st := smI a b n isf k, kb := { db := fun _ _ _ _ => [{ val := .bool p }] }, k := fun e _ => match e with
 | .normal => some (wTo (smI a b n isf (k + 1)))
 | .ret => some (wTo (smF 6 30))
 | _ => some (wTo (smI a b n isf n)) }
def sqI (a b : V) (n k : Nat) : St := ⟨mkT 26 [(0, a), (1, b), (12, .int .i64 n), (13, .int .i64 k)], [], 0, []⟩
noncomputable def aP9 (n n' : Nat) (a b : Nat → SReq) (m : Nat) : Bd := { f := Tryz.f143, args := [rq n a, rq n' b], kb := { db := fun _ _ _ _ => [], lp := fun _ _ => [(True, .loop (n + 1) (wTo (sqI (rq n a) (rq n' b) n 0)) (.exit 0) (sqI (rq n a) (rq n' b) n n)), (True, .loop (m + 1) (wTo (sqI (rq n a) (rq n' b) n 0)) .ret (smF 4 26))] } }
noncomputable def bH4 (n n' : Nat) (a b : Nat → SReq) (k : Nat) : Pc := { c := cB (cB (cR (cL (cR (cR (f8 Tryz.f143)))))), st := sqI (rq n a) (rq n' b) n k, kb := kb0, k := fun e _ => match e with
 | .normal => some (wTo (sqI (rq n a) (rq n' b) n (k + 1)))
 | .ret => some (wTo (smF 4 26))
 | _ => some (wTo (sqI (rq n a) (rq n' b) n n)) }
noncomputable def cu8 (a b : SSign) : Bd := { f := Tryz.f130, args := [.agg a.c, .agg b.c], kb := kb0 }
noncomputable def cu7 (a b : SEnv) : Bd := { f := Tryz.f127, args := [.agg a.c, .agg b.c], kb := kb0 }
noncomputable def cf2 (a b : SBatch) : Bd := { f := Tryz.f124, args := [.agg a.c, .agg b.c], kb := { db := dbV [(143, .bool (z0 a.n b.n (fun i => Q6 (a.req i) (b.req i))))] } }
noncomputable def cg6 (a b : SCert) : Bd := { f := Tryz.f128, args := [.agg a.c, .agg b.c], kb := { db := dbV [(129, .bool (z0 a.n b.n (fun i => D5 (a.sig i) (b.sig i))))] } }
noncomputable def ch1 (a b : SHeld) : Bd := { f := Tryz.f145, args := [.agg a.c, .agg b.c], kb := { db := dbV [(124, .bool (q9 a.batch b.batch)), (128, .bool (v9 a.cert b.cert))] } }
noncomputable def bb2 (a b : SMsg) : Bd := { f := Tryz.f125, args := [.agg (chC a), .agg (chC b)], kb := { db := dbV [(144, .bool (z0 a.nheld b.nheld (fun i => u6 (a.held i) (b.held i))))] } }
noncomputable def V6 (a b : SMsg) : Bd := { f := Tryz.f86, args := [.agg a.c, .agg b.c], kb := { db := dbV [(124, .bool (q9 a.batch b.batch)), (125, .bool (C3 a b)), (126, .bool (z0 a.nnews b.nnews (fun i => H9 (a.news i) (b.news i)))), (128, .bool (v9 a.cert b.cert)), (129, .bool (z0 a.n b.n (fun i => D5 (a.sig i) (b.sig i))))] } }
noncomputable def aA1 (n n' : Nat) (a b : Nat → SSign) (m : Nat) : Bd := bA7 Tryz.f129 (sg n a) (sg n' b) n 130 m
noncomputable def bg3 (n n' : Nat) (a b : Nat → SSign) (k : Nat) : Pc := bH0 Tryz.f129 (sg n a) (sg n' b) n 130 k (D5 (a k) (b k))
noncomputable def az_ (n n' : Nat) (a b : Nat → SEnv) (m : Nat) : Bd := bA7 Tryz.f126 (nw n a) (nw n' b) n 127 m
noncomputable def bg1 (n n' : Nat) (a b : Nat → SEnv) (k : Nat) : Pc := bH0 Tryz.f126 (nw n a) (nw n' b) n 127 k (H9 (a k) (b k))
noncomputable def aA0 (n n' : Nat) (a b : Nat → SHeld) (m : Nat) : Bd := bA7 Tryz.f144 (hl n a) (hl n' b) n 145 m
noncomputable def bg2 (n n' : Nat) (a b : Nat → SHeld) (k : Nat) : Pc := bH0 Tryz.f144 (hl n a) (hl n' b) n 145 k (u6 (a k) (b k))
end Go.Proofs.YtnmccoincblecaaGreat
