/-
  Contracts and laws that the claim's theorem leans on, joined out of the texts Ta4 Ta6D Ta6 Ta7D (own work of this seat): Contracts: the writer's methods, continued; Contracts: what may be told; Contracts: what may be told; Contracts: what is the same.
-/
import Derived.Test.YtnmccoincblecaaGreatC04
set_option linter.unusedVariables false
set_option linter.unusedSimpArgs false
set_option maxHeartbeats 1000000
namespace Go.Proofs.YtnmccoincblecaaGreat
open Go Sy Go.Proofs
theorem bdDig_p (l : List UInt8) (d : List Int) :
  along Tryz.prog (bdDig l d) [] = (some (.tup [], [(.o 0, .flat [sb (.o 63) (l ++ segB d)]), (.o 63, bs (l ++ segB d))], [T Tryz.prog 98 [.ptr (.o 0) 0 0 0 0, .sl (.o 2) 0 0 0 0 32 (some 32)] [(.o 0, .flat [sb (.o 1) l]), (.o 1, bs l), (.o 2, .flat [.seg .u8 32 d])] (.tup []) [(.o 0, .flat [sb (.o 194) (l ++ segB d)]), (.o 194, bs (l ++ segB d)), (.o 2, .flat [.seg .u8 32 d])], q0, q0, q0, q (List.length (l ++ segB d)), (none : Option Nat) = none ∨ (none : Option Nat) = none, q (List.length (l ++ segB d)), ∀ (k : Nat), k < List.length (l ++ segB d) → bl (l ++ segB d) k = bl (l ++ segB d) k, true = false → true = false]) : Option (V × Heap × List Prop)) := by kernel_rfl

theorem bdSgn_p (l : List UInt8) (s : SSign) :
  along Tryz.prog (bdSgn l s) [] = (some (.tup [], [(.o 0, .flat [sb (.o 63) (l ++ signB s)]), (.o 63, bs (l ++ signB s))], [T Tryz.prog 53 [.ptr (.o 0) 0 0 0 0, .sl (.o 258) 1 0 0 0 1 (some 1)] [(.o 0, .flat [sb (.o 1) l]), (.o 1, bs l), (.o 258, .rows 1 1 (getL [[.int .i64 (SSign.node s)]]) false)] (.tup []) [(.o 0, .flat [sb (.o 322) (l ++ numsB [SSign.node s])]), (.o 322, bs (l ++ numsB [SSign.node s])), (.o 258, .rows 1 1 (getL [[.int .i64 (SSign.node s)]]) false)], T Tryz.prog 98 [.ptr (.o 0) 0 0 0 0, .sl (.o 2) 0 0 1 0 16 (some 16)] [(.o 0, .flat [sb (.o 322) (l ++ numsB [SSign.node s])]), (.o 322, bs (l ++ numsB [SSign.node s])), (.o 2, .flat (SSign.c s))] (.tup []) [(.o 0, .flat [sb (.o 578) (l ++ numsB [SSign.node s] ++ segB (SSign.tag s))]), (.o 578, bs (l ++ numsB [SSign.node s] ++ segB (SSign.tag s))), (.o 2, .flat (SSign.c s))], q0, q0, q0, List.length (l ++ numsB [SSign.node s] ++ segB (SSign.tag s)) = List.length (l ++ signB s), (none : Option Nat) = none ∨ (none : Option Nat) = none, List.length (l ++ numsB [SSign.node s] ++ segB (SSign.tag s)) = List.length (l ++ signB s), ∀ (k : Nat), k < List.length (l ++ numsB [SSign.node s] ++ segB (SSign.tag s)) → bl (l ++ numsB [SSign.node s] ++ segB (SSign.tag s)) k = bl (l ++ signB s) k, true = false → true = false]) : Option (V × Heap × List Prop)) := by kernel_rfl

theorem bdEnv_p (l : List UInt8) (e : SEnv) :
  along Tryz.prog (bdEnv l e) [] = (some (.tup [], [(.o 0, .flat [sb (.o 63) (l ++ envB e)]), (.o 63, bs (l ++ envB e))], [T Tryz.prog 53 [.ptr (.o 0) 0 0 0 0, .sl (.o 258) 1 0 0 0 1 (some 1)] [(.o 0, .flat [sb (.o 1) l]), (.o 1, bs l), (.o 258, .rows 1 1 (getL [[.int .i64 (SEnv.src e)]]) false)] (.tup []) [(.o 0, .flat [sb (.o 322) (l ++ numsB [SEnv.src e])]), (.o 322, bs (l ++ numsB [SEnv.src e])), (.o 258, .rows 1 1 (getL [[.int .i64 (SEnv.src e)]]) false)], T Tryz.prog 62 [.ptr (.o 0) 0 0 0 0, .str (SEnv.body e)] [(.o 0, .flat [sb (.o 322) (l ++ numsB [SEnv.src e])]), (.o 322, bs (l ++ numsB [SEnv.src e]))] (.tup []) [(.o 0, .flat [sb (.o 578) (l ++ numsB [SEnv.src e] ++ textB (SEnv.body e))]), (.o 578, bs (l ++ numsB [SEnv.src e] ++ textB (SEnv.body e)))], T Tryz.prog 98 [.ptr (.o 0) 0 0 0 0, .sl (.o 2) 0 0 2 0 16 (some 16)] [(.o 0, .flat [sb (.o 578) (l ++ numsB [SEnv.src e] ++ textB (SEnv.body e))]), (.o 578, bs (l ++ numsB [SEnv.src e] ++ textB (SEnv.body e))), (.o 2, .flat (SEnv.c e))] (.tup []) [(.o 0, .flat [sb (.o 834) (l ++ numsB [SEnv.src e] ++ textB (SEnv.body e) ++ segB (SEnv.tag e))]), (.o 834, bs (l ++ numsB [SEnv.src e] ++ textB (SEnv.body e) ++ segB (SEnv.tag e))), (.o 2, .flat (SEnv.c e))], q0, q0, q0, List.length (l ++ numsB [SEnv.src e] ++ textB (SEnv.body e) ++ segB (SEnv.tag e)) = List.length (l ++ envB e), (none : Option Nat) = none ∨ (none : Option Nat) = none, List.length (l ++ numsB [SEnv.src e] ++ textB (SEnv.body e) ++ segB (SEnv.tag e)) = List.length (l ++ envB e), ∀ (k : Nat), k < List.length (l ++ numsB [SEnv.src e] ++ textB (SEnv.body e) ++ segB (SEnv.tag e)) → bl (l ++ numsB [SEnv.src e] ++ textB (SEnv.body e) ++ segB (SEnv.tag e)) k = bl (l ++ envB e) k, true = false → true = false]) : Option (V × Heap × List Prop)) := by kernel_rfl

theorem bdVot_p (l : List UInt8) (v : SVote) :
  along Tryz.prog (bdVot l v) [] = (some (.tup [], [(.o 0, .flat [sb (.o 63) (l ++ voteB v)]), (.o 63, bs (l ++ voteB v))], [T Tryz.prog 53 [.ptr (.o 0) 0 0 0 0, .sl (.o 642) 1 0 0 0 4 (some 4)] [(.o 0, .flat [sb (.o 1) l]), (.o 1, bs l), (.o 642, .rows 1 4 (getL [[.int .i64 (SVote.kind v)], [.int .i64 (SVote.epoch v)], [.int .i64 (SVote.view v)], [.int .i64 (SVote.slot v)]]) false)] (.tup []) [(.o 0, .flat [sb (.o 706) (l ++ numsB [SVote.kind v, SVote.epoch v, SVote.view v, SVote.slot v])]), (.o 706, bs (l ++ numsB [SVote.kind v, SVote.epoch v, SVote.view v, SVote.slot v])), (.o 642, .rows 1 4 (getL [[.int .i64 (SVote.kind v)], [.int .i64 (SVote.epoch v)], [.int .i64 (SVote.view v)], [.int .i64 (SVote.slot v)]]) false)], T Tryz.prog 60 [.ptr (.o 0) 0 0 0 0, .agg [.seg .u8 32 (SVote.digest v)]] [(.o 0, .flat [sb (.o 706) (l ++ numsB [SVote.kind v, SVote.epoch v, SVote.view v, SVote.slot v])]), (.o 706, bs (l ++ numsB [SVote.kind v, SVote.epoch v, SVote.view v, SVote.slot v]))] (.tup []) [(.o 0, .flat [sb (.o 962) (l ++ voteB v)]), (.o 962, bs (l ++ voteB v))], q0, q0, q0, q (List.length (l ++ voteB v)), (none : Option Nat) = none ∨ (none : Option Nat) = none, q (List.length (l ++ voteB v)), ∀ (k : Nat), k < List.length (l ++ voteB v) → bl (l ++ voteB v) k = bl (l ++ voteB v) k, true = false → true = false]) : Option (V × Heap × List Prop)) := by kernel_rfl

theorem bdCrt_p (l : List UInt8) (c : SCert) :
  along Tryz.prog (bdCrt l c) [] = (some (.tup [], [(.o 0, .flat [sb (.o 63) (l ++ certB c)]), (.o 63, bs (l ++ certB c))], [T Tryz.prog 55 [.ptr (.o 0) 0 0 0 0, .agg (SVote.c (SCert.vote c))] [(.o 0, .flat [sb (.o 1) l]), (.o 1, bs l)] (.tup []) [(.o 0, .flat [sb (.o 258) (l ++ voteB (SCert.vote c))]), (.o 258, bs (l ++ voteB (SCert.vote c)))], T Tryz.prog 63 [.ptr (.o 0) 0 0 0 0, .ros 17 (SCert.n c) (fun i => SSign.c (SCert.sig c i)) false, .fn (.func 64) [.ptr (.o 0) 0 0 0 0] []] [(.o 0, .flat [sb (.o 258) (l ++ voteB (SCert.vote c))]), (.o 258, bs (l ++ voteB (SCert.vote c)))] (.tup []) [(.o 0, .flat [sb (.o 642) (l ++ voteB (SCert.vote c) ++ (numsB [(↑(SCert.n c) : Int)] ++ signsB (SCert.sig c) (SCert.n c)))]), (.o 642, bs (l ++ voteB (SCert.vote c) ++ (numsB [(↑(SCert.n c) : Int)] ++ signsB (SCert.sig c) (SCert.n c))))], q0, q0, q0, List.length (l ++ voteB (SCert.vote c) ++ (numsB [(↑(SCert.n c) : Int)] ++ signsB (SCert.sig c) (SCert.n c))) = List.length (l ++ certB c), (none : Option Nat) = none ∨ (none : Option Nat) = none, List.length (l ++ voteB (SCert.vote c) ++ (numsB [(↑(SCert.n c) : Int)] ++ signsB (SCert.sig c) (SCert.n c))) = List.length (l ++ certB c), ∀ (k : Nat), k < List.length (l ++ voteB (SCert.vote c) ++ (numsB [(↑(SCert.n c) : Int)] ++ signsB (SCert.sig c) (SCert.n c))) → bl (l ++ voteB (SCert.vote c) ++ (numsB [(↑(SCert.n c) : Int)] ++ signsB (SCert.sig c) (SCert.n c))) k = bl (l ++ certB c) k, true = false → true = false]) : Option (V × Heap × List Prop)) := by kernel_rfl

theorem bdHld_p (l : List UInt8) (h : SHeld) :
  along Tryz.prog (bdHld l h) [] = (some (.tup [], [(.o 0, .flat [sb (.o 63) (l ++ heldB h)]), (.o 63, bs (l ++ heldB h))], [T Tryz.prog 54 [.ptr (.o 0) 0 0 0 0, .agg (SBatch.c (SHeld.batch h))] [(.o 0, .flat [sb (.o 1) l]), (.o 1, bs l)] (.tup []) [(.o 0, .flat [sb (.o 258) (l ++ batchB (SHeld.batch h))]), (.o 258, bs (l ++ batchB (SHeld.batch h)))], T Tryz.prog 61 [.ptr (.o 0) 0 0 0 0, .agg [.int .i64 (SVote.kind (SCert.vote (SHeld.cert h))), .int .i64 (SVote.epoch (SCert.vote (SHeld.cert h))), .int .i64 (SVote.view (SCert.vote (SHeld.cert h))), .int .i64 (SVote.slot (SCert.vote (SHeld.cert h))), .seg .u8 32 (SVote.digest (SCert.vote (SHeld.cert h))), sg (SCert.n (SHeld.cert h)) (SCert.sig (SHeld.cert h))]] [(.o 0, .flat [sb (.o 258) (l ++ batchB (SHeld.batch h))]), (.o 258, bs (l ++ batchB (SHeld.batch h)))] (.tup []) [(.o 0, .flat [sb (.o 514) (l ++ batchB (SHeld.batch h) ++ certB (SHeld.cert h))]), (.o 514, bs (l ++ batchB (SHeld.batch h) ++ certB (SHeld.cert h)))], q0, q0, q0, List.length (l ++ batchB (SHeld.batch h) ++ certB (SHeld.cert h)) = List.length (l ++ heldB h), (none : Option Nat) = none ∨ (none : Option Nat) = none, List.length (l ++ batchB (SHeld.batch h) ++ certB (SHeld.cert h)) = List.length (l ++ heldB h), ∀ (k : Nat), k < List.length (l ++ batchB (SHeld.batch h) ++ certB (SHeld.cert h)) → bl (l ++ batchB (SHeld.batch h) ++ certB (SHeld.cert h)) k = bl (l ++ heldB h) k, true = false → true = false]) : Option (V × Heap × List Prop)) := by kernel_rfl

theorem bdPSg_p (l : List UInt8) (n : Nat) (s : Nat → SSign) :
  along Tryz.prog (bdPSg l n s) [] = (some (.tup [], [(.o 0, .flat [sb (.o 63) (l ++ (numsB [(↑n : Int)] ++ signsB s n))]), (.o 63, bs (l ++ (numsB [(↑n : Int)] ++ signsB s n)))], [T Tryz.prog 53 [.ptr (.o 0) 0 0 0 0, .sl (.o 194) 1 0 0 0 1 (some 1)] [(.o 0, .flat [sb (.o 1) l]), (.o 1, bs l), (.o 194, .rows 1 1 (getL [[.int .i64 ↑n]]) false)] (.tup []) [(.o 0, .flat [sb (.o 258) (l ++ numsB [(↑n : Int)])]), (.o 258, bs (l ++ numsB [(↑n : Int)])), (.o 194, .rows 1 1 (getL [[.int .i64 ↑n]]) false)], RLoop Tryz.prog none 2 (cB (cB (cR (cR (bodyOf (Bd.f (bdPSg l n s))))))) (n + 1) (St.mk (mkT 23 [(2, .fn (.func (64 : FuncId)) [.ptr (.o 0) 0 0 0 0] []), (13, .ros 17 n (fun i => SSign.c (s i)) false), (14, .int .i64 ↑n), (15, .int .i64 0)]) [(.o 0, .flat [sb (.o 63) (l ++ (numsB [(↑n : Int)] ++ signsB s 0))]), (.o 63, bs (l ++ (numsB [(↑n : Int)] ++ signsB s 0)))] 64 []) (.exit 0) (St.mk (mkT 23 [(2, .fn (.func (64 : FuncId)) [.ptr (.o 0) 0 0 0 0] []), (13, .ros 17 n (fun i => SSign.c (s i)) false), (14, .int .i64 ↑n), (15, .int .i64 ↑n)]) [(.o 0, .flat [sb (.o 63) (l ++ (numsB [(↑n : Int)] ++ signsB s n))]), (.o 63, bs (l ++ (numsB [(↑n : Int)] ++ signsB s n)))] 64 []), q0, q0, q0, List.length (l ++ numsB [(↑n : Int)]) = List.length (l ++ (numsB [(↑n : Int)] ++ signsB s (0 : Nat))), (none : Option Nat) = none ∨ (none : Option Nat) = none, List.length (l ++ numsB [(↑n : Int)]) = List.length (l ++ (numsB [(↑n : Int)] ++ signsB s (0 : Nat))), ∀ (k : Nat), k < List.length (l ++ numsB [(↑n : Int)]) → bl (l ++ numsB [(↑n : Int)]) k = bl (l ++ (numsB [(↑n : Int)] ++ signsB s (0 : Nat))) k, true = false → true = false, q0, q0, q0, q n, ∀ (k : Nat), k < n → SSign.c (s k) = SSign.c (s k), false = true → false = true, q (↑n : Int), q1, q0, q0, q0, q (List.length (l ++ (numsB [(↑n : Int)] ++ signsB s n))), (none : Option Nat) = none ∨ (none : Option Nat) = none, q (List.length (l ++ (numsB [(↑n : Int)] ++ signsB s n))), ∀ (k : Nat), k < List.length (l ++ (numsB [(↑n : Int)] ++ signsB s n)) → bl (l ++ (numsB [(↑n : Int)] ++ signsB s n)) k = bl (l ++ (numsB [(↑n : Int)] ++ signsB s n)) k, true = false → true = false]) : Option (V × Heap × List Prop)) := by kernel_rfl

theorem pcPSg_p1 (l : List UInt8) (n : Nat) (s : Nat → SSign) (k : Nat) :
  alongPc Tryz.prog (pcPSg l n s k) [true] = (some (.normal, St.mk (mkT 23 [(2, .fn (.func (64 : FuncId)) [.ptr (.o 0) 0 0 0 0] []), (13, .ros 17 n (fun i => SSign.c (s i)) false), (14, .int .i64 ↑n), (15, .int .i64 (↑(k + 1) : Int))]) [(.o 0, .flat [sb (.o 63) (l ++ (numsB [(↑n : Int)] ++ signsB s (k + 1)))]), (.o 63, bs (l ++ (numsB [(↑n : Int)] ++ signsB s (k + 1))))] 64 [], [decide ((↑k : Int) < (↑n : Int)) = true, (0 : Int) ≤ (↑k : Int) ∧ (↑k : Int) < (↑n : Int), T Tryz.prog (64 : FuncId) [.ptr (.o 0) 0 0 0 0, .agg (SSign.c (s (Int.toNat (↑k : Int))))] [(.o 0, .flat [sb (.o 63) (l ++ (numsB [(↑n : Int)] ++ signsB s k))]), (.o 63, bs (l ++ (numsB [(↑n : Int)] ++ signsB s k)))] (.tup []) [(.o 0, .flat [sb (.o 512) (l ++ (numsB [(↑n : Int)] ++ signsB s (k + 1)))]), (.o 512, bs (l ++ (numsB [(↑n : Int)] ++ signsB s (k + 1))))], InR IntKind.i64 ((↑k : Int) + (1 : Int)), q0, q0, q0, q (List.length (l ++ (numsB [(↑n : Int)] ++ signsB s (k + (1 : Nat))))), (none : Option Nat) = none ∨ (none : Option Nat) = none, q (List.length (l ++ (numsB [(↑n : Int)] ++ signsB s (k + (1 : Nat))))), ∀ (k_1 : Nat), k_1 < List.length (l ++ (numsB [(↑n : Int)] ++ signsB s (k + (1 : Nat)))) → bl (l ++ (numsB [(↑n : Int)] ++ signsB s (k + (1 : Nat)))) k_1 = bl (l ++ (numsB [(↑n : Int)] ++ signsB s (k + (1 : Nat)))) k_1, true = false → true = false, q0, q0, q0, q n, ∀ (k : Nat), k < n → SSign.c (s k) = SSign.c (s k), false = true → false = true, q (↑n : Int), (↑k : Int) + (1 : Int) = (↑(k + (1 : Nat)) : Int)]) : Option (Exit × St × List Prop)) := by kernel_rfl
theorem pcPSg_p0 (l : List UInt8) (n : Nat) (s : Nat → SSign) (k : Nat) :
  alongPc Tryz.prog (pcPSg l n s k) [false] = (some (.exit 0, St.mk (mkT 23 [(2, .fn (.func (64 : FuncId)) [.ptr (.o 0) 0 0 0 0] []), (13, .ros 17 n (fun i => SSign.c (s i)) false), (14, .int .i64 ↑n), (15, .int .i64 ↑n)]) [(.o 0, .flat [sb (.o 63) (l ++ (numsB [(↑n : Int)] ++ signsB s n))]), (.o 63, bs (l ++ (numsB [(↑n : Int)] ++ signsB s n)))] 64 [], [decide ((↑k : Int) < (↑n : Int)) = false, q0, q0, q0, List.length (l ++ (numsB [(↑n : Int)] ++ signsB s k)) = List.length (l ++ (numsB [(↑n : Int)] ++ signsB s n)), (none : Option Nat) = none ∨ (none : Option Nat) = none, List.length (l ++ (numsB [(↑n : Int)] ++ signsB s k)) = List.length (l ++ (numsB [(↑n : Int)] ++ signsB s n)), ∀ (k_1 : Nat), k_1 < List.length (l ++ (numsB [(↑n : Int)] ++ signsB s k)) → bl (l ++ (numsB [(↑n : Int)] ++ signsB s k)) k_1 = bl (l ++ (numsB [(↑n : Int)] ++ signsB s n)) k_1, true = false → true = false, q0, q0, q0, q n, ∀ (k : Nat), k < n → SSign.c (s k) = SSign.c (s k), false = true → false = true, q (↑n : Int), (↑k : Int) = (↑n : Int)]) : Option (Exit × St × List Prop)) := by kernel_rfl

theorem bdPHl_p (l : List UInt8) (n : Nat) (s : Nat → SHeld) :
  along Tryz.prog (bdPHl l n s) [] = (some (.tup [], [(.o 0, .flat [sb (.o 63) (l ++ (numsB [(↑n : Int)] ++ heldsB s n))]), (.o 63, bs (l ++ (numsB [(↑n : Int)] ++ heldsB s n)))], [T Tryz.prog 53 [.ptr (.o 0) 0 0 0 0, .sl (.o 194) 1 0 0 0 1 (some 1)] [(.o 0, .flat [sb (.o 1) l]), (.o 1, bs l), (.o 194, .rows 1 1 (getL [[.int .i64 ↑n]]) false)] (.tup []) [(.o 0, .flat [sb (.o 258) (l ++ numsB [(↑n : Int)])]), (.o 258, bs (l ++ numsB [(↑n : Int)])), (.o 194, .rows 1 1 (getL [[.int .i64 ↑n]]) false)], RLoop Tryz.prog none 2 (cB (cB (cR (cR (bodyOf (Bd.f (bdPHl l n s))))))) (n + 1) (St.mk (mkT 23 [(2, .fn (.func (57 : FuncId)) [.ptr (.o 0) 0 0 0 0] []), (13, .ros 39 n (fun i => SHeld.c (s i)) false), (14, .int .i64 ↑n), (15, .int .i64 0)]) [(.o 0, .flat [sb (.o 63) (l ++ (numsB [(↑n : Int)] ++ heldsB s 0))]), (.o 63, bs (l ++ (numsB [(↑n : Int)] ++ heldsB s 0)))] 64 []) (.exit 0) (St.mk (mkT 23 [(2, .fn (.func (57 : FuncId)) [.ptr (.o 0) 0 0 0 0] []), (13, .ros 39 n (fun i => SHeld.c (s i)) false), (14, .int .i64 ↑n), (15, .int .i64 ↑n)]) [(.o 0, .flat [sb (.o 63) (l ++ (numsB [(↑n : Int)] ++ heldsB s n))]), (.o 63, bs (l ++ (numsB [(↑n : Int)] ++ heldsB s n)))] 64 []), q0, q0, q0, List.length (l ++ numsB [(↑n : Int)]) = List.length (l ++ (numsB [(↑n : Int)] ++ heldsB s (0 : Nat))), (none : Option Nat) = none ∨ (none : Option Nat) = none, List.length (l ++ numsB [(↑n : Int)]) = List.length (l ++ (numsB [(↑n : Int)] ++ heldsB s (0 : Nat))), ∀ (k : Nat), k < List.length (l ++ numsB [(↑n : Int)]) → bl (l ++ numsB [(↑n : Int)]) k = bl (l ++ (numsB [(↑n : Int)] ++ heldsB s (0 : Nat))) k, true = false → true = false, q0, q0, q0, q n, ∀ (k : Nat), k < n → SHeld.c (s k) = SHeld.c (s k), false = true → false = true, q (↑n : Int), q1, q0, q0, q0, q (List.length (l ++ (numsB [(↑n : Int)] ++ heldsB s n))), (none : Option Nat) = none ∨ (none : Option Nat) = none, q (List.length (l ++ (numsB [(↑n : Int)] ++ heldsB s n))), ∀ (k : Nat), k < List.length (l ++ (numsB [(↑n : Int)] ++ heldsB s n)) → bl (l ++ (numsB [(↑n : Int)] ++ heldsB s n)) k = bl (l ++ (numsB [(↑n : Int)] ++ heldsB s n)) k, true = false → true = false]) : Option (V × Heap × List Prop)) := by kernel_rfl

theorem pcPHl_p1 (l : List UInt8) (n : Nat) (s : Nat → SHeld) (k : Nat) :
  alongPc Tryz.prog (pcPHl l n s k) [true] = (some (.normal, St.mk (mkT 23 [(2, .fn (.func (57 : FuncId)) [.ptr (.o 0) 0 0 0 0] []), (13, .ros 39 n (fun i => SHeld.c (s i)) false), (14, .int .i64 ↑n), (15, .int .i64 (↑(k + 1) : Int))]) [(.o 0, .flat [sb (.o 63) (l ++ (numsB [(↑n : Int)] ++ heldsB s (k + 1)))]), (.o 63, bs (l ++ (numsB [(↑n : Int)] ++ heldsB s (k + 1))))] 64 [], [decide ((↑k : Int) < (↑n : Int)) = true, (0 : Int) ≤ (↑k : Int) ∧ (↑k : Int) < (↑n : Int), T Tryz.prog (57 : FuncId) [.ptr (.o 0) 0 0 0 0, .agg [.bool (SBatch.noop (SHeld.batch (s (Int.toNat (↑k : Int))))), rq (SBatch.n (SHeld.batch (s (Int.toNat (↑k : Int))))) (SBatch.req (SHeld.batch (s (Int.toNat (↑k : Int))))), .int .i64 (SVote.kind (SCert.vote (SHeld.cert (s (Int.toNat (↑k : Int)))))), .int .i64 (SVote.epoch (SCert.vote (SHeld.cert (s (Int.toNat (↑k : Int)))))), .int .i64 (SVote.view (SCert.vote (SHeld.cert (s (Int.toNat (↑k : Int)))))), .int .i64 (SVote.slot (SCert.vote (SHeld.cert (s (Int.toNat (↑k : Int)))))), .seg .u8 32 (SVote.digest (SCert.vote (SHeld.cert (s (Int.toNat (↑k : Int)))))), sg (SCert.n (SHeld.cert (s (Int.toNat (↑k : Int))))) (SCert.sig (SHeld.cert (s (Int.toNat (↑k : Int)))))]] [(.o 0, .flat [sb (.o 63) (l ++ (numsB [(↑n : Int)] ++ heldsB s k))]), (.o 63, bs (l ++ (numsB [(↑n : Int)] ++ heldsB s k)))] (.tup []) [(.o 0, .flat [sb (.o 512) (l ++ (numsB [(↑n : Int)] ++ heldsB s (k + 1)))]), (.o 512, bs (l ++ (numsB [(↑n : Int)] ++ heldsB s (k + 1))))], InR IntKind.i64 ((↑k : Int) + (1 : Int)), q0, q0, q0, q (List.length (l ++ (numsB [(↑n : Int)] ++ heldsB s (k + (1 : Nat))))), (none : Option Nat) = none ∨ (none : Option Nat) = none, q (List.length (l ++ (numsB [(↑n : Int)] ++ heldsB s (k + (1 : Nat))))), ∀ (k_1 : Nat), k_1 < List.length (l ++ (numsB [(↑n : Int)] ++ heldsB s (k + (1 : Nat)))) → bl (l ++ (numsB [(↑n : Int)] ++ heldsB s (k + (1 : Nat)))) k_1 = bl (l ++ (numsB [(↑n : Int)] ++ heldsB s (k + (1 : Nat)))) k_1, true = false → true = false, q0, q0, q0, q n, ∀ (k : Nat), k < n → SHeld.c (s k) = SHeld.c (s k), false = true → false = true, q (↑n : Int), (↑k : Int) + (1 : Int) = (↑(k + (1 : Nat)) : Int)]) : Option (Exit × St × List Prop)) := by kernel_rfl
theorem pcPHl_p0 (l : List UInt8) (n : Nat) (s : Nat → SHeld) (k : Nat) :
  alongPc Tryz.prog (pcPHl l n s k) [false] = (some (.exit 0, St.mk (mkT 23 [(2, .fn (.func (57 : FuncId)) [.ptr (.o 0) 0 0 0 0] []), (13, .ros 39 n (fun i => SHeld.c (s i)) false), (14, .int .i64 ↑n), (15, .int .i64 ↑n)]) [(.o 0, .flat [sb (.o 63) (l ++ (numsB [(↑n : Int)] ++ heldsB s n))]), (.o 63, bs (l ++ (numsB [(↑n : Int)] ++ heldsB s n)))] 64 [], [decide ((↑k : Int) < (↑n : Int)) = false, q0, q0, q0, List.length (l ++ (numsB [(↑n : Int)] ++ heldsB s k)) = List.length (l ++ (numsB [(↑n : Int)] ++ heldsB s n)), (none : Option Nat) = none ∨ (none : Option Nat) = none, List.length (l ++ (numsB [(↑n : Int)] ++ heldsB s k)) = List.length (l ++ (numsB [(↑n : Int)] ++ heldsB s n)), ∀ (k_1 : Nat), k_1 < List.length (l ++ (numsB [(↑n : Int)] ++ heldsB s k)) → bl (l ++ (numsB [(↑n : Int)] ++ heldsB s k)) k_1 = bl (l ++ (numsB [(↑n : Int)] ++ heldsB s n)) k_1, true = false → true = false, q0, q0, q0, q n, ∀ (k : Nat), k < n → SHeld.c (s k) = SHeld.c (s k), false = true → false = true, q (↑n : Int), (↑k : Int) = (↑n : Int)]) : Option (Exit × St × List Prop)) := by kernel_rfl

theorem bdPNw_p (l : List UInt8) (n : Nat) (s : Nat → SEnv) :
  along Tryz.prog (bdPNw l n s) [] = (some (.tup [], [(.o 0, .flat [sb (.o 63) (l ++ (numsB [(↑n : Int)] ++ envsB s n))]), (.o 63, bs (l ++ (numsB [(↑n : Int)] ++ envsB s n)))], [T Tryz.prog 53 [.ptr (.o 0) 0 0 0 0, .sl (.o 194) 1 0 0 0 1 (some 1)] [(.o 0, .flat [sb (.o 1) l]), (.o 1, bs l), (.o 194, .rows 1 1 (getL [[.int .i64 ↑n]]) false)] (.tup []) [(.o 0, .flat [sb (.o 258) (l ++ numsB [(↑n : Int)])]), (.o 258, bs (l ++ numsB [(↑n : Int)])), (.o 194, .rows 1 1 (getL [[.int .i64 ↑n]]) false)], RLoop Tryz.prog none 2 (cB (cB (cR (cR (bodyOf (Bd.f (bdPNw l n s))))))) (n + 1) (St.mk (mkT 23 [(2, .fn (.func (59 : FuncId)) [.ptr (.o 0) 0 0 0 0] []), (13, .ros 18 n (fun i => SEnv.c (s i)) false), (14, .int .i64 ↑n), (15, .int .i64 0)]) [(.o 0, .flat [sb (.o 63) (l ++ (numsB [(↑n : Int)] ++ envsB s 0))]), (.o 63, bs (l ++ (numsB [(↑n : Int)] ++ envsB s 0)))] 64 []) (.exit 0) (St.mk (mkT 23 [(2, .fn (.func (59 : FuncId)) [.ptr (.o 0) 0 0 0 0] []), (13, .ros 18 n (fun i => SEnv.c (s i)) false), (14, .int .i64 ↑n), (15, .int .i64 ↑n)]) [(.o 0, .flat [sb (.o 63) (l ++ (numsB [(↑n : Int)] ++ envsB s n))]), (.o 63, bs (l ++ (numsB [(↑n : Int)] ++ envsB s n)))] 64 []), q0, q0, q0, List.length (l ++ numsB [(↑n : Int)]) = List.length (l ++ (numsB [(↑n : Int)] ++ envsB s (0 : Nat))), (none : Option Nat) = none ∨ (none : Option Nat) = none, List.length (l ++ numsB [(↑n : Int)]) = List.length (l ++ (numsB [(↑n : Int)] ++ envsB s (0 : Nat))), ∀ (k : Nat), k < List.length (l ++ numsB [(↑n : Int)]) → bl (l ++ numsB [(↑n : Int)]) k = bl (l ++ (numsB [(↑n : Int)] ++ envsB s (0 : Nat))) k, true = false → true = false, q0, q0, q0, q n, ∀ (k : Nat), k < n → SEnv.c (s k) = SEnv.c (s k), false = true → false = true, q (↑n : Int), q1, q0, q0, q0, q (List.length (l ++ (numsB [(↑n : Int)] ++ envsB s n))), (none : Option Nat) = none ∨ (none : Option Nat) = none, q (List.length (l ++ (numsB [(↑n : Int)] ++ envsB s n))), ∀ (k : Nat), k < List.length (l ++ (numsB [(↑n : Int)] ++ envsB s n)) → bl (l ++ (numsB [(↑n : Int)] ++ envsB s n)) k = bl (l ++ (numsB [(↑n : Int)] ++ envsB s n)) k, true = false → true = false]) : Option (V × Heap × List Prop)) := by kernel_rfl

theorem pcPNw_p1 (l : List UInt8) (n : Nat) (s : Nat → SEnv) (k : Nat) :
  alongPc Tryz.prog (pcPNw l n s k) [true] = (some (.normal, St.mk (mkT 23 [(2, .fn (.func (59 : FuncId)) [.ptr (.o 0) 0 0 0 0] []), (13, .ros 18 n (fun i => SEnv.c (s i)) false), (14, .int .i64 ↑n), (15, .int .i64 (↑(k + 1) : Int))]) [(.o 0, .flat [sb (.o 63) (l ++ (numsB [(↑n : Int)] ++ envsB s (k + 1)))]), (.o 63, bs (l ++ (numsB [(↑n : Int)] ++ envsB s (k + 1))))] 64 [], [decide ((↑k : Int) < (↑n : Int)) = true, (0 : Int) ≤ (↑k : Int) ∧ (↑k : Int) < (↑n : Int), T Tryz.prog (59 : FuncId) [.ptr (.o 0) 0 0 0 0, .agg (SEnv.c (s (Int.toNat (↑k : Int))))] [(.o 0, .flat [sb (.o 63) (l ++ (numsB [(↑n : Int)] ++ envsB s k))]), (.o 63, bs (l ++ (numsB [(↑n : Int)] ++ envsB s k)))] (.tup []) [(.o 0, .flat [sb (.o 512) (l ++ (numsB [(↑n : Int)] ++ envsB s (k + 1)))]), (.o 512, bs (l ++ (numsB [(↑n : Int)] ++ envsB s (k + 1))))], InR IntKind.i64 ((↑k : Int) + (1 : Int)), q0, q0, q0, q (List.length (l ++ (numsB [(↑n : Int)] ++ envsB s (k + (1 : Nat))))), (none : Option Nat) = none ∨ (none : Option Nat) = none, q (List.length (l ++ (numsB [(↑n : Int)] ++ envsB s (k + (1 : Nat))))), ∀ (k_1 : Nat), k_1 < List.length (l ++ (numsB [(↑n : Int)] ++ envsB s (k + (1 : Nat)))) → bl (l ++ (numsB [(↑n : Int)] ++ envsB s (k + (1 : Nat)))) k_1 = bl (l ++ (numsB [(↑n : Int)] ++ envsB s (k + (1 : Nat)))) k_1, true = false → true = false, q0, q0, q0, q n, ∀ (k : Nat), k < n → SEnv.c (s k) = SEnv.c (s k), false = true → false = true, q (↑n : Int), (↑k : Int) + (1 : Int) = (↑(k + (1 : Nat)) : Int)]) : Option (Exit × St × List Prop)) := by kernel_rfl
theorem pcPNw_p0 (l : List UInt8) (n : Nat) (s : Nat → SEnv) (k : Nat) :
  alongPc Tryz.prog (pcPNw l n s k) [false] = (some (.exit 0, St.mk (mkT 23 [(2, .fn (.func (59 : FuncId)) [.ptr (.o 0) 0 0 0 0] []), (13, .ros 18 n (fun i => SEnv.c (s i)) false), (14, .int .i64 ↑n), (15, .int .i64 ↑n)]) [(.o 0, .flat [sb (.o 63) (l ++ (numsB [(↑n : Int)] ++ envsB s n))]), (.o 63, bs (l ++ (numsB [(↑n : Int)] ++ envsB s n)))] 64 [], [decide ((↑k : Int) < (↑n : Int)) = false, q0, q0, q0, List.length (l ++ (numsB [(↑n : Int)] ++ envsB s k)) = List.length (l ++ (numsB [(↑n : Int)] ++ envsB s n)), (none : Option Nat) = none ∨ (none : Option Nat) = none, List.length (l ++ (numsB [(↑n : Int)] ++ envsB s k)) = List.length (l ++ (numsB [(↑n : Int)] ++ envsB s n)), ∀ (k_1 : Nat), k_1 < List.length (l ++ (numsB [(↑n : Int)] ++ envsB s k)) → bl (l ++ (numsB [(↑n : Int)] ++ envsB s k)) k_1 = bl (l ++ (numsB [(↑n : Int)] ++ envsB s n)) k_1, true = false → true = false, q0, q0, q0, q n, ∀ (k : Nat), k < n → SEnv.c (s k) = SEnv.c (s k), false = true → false = true, q (↑n : Int), (↑k : Int) = (↑n : Int)]) : Option (Exit × St × List Prop)) := by kernel_rfl

structure SignOk (s : SSign) : Prop where
 node : num63 s.node
 tag : SegOk 16 s.tag
structure VoteOk (v : SVote) : Prop where
 kind : num63 v.kind
 epoch : num63 v.epoch
 view : num63 v.view
 slot : num63 v.slot
 digest : SegOk 32 v.digest
structure CertOk (c : SCert) : Prop where
 vote : VoteOk c.vote
 n : c.n ≤ 1000
 sig : ∀ k, k < c.n → SignOk (c.sig k)
structure HeldOk (h : SHeld) : Prop where
 batch : BatchOk h.batch
 cert : CertOk h.cert
structure EnvOk (e : SEnv) : Prop where
 src : num63 e.src
 body : e.body.size ≤ 10000000
 tag : SegOk 16 e.tag
theorem numsB1_len {a : Int} (h : num63 a) : (numsB [a]).length ≤ 9 := by simpa [numsB] using putZ_len h
theorem segB_le {n : Nat} {xs : List Int} (h : SegOk n xs) : (segB xs).length = n := by rw [segB_len, h.len]
theorem signB_len {s : SSign} (h : SignOk s) : (signB s).length ≤ 25 := by
 have h1 := numsB1_len h.node
 have h2 := segB_le h.tag
 rw [signB, List.length_append]; omega
theorem signsB_len {s : Nat → SSign} : ∀ {n : Nat}, (∀ k, k < n → SignOk (s k)) → (signsB s n).length ≤ 25 * n
 | 0, _ => by simp [signsB]
 | n + 1, h => by
  have := signsB_len (n := n) fun k hk => h k (by omega)
  have := signB_len (h n (by omega))
  rw [signsB, List.length_append]; omega
theorem voteB_len {v : SVote} (h : VoteOk v) : (voteB v).length ≤ 68 := by
 have h1 := putZ_len h.kind
 have h2 := putZ_len h.epoch
 have h3 := putZ_len h.view
 have h4 := putZ_len h.slot
 have h5 := segB_le h.digest
 simp only [voteB, numsB, List.length_append, List.length_nil]; omega
theorem certB_len {c : SCert} (h : CertOk c) : (certB c).length ≤ 26000 := by
 have h1 := voteB_len h.vote
 have h2 := signsB_len h.sig
 have h3 := h.n
 have h4 := numsB1_len (num63_nat (n := c.n) (by omega))
 simp only [certB, List.length_append]; omega
theorem heldB_len {x : SHeld} (h : HeldOk x) : (heldB x).length ≤ 2000100000 := by
 have h1 := batchB_len h.batch
 have h2 := certB_len h.cert
 rw [heldB, List.length_append]; omega
theorem heldsB_len {s : Nat → SHeld} : ∀ {n : Nat}, (∀ k, k < n → HeldOk (s k)) → (heldsB s n).length ≤ 2000100000 * n
 | 0, _ => by simp [heldsB]
 | n + 1, h => by
  have := heldsB_len (n := n) fun k hk => h k (by omega)
  have := heldB_len (h n (by omega))
  rw [heldsB, List.length_append]; omega
theorem envB_len {e : SEnv} (h : EnvOk e) : (envB e).length ≤ 10000100 := by
 have h1 := numsB1_len h.src
 have h2 := textB_len (s := e.body) (by have := h.body; omega)
 have h3 := segB_le h.tag
 have h4 := h.body
 simp only [envB, List.length_append]; omega
theorem envsB_len {s : Nat → SEnv} : ∀ {n : Nat}, (∀ k, k < n → EnvOk (s k)) → (envsB s n).length ≤ 10000100 * n
 | 0, _ => by simp [envsB]
 | n + 1, h => by
  have := envsB_len (n := n) fun k hk => h k (by omega)
  have := envB_len (h n (by omega))
  rw [envsB, List.length_append]; omega
theorem T_dig {l : List UInt8} {d : List Int} (hl : l.length ≤ 10000000000000) (h : SegOk 32 d) {w x m : Nat} (hn : [Nm.o w, Nm.o x, Nm.o m].Nodup) : T Tryz.prog 60 [.ptr (.o w) 0 0 0 0, .agg [.seg .u8 32 d]] (wr w x l) (.tup []) (wr w m (l ++ segB d)) := by
 have h0 : T Tryz.prog 60 [.ptr (.o 0) 0 0 0 0, .agg [.seg .u8 32 d]] (wr 0 1 l) (.tup []) (wr 0 63 (l ++ segB d)) := by
  refine T_al (bdDig_p l d) Tryz.func60 ?_
  simp only [All]
  and_intros
  all_goals first | exact T_rawD (by omega) h (by decide) | (simp [signB, voteB, certB, heldB, envB, List.append_assoc]; done)
 obtain ⟨σ, hσ, h1⟩ := T.at h0 [.o 0, .o 1, .o 63] [.o w, .o x, .o m] (by simp) hn rfl
 simp only [List.map_cons, List.map_nil, List.cons.injEq, and_true] at hσ
 simpa [V.rens, V.ren, sb, bs, wr, Heap.ren, B.ren, hσ.1, hσ.2.1, hσ.2.2] using h1
theorem T_sgn {l : List UInt8} {s : SSign} (hl : l.length ≤ 10000000000000) (h : SignOk s) {w x m : Nat} (hn : [Nm.o w, Nm.o x, Nm.o m].Nodup) : T Tryz.prog 64 [.ptr (.o w) 0 0 0 0, .agg s.c] (wr w x l) (.tup []) (wr w m (l ++ signB s)) := by
 have h2 := numsB1_len h.node
 have h0 : T Tryz.prog 64 [.ptr (.o 0) 0 0 0 0, .agg s.c] (wr 0 1 l) (.tup []) (wr 0 63 (l ++ signB s)) := by
  refine T_al (bdSgn_p l s) Tryz.func64 ?_
  simp only [All]
  and_intros
  all_goals first | exact T_nu1 (by omega) h.node (by decide) | exact T_rawS (by first | omega | (simp only [List.length_append]; omega)) h.tag (by decide) | (simp [signB, voteB, certB, heldB, envB, List.append_assoc]; done)
 obtain ⟨σ, hσ, h1⟩ := T.at h0 [.o 0, .o 1, .o 63] [.o w, .o x, .o m] (by simp) hn rfl
 simp only [List.map_cons, List.map_nil, List.cons.injEq, and_true] at hσ
 simpa [V.rens, V.ren, SSign.c, sb, bs, wr, Heap.ren, B.ren, hσ.1, hσ.2.1, hσ.2.2] using h1
theorem T_env {l : List UInt8} {e : SEnv} (hl : l.length ≤ 10000000000000) (h : EnvOk e) {w x m : Nat} (hn : [Nm.o w, Nm.o x, Nm.o m].Nodup) : T Tryz.prog 59 [.ptr (.o w) 0 0 0 0, .agg e.c] (wr w x l) (.tup []) (wr w m (l ++ envB e)) := by
 have h2 := numsB1_len h.src
 have h3 := textB_len (s := e.body) (by have := h.body; omega)
 have h4 := h.body
 have h0 : T Tryz.prog 59 [.ptr (.o 0) 0 0 0 0, .agg e.c] (wr 0 1 l) (.tup []) (wr 0 63 (l ++ envB e)) := by
  refine T_al (bdEnv_p l e) Tryz.func59 ?_
  simp only [All]
  and_intros
  all_goals first | exact T_nu1 (by omega) h.src (by decide) | exact T_wt (by first | omega | (simp only [List.length_append]; omega)) (by have := h.body; omega) (by decide) | exact T_rawE (by first | omega | (simp only [List.length_append]; omega)) h.tag (by decide) | (simp [signB, voteB, certB, heldB, envB, List.append_assoc]; done)
 obtain ⟨σ, hσ, h1⟩ := T.at h0 [.o 0, .o 1, .o 63] [.o w, .o x, .o m] (by simp) hn rfl
 simp only [List.map_cons, List.map_nil, List.cons.injEq, and_true] at hσ
 simpa [V.rens, V.ren, SEnv.c, sb, bs, wr, Heap.ren, B.ren, hσ.1, hσ.2.1, hσ.2.2] using h1
theorem nums4_len {v : SVote} (h : VoteOk v) : (numsB [v.kind, v.epoch, v.view, v.slot]).length ≤ 36 := by
 have h1 := putZ_len h.kind
 have h2 := putZ_len h.epoch
 have h3 := putZ_len h.view
 have h4 := putZ_len h.slot
 simp only [numsB, List.length_append, List.length_nil]; omega
theorem T_vot {l : List UInt8} {v : SVote} (hl : l.length ≤ 9000000000000) (h : VoteOk v) {w x m : Nat} (hn : [Nm.o w, Nm.o x, Nm.o m].Nodup) : T Tryz.prog 55 [.ptr (.o w) 0 0 0 0, .agg v.c] (wr w x l) (.tup []) (wr w m (l ++ voteB v)) := by
 have e : l ++ voteB v = (l ++ numsB [v.kind, v.epoch, v.view, v.slot]) ++ segB v.digest := by simp [voteB]
 have h9 := nums4_len h
 have hT := T_dig (l := l ++ numsB [v.kind, v.epoch, v.view, v.slot]) (by rw [List.length_append]; omega) h.digest (w := 0) (x := 706) (m := 962) (by decide)
 rw [← e] at hT
 have h0 : T Tryz.prog 55 [.ptr (.o 0) 0 0 0 0, .agg v.c] (wr 0 1 l) (.tup []) (wr 0 63 (l ++ voteB v)) := by
  refine T_al (bdVot_p l v) Tryz.func55 ?_
  simp only [All]
  and_intros
  all_goals first | exact T_nu4 (by omega) h.kind h.epoch h.view h.slot (by decide) | exact hT | (simp [signB, voteB, certB, heldB, envB, List.append_assoc]; done)
 obtain ⟨σ, hσ, h1⟩ := T.at h0 [.o 0, .o 1, .o 63] [.o w, .o x, .o m] (by simp) hn rfl
 simp only [List.map_cons, List.map_nil, List.cons.injEq, and_true] at hσ
 simpa [V.rens, V.ren, SVote.c, sb, bs, wr, Heap.ren, B.ren, hσ.1, hσ.2.1, hσ.2.2] using h1
theorem L_pSg {l : List UInt8} {n : Nat} {s : Nat → SSign} (hl : l.length ≤ 5000000000000) (hn : n ≤ 1000) (h : ∀ k, k < n → SignOk (s k)) : RLoop Tryz.prog none 2 (cB (cB (cR (cR (bodyOf Tryz.f63))))) (n + 1) (pjSg l n s 0) (.exit 0) (pjSg l n s n) :=
 RLoop.inv (pjSg l n s) n (fun k hk => by
  have h1 := signsB_len (n := k) fun j hj => h j (by omega)
  have h2 := numsB1_len (num63_nat (n := n) (by omega))
  have hT := T_sgn (l := l ++ (numsB [(n : Int)] ++ signsB s k)) (by simp only [List.length_append]; omega) (h k hk) (w := 0) (x := 63) (m := 512) (by decide)
  have e1 : l ++ (numsB [(n : Int)] ++ signsB s k) ++ signB (s k) = l ++ (numsB [(n : Int)] ++ signsB s (k + 1)) := by simp [signsB]
  rw [e1] at hT
  refine R_alongPc NG MO _ (pcPSg_p1 l n s k) ?_ (show 2 ≤ 64 by decide)
  simp only [All, Int.toNat_natCast]
  and_intros
  all_goals first | exact hT | (simp [hk, IntKind.min, IntKind.max, IntKind.signed, IntKind.bits] <;> omega))
  (R_alongPc NG MO _ (pcPSg_p0 l n s n) (by simp [All]) (show 2 ≤ 64 by decide)) (by simp)
theorem T_pSg {l : List UInt8} {n : Nat} {s : Nat → SSign} (hl : l.length ≤ 5000000000000) (hnn : n ≤ 1000) (h : ∀ k, k < n → SignOk (s k)) {w x m : Nat} (hn : [Nm.o w, Nm.o x, Nm.o m].Nodup) : T Tryz.prog 63 [.ptr (.o w) 0 0 0 0, sg n s, .fn (.func 64) [.ptr (.o w) 0 0 0 0] []] (wr w x l) (.tup []) (wr w m (l ++ (numsB [(n : Int)] ++ signsB s n))) := by
 have h0 : T Tryz.prog 63 [.ptr (.o 0) 0 0 0 0, sg n s, .fn (.func 64) [.ptr (.o 0) 0 0 0 0] []] (wr 0 1 l) (.tup []) (wr 0 63 (l ++ (numsB [(n : Int)] ++ signsB s n))) := by
  refine T_al (bdPSg_p l n s) Tryz.func63 ?_
  simp only [All]
  and_intros
  all_goals first | exact T_nu1 (by omega) (num63_nat (n := n) (by omega)) (by decide) | exact L_pSg hl hnn h | (simp [signsB]; done)
 obtain ⟨σ, hσ, h1⟩ := T.at h0 [.o 0, .o 1, .o 63] [.o w, .o x, .o m] (by simp) hn rfl
 simp only [List.map_cons, List.map_nil, List.cons.injEq, and_true] at hσ
 simpa [V.rens, V.ren, sg, sb, bs, wr, Heap.ren, B.ren, hσ.1, hσ.2.1, hσ.2.2] using h1
theorem T_crt {l : List UInt8} {c : SCert} (hl : l.length ≤ 4000000000000) (h : CertOk c) {w x m : Nat} (hn : [Nm.o w, Nm.o x, Nm.o m].Nodup) : T Tryz.prog 61 [.ptr (.o w) 0 0 0 0, .agg c.c] (wr w x l) (.tup []) (wr w m (l ++ certB c)) := by
 have h2 := voteB_len h.vote
 have h0 : T Tryz.prog 61 [.ptr (.o 0) 0 0 0 0, .agg c.c] (wr 0 1 l) (.tup []) (wr 0 63 (l ++ certB c)) := by
  refine T_al (bdCrt_p l c) Tryz.func61 ?_
  simp only [All]
  and_intros
  all_goals first | exact T_vot (by omega) h.vote (by decide) | exact T_pSg (by first | omega | (simp only [List.length_append]; omega)) h.n h.sig (by decide) | (simp [signB, voteB, certB, heldB, envB, List.append_assoc]; done)
 obtain ⟨σ, hσ, h1⟩ := T.at h0 [.o 0, .o 1, .o 63] [.o w, .o x, .o m] (by simp) hn rfl
 simp only [List.map_cons, List.map_nil, List.cons.injEq, and_true] at hσ
 simpa [V.rens, V.ren, SCert.c, SVote.c, sg, sb, bs, wr, Heap.ren, B.ren, hσ.1, hσ.2.1, hσ.2.2] using h1
theorem T_hld {l : List UInt8} {h : SHeld} (hl : l.length ≤ 1000000000000) (hh : HeldOk h) {w x m : Nat} (hn : [Nm.o w, Nm.o x, Nm.o m].Nodup) : T Tryz.prog 57 [.ptr (.o w) 0 0 0 0, .agg h.c] (wr w x l) (.tup []) (wr w m (l ++ heldB h)) := by
 have h2 := batchB_len hh.batch
 have h0 : T Tryz.prog 57 [.ptr (.o 0) 0 0 0 0, .agg h.c] (wr 0 1 l) (.tup []) (wr 0 63 (l ++ heldB h)) := by
  refine T_al (bdHld_p l h) Tryz.func57 ?_
  simp only [All]
  and_intros
  all_goals first | exact T_wb (by omega) hh.batch (by decide) | exact T_crt (by first | omega | (simp only [List.length_append]; omega)) hh.cert (by decide) | (simp [signB, voteB, certB, heldB, envB, List.append_assoc]; done)
 obtain ⟨σ, hσ, h1⟩ := T.at h0 [.o 0, .o 1, .o 63] [.o w, .o x, .o m] (by simp) hn rfl
 simp only [List.map_cons, List.map_nil, List.cons.injEq, and_true] at hσ
 simpa [V.rens, V.ren, SHeld.c, SBatch.c, SCert.c, SVote.c, rq, sg, sb, bs, wr, Heap.ren, B.ren, hσ.1, hσ.2.1, hσ.2.2] using h1
theorem L_pHl {l : List UInt8} {n : Nat} {s : Nat → SHeld} (hlen : l.length ≤ 500000000000) (hn : n ≤ 100) (h : ∀ k, k < n → HeldOk (s k)) : RLoop Tryz.prog none 2 (cB (cB (cR (cR (bodyOf Tryz.f56))))) (n + 1) (pjHl l n s 0) (.exit 0) (pjHl l n s n) :=
 RLoop.inv (pjHl l n s) n (fun k hk => by
  have h1 := heldsB_len (n := k) fun j hj => h j (by omega)
  have h2 := numsB1_len (num63_nat (n := n) (by omega))
  have hT := T_hld (l := l ++ (numsB [(n : Int)] ++ heldsB s k)) (by simp only [List.length_append]; omega) (h k hk) (w := 0) (x := 63) (m := 512) (by decide)
  have e1 : l ++ (numsB [(n : Int)] ++ heldsB s k) ++ heldB (s k) = l ++ (numsB [(n : Int)] ++ heldsB s (k + 1)) := by simp [heldsB]
  rw [e1] at hT
  refine R_alongPc NG MO _ (pcPHl_p1 l n s k) ?_ (show 2 ≤ 64 by decide)
  simp only [All, Int.toNat_natCast]
  and_intros
  all_goals first | exact hT | (simp [hk, IntKind.min, IntKind.max, IntKind.signed, IntKind.bits] <;> omega))
  (R_alongPc NG MO _ (pcPHl_p0 l n s n) (by simp [All]) (show 2 ≤ 64 by decide)) (by simp)
theorem T_pHl {l : List UInt8} {n : Nat} {s : Nat → SHeld} (hlen : l.length ≤ 500000000000) (hnn : n ≤ 100) (h : ∀ k, k < n → HeldOk (s k)) {w x m : Nat} (hn : [Nm.o w, Nm.o x, Nm.o m].Nodup) : T Tryz.prog 56 [.ptr (.o w) 0 0 0 0, hl n s, .fn (.func 57) [.ptr (.o w) 0 0 0 0] []] (wr w x l) (.tup []) (wr w m (l ++ (numsB [(n : Int)] ++ heldsB s n))) := by
 have h0 : T Tryz.prog 56 [.ptr (.o 0) 0 0 0 0, hl n s, .fn (.func 57) [.ptr (.o 0) 0 0 0 0] []] (wr 0 1 l) (.tup []) (wr 0 63 (l ++ (numsB [(n : Int)] ++ heldsB s n))) := by
  refine T_al (bdPHl_p l n s) Tryz.func56 ?_
  simp only [All]
  and_intros
  all_goals first | exact T_nu1 (by omega) (num63_nat (n := n) (by omega)) (by decide) | exact L_pHl hlen hnn h | (simp [heldsB]; done)
 obtain ⟨σ, hσ, h1⟩ := T.at h0 [.o 0, .o 1, .o 63] [.o w, .o x, .o m] (by simp) hn rfl
 simp only [List.map_cons, List.map_nil, List.cons.injEq, and_true] at hσ
 simpa [V.rens, V.ren, hl, sb, bs, wr, Heap.ren, B.ren, hσ.1, hσ.2.1, hσ.2.2] using h1
theorem L_pNw {l : List UInt8} {n : Nat} {s : Nat → SEnv} (hl : l.length ≤ 500000000000) (hn : n ≤ 1000) (h : ∀ k, k < n → EnvOk (s k)) : RLoop Tryz.prog none 2 (cB (cB (cR (cR (bodyOf Tryz.f58))))) (n + 1) (pjNw l n s 0) (.exit 0) (pjNw l n s n) :=
 RLoop.inv (pjNw l n s) n (fun k hk => by
  have h1 := envsB_len (n := k) fun j hj => h j (by omega)
  have h2 := numsB1_len (num63_nat (n := n) (by omega))
  have hT := T_env (l := l ++ (numsB [(n : Int)] ++ envsB s k)) (by simp only [List.length_append]; omega) (h k hk) (w := 0) (x := 63) (m := 512) (by decide)
  have e1 : l ++ (numsB [(n : Int)] ++ envsB s k) ++ envB (s k) = l ++ (numsB [(n : Int)] ++ envsB s (k + 1)) := by simp [envsB]
  rw [e1] at hT
  refine R_alongPc NG MO _ (pcPNw_p1 l n s k) ?_ (show 2 ≤ 64 by decide)
  simp only [All, Int.toNat_natCast]
  and_intros
  all_goals first | exact hT | (simp [hk, IntKind.min, IntKind.max, IntKind.signed, IntKind.bits] <;> omega))
  (R_alongPc NG MO _ (pcPNw_p0 l n s n) (by simp [All]) (show 2 ≤ 64 by decide)) (by simp)
theorem T_pNw {l : List UInt8} {n : Nat} {s : Nat → SEnv} (hl : l.length ≤ 500000000000) (hnn : n ≤ 1000) (h : ∀ k, k < n → EnvOk (s k)) {w x m : Nat} (hn : [Nm.o w, Nm.o x, Nm.o m].Nodup) : T Tryz.prog 58 [.ptr (.o w) 0 0 0 0, nw n s, .fn (.func 59) [.ptr (.o w) 0 0 0 0] []] (wr w x l) (.tup []) (wr w m (l ++ (numsB [(n : Int)] ++ envsB s n))) := by
 have h0 : T Tryz.prog 58 [.ptr (.o 0) 0 0 0 0, nw n s, .fn (.func 59) [.ptr (.o 0) 0 0 0 0] []] (wr 0 1 l) (.tup []) (wr 0 63 (l ++ (numsB [(n : Int)] ++ envsB s n))) := by
  refine T_al (bdPNw_p l n s) Tryz.func58 ?_
  simp only [All]
  and_intros
  all_goals first | exact T_nu1 (by omega) (num63_nat (n := n) (by omega)) (by decide) | exact L_pNw hl hnn h | (simp [envsB]; done)
 obtain ⟨σ, hσ, h1⟩ := T.at h0 [.o 0, .o 1, .o 63] [.o w, .o x, .o m] (by simp) hn rfl
 simp only [List.map_cons, List.map_nil, List.cons.injEq, and_true] at hσ
 simpa [V.rens, V.ren, nw, sb, bs, wr, Heap.ren, B.ren, hσ.1, hσ.2.1, hσ.2.2] using h1
end Go.Proofs.YtnmccoincblecaaGreat
namespace Go.Proofs.YtnmccoincblecaaGreat
open Go Sy Go.Proofs
def uptoS (n m : Int) : Bool := decide (0 ≤ n) && decide (n ≤ m)
def mayReqS (r : SReq) : Bool := uptoS r.client 8 && (uptoS r.num 1099511627776 && decide (r.data.size ≤ 64))
def mayVoteS (v : SVote) : Bool := (decide (v.kind = 1) || decide (v.kind = 2)) && (uptoS v.epoch 1048576 && (uptoS v.view 1099511627776 && uptoS v.slot 1099511627776))
def maySignS (s : SSign) : Bool := uptoS s.node 64
def allS (n most : Nat) (p : Nat → Bool) : Bool := decide (n ≤ most) && decide (∀ i, i < n → p i = true)
def mayCertS (c : SCert) : Bool := mayVoteS c.vote && allS c.n 64 (fun i => maySignS (c.sig i))
def mayBatchS (b : SBatch) : Bool := !(b.noop && decide (0 < b.n)) && allS b.n 4 (fun i => mayReqS (b.req i))
def mayHeldS (h : SHeld) : Bool := mayBatchS h.batch && mayCertS h.cert
def mayEnvS (e : SEnv) : Bool := uptoS e.src 64 && decide (e.body.size ≤ 4194304)
def mayChangeS (m : SMsg) : Bool := uptoS m.cepoch 1048576 && (uptoS m.cleader 64 && (uptoS m.cview 1099511627776 && allS m.nheld 4 (fun i => mayHeldS (m.held i))))
def dbUpto : Nat → List V → Heap → Nat → List Cl
 | 90, [.int _ n, .int _ m], _, _ => [{ val := .bool (uptoS n m) }]
 | _, _, _, _ => []
def dbV (l : List (Nat × V)) : Nat → List V → Heap → Nat → List Cl := fun k args h lo => match dbUpto k args h lo with
 | [] => match lookS l k with
  | some v => [{ val := v }]
  | none => []
 | r => r
noncomputable def bdUpto (n m : Int) : Bd := { f := Tryz.f90, args := [.int .i64 n, .int .i64 m], kb := kb0 }
noncomputable def bdMR (r : SReq) : Bd := { f := Tryz.f132, args := [.agg r.c], kb := { db := dbUpto } }
noncomputable def bdMV (v : SVote) : Bd := { f := Tryz.f88, args := [.agg v.c], kb := { db := dbUpto } }
noncomputable def bdMS (s : SSign) : Bd := { f := Tryz.f96, args := [.agg s.c], kb := { db := dbUpto } }
noncomputable def bdME (e : SEnv) : Bd := { f := Tryz.f94, args := [.agg e.c], kb := { db := dbUpto } }
noncomputable def bdMC (c : SCert) : Bd := { f := Tryz.f89, args := [.agg c.c], kb := { db := dbV [(88, .bool (mayVoteS c.vote)), (95, .bool (allS c.n 64 (fun i => maySignS (c.sig i))))] } }
noncomputable def bdMB (b : SBatch) : Bd := { f := Tryz.f91, args := [.agg b.c], kb := { db := dbV [(131, .bool (allS b.n 4 (fun i => mayReqS (b.req i))))] } }
noncomputable def bdMH (h : SHeld) : Bd := { f := Tryz.f134, args := [.agg h.c], kb := { db := dbV [(91, .bool (mayBatchS h.batch)), (89, .bool (mayCertS h.cert))] } }
def chC (m : SMsg) : List V := [.int .i64 m.cepoch, .int .i64 m.cleader, .int .i64 m.cview, hl m.nheld m.held]
noncomputable def bdMG (m : SMsg) : Bd := { f := Tryz.f92, args := [.agg (chC m)], kb := { db := dbV [(133, .bool (allS m.nheld 4 (fun i => mayHeldS (m.held i))))] } }
def alI (v : V) (n : Nat) (isf k : Nat) : St := ⟨mkT 24 [(2, .fn (.func isf) [] []), (13, v), (14, .int .i64 n), (15, .int .i64 k)], [], 0, []⟩
def alF : St := ⟨mkT 24 [(6, .bool false)], [], 0, []⟩
noncomputable def bdAl (f : Func) (v : V) (n : Nat) (most : Int) (isf m : Nat) : Bd := { f := f, args := [v, .int .i64 most, .fn (.func isf) [] []], kb := { db := fun _ _ _ _ => [], lp := fun _ _ => [(True, .loop (n + 1) (wTo (alI v n isf 0)) (.exit 0) (alI v n isf n)), (True, .loop (m + 1) (wTo (alI v n isf 0)) .ret alF)] } }
noncomputable def pcAl (f : Func) (v : V) (n isf k : Nat) (p : Bool) : Pc := { c := cB (cB (cR (cL (cR (cR (bodyOf f)))))), st := alI v n isf k, kb := { db := fun _ _ _ _ => [{ val := .bool p }] }, k := fun e _ => match e with
 | .normal => some (wTo (alI v n isf (k + 1)))
 | .ret => some (wTo alF)
 | _ => some (wTo (alI v n isf n)) }
noncomputable def bdAlR (n : Nat) (r : Nat → SReq) (most : Int) (m : Nat) : Bd := bdAl Tryz.f131 (rq n r) n most 132 m
noncomputable def pcAlR (n : Nat) (r : Nat → SReq) (k : Nat) : Pc := pcAl Tryz.f131 (rq n r) n 132 k (mayReqS (r k))
noncomputable def bdAlS (n : Nat) (r : Nat → SSign) (most : Int) (m : Nat) : Bd := bdAl Tryz.f95 (sg n r) n most 96 m
noncomputable def pcAlS (n : Nat) (r : Nat → SSign) (k : Nat) : Pc := pcAl Tryz.f95 (sg n r) n 96 k (maySignS (r k))
noncomputable def bdAlH (n : Nat) (r : Nat → SHeld) (most : Int) (m : Nat) : Bd := bdAl Tryz.f133 (hl n r) n most 134 m
noncomputable def pcAlH (n : Nat) (r : Nat → SHeld) (k : Nat) : Pc := pcAl Tryz.f133 (hl n r) n 134 k (mayHeldS (r k))
noncomputable def bdAlE (n : Nat) (r : Nat → SEnv) (most : Int) (m : Nat) : Bd := bdAl Tryz.f93 (nw n r) n most 94 m
noncomputable def pcAlE (n : Nat) (r : Nat → SEnv) (k : Nat) : Pc := pcAl Tryz.f93 (nw n r) n 94 k (mayEnvS (r k))
end Go.Proofs.YtnmccoincblecaaGreat
namespace Go.Proofs.YtnmccoincblecaaGreat
open Go Sy Go.Proofs
theorem bdUpto_p1 (n : Int) (m : Int) :
  along Tryz.prog (bdUpto n m) [true] = (some (.bool (decide (n ≤ m)), [], [decide ((0 : Int) ≤ n) = true]) : Option (V × Heap × List Prop)) := by kernel_rfl
theorem bdUpto_p0 (n : Int) (m : Int) :
  along Tryz.prog (bdUpto n m) [false] = (some (.bool false, [], [decide ((0 : Int) ≤ n) = false]) : Option (V × Heap × List Prop)) := by kernel_rfl

theorem bdMR_p11 (r : SReq) :
  along Tryz.prog (bdMR r) [true, true] = (some (.bool (decide ((↑(ByteArray.size (SReq.data r)) : Int) ≤ (64 : Int))), [], [T Tryz.prog 90 [.int .i64 (SReq.client r), .int .i64 8] [] (.bool (uptoS (SReq.client r) (8 : Int))) [], uptoS (SReq.client r) (8 : Int) = true, T Tryz.prog 90 [.int .i64 (SReq.num r), .int .i64 1099511627776] [] (.bool (uptoS (SReq.num r) (1099511627776 : Int))) [], uptoS (SReq.num r) (1099511627776 : Int) = true]) : Option (V × Heap × List Prop)) := by kernel_rfl
theorem bdMR_p10 (r : SReq) :
  along Tryz.prog (bdMR r) [true, false] = (some (.bool false, [], [T Tryz.prog 90 [.int .i64 (SReq.client r), .int .i64 8] [] (.bool (uptoS (SReq.client r) (8 : Int))) [], uptoS (SReq.client r) (8 : Int) = true, T Tryz.prog 90 [.int .i64 (SReq.num r), .int .i64 1099511627776] [] (.bool (uptoS (SReq.num r) (1099511627776 : Int))) [], uptoS (SReq.num r) (1099511627776 : Int) = false]) : Option (V × Heap × List Prop)) := by kernel_rfl
theorem bdMR_p00 (r : SReq) :
  along Tryz.prog (bdMR r) [false, false] = (some (.bool false, [], [T Tryz.prog 90 [.int .i64 (SReq.client r), .int .i64 8] [] (.bool (uptoS (SReq.client r) (8 : Int))) [], uptoS (SReq.client r) (8 : Int) = false, q false]) : Option (V × Heap × List Prop)) := by kernel_rfl

noncomputable def bdMV_c (v : SVote) : Nat → List Prop
 | 0 => [decide (SVote.kind v = (1 : Int)) = true, q2, T Tryz.prog 90 [.int .i64 (SVote.epoch v), .int .i64 1048576] [] (.bool (uptoS (SVote.epoch v) (1048576 : Int))) []]
 | 1 => [uptoS (SVote.epoch v) (1048576 : Int) = true, T Tryz.prog 90 [.int .i64 (SVote.view v), .int .i64 1099511627776] [] (.bool (uptoS (SVote.view v) (1099511627776 : Int))) []]
 | 2 => [decide (SVote.kind v = (2 : Int)) = true, T Tryz.prog 90 [.int .i64 (SVote.epoch v), .int .i64 1048576] [] (.bool (uptoS (SVote.epoch v) (1048576 : Int))) []]
 | 3 => [uptoS (SVote.epoch v) (1048576 : Int) = true, T Tryz.prog 90 [.int .i64 (SVote.view v), .int .i64 1099511627776] [] (.bool (uptoS (SVote.view v) (1099511627776 : Int))) []]
 | _ => []
theorem bdMV_p1111 (v : SVote) :
 along Tryz.prog (bdMV v) [true, true, true, true] = (some (.bool (uptoS (SVote.slot v) (1099511627776 : Int)), [], bdMV_c v 0 ++ (bdMV_c v 1 ++ [uptoS (SVote.view v) (1099511627776 : Int) = true, T Tryz.prog 90 [.int .i64 (SVote.slot v), .int .i64 1099511627776] [] (.bool (uptoS (SVote.slot v) (1099511627776 : Int))) []])) : Option (V × Heap × List Prop)) := by kernel_rfl
theorem bdMV_p1110 (v : SVote) :
 along Tryz.prog (bdMV v) [true, true, true, false] = (some (.bool false, [], bdMV_c v 0 ++ (bdMV_c v 1 ++ [uptoS (SVote.view v) (1099511627776 : Int) = false])) : Option (V × Heap × List Prop)) := by kernel_rfl
theorem bdMV_p1100 (v : SVote) :
 along Tryz.prog (bdMV v) [true, true, false, false] = (some (.bool false, [], bdMV_c v 0 ++ [uptoS (SVote.epoch v) (1048576 : Int) = false, q false]) : Option (V × Heap × List Prop)) := by kernel_rfl
theorem bdMV_p0111 (v : SVote) :
 along Tryz.prog (bdMV v) [false, true, true, true] = (some (.bool (uptoS (SVote.slot v) (1099511627776 : Int)), [], [decide (SVote.kind v = (1 : Int)) = false] ++ (bdMV_c v 2 ++ (bdMV_c v 3 ++ [uptoS (SVote.view v) (1099511627776 : Int) = true, T Tryz.prog 90 [.int .i64 (SVote.slot v), .int .i64 1099511627776] [] (.bool (uptoS (SVote.slot v) (1099511627776 : Int))) []]))) : Option (V × Heap × List Prop)) := by kernel_rfl
theorem bdMV_p0110 (v : SVote) :
 along Tryz.prog (bdMV v) [false, true, true, false] = (some (.bool false, [], [decide (SVote.kind v = (1 : Int)) = false] ++ (bdMV_c v 2 ++ (bdMV_c v 3 ++ [uptoS (SVote.view v) (1099511627776 : Int) = false]))) : Option (V × Heap × List Prop)) := by kernel_rfl
theorem bdMV_p0100 (v : SVote) :
 along Tryz.prog (bdMV v) [false, true, false, false] = (some (.bool false, [], [decide (SVote.kind v = (1 : Int)) = false] ++ (bdMV_c v 2 ++ [uptoS (SVote.epoch v) (1048576 : Int) = false, q false])) : Option (V × Heap × List Prop)) := by kernel_rfl
theorem bdMV_p0000 (v : SVote) :
 along Tryz.prog (bdMV v) [false, false, false, false] = (some (.bool false, [], [decide (SVote.kind v = (1 : Int)) = false, decide (SVote.kind v = (2 : Int)) = false, q false, q false]) : Option (V × Heap × List Prop)) := by kernel_rfl

theorem bdMS_p (s : SSign) :
  along Tryz.prog (bdMS s) [] = (some (.bool (uptoS (SSign.node s) (64 : Int)), [], [T Tryz.prog 90 [.int .i64 (SSign.node s), .int .i64 64] [] (.bool (uptoS (SSign.node s) (64 : Int))) []]) : Option (V × Heap × List Prop)) := by kernel_rfl

theorem bdME_p1 (e : SEnv) :
  along Tryz.prog (bdME e) [true] = (some (.bool (decide ((↑(ByteArray.size (SEnv.body e)) : Int) ≤ (4194304 : Int))), [], [T Tryz.prog 90 [.int .i64 (SEnv.src e), .int .i64 64] [] (.bool (uptoS (SEnv.src e) (64 : Int))) [], uptoS (SEnv.src e) (64 : Int) = true]) : Option (V × Heap × List Prop)) := by kernel_rfl
theorem bdME_p0 (e : SEnv) :
  along Tryz.prog (bdME e) [false] = (some (.bool false, [], [T Tryz.prog 90 [.int .i64 (SEnv.src e), .int .i64 64] [] (.bool (uptoS (SEnv.src e) (64 : Int))) [], uptoS (SEnv.src e) (64 : Int) = false]) : Option (V × Heap × List Prop)) := by kernel_rfl

theorem bdMC_p1 (c : SCert) :
  along Tryz.prog (bdMC c) [true] = (some (.bool (allS (SCert.n c) 64 fun i => maySignS (SCert.sig c i)), [], [T Tryz.prog 88 [.agg (SVote.c (SCert.vote c))] [] (.bool (mayVoteS (SCert.vote c))) [], mayVoteS (SCert.vote c) = true, T Tryz.prog 95 [.ros 17 (SCert.n c) (fun i => SSign.c (SCert.sig c i)) false, .int .i64 64, .fn (.func 96) [] []] [] (.bool (allS (SCert.n c) 64 fun i => maySignS (SCert.sig c i))) []]) : Option (V × Heap × List Prop)) := by kernel_rfl
theorem bdMC_p0 (c : SCert) :
  along Tryz.prog (bdMC c) [false] = (some (.bool false, [], [T Tryz.prog 88 [.agg (SVote.c (SCert.vote c))] [] (.bool (mayVoteS (SCert.vote c))) [], mayVoteS (SCert.vote c) = false]) : Option (V × Heap × List Prop)) := by kernel_rfl

theorem bdMB_p11 (b : SBatch) :
  along Tryz.prog (bdMB b) [true, true] = (some (.bool (allS (SBatch.n b) 4 fun i => mayReqS (SBatch.req b i)), [], [SBatch.noop b = true, (!decide ((0 : Int) < (↑(SBatch.n b) : Int))) = true, T Tryz.prog 131 [.ros 19 (SBatch.n b) (fun i => SReq.c (SBatch.req b i)) false, .int .i64 4, .fn (.func 132) [] []] [] (.bool (allS (SBatch.n b) 4 fun i => mayReqS (SBatch.req b i))) []]) : Option (V × Heap × List Prop)) := by kernel_rfl
theorem bdMB_p10 (b : SBatch) :
  along Tryz.prog (bdMB b) [true, false] = (some (.bool false, [], [SBatch.noop b = true, (!decide ((0 : Int) < (↑(SBatch.n b) : Int))) = false]) : Option (V × Heap × List Prop)) := by kernel_rfl
theorem bdMB_p01 (b : SBatch) :
  along Tryz.prog (bdMB b) [false, true] = (some (.bool (allS (SBatch.n b) 4 fun i => mayReqS (SBatch.req b i)), [], [SBatch.noop b = false, q2, T Tryz.prog 131 [.ros 19 (SBatch.n b) (fun i => SReq.c (SBatch.req b i)) false, .int .i64 4, .fn (.func 132) [] []] [] (.bool (allS (SBatch.n b) 4 fun i => mayReqS (SBatch.req b i))) []]) : Option (V × Heap × List Prop)) := by kernel_rfl

theorem bdMH_p1 (h : SHeld) :
  along Tryz.prog (bdMH h) [true] = (some (.bool (mayCertS (SHeld.cert h)), [], [T Tryz.prog 91 [.agg (SBatch.c (SHeld.batch h))] [] (.bool (mayBatchS (SHeld.batch h))) [], mayBatchS (SHeld.batch h) = true, T Tryz.prog 89 [.agg [.int .i64 (SVote.kind (SCert.vote (SHeld.cert h))), .int .i64 (SVote.epoch (SCert.vote (SHeld.cert h))), .int .i64 (SVote.view (SCert.vote (SHeld.cert h))), .int .i64 (SVote.slot (SCert.vote (SHeld.cert h))), .seg .u8 32 (SVote.digest (SCert.vote (SHeld.cert h))), sg (SCert.n (SHeld.cert h)) (SCert.sig (SHeld.cert h))]] [] (.bool (mayCertS (SHeld.cert h))) []]) : Option (V × Heap × List Prop)) := by kernel_rfl
theorem bdMH_p0 (h : SHeld) :
  along Tryz.prog (bdMH h) [false] = (some (.bool false, [], [T Tryz.prog 91 [.agg (SBatch.c (SHeld.batch h))] [] (.bool (mayBatchS (SHeld.batch h))) [], mayBatchS (SHeld.batch h) = false]) : Option (V × Heap × List Prop)) := by kernel_rfl

noncomputable def bdMG_c (m : SMsg) : Nat → List Prop
 | 0 => [T Tryz.prog 90 [.int .i64 (SMsg.cepoch m), .int .i64 1048576] [] (.bool (uptoS (SMsg.cepoch m) (1048576 : Int))) []]
 | 1 => [uptoS (SMsg.cepoch m) (1048576 : Int) = true, T Tryz.prog 90 [.int .i64 (SMsg.cleader m), .int .i64 64] [] (.bool (uptoS (SMsg.cleader m) (64 : Int))) []]
 | 2 => [uptoS (SMsg.cleader m) (64 : Int) = true, T Tryz.prog 90 [.int .i64 (SMsg.cview m), .int .i64 1099511627776] [] (.bool (uptoS (SMsg.cview m) (1099511627776 : Int))) []]
 | _ => []
theorem bdMG_p111 (m : SMsg) :
 along Tryz.prog (bdMG m) [true, true, true] = (some (.bool (allS (SMsg.nheld m) 4 fun i => mayHeldS (SMsg.held m i)), [], bdMG_c m 0 ++ (bdMG_c m 1 ++ (bdMG_c m 2 ++ [uptoS (SMsg.cview m) (1099511627776 : Int) = true, T Tryz.prog 133 [.ros 39 (SMsg.nheld m) (fun i => SHeld.c (SMsg.held m i)) false, .int .i64 4, .fn (.func 134) [] []] [] (.bool (allS (SMsg.nheld m) 4 fun i => mayHeldS (SMsg.held m i))) []]))) : Option (V × Heap × List Prop)) := by kernel_rfl
theorem bdMG_p110 (m : SMsg) :
 along Tryz.prog (bdMG m) [true, true, false] = (some (.bool false, [], bdMG_c m 0 ++ (bdMG_c m 1 ++ (bdMG_c m 2 ++ [uptoS (SMsg.cview m) (1099511627776 : Int) = false]))) : Option (V × Heap × List Prop)) := by kernel_rfl
theorem bdMG_p100 (m : SMsg) :
 along Tryz.prog (bdMG m) [true, false, false] = (some (.bool false, [], bdMG_c m 0 ++ (bdMG_c m 1 ++ [uptoS (SMsg.cleader m) (64 : Int) = false, q false])) : Option (V × Heap × List Prop)) := by kernel_rfl
theorem bdMG_p000 (m : SMsg) :
 along Tryz.prog (bdMG m) [false, false, false] = (some (.bool false, [], bdMG_c m 0 ++ [uptoS (SMsg.cepoch m) (1048576 : Int) = false, q false, q false]) : Option (V × Heap × List Prop)) := by kernel_rfl

theorem bdAlR_p1 (n : Nat) (r : Nat → SReq) (most : Int) (m : Nat) :
  along Tryz.prog (bdAlR n r most m) [true] = (some (.bool false, [], [decide (most < (↑n : Int)) = true]) : Option (V × Heap × List Prop)) := by kernel_rfl
theorem bdAlR_p01 (n : Nat) (r : Nat → SReq) (most : Int) (m : Nat) :
  along Tryz.prog (bdAlR n r most m) [false, true] = (some (.bool true, [], [decide (most < (↑n : Int)) = false, RLoop Tryz.prog none 0 (cB (cB (cR (cL (cR (cR (bodyOf (Bd.f (bdAlR n r most m))))))))) (n + 1) (St.mk (mkT 24 [(2, .fn (.func 132) [] []), (13, .ros 19 n (fun i => SReq.c (r i)) false), (14, .int .i64 ↑n), (15, .int .i64 0)]) [] 0 []) (.exit 0) (St.mk (mkT 24 [(2, .fn (.func 132) [] []), (13, .ros 19 n (fun i => SReq.c (r i)) false), (14, .int .i64 ↑n), (15, .int .i64 ↑n)]) [] 0 []), q n, ∀ (k : Nat), k < n → SReq.c (r k) = SReq.c (r k), false = true → false = true, q (↑n : Int), q1]) : Option (V × Heap × List Prop)) := by kernel_rfl
theorem bdAlR_p00 (n : Nat) (r : Nat → SReq) (most : Int) (m : Nat) :
  along Tryz.prog (bdAlR n r most m) [false, false] = (some (.bool false, [], [decide (most < (↑n : Int)) = false, RLoop Tryz.prog none 0 (cB (cB (cR (cL (cR (cR (bodyOf (Bd.f (bdAlR n r most m))))))))) (m + 1) (St.mk (mkT 24 [(2, .fn (.func 132) [] []), (13, .ros 19 n (fun i => SReq.c (r i)) false), (14, .int .i64 ↑n), (15, .int .i64 0)]) [] 0 []) .ret (St.mk (mkT 24 [(6, .bool false)]) [] 0 []), q n, ∀ (k : Nat), k < n → SReq.c (r k) = SReq.c (r k), false = true → false = true, q (↑n : Int), q1]) : Option (V × Heap × List Prop)) := by kernel_rfl

theorem pcAlR_p11 (n : Nat) (r : Nat → SReq) (k : Nat) :
  alongPc Tryz.prog (pcAlR n r k) [true, true] = (some (.ret, St.mk (mkT 24 [(6, .bool false)]) [] 0 [], [decide ((↑k : Int) < (↑n : Int)) = true, (0 : Int) ≤ (↑k : Int) ∧ (↑k : Int) < (↑n : Int), T Tryz.prog 132 [.agg (SReq.c (r (Int.toNat (↑k : Int))))] [] (.bool (mayReqS (r k))) [], (!mayReqS (r k)) = true, q false]) : Option (Exit × St × List Prop)) := by kernel_rfl
theorem pcAlR_p10 (n : Nat) (r : Nat → SReq) (k : Nat) :
  alongPc Tryz.prog (pcAlR n r k) [true, false] = (some (.normal, St.mk (mkT 24 [(2, .fn (.func 132) [] []), (13, .ros 19 n (fun i => SReq.c (r i)) false), (14, .int .i64 ↑n), (15, .int .i64 (↑(k + 1) : Int))]) [] 0 [], [decide ((↑k : Int) < (↑n : Int)) = true, (0 : Int) ≤ (↑k : Int) ∧ (↑k : Int) < (↑n : Int), T Tryz.prog 132 [.agg (SReq.c (r (Int.toNat (↑k : Int))))] [] (.bool (mayReqS (r k))) [], (!mayReqS (r k)) = false, InR IntKind.i64 ((↑k : Int) + (1 : Int)), q n, ∀ (k : Nat), k < n → SReq.c (r k) = SReq.c (r k), false = true → false = true, q (↑n : Int), (↑k : Int) + (1 : Int) = (↑(k + (1 : Nat)) : Int)]) : Option (Exit × St × List Prop)) := by kernel_rfl
theorem pcAlR_p0 (n : Nat) (r : Nat → SReq) (k : Nat) :
  alongPc Tryz.prog (pcAlR n r k) [false] = (some (.exit 0, St.mk (mkT 24 [(2, .fn (.func 132) [] []), (13, .ros 19 n (fun i => SReq.c (r i)) false), (14, .int .i64 ↑n), (15, .int .i64 ↑n)]) [] 0 [], [decide ((↑k : Int) < (↑n : Int)) = false, q n, ∀ (k : Nat), k < n → SReq.c (r k) = SReq.c (r k), false = true → false = true, q (↑n : Int), (↑k : Int) = (↑n : Int)]) : Option (Exit × St × List Prop)) := by kernel_rfl

theorem bdAlS_p1 (n : Nat) (r : Nat → SSign) (most : Int) (m : Nat) :
  along Tryz.prog (bdAlS n r most m) [true] = (some (.bool false, [], [decide (most < (↑n : Int)) = true]) : Option (V × Heap × List Prop)) := by kernel_rfl
theorem bdAlS_p01 (n : Nat) (r : Nat → SSign) (most : Int) (m : Nat) :
  along Tryz.prog (bdAlS n r most m) [false, true] = (some (.bool true, [], [decide (most < (↑n : Int)) = false, RLoop Tryz.prog none 0 (cB (cB (cR (cL (cR (cR (bodyOf (Bd.f (bdAlS n r most m))))))))) (n + 1) (St.mk (mkT 24 [(2, .fn (.func 96) [] []), (13, .ros 17 n (fun i => SSign.c (r i)) false), (14, .int .i64 ↑n), (15, .int .i64 0)]) [] 0 []) (.exit 0) (St.mk (mkT 24 [(2, .fn (.func 96) [] []), (13, .ros 17 n (fun i => SSign.c (r i)) false), (14, .int .i64 ↑n), (15, .int .i64 ↑n)]) [] 0 []), q n, ∀ (k : Nat), k < n → SSign.c (r k) = SSign.c (r k), false = true → false = true, q (↑n : Int), q1]) : Option (V × Heap × List Prop)) := by kernel_rfl
theorem bdAlS_p00 (n : Nat) (r : Nat → SSign) (most : Int) (m : Nat) :
  along Tryz.prog (bdAlS n r most m) [false, false] = (some (.bool false, [], [decide (most < (↑n : Int)) = false, RLoop Tryz.prog none 0 (cB (cB (cR (cL (cR (cR (bodyOf (Bd.f (bdAlS n r most m))))))))) (m + 1) (St.mk (mkT 24 [(2, .fn (.func 96) [] []), (13, .ros 17 n (fun i => SSign.c (r i)) false), (14, .int .i64 ↑n), (15, .int .i64 0)]) [] 0 []) .ret (St.mk (mkT 24 [(6, .bool false)]) [] 0 []), q n, ∀ (k : Nat), k < n → SSign.c (r k) = SSign.c (r k), false = true → false = true, q (↑n : Int), q1]) : Option (V × Heap × List Prop)) := by kernel_rfl

theorem pcAlS_p11 (n : Nat) (r : Nat → SSign) (k : Nat) :
  alongPc Tryz.prog (pcAlS n r k) [true, true] = (some (.ret, St.mk (mkT 24 [(6, .bool false)]) [] 0 [], [decide ((↑k : Int) < (↑n : Int)) = true, (0 : Int) ≤ (↑k : Int) ∧ (↑k : Int) < (↑n : Int), T Tryz.prog 96 [.agg (SSign.c (r (Int.toNat (↑k : Int))))] [] (.bool (maySignS (r k))) [], (!maySignS (r k)) = true, q false]) : Option (Exit × St × List Prop)) := by kernel_rfl
theorem pcAlS_p10 (n : Nat) (r : Nat → SSign) (k : Nat) :
  alongPc Tryz.prog (pcAlS n r k) [true, false] = (some (.normal, St.mk (mkT 24 [(2, .fn (.func 96) [] []), (13, .ros 17 n (fun i => SSign.c (r i)) false), (14, .int .i64 ↑n), (15, .int .i64 (↑(k + 1) : Int))]) [] 0 [], [decide ((↑k : Int) < (↑n : Int)) = true, (0 : Int) ≤ (↑k : Int) ∧ (↑k : Int) < (↑n : Int), T Tryz.prog 96 [.agg (SSign.c (r (Int.toNat (↑k : Int))))] [] (.bool (maySignS (r k))) [], (!maySignS (r k)) = false, InR IntKind.i64 ((↑k : Int) + (1 : Int)), q n, ∀ (k : Nat), k < n → SSign.c (r k) = SSign.c (r k), false = true → false = true, q (↑n : Int), (↑k : Int) + (1 : Int) = (↑(k + (1 : Nat)) : Int)]) : Option (Exit × St × List Prop)) := by kernel_rfl
theorem pcAlS_p0 (n : Nat) (r : Nat → SSign) (k : Nat) :
  alongPc Tryz.prog (pcAlS n r k) [false] = (some (.exit 0, St.mk (mkT 24 [(2, .fn (.func 96) [] []), (13, .ros 17 n (fun i => SSign.c (r i)) false), (14, .int .i64 ↑n), (15, .int .i64 ↑n)]) [] 0 [], [decide ((↑k : Int) < (↑n : Int)) = false, q n, ∀ (k : Nat), k < n → SSign.c (r k) = SSign.c (r k), false = true → false = true, q (↑n : Int), (↑k : Int) = (↑n : Int)]) : Option (Exit × St × List Prop)) := by kernel_rfl

theorem bdAlH_p1 (n : Nat) (r : Nat → SHeld) (most : Int) (m : Nat) :
  along Tryz.prog (bdAlH n r most m) [true] = (some (.bool false, [], [decide (most < (↑n : Int)) = true]) : Option (V × Heap × List Prop)) := by kernel_rfl
theorem bdAlH_p01 (n : Nat) (r : Nat → SHeld) (most : Int) (m : Nat) :
  along Tryz.prog (bdAlH n r most m) [false, true] = (some (.bool true, [], [decide (most < (↑n : Int)) = false, RLoop Tryz.prog none 0 (cB (cB (cR (cL (cR (cR (bodyOf (Bd.f (bdAlH n r most m))))))))) (n + 1) (St.mk (mkT 24 [(2, .fn (.func 134) [] []), (13, .ros 39 n (fun i => SHeld.c (r i)) false), (14, .int .i64 ↑n), (15, .int .i64 0)]) [] 0 []) (.exit 0) (St.mk (mkT 24 [(2, .fn (.func 134) [] []), (13, .ros 39 n (fun i => SHeld.c (r i)) false), (14, .int .i64 ↑n), (15, .int .i64 ↑n)]) [] 0 []), q n, ∀ (k : Nat), k < n → SHeld.c (r k) = SHeld.c (r k), false = true → false = true, q (↑n : Int), q1]) : Option (V × Heap × List Prop)) := by kernel_rfl
theorem bdAlH_p00 (n : Nat) (r : Nat → SHeld) (most : Int) (m : Nat) :
  along Tryz.prog (bdAlH n r most m) [false, false] = (some (.bool false, [], [decide (most < (↑n : Int)) = false, RLoop Tryz.prog none 0 (cB (cB (cR (cL (cR (cR (bodyOf (Bd.f (bdAlH n r most m))))))))) (m + 1) (St.mk (mkT 24 [(2, .fn (.func 134) [] []), (13, .ros 39 n (fun i => SHeld.c (r i)) false), (14, .int .i64 ↑n), (15, .int .i64 0)]) [] 0 []) .ret (St.mk (mkT 24 [(6, .bool false)]) [] 0 []), q n, ∀ (k : Nat), k < n → SHeld.c (r k) = SHeld.c (r k), false = true → false = true, q (↑n : Int), q1]) : Option (V × Heap × List Prop)) := by kernel_rfl

noncomputable def pcAlH_c (n : Nat) (r : Nat → SHeld) (k : Nat) : Nat → List Prop
 | 0 => [decide ((↑k : Int) < (↑n : Int)) = true, (0 : Int) ≤ (↑k : Int) ∧ (↑k : Int) < (↑n : Int), T Tryz.prog 134 [.agg [.bool (SBatch.noop (SHeld.batch (r (Int.toNat (↑k : Int))))), rq (SBatch.n (SHeld.batch (r (Int.toNat (↑k : Int))))) (SBatch.req (SHeld.batch (r (Int.toNat (↑k : Int))))), .int .i64 (SVote.kind (SCert.vote (SHeld.cert (r (Int.toNat (↑k : Int)))))), .int .i64 (SVote.epoch (SCert.vote (SHeld.cert (r (Int.toNat (↑k : Int)))))), .int .i64 (SVote.view (SCert.vote (SHeld.cert (r (Int.toNat (↑k : Int)))))), .int .i64 (SVote.slot (SCert.vote (SHeld.cert (r (Int.toNat (↑k : Int)))))), .seg .u8 32 (SVote.digest (SCert.vote (SHeld.cert (r (Int.toNat (↑k : Int)))))), sg (SCert.n (SHeld.cert (r (Int.toNat (↑k : Int))))) (SCert.sig (SHeld.cert (r (Int.toNat (↑k : Int)))))]] [] (.bool (mayHeldS (r k))) []]
 | _ => []
theorem pcAlH_p11 (n : Nat) (r : Nat → SHeld) (k : Nat) :
 alongPc Tryz.prog (pcAlH n r k) [true, true] = (some (.ret, St.mk (mkT 24 [(6, .bool false)]) [] 0 [], pcAlH_c n r k 0 ++ [(!mayHeldS (r k)) = true, q false]) : Option (Exit × St × List Prop)) := by kernel_rfl
theorem pcAlH_p10 (n : Nat) (r : Nat → SHeld) (k : Nat) :
 alongPc Tryz.prog (pcAlH n r k) [true, false] = (some (.normal, St.mk (mkT 24 [(2, .fn (.func 134) [] []), (13, .ros 39 n (fun i => SHeld.c (r i)) false), (14, .int .i64 ↑n), (15, .int .i64 (↑(k + 1) : Int))]) [] 0 [], pcAlH_c n r k 0 ++ [(!mayHeldS (r k)) = false, InR IntKind.i64 ((↑k : Int) + (1 : Int)), q n, ∀ (k : Nat), k < n → SHeld.c (r k) = SHeld.c (r k), false = true → false = true, q (↑n : Int), (↑k : Int) + (1 : Int) = (↑(k + (1 : Nat)) : Int)]) : Option (Exit × St × List Prop)) := by kernel_rfl
theorem pcAlH_p0 (n : Nat) (r : Nat → SHeld) (k : Nat) :
 alongPc Tryz.prog (pcAlH n r k) [false] = (some (.exit 0, St.mk (mkT 24 [(2, .fn (.func 134) [] []), (13, .ros 39 n (fun i => SHeld.c (r i)) false), (14, .int .i64 ↑n), (15, .int .i64 ↑n)]) [] 0 [], [decide ((↑k : Int) < (↑n : Int)) = false, q n, ∀ (k : Nat), k < n → SHeld.c (r k) = SHeld.c (r k), false = true → false = true, q (↑n : Int), (↑k : Int) = (↑n : Int)]) : Option (Exit × St × List Prop)) := by kernel_rfl

theorem bdAlE_p1 (n : Nat) (r : Nat → SEnv) (most : Int) (m : Nat) :
  along Tryz.prog (bdAlE n r most m) [true] = (some (.bool false, [], [decide (most < (↑n : Int)) = true]) : Option (V × Heap × List Prop)) := by kernel_rfl
theorem bdAlE_p01 (n : Nat) (r : Nat → SEnv) (most : Int) (m : Nat) :
  along Tryz.prog (bdAlE n r most m) [false, true] = (some (.bool true, [], [decide (most < (↑n : Int)) = false, RLoop Tryz.prog none 0 (cB (cB (cR (cL (cR (cR (bodyOf (Bd.f (bdAlE n r most m))))))))) (n + 1) (St.mk (mkT 24 [(2, .fn (.func 94) [] []), (13, .ros 18 n (fun i => SEnv.c (r i)) false), (14, .int .i64 ↑n), (15, .int .i64 0)]) [] 0 []) (.exit 0) (St.mk (mkT 24 [(2, .fn (.func 94) [] []), (13, .ros 18 n (fun i => SEnv.c (r i)) false), (14, .int .i64 ↑n), (15, .int .i64 ↑n)]) [] 0 []), q n, ∀ (k : Nat), k < n → SEnv.c (r k) = SEnv.c (r k), false = true → false = true, q (↑n : Int), q1]) : Option (V × Heap × List Prop)) := by kernel_rfl
theorem bdAlE_p00 (n : Nat) (r : Nat → SEnv) (most : Int) (m : Nat) :
  along Tryz.prog (bdAlE n r most m) [false, false] = (some (.bool false, [], [decide (most < (↑n : Int)) = false, RLoop Tryz.prog none 0 (cB (cB (cR (cL (cR (cR (bodyOf (Bd.f (bdAlE n r most m))))))))) (m + 1) (St.mk (mkT 24 [(2, .fn (.func 94) [] []), (13, .ros 18 n (fun i => SEnv.c (r i)) false), (14, .int .i64 ↑n), (15, .int .i64 0)]) [] 0 []) .ret (St.mk (mkT 24 [(6, .bool false)]) [] 0 []), q n, ∀ (k : Nat), k < n → SEnv.c (r k) = SEnv.c (r k), false = true → false = true, q (↑n : Int), q1]) : Option (V × Heap × List Prop)) := by kernel_rfl

theorem pcAlE_p11 (n : Nat) (r : Nat → SEnv) (k : Nat) :
  alongPc Tryz.prog (pcAlE n r k) [true, true] = (some (.ret, St.mk (mkT 24 [(6, .bool false)]) [] 0 [], [decide ((↑k : Int) < (↑n : Int)) = true, (0 : Int) ≤ (↑k : Int) ∧ (↑k : Int) < (↑n : Int), T Tryz.prog 94 [.agg (SEnv.c (r (Int.toNat (↑k : Int))))] [] (.bool (mayEnvS (r k))) [], (!mayEnvS (r k)) = true, q false]) : Option (Exit × St × List Prop)) := by kernel_rfl
theorem pcAlE_p10 (n : Nat) (r : Nat → SEnv) (k : Nat) :
  alongPc Tryz.prog (pcAlE n r k) [true, false] = (some (.normal, St.mk (mkT 24 [(2, .fn (.func 94) [] []), (13, .ros 18 n (fun i => SEnv.c (r i)) false), (14, .int .i64 ↑n), (15, .int .i64 (↑(k + 1) : Int))]) [] 0 [], [decide ((↑k : Int) < (↑n : Int)) = true, (0 : Int) ≤ (↑k : Int) ∧ (↑k : Int) < (↑n : Int), T Tryz.prog 94 [.agg (SEnv.c (r (Int.toNat (↑k : Int))))] [] (.bool (mayEnvS (r k))) [], (!mayEnvS (r k)) = false, InR IntKind.i64 ((↑k : Int) + (1 : Int)), q n, ∀ (k : Nat), k < n → SEnv.c (r k) = SEnv.c (r k), false = true → false = true, q (↑n : Int), (↑k : Int) + (1 : Int) = (↑(k + (1 : Nat)) : Int)]) : Option (Exit × St × List Prop)) := by kernel_rfl
theorem pcAlE_p0 (n : Nat) (r : Nat → SEnv) (k : Nat) :
  alongPc Tryz.prog (pcAlE n r k) [false] = (some (.exit 0, St.mk (mkT 24 [(2, .fn (.func 94) [] []), (13, .ros 18 n (fun i => SEnv.c (r i)) false), (14, .int .i64 ↑n), (15, .int .i64 ↑n)]) [] 0 [], [decide ((↑k : Int) < (↑n : Int)) = false, q n, ∀ (k : Nat), k < n → SEnv.c (r k) = SEnv.c (r k), false = true → false = true, q (↑n : Int), (↑k : Int) = (↑n : Int)]) : Option (Exit × St × List Prop)) := by kernel_rfl

theorem stop_at (p : Nat → Prop) : ∀ n, ∃ m, m ≤ n ∧ (∀ k, k < m → p k) ∧ (m = n ∨ ¬ p m)
 | 0 => ⟨0, Nat.le_refl _, fun k h => absurd h (Nat.not_lt_zero k), .inl rfl⟩
 | n + 1 => by
  obtain ⟨m, h1, h2, h3⟩ := stop_at p n
  rcases h3 with rfl | h3
  ·by_cases h : p m
   ·refine ⟨m + 1, Nat.le_refl _, fun k hk => ?_, .inl rfl⟩
    rcases Nat.lt_or_ge k m with h4 | h4
    ·exact h2 k h4
    ·have : k = m := by omega
     subst this; exact h
   ·exact ⟨m, Nat.le_succ _, h2, .inr h⟩
  ·exact ⟨m, Nat.le_succ_of_le h1, h2, .inr h3⟩
theorem T_upto (n m : Int) : T Tryz.prog 90 [.int .i64 n, .int .i64 m] [] (.bool (uptoS n m)) [] := by
 by_cases h1 : 0 ≤ n
 ·
  refine T.bool (T_al (bdUpto_p1 n m) Tryz.func90 ?_) (by simp [uptoS, h1] <;> omega)
  simp only [All, All_append, bdMV_c, bdMG_c, pcAlH_c]
  and_intros
  all_goals first | (simp [h1]; done)
 ·
  refine T.bool (T_al (bdUpto_p0 n m) Tryz.func90 ?_) (by simp [uptoS, h1] <;> omega)
  simp only [All, All_append, bdMV_c, bdMG_c, pcAlH_c]
  and_intros
  all_goals first | (simp [h1]; done)
theorem T_mr (r : SReq) : T Tryz.prog 132 [.agg r.c] [] (.bool (mayReqS r)) [] := by
 by_cases h1 : uptoS r.client 8 = true
 ·
  by_cases h2 : uptoS r.num 1099511627776 = true
  ·
   refine T.bool (T_al (bdMR_p11 r) Tryz.func132 ?_) (by simp [mayReqS, h1, h2] <;> omega)
   simp only [All, All_append, bdMV_c, bdMG_c, pcAlH_c]
   and_intros
   all_goals first | exact T_upto _ _ | (simp [h1, h2]; done)
  ·
   refine T.bool (T_al (bdMR_p10 r) Tryz.func132 ?_) (by simp [mayReqS, h1, h2] <;> omega)
   simp only [All, All_append, bdMV_c, bdMG_c, pcAlH_c]
   and_intros
   all_goals first | exact T_upto _ _ | (simp [h1, h2]; done)
 ·
  refine T.bool (T_al (bdMR_p00 r) Tryz.func132 ?_) (by simp [mayReqS, h1] <;> omega)
  simp only [All, All_append, bdMV_c, bdMG_c, pcAlH_c]
  and_intros
  all_goals first | exact T_upto _ _ | (simp [h1]; done)
theorem T_mv (v : SVote) : T Tryz.prog 88 [.agg v.c] [] (.bool (mayVoteS v)) [] := by
 by_cases h1 : v.kind = 1
 ·
  by_cases h2 : uptoS v.epoch 1048576 = true
  ·
   by_cases h3 : uptoS v.view 1099511627776 = true
   ·
    refine T.bool (T_al (bdMV_p1111 v) Tryz.func88 ?_) (by simp [mayVoteS, h1, h2, h3] <;> omega)
    simp only [All, All_append, bdMV_c, bdMG_c, pcAlH_c]
    and_intros
    all_goals first | exact T_upto _ _ | (simp [h1, h2, h3]; done)
   ·
    refine T.bool (T_al (bdMV_p1110 v) Tryz.func88 ?_) (by simp [mayVoteS, h1, h2, h3] <;> omega)
    simp only [All, All_append, bdMV_c, bdMG_c, pcAlH_c]
    and_intros
    all_goals first | exact T_upto _ _ | (simp [h1, h2, h3]; done)
  ·
   refine T.bool (T_al (bdMV_p1100 v) Tryz.func88 ?_) (by simp [mayVoteS, h1, h2] <;> omega)
   simp only [All, All_append, bdMV_c, bdMG_c, pcAlH_c]
   and_intros
   all_goals first | exact T_upto _ _ | (simp [h1, h2]; done)
 ·
  by_cases h2 : v.kind = 2
  ·
   by_cases h3 : uptoS v.epoch 1048576 = true
   ·
    by_cases h4 : uptoS v.view 1099511627776 = true
    ·
     refine T.bool (T_al (bdMV_p0111 v) Tryz.func88 ?_) (by simp [mayVoteS, h1, h2, h3, h4] <;> omega)
     simp only [All, All_append, bdMV_c, bdMG_c, pcAlH_c]
     and_intros
     all_goals first | exact T_upto _ _ | (simp [h1, h2, h3, h4]; done)
    ·
     refine T.bool (T_al (bdMV_p0110 v) Tryz.func88 ?_) (by simp [mayVoteS, h1, h2, h3, h4] <;> omega)
     simp only [All, All_append, bdMV_c, bdMG_c, pcAlH_c]
     and_intros
     all_goals first | exact T_upto _ _ | (simp [h1, h2, h3, h4]; done)
   ·
    refine T.bool (T_al (bdMV_p0100 v) Tryz.func88 ?_) (by simp [mayVoteS, h1, h2, h3] <;> omega)
    simp only [All, All_append, bdMV_c, bdMG_c, pcAlH_c]
    and_intros
    all_goals first | exact T_upto _ _ | (simp [h1, h2, h3]; done)
  ·
   refine T.bool (T_al (bdMV_p0000 v) Tryz.func88 ?_) (by simp [mayVoteS, h1, h2] <;> omega)
   simp only [All, All_append, bdMV_c, bdMG_c, pcAlH_c]
   and_intros
   all_goals first | (simp [h1, h2]; done)
theorem T_ms (s : SSign) : T Tryz.prog 96 [.agg s.c] [] (.bool (maySignS s)) [] := by
 refine T.bool (T_al (bdMS_p s) Tryz.func96 ?_) (by simp [maySignS, true_and] <;> omega)
 simp only [All, All_append, bdMV_c, bdMG_c, pcAlH_c]
 and_intros
 all_goals first | exact T_upto _ _ | (simp [true_and]; done)
theorem T_me (e : SEnv) : T Tryz.prog 94 [.agg e.c] [] (.bool (mayEnvS e)) [] := by
 by_cases h1 : uptoS e.src 64 = true
 ·
  refine T.bool (T_al (bdME_p1 e) Tryz.func94 ?_) (by simp [mayEnvS, h1] <;> omega)
  simp only [All, All_append, bdMV_c, bdMG_c, pcAlH_c]
  and_intros
  all_goals first | exact T_upto _ _ | (simp [h1]; done)
 ·
  refine T.bool (T_al (bdME_p0 e) Tryz.func94 ?_) (by simp [mayEnvS, h1] <;> omega)
  simp only [All, All_append, bdMV_c, bdMG_c, pcAlH_c]
  and_intros
  all_goals first | exact T_upto _ _ | (simp [h1]; done)
theorem T_alR {n : Nat} (r : Nat → SReq) {most : Nat} (hm : most ≤ 1000) : T Tryz.prog 131 [rq n r, .int .i64 most, .fn (.func 132) [] []] [] (.bool (allS n most (fun i => mayReqS (r i)))) [] := by
 by_cases hn : n ≤ most
 ·have step : ∀ k, k < n → mayReqS (r k) = true → R Tryz.prog none 0 (cB (cB (cR (cL (cR (cR (bodyOf Tryz.f131))))))) (alI (rq n r) n 132 k) .normal (alI (rq n r) n 132 (k + 1)) := fun k hk hp => by
   refine R_alongPc NG MO _ (pcAlR_p10 n r k) ?_ (Nat.zero_le _)
   simp only [All, All_append, bdMV_c, bdMG_c, pcAlH_c, Int.toNat_natCast]
   and_intros
   all_goals first | exact T_mr (r k) | (simp [hk, hp, IntKind.min, IntKind.max, IntKind.signed, IntKind.bits] <;> omega)
  obtain ⟨m, h1, h2, h3⟩ := stop_at (fun k => mayReqS (r k) = true) n
  by_cases hmn : m = n
  ·subst hmn
   refine T.bool (T_al (bdAlR_p01 m r most m) Tryz.func131 ⟨by simp <;> omega, RLoop.inv (alI (rq m r) m 132) m (fun k hk => step k hk (h2 k hk)) (R_alongPc NG MO _ (pcAlR_p0 m r m) (by simp [All, All_append, bdMV_c, bdMG_c, pcAlH_c]) (Nat.zero_le _)) (by simp), ?_⟩) (by simp [allS, hn]; exact h2)
   simp [All, All_append, bdMV_c, bdMG_c, pcAlH_c]
  ·have hm' : m < n := by omega
   have h3 := h3.resolve_left hmn
   have bad : R Tryz.prog none 0 (cB (cB (cR (cL (cR (cR (bodyOf Tryz.f131))))))) (alI (rq n r) n 132 m) .ret alF := by
    refine R_alongPc NG MO _ (pcAlR_p11 n r m) ?_ (Nat.zero_le _)
    simp only [All, All_append, bdMV_c, bdMG_c, pcAlH_c, Int.toNat_natCast]
    and_intros
    all_goals first | exact T_mr (r m) | (simp [hm', h3] <;> omega)
   refine T.bool (T_al (bdAlR_p00 n r most m) Tryz.func131 ⟨by simp <;> omega, RLoop.inv (alI (rq n r) n 132) m (fun k hk => step k (by omega) (h2 k hk)) bad (by simp), ?_⟩) (by
    have : ¬ ∀ i, i < n → mayReqS (r i) = true := fun h => h3 (h m hm')
    simp only [allS, this, decide_false, Bool.and_false])
   simp [All, All_append, bdMV_c, bdMG_c, pcAlH_c]
 ·exact T.bool (T_al (bdAlR_p1 n r most 0) Tryz.func131 ⟨by simp <;> omega, trivial⟩) (by simp [allS, hn])
theorem T_alS {n : Nat} (r : Nat → SSign) {most : Nat} (hm : most ≤ 1000) : T Tryz.prog 95 [sg n r, .int .i64 most, .fn (.func 96) [] []] [] (.bool (allS n most (fun i => maySignS (r i)))) [] := by
 by_cases hn : n ≤ most
 ·have step : ∀ k, k < n → maySignS (r k) = true → R Tryz.prog none 0 (cB (cB (cR (cL (cR (cR (bodyOf Tryz.f95))))))) (alI (sg n r) n 96 k) .normal (alI (sg n r) n 96 (k + 1)) := fun k hk hp => by
   refine R_alongPc NG MO _ (pcAlS_p10 n r k) ?_ (Nat.zero_le _)
   simp only [All, All_append, bdMV_c, bdMG_c, pcAlH_c, Int.toNat_natCast]
   and_intros
   all_goals first | exact T_ms (r k) | (simp [hk, hp, IntKind.min, IntKind.max, IntKind.signed, IntKind.bits] <;> omega)
  obtain ⟨m, h1, h2, h3⟩ := stop_at (fun k => maySignS (r k) = true) n
  by_cases hmn : m = n
  ·subst hmn
   refine T.bool (T_al (bdAlS_p01 m r most m) Tryz.func95 ⟨by simp <;> omega, RLoop.inv (alI (sg m r) m 96) m (fun k hk => step k hk (h2 k hk)) (R_alongPc NG MO _ (pcAlS_p0 m r m) (by simp [All, All_append, bdMV_c, bdMG_c, pcAlH_c]) (Nat.zero_le _)) (by simp), ?_⟩) (by simp [allS, hn]; exact h2)
   simp [All, All_append, bdMV_c, bdMG_c, pcAlH_c]
  ·have hm' : m < n := by omega
   have h3 := h3.resolve_left hmn
   have bad : R Tryz.prog none 0 (cB (cB (cR (cL (cR (cR (bodyOf Tryz.f95))))))) (alI (sg n r) n 96 m) .ret alF := by
    refine R_alongPc NG MO _ (pcAlS_p11 n r m) ?_ (Nat.zero_le _)
    simp only [All, All_append, bdMV_c, bdMG_c, pcAlH_c, Int.toNat_natCast]
    and_intros
    all_goals first | exact T_ms (r m) | (simp [hm', h3] <;> omega)
   refine T.bool (T_al (bdAlS_p00 n r most m) Tryz.func95 ⟨by simp <;> omega, RLoop.inv (alI (sg n r) n 96) m (fun k hk => step k (by omega) (h2 k hk)) bad (by simp), ?_⟩) (by
    have : ¬ ∀ i, i < n → maySignS (r i) = true := fun h => h3 (h m hm')
    simp only [allS, this, decide_false, Bool.and_false])
   simp [All, All_append, bdMV_c, bdMG_c, pcAlH_c]
 ·exact T.bool (T_al (bdAlS_p1 n r most 0) Tryz.func95 ⟨by simp <;> omega, trivial⟩) (by simp [allS, hn])
theorem T_alE {n : Nat} (r : Nat → SEnv) {most : Nat} (hm : most ≤ 1000) : T Tryz.prog 93 [nw n r, .int .i64 most, .fn (.func 94) [] []] [] (.bool (allS n most (fun i => mayEnvS (r i)))) [] := by
 by_cases hn : n ≤ most
 ·have step : ∀ k, k < n → mayEnvS (r k) = true → R Tryz.prog none 0 (cB (cB (cR (cL (cR (cR (bodyOf Tryz.f93))))))) (alI (nw n r) n 94 k) .normal (alI (nw n r) n 94 (k + 1)) := fun k hk hp => by
   refine R_alongPc NG MO _ (pcAlE_p10 n r k) ?_ (Nat.zero_le _)
   simp only [All, All_append, bdMV_c, bdMG_c, pcAlH_c, Int.toNat_natCast]
   and_intros
   all_goals first | exact T_me (r k) | (simp [hk, hp, IntKind.min, IntKind.max, IntKind.signed, IntKind.bits] <;> omega)
  obtain ⟨m, h1, h2, h3⟩ := stop_at (fun k => mayEnvS (r k) = true) n
  by_cases hmn : m = n
  ·subst hmn
   refine T.bool (T_al (bdAlE_p01 m r most m) Tryz.func93 ⟨by simp <;> omega, RLoop.inv (alI (nw m r) m 94) m (fun k hk => step k hk (h2 k hk)) (R_alongPc NG MO _ (pcAlE_p0 m r m) (by simp [All, All_append, bdMV_c, bdMG_c, pcAlH_c]) (Nat.zero_le _)) (by simp), ?_⟩) (by simp [allS, hn]; exact h2)
   simp [All, All_append, bdMV_c, bdMG_c, pcAlH_c]
  ·have hm' : m < n := by omega
   have h3 := h3.resolve_left hmn
   have bad : R Tryz.prog none 0 (cB (cB (cR (cL (cR (cR (bodyOf Tryz.f93))))))) (alI (nw n r) n 94 m) .ret alF := by
    refine R_alongPc NG MO _ (pcAlE_p11 n r m) ?_ (Nat.zero_le _)
    simp only [All, All_append, bdMV_c, bdMG_c, pcAlH_c, Int.toNat_natCast]
    and_intros
    all_goals first | exact T_me (r m) | (simp [hm', h3] <;> omega)
   refine T.bool (T_al (bdAlE_p00 n r most m) Tryz.func93 ⟨by simp <;> omega, RLoop.inv (alI (nw n r) n 94) m (fun k hk => step k (by omega) (h2 k hk)) bad (by simp), ?_⟩) (by
    have : ¬ ∀ i, i < n → mayEnvS (r i) = true := fun h => h3 (h m hm')
    simp only [allS, this, decide_false, Bool.and_false])
   simp [All, All_append, bdMV_c, bdMG_c, pcAlH_c]
 ·exact T.bool (T_al (bdAlE_p1 n r most 0) Tryz.func93 ⟨by simp <;> omega, trivial⟩) (by simp [allS, hn])
theorem T_mc (c : SCert) : T Tryz.prog 89 [.agg c.c] [] (.bool (mayCertS c)) [] := by
 by_cases h1 : mayVoteS c.vote = true
 ·
  refine T.bool (T_al (bdMC_p1 c) Tryz.func89 ?_) (by simp [mayCertS, h1] <;> omega)
  simp only [All, All_append, bdMV_c, bdMG_c, pcAlH_c]
  and_intros
  all_goals first | exact T_mv c.vote | exact T_alS (most := 64) c.sig (by decide) | (simp [h1]; done)
 ·
  refine T.bool (T_al (bdMC_p0 c) Tryz.func89 ?_) (by simp [mayCertS, h1] <;> omega)
  simp only [All, All_append, bdMV_c, bdMG_c, pcAlH_c]
  and_intros
  all_goals first | exact T_mv c.vote | (simp [h1]; done)
theorem T_mb (b : SBatch) : T Tryz.prog 91 [.agg b.c] [] (.bool (mayBatchS b)) [] := by
 by_cases h1 : b.noop = true
 ·
  by_cases h2 : 0 < b.n
  ·
   refine T.bool (T_al (bdMB_p10 b) Tryz.func91 ?_) (by simp [mayBatchS, h1, h2] <;> omega)
   simp only [All, All_append, bdMV_c, bdMG_c, pcAlH_c]
   and_intros
   all_goals first | (simp [h1, h2]; done)
  ·
   refine T.bool (T_al (bdMB_p11 b) Tryz.func91 ?_) (by simp [mayBatchS, h1, h2] <;> omega)
   simp only [All, All_append, bdMV_c, bdMG_c, pcAlH_c]
   and_intros
   all_goals first | exact T_alR (most := 4) b.req (by decide) | (simp [h1, h2]; done)
 ·
  refine T.bool (T_al (bdMB_p01 b) Tryz.func91 ?_) (by simp [mayBatchS, h1] <;> omega)
  simp only [All, All_append, bdMV_c, bdMG_c, pcAlH_c]
  and_intros
  all_goals first | exact T_alR (most := 4) b.req (by decide) | (simp [h1]; done)
theorem T_mh (h : SHeld) : T Tryz.prog 134 [.agg h.c] [] (.bool (mayHeldS h)) [] := by
 by_cases h1 : mayBatchS h.batch = true
 ·
  refine T.bool (T_al (bdMH_p1 h) Tryz.func134 ?_) (by simp [mayHeldS, h1] <;> omega)
  simp only [All, All_append, bdMV_c, bdMG_c, pcAlH_c]
  and_intros
  all_goals first | exact T_mb h.batch | exact T_mc h.cert | (simp [h1]; done)
 ·
  refine T.bool (T_al (bdMH_p0 h) Tryz.func134 ?_) (by simp [mayHeldS, h1] <;> omega)
  simp only [All, All_append, bdMV_c, bdMG_c, pcAlH_c]
  and_intros
  all_goals first | exact T_mb h.batch | (simp [h1]; done)
theorem T_alH {n : Nat} (r : Nat → SHeld) {most : Nat} (hm : most ≤ 1000) : T Tryz.prog 133 [hl n r, .int .i64 most, .fn (.func 134) [] []] [] (.bool (allS n most (fun i => mayHeldS (r i)))) [] := by
 by_cases hn : n ≤ most
 ·have step : ∀ k, k < n → mayHeldS (r k) = true → R Tryz.prog none 0 (cB (cB (cR (cL (cR (cR (bodyOf Tryz.f133))))))) (alI (hl n r) n 134 k) .normal (alI (hl n r) n 134 (k + 1)) := fun k hk hp => by
   refine R_alongPc NG MO _ (pcAlH_p10 n r k) ?_ (Nat.zero_le _)
   simp only [All, All_append, bdMV_c, bdMG_c, pcAlH_c, Int.toNat_natCast]
   and_intros
   all_goals first | exact T_mh (r k) | (simp [hk, hp, IntKind.min, IntKind.max, IntKind.signed, IntKind.bits] <;> omega)
  obtain ⟨m, h1, h2, h3⟩ := stop_at (fun k => mayHeldS (r k) = true) n
  by_cases hmn : m = n
  ·subst hmn
   refine T.bool (T_al (bdAlH_p01 m r most m) Tryz.func133 ⟨by simp <;> omega, RLoop.inv (alI (hl m r) m 134) m (fun k hk => step k hk (h2 k hk)) (R_alongPc NG MO _ (pcAlH_p0 m r m) (by simp [All, All_append, bdMV_c, bdMG_c, pcAlH_c]) (Nat.zero_le _)) (by simp), ?_⟩) (by simp [allS, hn]; exact h2)
   simp [All, All_append, bdMV_c, bdMG_c, pcAlH_c]
  ·have hm' : m < n := by omega
   have h3 := h3.resolve_left hmn
   have bad : R Tryz.prog none 0 (cB (cB (cR (cL (cR (cR (bodyOf Tryz.f133))))))) (alI (hl n r) n 134 m) .ret alF := by
    refine R_alongPc NG MO _ (pcAlH_p11 n r m) ?_ (Nat.zero_le _)
    simp only [All, All_append, bdMV_c, bdMG_c, pcAlH_c, Int.toNat_natCast]
    and_intros
    all_goals first | exact T_mh (r m) | (simp [hm', h3] <;> omega)
   refine T.bool (T_al (bdAlH_p00 n r most m) Tryz.func133 ⟨by simp <;> omega, RLoop.inv (alI (hl n r) n 134) m (fun k hk => step k (by omega) (h2 k hk)) bad (by simp), ?_⟩) (by
    have : ¬ ∀ i, i < n → mayHeldS (r i) = true := fun h => h3 (h m hm')
    simp only [allS, this, decide_false, Bool.and_false])
   simp [All, All_append, bdMV_c, bdMG_c, pcAlH_c]
 ·exact T.bool (T_al (bdAlH_p1 n r most 0) Tryz.func133 ⟨by simp <;> omega, trivial⟩) (by simp [allS, hn])
theorem T_mg (m : SMsg) : T Tryz.prog 92 [.agg (chC m)] [] (.bool (mayChangeS m)) [] := by
 by_cases h1 : uptoS m.cepoch 1048576 = true
 ·
  by_cases h2 : uptoS m.cleader 64 = true
  ·
   by_cases h3 : uptoS m.cview 1099511627776 = true
   ·
    refine T.bool (T_al (bdMG_p111 m) Tryz.func92 ?_) (by simp [mayChangeS, h1, h2, h3] <;> omega)
    simp only [All, All_append, bdMV_c, bdMG_c, pcAlH_c]
    and_intros
    all_goals first | exact T_upto _ _ | exact T_alH (most := 4) m.held (by decide) | (simp [h1, h2, h3]; done)
   ·
    refine T.bool (T_al (bdMG_p110 m) Tryz.func92 ?_) (by simp [mayChangeS, h1, h2, h3] <;> omega)
    simp only [All, All_append, bdMV_c, bdMG_c, pcAlH_c]
    and_intros
    all_goals first | exact T_upto _ _ | (simp [h1, h2, h3]; done)
  ·
   refine T.bool (T_al (bdMG_p100 m) Tryz.func92 ?_) (by simp [mayChangeS, h1, h2] <;> omega)
   simp only [All, All_append, bdMV_c, bdMG_c, pcAlH_c]
   and_intros
   all_goals first | exact T_upto _ _ | (simp [h1, h2]; done)
 ·
  refine T.bool (T_al (bdMG_p000 m) Tryz.func92 ?_) (by simp [mayChangeS, h1] <;> omega)
  simp only [All, All_append, bdMV_c, bdMG_c, pcAlH_c]
  and_intros
  all_goals first | exact T_upto _ _ | (simp [h1]; done)
end Go.Proofs.YtnmccoincblecaaGreat
namespace Go.Proofs.YtnmccoincblecaaGreat
open Go Sy Go.Proofs
def reqEq (a b : SReq) : Bool := decide (a.client = b.client) && (decide (a.num = b.num) && (decide (a.data = b.data) && (decide (a.tag = b.tag) && true)))
def signEq (a b : SSign) : Bool := decide (a.node = b.node) && (decide (a.tag = b.tag) && true)
def envEq (a b : SEnv) : Bool := decide (a.src = b.src) && (decide (a.body = b.body) && (decide (a.tag = b.tag) && true))
def voteEq (a b : SVote) : Bool := decide (a.kind = b.kind) && (decide (a.epoch = b.epoch) && (decide (a.view = b.view) && (decide (a.slot = b.slot) && (decide (a.digest = b.digest) && true))))
def sameL (n n' : Nat) (p : Nat → Bool) : Bool := decide (n = n') && decide (∀ i, i < n → p i = true)
def sameBatchS (a b : SBatch) : Bool := (a.noop == b.noop) && sameL a.n b.n (fun i => reqEq (a.req i) (b.req i))
def sameCertS (a b : SCert) : Bool := voteEq a.vote b.vote && sameL a.n b.n (fun i => signEq (a.sig i) (b.sig i))
def sameHeldS (a b : SHeld) : Bool := sameBatchS a.batch b.batch && sameCertS a.cert b.cert
def sameChangeS (a b : SMsg) : Bool := decide (a.cepoch = b.cepoch) && (decide (a.cleader = b.cleader) && (decide (a.cview = b.cview) && sameL a.nheld b.nheld (fun i => sameHeldS (a.held i) (b.held i))))
def sameMsgS (a b : SMsg) : Bool := decide (a.kind = b.kind) && (decide (a.epoch = b.epoch) && (decide (a.leader = b.leader) && (decide (a.view = b.view) && (decide (a.slot = b.slot) && (sameBatchS a.batch b.batch && (voteEq a.vote b.vote && (sameChangeS a b && (sameL a.nnews b.nnews (fun i => envEq (a.news i) (b.news i)) && (decide (a.digest = b.digest) && (sameCertS a.cert b.cert && (decide (a.state = b.state) && sameL a.n b.n (fun i => signEq (a.sig i) (b.sig i)))))))))))))
def smI (a b : V) (n isf k : Nat) : St := ⟨mkT 30 [(0, a), (1, b), (2, .fn (.func isf) [] []), (14, .int .i64 n), (15, .int .i64 k)], [], 0, []⟩
def smF (t nt : Nat) : St := ⟨mkT nt [(t, .bool false)], [], 0, []⟩
noncomputable def bdSm (f : Func) (a b : V) (n isf m : Nat) : Bd := { f := f, args := [a, b, .fn (.func isf) [] []], kb := { db := fun _ _ _ _ => [], lp := fun _ _ => [(True, .loop (n + 1) (wTo (smI a b n isf 0)) (.exit 0) (smI a b n isf n)), (True, .loop (m + 1) (wTo (smI a b n isf 0)) .ret (smF 6 30))] } }
noncomputable def pcSm (f : Func) (a b : V) (n isf k : Nat) (p : Bool) : Pc := { c := cB (cB (cR (cL (cR (cR (bodyOf f)))))), st := smI a b n isf k, kb := { db := fun _ _ _ _ => [{ val := .bool p }] }, k := fun e _ => match e with
 | .normal => some (wTo (smI a b n isf (k + 1)))
 | .ret => some (wTo (smF 6 30))
 | _ => some (wTo (smI a b n isf n)) }
def sqI (a b : V) (n k : Nat) : St := ⟨mkT 26 [(0, a), (1, b), (12, .int .i64 n), (13, .int .i64 k)], [], 0, []⟩
noncomputable def bdSq (n n' : Nat) (a b : Nat → SReq) (m : Nat) : Bd := { f := Tryz.f143, args := [rq n a, rq n' b], kb := { db := fun _ _ _ _ => [], lp := fun _ _ => [(True, .loop (n + 1) (wTo (sqI (rq n a) (rq n' b) n 0)) (.exit 0) (sqI (rq n a) (rq n' b) n n)), (True, .loop (m + 1) (wTo (sqI (rq n a) (rq n' b) n 0)) .ret (smF 4 26))] } }
noncomputable def pcSq (n n' : Nat) (a b : Nat → SReq) (k : Nat) : Pc := { c := cB (cB (cR (cL (cR (cR (bodyOf Tryz.f143)))))), st := sqI (rq n a) (rq n' b) n k, kb := kb0, k := fun e _ => match e with
 | .normal => some (wTo (sqI (rq n a) (rq n' b) n (k + 1)))
 | .ret => some (wTo (smF 4 26))
 | _ => some (wTo (sqI (rq n a) (rq n' b) n n)) }
noncomputable def bdEqS (a b : SSign) : Bd := { f := Tryz.f130, args := [.agg a.c, .agg b.c], kb := kb0 }
noncomputable def bdEqE (a b : SEnv) : Bd := { f := Tryz.f127, args := [.agg a.c, .agg b.c], kb := kb0 }
noncomputable def bdBS (a b : SBatch) : Bd := { f := Tryz.f124, args := [.agg a.c, .agg b.c], kb := { db := dbV [(143, .bool (sameL a.n b.n (fun i => reqEq (a.req i) (b.req i))))] } }
noncomputable def bdCS (a b : SCert) : Bd := { f := Tryz.f128, args := [.agg a.c, .agg b.c], kb := { db := dbV [(129, .bool (sameL a.n b.n (fun i => signEq (a.sig i) (b.sig i))))] } }
noncomputable def bdHS (a b : SHeld) : Bd := { f := Tryz.f145, args := [.agg a.c, .agg b.c], kb := { db := dbV [(124, .bool (sameBatchS a.batch b.batch)), (128, .bool (sameCertS a.cert b.cert))] } }
noncomputable def bdGS (a b : SMsg) : Bd := { f := Tryz.f125, args := [.agg (chC a), .agg (chC b)], kb := { db := dbV [(144, .bool (sameL a.nheld b.nheld (fun i => sameHeldS (a.held i) (b.held i))))] } }
noncomputable def bdMM (a b : SMsg) : Bd := { f := Tryz.f86, args := [.agg a.c, .agg b.c], kb := { db := dbV [(124, .bool (sameBatchS a.batch b.batch)), (125, .bool (sameChangeS a b)), (126, .bool (sameL a.nnews b.nnews (fun i => envEq (a.news i) (b.news i)))), (128, .bool (sameCertS a.cert b.cert)), (129, .bool (sameL a.n b.n (fun i => signEq (a.sig i) (b.sig i))))] } }
noncomputable def bdSmS (n n' : Nat) (a b : Nat → SSign) (m : Nat) : Bd := bdSm Tryz.f129 (sg n a) (sg n' b) n 130 m
noncomputable def pcSmS (n n' : Nat) (a b : Nat → SSign) (k : Nat) : Pc := pcSm Tryz.f129 (sg n a) (sg n' b) n 130 k (signEq (a k) (b k))
noncomputable def bdSmE (n n' : Nat) (a b : Nat → SEnv) (m : Nat) : Bd := bdSm Tryz.f126 (nw n a) (nw n' b) n 127 m
noncomputable def pcSmE (n n' : Nat) (a b : Nat → SEnv) (k : Nat) : Pc := pcSm Tryz.f126 (nw n a) (nw n' b) n 127 k (envEq (a k) (b k))
noncomputable def bdSmH (n n' : Nat) (a b : Nat → SHeld) (m : Nat) : Bd := bdSm Tryz.f144 (hl n a) (hl n' b) n 145 m
noncomputable def pcSmH (n n' : Nat) (a b : Nat → SHeld) (k : Nat) : Pc := pcSm Tryz.f144 (hl n a) (hl n' b) n 145 k (sameHeldS (a k) (b k))
end Go.Proofs.YtnmccoincblecaaGreat
