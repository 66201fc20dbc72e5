/-
  Contracts and laws that the claim's theorem leans on, joined out of the texts ZVa3 ZVa6D ZVa6 ZTa5D ZTa5 ZVa4D (own work of this seat): Contracts: batches, signs, votes, certs, as the document's answer has them; Contracts: what a message may have, as the document's answer has it; Contracts: what a message may have, as the document's answer has it; Contracts: a message's bytes; Contracts: a message's bytes; Contracts: a message's bytes, as the document's answer has them.
-/
import Derived.Test.YthifjamdfpjilaaGreatC05
import Derived.Test.YthifjamdfpjilaaGreatC06
set_option linter.unusedVariables false
set_option linter.unusedSimpArgs false
set_option maxHeartbeats 1000000
namespace Go.Proofs.YthifjamdfpjilaaGreat
open Go Sy Go.Proofs
theorem bdPB_p1 (l : List UInt8) (b : SBatch) :
  along Tryz.prog (bdPB l b) [true] = (some (.sl (.o 63) 1 0 0 0 (List.length (l ++ batchB b)) none, [(.o 63, bs (l ++ batchB b))], [SBatch.noop b = true, T Tryz.prog 78 [.sl (.o 0) 1 0 0 0 (List.length l) none, .int .i64 0] [(.o 0, bs l)] (sb (.o 321) (l ++ putZ (0 : Int))) [(.o 321, bs (l ++ putZ (0 : Int)))], List.length (l ++ putZ (0 : Int)) = List.length (l ++ batchB b), ∀ (k : Nat), k < List.length (l ++ putZ (0 : Int)) → bl (l ++ putZ (0 : Int)) k = bl (l ++ batchB b) k, true = false → true = false, q0, q0, q0, List.length (l ++ putZ (0 : Int)) = List.length (l ++ batchB b), (none : Option Nat) = none ∨ (none : Option Nat) = none]) : Option (V × Heap × List Prop)) := by kernel_rfl
theorem bdPB_p0 (l : List UInt8) (b : SBatch) :
  along Tryz.prog (bdPB l b) [false] = (some (.sl (.o 63) 1 0 0 0 (List.length (l ++ batchB b)) none, [(.o 63, bs (l ++ batchB b))], [SBatch.noop b = false, InR IntKind.i64 ((↑(SBatch.n b) : Int) + (1 : Int)), T Tryz.prog 78 [.sl (.o 0) 1 0 0 0 (List.length l) none, .int .i64 ((↑(SBatch.n b) : Int) + (1 : Int))] [(.o 0, bs l)] (sb (.o 577) (l ++ putZ (↑(SBatch.n b + 1) : Int))) [(.o 577, bs (l ++ putZ (↑(SBatch.n b + 1) : Int)))], RLoop Tryz.prog none 1 (cB (cB (cR (cL (cR (cR (cR (bodyOf (Bd.f (bdPB l b)))))))))) (SBatch.n b + 1) (St.mk [.sl (.o 1) 1 0 0 0 (List.length (l ++ (putZ (↑(SBatch.n b + 1) : Int) ++ reqsB (SBatch.req b) 0))) none, .any, .any, .ptr (.o 2) 0 0 0 0, .any, .int .i64 0, .any, .any, .any, .any, .any, .any, .any, .any, .any, .any, .any, .any, .any, .any, .any, .any, .any, .any, .any, .any, .any, .any, .any, .any, .any] [(.o 1, bs (l ++ (putZ (↑(SBatch.n b + 1) : Int) ++ reqsB (SBatch.req b) 0))), (.o 2, .flat (SBatch.c b))] 3 []) (.exit 0) (St.mk [.sl (.o 1) 1 0 0 0 (List.length (l ++ (putZ (↑(SBatch.n b + 1) : Int) ++ reqsB (SBatch.req b) (SBatch.n b)))) none, .any, .any, .ptr (.o 2) 0 0 0 0, .any, .int .i64 (↑(SBatch.n b) : Int), .any, .any, .any, .any, .any, .any, .any, .any, .any, .any, .any, .any, .any, .any, .any, .any, .any, .any, .any, .any, .any, .any, .any, .any, .any] [(.o 1, bs (l ++ (putZ (↑(SBatch.n b + 1) : Int) ++ reqsB (SBatch.req b) (SBatch.n b)))), (.o 2, .flat (SBatch.c b))] 3 []), List.length (l ++ putZ (↑(SBatch.n b + (1 : Nat)) : Int)) = List.length (l ++ (putZ (↑(SBatch.n b + (1 : Nat)) : Int) ++ reqsB (SBatch.req b) (0 : Nat))), ∀ (k : Nat), k < List.length (l ++ putZ (↑(SBatch.n b + (1 : Nat)) : Int)) → bl (l ++ putZ (↑(SBatch.n b + (1 : Nat)) : Int)) k = bl (l ++ (putZ (↑(SBatch.n b + (1 : Nat)) : Int) ++ reqsB (SBatch.req b) (0 : Nat))) k, true = false → true = false, q (SBatch.noop b), q (SBatch.n b), ∀ (k : Nat), k < SBatch.n b → SReq.c (SBatch.req b k) = SReq.c (SBatch.req b k), false = true → false = true, q0, q0, q0, List.length (l ++ putZ (↑(SBatch.n b + (1 : Nat)) : Int)) = List.length (l ++ (putZ (↑(SBatch.n b + (1 : Nat)) : Int) ++ reqsB (SBatch.req b) (0 : Nat))), (none : Option Nat) = none ∨ (none : Option Nat) = none, q0, q0, q0, q1, List.length (l ++ (putZ (↑(SBatch.n b + (1 : Nat)) : Int) ++ reqsB (SBatch.req b) (SBatch.n b))) = List.length (l ++ batchB b), ∀ (k : Nat), k < List.length (l ++ (putZ (↑(SBatch.n b + (1 : Nat)) : Int) ++ reqsB (SBatch.req b) (SBatch.n b))) → bl (l ++ (putZ (↑(SBatch.n b + (1 : Nat)) : Int) ++ reqsB (SBatch.req b) (SBatch.n b))) k = bl (l ++ batchB b) k, true = false → true = false, q0, q0, q0, List.length (l ++ (putZ (↑(SBatch.n b + (1 : Nat)) : Int) ++ reqsB (SBatch.req b) (SBatch.n b))) = List.length (l ++ batchB b), (none : Option Nat) = none ∨ (none : Option Nat) = none]) : Option (V × Heap × List Prop)) := by kernel_rfl

theorem pcPB_p1 (l : List UInt8) (b : SBatch) (k : Nat) :
  alongPc Tryz.prog (pcPB l b k) [true] = (some (.normal, St.mk [.sl (.o 1) 1 0 0 0 (List.length (l ++ (putZ (↑(SBatch.n b + 1) : Int) ++ reqsB (SBatch.req b) (k + 1)))) none, .any, .any, .ptr (.o 2) 0 0 0 0, .any, .int .i64 (↑(k + 1) : Int), .any, .any, .any, .any, .any, .any, .any, .any, .any, .any, .any, .any, .any, .any, .any, .any, .any, .any, .any, .any, .any, .any, .any, .any, .any] [(.o 1, bs (l ++ (putZ (↑(SBatch.n b + 1) : Int) ++ reqsB (SBatch.req b) (k + 1)))), (.o 2, .flat (SBatch.c b))] 3 [], [decide ((↑k : Int) < (↑(SBatch.n b) : Int)) = true, (0 : Int) ≤ (↑k : Int) ∧ (↑k : Int) < (↑(SBatch.n b) : Int), T Tryz.prog 109 [.sl (.o 1) 1 0 0 0 (List.length (l ++ (putZ (↑(SBatch.n b + 1) : Int) ++ reqsB (SBatch.req b) k))) none, .agg [.int .i64 (SReq.client (SBatch.req b (Int.toNat (↑k : Int)))), .int .i64 (SReq.num (SBatch.req b (Int.toNat (↑k : Int)))), .str (SReq.data (SBatch.req b (Int.toNat (↑k : Int)))), .seg .u8 16 (SReq.tag (SBatch.req b (Int.toNat (↑k : Int))))]] [(.o 1, bs (l ++ (putZ (↑(SBatch.n b + 1) : Int) ++ reqsB (SBatch.req b) k)))] (sb (.o 707) (l ++ (putZ (↑(SBatch.n b + 1) : Int) ++ reqsB (SBatch.req b) (k + 1)))) [(.o 707, bs (l ++ (putZ (↑(SBatch.n b + 1) : Int) ++ reqsB (SBatch.req b) (k + 1))))], InR IntKind.i64 ((↑k : Int) + (1 : Int)), q (List.length (l ++ (putZ (↑(SBatch.n b + (1 : Nat)) : Int) ++ reqsB (SBatch.req b) (k + (1 : Nat))))), ∀ (k_1 : Nat), k_1 < List.length (l ++ (putZ (↑(SBatch.n b + (1 : Nat)) : Int) ++ reqsB (SBatch.req b) (k + (1 : Nat)))) → bl (l ++ (putZ (↑(SBatch.n b + (1 : Nat)) : Int) ++ reqsB (SBatch.req b) (k + (1 : Nat)))) k_1 = bl (l ++ (putZ (↑(SBatch.n b + (1 : Nat)) : Int) ++ reqsB (SBatch.req b) (k + (1 : Nat)))) k_1, true = false → true = false, q (SBatch.noop b), q (SBatch.n b), ∀ (k : Nat), k < SBatch.n b → SReq.c (SBatch.req b k) = SReq.c (SBatch.req b k), false = true → false = true, q0, q0, q0, q (List.length (l ++ (putZ (↑(SBatch.n b + (1 : Nat)) : Int) ++ reqsB (SBatch.req b) (k + (1 : Nat))))), (none : Option Nat) = none ∨ (none : Option Nat) = none, q0, q0, q0, (↑k : Int) + (1 : Int) = (↑(k + (1 : Nat)) : Int)]) : Option (Exit × St × List Prop)) := by kernel_rfl
theorem pcPB_p0 (l : List UInt8) (b : SBatch) (k : Nat) :
  alongPc Tryz.prog (pcPB l b k) [false] = (some (.exit 0, St.mk [.sl (.o 1) 1 0 0 0 (List.length (l ++ (putZ (↑(SBatch.n b + 1) : Int) ++ reqsB (SBatch.req b) k))) none, .any, .any, .ptr (.o 2) 0 0 0 0, .any, .int .i64 ↑k, .any, .any, .any, .any, .any, .any, .any, .any, .any, .any, .any, .any, .any, .any, .any, .any, .any, .any, .any, .any, .any, .any, .any, .any, .any] [(.o 1, bs (l ++ (putZ (↑(SBatch.n b + 1) : Int) ++ reqsB (SBatch.req b) k))), (.o 2, .flat (SBatch.c b))] 3 [], [decide ((↑k : Int) < (↑(SBatch.n b) : Int)) = false, q (List.length (l ++ (putZ (↑(SBatch.n b + (1 : Nat)) : Int) ++ reqsB (SBatch.req b) k))), ∀ (k_1 : Nat), k_1 < List.length (l ++ (putZ (↑(SBatch.n b + (1 : Nat)) : Int) ++ reqsB (SBatch.req b) k)) → bl (l ++ (putZ (↑(SBatch.n b + (1 : Nat)) : Int) ++ reqsB (SBatch.req b) k)) k_1 = bl (l ++ (putZ (↑(SBatch.n b + (1 : Nat)) : Int) ++ reqsB (SBatch.req b) k)) k_1, true = false → true = false, q (SBatch.noop b), q (SBatch.n b), ∀ (k : Nat), k < SBatch.n b → SReq.c (SBatch.req b k) = SReq.c (SBatch.req b k), false = true → false = true, q0, q0, q0, q (List.length (l ++ (putZ (↑(SBatch.n b + (1 : Nat)) : Int) ++ reqsB (SBatch.req b) k))), (none : Option Nat) = none ∨ (none : Option Nat) = none, q0, q0, q0, q (↑k : Int)]) : Option (Exit × St × List Prop)) := by kernel_rfl

theorem bdPs_p (l : List UInt8) (n : Nat) (s : Nat → SSign) :
  along Tryz.prog (bdPs l n s) [] = (some (.sl (.o 63) 1 0 0 0 (List.length (l ++ (numsB [(↑n : Int)] ++ signsB s n))) none, [(.o 63, bs (l ++ (numsB [(↑n : Int)] ++ signsB s n)))], [T Tryz.prog 78 [.sl (.o 0) 1 0 0 0 (List.length l) none, .int .i64 ↑n] [(.o 0, bs l)] (sb (.o 257) (l ++ numsB [(↑n : Int)])) [(.o 257, bs (l ++ numsB [(↑n : Int)]))], RLoop Tryz.prog none 1 (cB (cB (cR (cL (cR (cR (bodyOf (Bd.f (bdPs l n s))))))))) (n + 1) (St.mk [.sl (.o 1) 1 0 0 0 (List.length (l ++ (numsB [(↑n : Int)] ++ signsB s 0))) none, .ros 17 n (fun i => SSign.c (s i)) false, .any, .any, .any, .int .i64 0, .any, .any, .any, .any, .any, .any, .any, .any, .any, .any, .any, .any, .any, .any, .any, .any, .any, .any, .any, .any, .any, .any, .any, .any] [(.o 1, bs (l ++ (numsB [(↑n : Int)] ++ signsB s 0)))] 2 []) (.exit 0) (St.mk [.sl (.o 1) 1 0 0 0 (List.length (l ++ (numsB [(↑n : Int)] ++ signsB s n))) none, .ros 17 n (fun i => SSign.c (s i)) false, .any, .any, .any, .int .i64 ↑n, .any, .any, .any, .any, .any, .any, .any, .any, .any, .any, .any, .any, .any, .any, .any, .any, .any, .any, .any, .any, .any, .any, .any, .any] [(.o 1, bs (l ++ (numsB [(↑n : Int)] ++ signsB s n)))] 2 []), List.length (l ++ numsB [(↑n : Int)]) = List.length (l ++ (numsB [(↑n : Int)] ++ signsB s (0 : Nat))), ∀ (k : Nat), k < List.length (l ++ numsB [(↑n : Int)]) → bl (l ++ numsB [(↑n : Int)]) k = bl (l ++ (numsB [(↑n : Int)] ++ signsB s (0 : Nat))) k, true = false → true = false, q0, q0, q0, List.length (l ++ numsB [(↑n : Int)]) = List.length (l ++ (numsB [(↑n : Int)] ++ signsB s (0 : Nat))), (none : Option Nat) = none ∨ (none : Option Nat) = none, q n, ∀ (k : Nat), k < n → SSign.c (s k) = SSign.c (s k), false = true → false = true, q1, q (List.length (l ++ (numsB [(↑n : Int)] ++ signsB s n))), ∀ (k : Nat), k < List.length (l ++ (numsB [(↑n : Int)] ++ signsB s n)) → bl (l ++ (numsB [(↑n : Int)] ++ signsB s n)) k = bl (l ++ (numsB [(↑n : Int)] ++ signsB s n)) k, true = false → true = false, q0, q0, q0, q (List.length (l ++ (numsB [(↑n : Int)] ++ signsB s n))), (none : Option Nat) = none ∨ (none : Option Nat) = none]) : Option (V × Heap × List Prop)) := by kernel_rfl

theorem pcPs_p1 (l : List UInt8) (n : Nat) (s : Nat → SSign) (k : Nat) :
  alongPc Tryz.prog (pcPs l n s k) [true] = (some (.normal, St.mk [.sl (.o 1) 1 0 0 0 (List.length (l ++ (numsB [(↑n : Int)] ++ signsB s (k + 1)))) none, .ros 17 n (fun i => SSign.c (s i)) false, .any, .any, .any, .int .i64 (↑(k + 1) : Int), .any, .any, .any, .any, .any, .any, .any, .any, .any, .any, .any, .any, .any, .any, .any, .any, .any, .any, .any, .any, .any, .any, .any, .any] [(.o 1, bs (l ++ (numsB [(↑n : Int)] ++ signsB s (k + 1))))] 2 [], [decide ((↑k : Int) < (↑n : Int)) = true, (0 : Int) ≤ (↑k : Int) ∧ (↑k : Int) < (↑n : Int), T Tryz.prog 78 [.sl (.o 1) 1 0 0 0 (List.length (l ++ (numsB [(↑n : Int)] ++ signsB s k))) none, .int .i64 (SSign.node (s (Int.toNat (↑k : Int))))] [(.o 1, bs (l ++ (numsB [(↑n : Int)] ++ signsB s k)))] (sb (.o 642) (l ++ (numsB [(↑n : Int)] ++ signsB s k) ++ numsB [SSign.node (s k)])) [(.o 642, bs (l ++ (numsB [(↑n : Int)] ++ signsB s k) ++ numsB [SSign.node (s k)]))], (0 : Int) ≤ (↑k : Int) ∧ (↑k : Int) < (↑n : Int), T Tryz.prog 94 [.sl (.o 642) 1 0 0 0 (List.length (l ++ (numsB [(↑n : Int)] ++ signsB s k) ++ numsB [SSign.node (s k)])) none, .agg [.seg .u8 16 (SSign.tag (s (Int.toNat (↑k : Int))))]] [(.o 642, bs (l ++ (numsB [(↑n : Int)] ++ signsB s k) ++ numsB [SSign.node (s k)]))] (sb (.o 1026) (l ++ (numsB [(↑n : Int)] ++ signsB s (k + 1)))) [(.o 1026, bs (l ++ (numsB [(↑n : Int)] ++ signsB s (k + 1))))], InR IntKind.i64 ((↑k : Int) + (1 : Int)), q (List.length (l ++ (numsB [(↑n : Int)] ++ signsB s (k + (1 : Nat))))), ∀ (k_1 : Nat), k_1 < List.length (l ++ (numsB [(↑n : Int)] ++ signsB s (k + (1 : Nat)))) → bl (l ++ (numsB [(↑n : Int)] ++ signsB s (k + (1 : Nat)))) k_1 = bl (l ++ (numsB [(↑n : Int)] ++ signsB s (k + (1 : Nat)))) k_1, true = false → true = false, q0, q0, q0, q (List.length (l ++ (numsB [(↑n : Int)] ++ signsB s (k + (1 : Nat))))), (none : Option Nat) = none ∨ (none : Option Nat) = none, q n, ∀ (k : Nat), k < n → SSign.c (s k) = SSign.c (s k), false = true → false = true, (↑k : Int) + (1 : Int) = (↑(k + (1 : Nat)) : Int)]) : Option (Exit × St × List Prop)) := by kernel_rfl
theorem pcPs_p0 (l : List UInt8) (n : Nat) (s : Nat → SSign) (k : Nat) :
  alongPc Tryz.prog (pcPs l n s k) [false] = (some (.exit 0, St.mk [.sl (.o 1) 1 0 0 0 (List.length (l ++ (numsB [(↑n : Int)] ++ signsB s k))) none, .ros 17 n (fun i => SSign.c (s i)) false, .any, .any, .any, .int .i64 ↑k, .any, .any, .any, .any, .any, .any, .any, .any, .any, .any, .any, .any, .any, .any, .any, .any, .any, .any, .any, .any, .any, .any, .any, .any] [(.o 1, bs (l ++ (numsB [(↑n : Int)] ++ signsB s k)))] 2 [], [decide ((↑k : Int) < (↑n : Int)) = false, q (List.length (l ++ (numsB [(↑n : Int)] ++ signsB s k))), ∀ (k_1 : Nat), k_1 < List.length (l ++ (numsB [(↑n : Int)] ++ signsB s k)) → bl (l ++ (numsB [(↑n : Int)] ++ signsB s k)) k_1 = bl (l ++ (numsB [(↑n : Int)] ++ signsB s k)) k_1, true = false → true = false, q0, q0, q0, q (List.length (l ++ (numsB [(↑n : Int)] ++ signsB s k))), (none : Option Nat) = none ∨ (none : Option Nat) = none, q n, ∀ (k : Nat), k < n → SSign.c (s k) = SSign.c (s k), false = true → false = true, q (↑k : Int)]) : Option (Exit × St × List Prop)) := by kernel_rfl

theorem bdPv_p (l : List UInt8) (v : SVote) :
  along Tryz.prog (bdPv l v) [] = (some (.sl (.o 63) 1 0 0 0 (List.length (l ++ voteB v)) none, [(.o 63, bs (l ++ voteB v))], [T Tryz.prog 91 [.sl (.o 0) 1 0 0 0 (List.length l) none, .sl (.o 705) 1 0 0 0 4 (some 4)] [(.o 0, bs l), (.o 705, .rows 1 4 (getL [[.int .i64 (SVote.kind v)], [.int .i64 (SVote.epoch v)], [.int .i64 (SVote.view v)], [.int .i64 (SVote.slot v)]]) false)] (sb (.o 769) (l ++ numsB [SVote.kind v, SVote.epoch v, SVote.view v, SVote.slot v])) [(.o 769, bs (l ++ numsB [SVote.kind v, SVote.epoch v, SVote.view v, SVote.slot v])), (.o 705, .rows 1 4 (getL [[.int .i64 (SVote.kind v)], [.int .i64 (SVote.epoch v)], [.int .i64 (SVote.view v)], [.int .i64 (SVote.slot v)]]) false)], T Tryz.prog 95 [.sl (.o 769) 1 0 0 0 (List.length (l ++ numsB [SVote.kind v, SVote.epoch v, SVote.view v, SVote.slot v])) none, .agg [.seg .u8 32 (SVote.digest v)]] [(.o 769, bs (l ++ numsB [SVote.kind v, SVote.epoch v, SVote.view v, SVote.slot v]))] (sb (.o 961) (l ++ voteB v)) [(.o 961, bs (l ++ voteB v))], q (List.length (l ++ voteB v)), ∀ (k : Nat), k < List.length (l ++ voteB v) → bl (l ++ voteB v) k = bl (l ++ voteB v) k, true = false → true = false, q0, q0, q0, q (List.length (l ++ voteB v)), (none : Option Nat) = none ∨ (none : Option Nat) = none]) : Option (V × Heap × List Prop)) := by kernel_rfl

theorem bdPc_p (l : List UInt8) (c : SCert) :
  along Tryz.prog (bdPc l c) [] = (some (.sl (.o 63) 1 0 0 0 (List.length (l ++ certB c)) none, [(.o 63, bs (l ++ certB c))], [T Tryz.prog 92 [.sl (.o 0) 1 0 0 0 (List.length l) none, .agg (SVote.c (SCert.vote c))] [(.o 0, bs l)] (sb (.o 321) (l ++ voteB (SCert.vote c))) [(.o 321, bs (l ++ voteB (SCert.vote c)))], T Tryz.prog 96 [.sl (.o 321) 1 0 0 0 (List.length (l ++ voteB (SCert.vote c))) none, .ros 17 (SCert.n c) (fun i => SSign.c (SCert.sig c i)) false] [(.o 321, bs (l ++ voteB (SCert.vote c)))] (sb (.o 513) (l ++ certB c)) [(.o 513, bs (l ++ certB c))], q (List.length (l ++ certB c)), ∀ (k : Nat), k < List.length (l ++ certB c) → bl (l ++ certB c) k = bl (l ++ certB c) k, true = false → true = false, q0, q0, q0, q (List.length (l ++ certB c)), (none : Option Nat) = none ∨ (none : Option Nat) = none]) : Option (V × Heap × List Prop)) := by kernel_rfl

theorem T_pB1 {l : List UInt8} {b : SBatch} (hl : l.length ≤ 1099511627776) (h : BatchOk b) : T Tryz.prog 79 [sb (.o 0) l, .agg b.c] [(.o 0, bs l)] (sb (.o 63) (l ++ batchB b)) [(.o 63, bs (l ++ batchB b))] := by
 have hn := h.n
 have hz := num63_nat (n := b.n + 1) (by omega)
 by_cases hno : b.noop = true
 ·have e : batchB b = putZ 0 := by simp [batchB, hno]
  refine T_al (bdPB_p1 l b) Tryz.func79 ?_
  rw [e]
  simp only [All]
  and_intros
  all_goals first
   | exact T_rp (z := 0) ⟨by decide, by decide⟩ (by omega) (by decide)
   | simp [hno]
 ·have e : batchB b = putZ ((b.n + 1 : Nat) : Int) ++ reqsB b.req b.n := by simp [batchB, hno]
  have hlen : ∀ k, k ≤ b.n → (l ++ (putZ ((b.n + 1 : Nat) : Int) ++ reqsB b.req k)).length ≤ 8796093022208 := fun k hk => by
   have h1 := reqsB_len h k hk
   have h2 := putZ_len hz
   rw [List.length_append, List.length_append]; omega
  have hL : RLoop Tryz.prog none 1 (cB (cB (cR (cL (cR (cR (cR (bodyOf Tryz.f79)))))))) (b.n + 1) (rbI l b 0) (.exit 0) (rbI l b b.n) :=
   RLoop.inv (rbI l b) b.n (fun k hk => by
    have hT := T_rr (hlen k (by omega)) (h.req k hk) (a := 1) (m := 707) (by decide)
    have e1 : l ++ (putZ ((b.n + 1 : Nat) : Int) ++ reqsB b.req k) ++ reqB (b.req k) = l ++ (putZ ((b.n + 1 : Nat) : Int) ++ reqsB b.req (k + 1)) := by simp [reqsB]
    rw [e1] at hT
    refine R_alongPc NG MO _ (pcPB_p1 l b k) ?_ (show 1 ≤ 3 by decide)
    simp only [All, Int.toNat_natCast]
    and_intros
    all_goals first
     | exact hT
     | (simp [hk, IntKind.min, IntKind.max, IntKind.signed, IntKind.bits] <;> omega))
    (R_alongPc NG MO _ (pcPB_p0 l b b.n) (by simp [All]) (show 1 ≤ 3 by decide)) (by simp)
  refine T_al (bdPB_p0 l b) Tryz.func79 ?_
  rw [e]
  simp only [All]
  and_intros
  all_goals first
   | exact T_rp hz (by omega) (by decide)
   | exact hL
   | omega
   | (simp [hno, reqsB, IntKind.min, IntKind.max, IntKind.signed, IntKind.bits] <;> omega)
theorem T_pB {l : List UInt8} {b : SBatch} (hl : l.length ≤ 1099511627776) (h : BatchOk b) {a m : Nat} (hne : a ≠ m) : T Tryz.prog 79 [sb (.o a) l, .agg b.c] [(.o a, bs l)] (sb (.o m) (l ++ batchB b)) [(.o m, bs (l ++ batchB b))] := by
 obtain ⟨σ, hσ, h1⟩ := T.at (T_pB1 hl h) [.o 0, .o 63] [.o a, .o m] (by simp) (by simp [hne]) rfl
 simp only [List.map_cons, List.map_nil, List.cons.injEq, and_true] at hσ
 simpa [V.rens, V.ren, SBatch.c, rq, sb, bs, Heap.ren, B.ren, hσ.1, hσ.2] using h1
theorem T_ps1 {l : List UInt8} {n : Nat} {s : Nat → SSign} (hl : l.length ≤ 8796093022208) (hn : n ≤ 1000) (h : ∀ k, k < n → SignOk (s k)) : T Tryz.prog 96 [sb (.o 0) l, sg n s] [(.o 0, bs l)] (sb (.o 63) (l ++ (numsB [(n : Int)] ++ signsB s n))) [(.o 63, bs (l ++ (numsB [(n : Int)] ++ signsB s n)))] := by
 have hz := num63_nat (n := n) (by omega)
 have h9 := numsB1_len hz
 have e0 : numsB [(n : Int)] = putZ (n : Int) := by simp [numsB]
 have hlen : ∀ k, k ≤ n → (l ++ (numsB [(n : Int)] ++ signsB s k)).length ≤ l.length + 30000 := fun k hk => by
  have h1 := signsB_len (s := s) (n := k) (fun i hi => h i (by omega))
  rw [List.length_append, List.length_append]; omega
 have hL : RLoop Tryz.prog none 1 (cB (cB (cR (cL (cR (cR (bodyOf Tryz.f96))))))) (n + 1) (psI l n s 0) (.exit 0) (psI l n s n) :=
  RLoop.inv (psI l n s) n (fun k hk => by
   have hk' := h k hk
   have hle := hlen k (by omega)
   have e2 : numsB [(s k).node] = putZ (s k).node := by simp [numsB]
   have h10 := putZ_len hk'.node
   have hT := T_rp hk'.node (l := l ++ (numsB [(n : Int)] ++ signsB s k)) (by omega) (a := 1) (m := 642) (by decide)
   rw [← e2] at hT h10
   have hT2 := T_Tg (l := l ++ (numsB [(n : Int)] ++ signsB s k) ++ numsB [(s k).node]) (xs := (s k).tag) (by rw [List.length_append]; omega) hk'.tag (a := 642) (m := 1026) (by decide)
   have e1 : l ++ (numsB [(n : Int)] ++ signsB s k) ++ numsB [(s k).node] ++ segB (s k).tag = l ++ (numsB [(n : Int)] ++ signsB s (k + 1)) := by simp [signsB, signB]
   rw [e1] at hT2
   refine R_alongPc NG MO _ (pcPs_p1 l n s k) ?_ (show 1 ≤ 2 by decide)
   simp only [All, Int.toNat_natCast]
   and_intros
   all_goals first
    | exact hT
    | exact hT2
    | (simp [hk, IntKind.min, IntKind.max, IntKind.signed, IntKind.bits] <;> omega))
   (R_alongPc NG MO _ (pcPs_p0 l n s n) (by simp [All]) (show 1 ≤ 2 by decide)) (by simp)
 refine T_al (bdPs_p l n s) Tryz.func96 ?_
 have hT := T_rp hz (l := l) (by omega) (a := 0) (m := 257) (by decide)
 rw [← e0] at hT
 simp only [All]
 and_intros
 all_goals first
  | exact hT
  | exact hL
  | omega
  | (simp [signsB, IntKind.min, IntKind.max, IntKind.signed, IntKind.bits] <;> omega)
theorem T_ps {l : List UInt8} {n : Nat} {s : Nat → SSign} (hl : l.length ≤ 8796093022208) (hn : n ≤ 1000) (h : ∀ k, k < n → SignOk (s k)) {a m : Nat} (hne : a ≠ m) : T Tryz.prog 96 [sb (.o a) l, sg n s] [(.o a, bs l)] (sb (.o m) (l ++ (numsB [(n : Int)] ++ signsB s n))) [(.o m, bs (l ++ (numsB [(n : Int)] ++ signsB s n)))] := by
 obtain ⟨σ, hσ, h1⟩ := T.at (T_ps1 hl hn h) [.o 0, .o 63] [.o a, .o m] (by simp) (by simp [hne]) rfl
 simp only [List.map_cons, List.map_nil, List.cons.injEq, and_true] at hσ
 simpa [V.rens, V.ren, sb, bs, sg, Heap.ren, B.ren, hσ.1, hσ.2] using h1
theorem T_pv1 {l : List UInt8} {v : SVote} (hl : l.length ≤ 8796093022208) (h : VoteOk v) : T Tryz.prog 92 [sb (.o 0) l, .agg v.c] [(.o 0, bs l)] (sb (.o 63) (l ++ voteB v)) [(.o 63, bs (l ++ voteB v))] := by
 have h1 := putZ_len h.kind
 have h2 := putZ_len h.epoch
 have h3 := putZ_len h.view
 have h4 := putZ_len h.slot
 have e : l ++ voteB v = l ++ numsB [v.kind, v.epoch, v.view, v.slot] ++ segB v.digest := by simp [voteB]
 have hle : (l ++ numsB [v.kind, v.epoch, v.view, v.slot]).length ≤ l.length + 36 := by simp only [numsB, List.length_append, List.length_nil]; omega
 refine T_al (bdPv_p l v) Tryz.func92 ?_
 rw [e]
 simp only [All]
 and_intros
 all_goals first
  | exact T_pn4 (by omega) h.kind h.epoch h.view h.slot (by decide)
  | exact T_Dd (by omega) h.digest (by decide)
  | omega
  | simp
theorem T_pv {l : List UInt8} {v : SVote} (hl : l.length ≤ 8796093022208) (h : VoteOk v) {a m : Nat} (hne : a ≠ m) : T Tryz.prog 92 [sb (.o a) l, .agg v.c] [(.o a, bs l)] (sb (.o m) (l ++ voteB v)) [(.o m, bs (l ++ voteB v))] := by
 obtain ⟨σ, hσ, h1⟩ := T.at (T_pv1 hl h) [.o 0, .o 63] [.o a, .o m] (by simp) (by simp [hne]) rfl
 simp only [List.map_cons, List.map_nil, List.cons.injEq, and_true] at hσ
 simpa [V.rens, V.ren, SVote.c, sb, bs, Heap.ren, B.ren, hσ.1, hσ.2] using h1
theorem T_pc1 {l : List UInt8} {c : SCert} (hl : l.length ≤ 4398046511104) (h : CertOk c) : T Tryz.prog 93 [sb (.o 0) l, .agg c.c] [(.o 0, bs l)] (sb (.o 63) (l ++ certB c)) [(.o 63, bs (l ++ certB c))] := by
 have h1 := voteB_len h.vote
 have hn := h.n
 have e : l ++ certB c = l ++ voteB c.vote ++ (numsB [(c.n : Int)] ++ signsB c.sig c.n) := by simp [certB]
 have hle : (l ++ voteB c.vote).length ≤ l.length + 68 := by simp only [List.length_append]; omega
 refine T_al (bdPc_p l c) Tryz.func93 ?_
 rw [e]
 simp only [All]
 and_intros
 all_goals first
  | exact T_pv (by omega) h.vote (by decide)
  | exact T_ps (by omega) h.n h.sig (by decide)
  | omega
  | simp
theorem T_pc {l : List UInt8} {c : SCert} (hl : l.length ≤ 4398046511104) (h : CertOk c) {a m : Nat} (hne : a ≠ m) : T Tryz.prog 93 [sb (.o a) l, .agg c.c] [(.o a, bs l)] (sb (.o m) (l ++ certB c)) [(.o m, bs (l ++ certB c))] := by
 obtain ⟨σ, hσ, h1⟩ := T.at (T_pc1 hl h) [.o 0, .o 63] [.o a, .o m] (by simp) (by simp [hne]) rfl
 simp only [List.map_cons, List.map_nil, List.cons.injEq, and_true] at hσ
 simpa [V.rens, V.ren, SVote.c, SCert.c, sb, bs, sg, Heap.ren, B.ren, hσ.1, hσ.2] using h1
end Go.Proofs.YthifjamdfpjilaaGreat
namespace Go.Proofs.YthifjamdfpjilaaGreat
open Go Sy Go.Proofs
noncomputable def bdVu (n m : Int) : Bd := { f := Tryz.f53, args := [.int .i64 n, .int .i64 m], kb := kb0 }
def dbVu : Nat → List V → Heap → Nat → List Cl
 | _, [.int .i64 n, .int .i64 m], _, _ => [{ val := .bool (uptoS n m) }]
 | _, _, _, _ => []
noncomputable def bdVv (v : SVote) : Bd := { f := Tryz.f58, args := [.agg v.c], kb := { db := dbVu } }
def gI (nt : Nat) (v : V) (t k : Nat) : St := ⟨mkT nt [(0, v), (t, .int .i64 (k : Nat))], [], 0, []⟩
noncomputable def bdVl (f : Func) (nt : Nat) (v : V) (n m : Nat) : Bd := { f := f, args := [v], kb := { db := fun _ _ _ _ => [], lp := fun _ _ => [(True, .loop (n + 1) (wTo (gI nt v 3 0)) (.exit 0) (gI nt v 3 n)), (True, .loop (m + 1) (wTo (gI nt v 3 0)) .ret (smF 2 nt))] } }
noncomputable def pcVl (f : Func) (nt : Nat) (v : V) (n k : Nat) (db : Nat → List V → Heap → Nat → List Cl) : Pc := { c := cB (cB (cR (cL (cR (bodyOf f))))), st := gI nt v 3 k, kb := { db := db }, k := fun e _ => match e with
 | .normal => some (wTo (gI nt v 3 (k + 1)))
 | .ret => some (wTo (smF 2 nt))
 | _ => some (wTo (gI nt v 3 n)) }
noncomputable def bdVs (n : Nat) (s : Nat → SSign) (m : Nat) : Bd := bdVl Tryz.f57 20 (sg n s) n m
noncomputable def pcVs (n : Nat) (s : Nat → SSign) (k : Nat) : Pc := pcVl Tryz.f57 20 (sg n s) n k dbVu
noncomputable def bdVn (n : Nat) (s : Nat → SEnv) (m : Nat) : Bd := bdVl Tryz.f56 29 (nw n s) n m
noncomputable def pcVn (n : Nat) (s : Nat → SEnv) (k : Nat) : Pc := pcVl Tryz.f56 29 (nw n s) n k dbVu
noncomputable def bdVh (n : Nat) (s : Nat → SHeld) (m : Nat) : Bd := bdVl Tryz.f54 29 (hl n s) n m
noncomputable def pcVh (n : Nat) (s : Nat → SHeld) (k : Nat) : Pc := pcVl Tryz.f54 29 (hl n s) n k (dbQ [(55, fun _ _ _ => [{ val := .bool (mayBatchS (s k).batch) }]), (59, fun _ _ _ => [{ val := .bool (mayCertS (s k).cert) }])])
noncomputable def bdVc (c : SCert) : Bd := { f := Tryz.f59, args := [.agg c.c], kb := { db := dbQ [(58, fun _ _ _ => [{ val := .bool (mayVoteS c.vote) }]), (57, fun _ _ _ => [{ val := .bool (allS c.n 64 (fun i => maySignS (c.sig i))) }])] } }
def plI (b : SBatch) (k : Nat) : St := ⟨mkT 55 [(1, .ptr (.o 0) 0 0 0 0), (3, .int .i64 (k : Nat))], [(.o 0, .flat b.c)], 1, []⟩
noncomputable def bdVp (b : SBatch) (m : Nat) : Bd := { f := Tryz.f55, args := [.agg b.c], kb := { db := fun _ _ _ _ => [], lp := fun _ t => match getV t.tmps 1 with | .ptr p _ _ _ _ => [(True, .loop (b.n + 1) (wToS [(.o 0, p)] (plI b 0)) (.exit 0) (plI b b.n)), (True, .loop (m + 1) (wToS [(.o 0, p)] (plI b 0)) .ret (smF 2 55))] | _ => [] } }
noncomputable def pcVp (b : SBatch) (k : Nat) : Pc := { c := cB (cB (cR (cL (cR (cR (bodyOf Tryz.f55)))))), st := plI b k, kb := kb0, k := fun e _ => match e with
 | .normal => some (wTo (plI b (k + 1)))
 | .ret => some (wTo (smF 2 55))
 | _ => some (wTo (plI b b.n)) }
end Go.Proofs.YthifjamdfpjilaaGreat
namespace Go.Proofs.YthifjamdfpjilaaGreat
open Go Sy Go.Proofs
theorem bdVu_p1 (n : Int) (m : Int) :
  along Tryz.prog (bdVu n m) [true] = (some (.bool (decide (n ≤ m)), [], [decide ((0 : Int) ≤ n) = true]) : Option (V × Heap × List Prop)) := by kernel_rfl
theorem bdVu_p0 (n : Int) (m : Int) :
  along Tryz.prog (bdVu n m) [false] = (some (.bool false, [], [decide ((0 : Int) ≤ n) = false]) : Option (V × Heap × List Prop)) := by kernel_rfl

noncomputable def bdVv_c (v : SVote) : Nat → List Prop
 | 0 => [decide (SVote.kind v = (1 : Int)) = true, q2, T Tryz.prog 53 [.int .i64 (SVote.epoch v), .int .i64 1048576] [] (.bool (uptoS (SVote.epoch v) (1048576 : Int))) []]
 | 1 => [uptoS (SVote.epoch v) (1048576 : Int) = true, T Tryz.prog 53 [.int .i64 (SVote.view v), .int .i64 1099511627776] [] (.bool (uptoS (SVote.view v) (1099511627776 : Int))) []]
 | 2 => [decide (SVote.kind v = (2 : Int)) = true, T Tryz.prog 53 [.int .i64 (SVote.epoch v), .int .i64 1048576] [] (.bool (uptoS (SVote.epoch v) (1048576 : Int))) []]
 | 3 => [uptoS (SVote.epoch v) (1048576 : Int) = true, T Tryz.prog 53 [.int .i64 (SVote.view v), .int .i64 1099511627776] [] (.bool (uptoS (SVote.view v) (1099511627776 : Int))) []]
 | _ => []
theorem bdVv_p1111 (v : SVote) :
 along Tryz.prog (bdVv v) [true, true, true, true] = (some (.bool (uptoS (SVote.slot v) (1099511627776 : Int)), [], bdVv_c v 0 ++ (bdVv_c v 1 ++ [uptoS (SVote.view v) (1099511627776 : Int) = true, T Tryz.prog 53 [.int .i64 (SVote.slot v), .int .i64 1099511627776] [] (.bool (uptoS (SVote.slot v) (1099511627776 : Int))) []])) : Option (V × Heap × List Prop)) := by kernel_rfl
theorem bdVv_p1110 (v : SVote) :
 along Tryz.prog (bdVv v) [true, true, true, false] = (some (.bool false, [], bdVv_c v 0 ++ (bdVv_c v 1 ++ [uptoS (SVote.view v) (1099511627776 : Int) = false])) : Option (V × Heap × List Prop)) := by kernel_rfl
theorem bdVv_p1100 (v : SVote) :
 along Tryz.prog (bdVv v) [true, true, false, false] = (some (.bool false, [], bdVv_c v 0 ++ [uptoS (SVote.epoch v) (1048576 : Int) = false, q false]) : Option (V × Heap × List Prop)) := by kernel_rfl
theorem bdVv_p0111 (v : SVote) :
 along Tryz.prog (bdVv v) [false, true, true, true] = (some (.bool (uptoS (SVote.slot v) (1099511627776 : Int)), [], [decide (SVote.kind v = (1 : Int)) = false] ++ (bdVv_c v 2 ++ (bdVv_c v 3 ++ [uptoS (SVote.view v) (1099511627776 : Int) = true, T Tryz.prog 53 [.int .i64 (SVote.slot v), .int .i64 1099511627776] [] (.bool (uptoS (SVote.slot v) (1099511627776 : Int))) []]))) : Option (V × Heap × List Prop)) := by kernel_rfl
theorem bdVv_p0110 (v : SVote) :
 along Tryz.prog (bdVv v) [false, true, true, false] = (some (.bool false, [], [decide (SVote.kind v = (1 : Int)) = false] ++ (bdVv_c v 2 ++ (bdVv_c v 3 ++ [uptoS (SVote.view v) (1099511627776 : Int) = false]))) : Option (V × Heap × List Prop)) := by kernel_rfl
theorem bdVv_p0100 (v : SVote) :
 along Tryz.prog (bdVv v) [false, true, false, false] = (some (.bool false, [], [decide (SVote.kind v = (1 : Int)) = false] ++ (bdVv_c v 2 ++ [uptoS (SVote.epoch v) (1048576 : Int) = false, q false])) : Option (V × Heap × List Prop)) := by kernel_rfl
theorem bdVv_p0000 (v : SVote) :
 along Tryz.prog (bdVv v) [false, false, false, false] = (some (.bool false, [], [decide (SVote.kind v = (1 : Int)) = false, decide (SVote.kind v = (2 : Int)) = false, q false, q false]) : Option (V × Heap × List Prop)) := by kernel_rfl

theorem bdVs_p1 (n : Nat) (s : Nat → SSign) (m : Nat) :
  along Tryz.prog (bdVs n s m) [true] = (some (.bool (decide ((↑n : Int) ≤ (64 : Int))), [], [RLoop Tryz.prog none 0 (cB (cB (cR (cL (cR (bodyOf (Bd.f (bdVs n s m)))))))) (n + 1) (St.mk [.ros 17 n (fun i => SSign.c (s i)) false, .any, .any, .int .i64 0, .any, .any, .any, .any, .any, .any, .any, .any, .any, .any, .any, .any, .any, .any, .any, .any] [] 0 []) (.exit 0) (St.mk [.ros 17 n (fun i => SSign.c (s i)) false, .any, .any, .int .i64 ↑n, .any, .any, .any, .any, .any, .any, .any, .any, .any, .any, .any, .any, .any, .any, .any, .any] [] 0 []), q n, ∀ (k : Nat), k < n → SSign.c (s k) = SSign.c (s k), false = true → false = true, q1]) : Option (V × Heap × List Prop)) := by kernel_rfl
theorem bdVs_p0 (n : Nat) (s : Nat → SSign) (m : Nat) :
  along Tryz.prog (bdVs n s m) [false] = (some (.bool false, [], [RLoop Tryz.prog none 0 (cB (cB (cR (cL (cR (bodyOf (Bd.f (bdVs n s m)))))))) (m + 1) (St.mk [.ros 17 n (fun i => SSign.c (s i)) false, .any, .any, .int .i64 0, .any, .any, .any, .any, .any, .any, .any, .any, .any, .any, .any, .any, .any, .any, .any, .any] [] 0 []) .ret (St.mk [.any, .any, .bool false, .any, .any, .any, .any, .any, .any, .any, .any, .any, .any, .any, .any, .any, .any, .any, .any, .any] [] 0 []), q n, ∀ (k : Nat), k < n → SSign.c (s k) = SSign.c (s k), false = true → false = true, q1]) : Option (V × Heap × List Prop)) := by kernel_rfl

theorem pcVs_p11 (n : Nat) (s : Nat → SSign) (k : Nat) :
  alongPc Tryz.prog (pcVs n s k) [true, true] = (some (.ret, St.mk [.any, .any, .bool false, .any, .any, .any, .any, .any, .any, .any, .any, .any, .any, .any, .any, .any, .any, .any, .any, .any] [] 0 [], [decide ((↑k : Int) < (↑n : Int)) = true, (0 : Int) ≤ (↑k : Int) ∧ (↑k : Int) < (↑n : Int), T Tryz.prog 53 [.int .i64 (SSign.node (s (Int.toNat (↑k : Int)))), .int .i64 64] [] (.bool (uptoS (SSign.node (s (Int.toNat (↑k : Int)))) (64 : Int))) [], (!uptoS (SSign.node (s (Int.toNat (↑k : Int)))) (64 : Int)) = true, q false]) : Option (Exit × St × List Prop)) := by kernel_rfl
theorem pcVs_p10 (n : Nat) (s : Nat → SSign) (k : Nat) :
  alongPc Tryz.prog (pcVs n s k) [true, false] = (some (.normal, St.mk [.ros 17 n (fun i => SSign.c (s i)) false, .any, .any, .int .i64 (↑(k + 1) : Int), .any, .any, .any, .any, .any, .any, .any, .any, .any, .any, .any, .any, .any, .any, .any, .any] [] 0 [], [decide ((↑k : Int) < (↑n : Int)) = true, (0 : Int) ≤ (↑k : Int) ∧ (↑k : Int) < (↑n : Int), T Tryz.prog 53 [.int .i64 (SSign.node (s (Int.toNat (↑k : Int)))), .int .i64 64] [] (.bool (uptoS (SSign.node (s (Int.toNat (↑k : Int)))) (64 : Int))) [], (!uptoS (SSign.node (s (Int.toNat (↑k : Int)))) (64 : Int)) = false, InR IntKind.i64 ((↑k : Int) + (1 : Int)), q n, ∀ (k : Nat), k < n → SSign.c (s k) = SSign.c (s k), false = true → false = true, (↑k : Int) + (1 : Int) = (↑(k + (1 : Nat)) : Int)]) : Option (Exit × St × List Prop)) := by kernel_rfl
theorem pcVs_p0 (n : Nat) (s : Nat → SSign) (k : Nat) :
  alongPc Tryz.prog (pcVs n s k) [false] = (some (.exit 0, St.mk [.ros 17 n (fun i => SSign.c (s i)) false, .any, .any, .int .i64 ↑n, .any, .any, .any, .any, .any, .any, .any, .any, .any, .any, .any, .any, .any, .any, .any, .any] [] 0 [], [decide ((↑k : Int) < (↑n : Int)) = false, q n, ∀ (k : Nat), k < n → SSign.c (s k) = SSign.c (s k), false = true → false = true, (↑k : Int) = (↑n : Int)]) : Option (Exit × St × List Prop)) := by kernel_rfl

theorem bdVn_p1 (n : Nat) (s : Nat → SEnv) (m : Nat) :
  along Tryz.prog (bdVn n s m) [true] = (some (.bool (decide ((↑n : Int) ≤ (64 : Int))), [], [RLoop Tryz.prog none 0 (cB (cB (cR (cL (cR (bodyOf (Bd.f (bdVn n s m)))))))) (n + 1) (St.mk [.ros 18 n (fun i => SEnv.c (s i)) false, .any, .any, .int .i64 0, .any, .any, .any, .any, .any, .any, .any, .any, .any, .any, .any, .any, .any, .any, .any, .any, .any, .any, .any, .any, .any, .any, .any, .any, .any] [] 0 []) (.exit 0) (St.mk [.ros 18 n (fun i => SEnv.c (s i)) false, .any, .any, .int .i64 ↑n, .any, .any, .any, .any, .any, .any, .any, .any, .any, .any, .any, .any, .any, .any, .any, .any, .any, .any, .any, .any, .any, .any, .any, .any, .any] [] 0 []), q n, ∀ (k : Nat), k < n → SEnv.c (s k) = SEnv.c (s k), false = true → false = true, q1]) : Option (V × Heap × List Prop)) := by kernel_rfl
theorem bdVn_p0 (n : Nat) (s : Nat → SEnv) (m : Nat) :
  along Tryz.prog (bdVn n s m) [false] = (some (.bool false, [], [RLoop Tryz.prog none 0 (cB (cB (cR (cL (cR (bodyOf (Bd.f (bdVn n s m)))))))) (m + 1) (St.mk [.ros 18 n (fun i => SEnv.c (s i)) false, .any, .any, .int .i64 0, .any, .any, .any, .any, .any, .any, .any, .any, .any, .any, .any, .any, .any, .any, .any, .any, .any, .any, .any, .any, .any, .any, .any, .any, .any] [] 0 []) .ret (St.mk [.any, .any, .bool false, .any, .any, .any, .any, .any, .any, .any, .any, .any, .any, .any, .any, .any, .any, .any, .any, .any, .any, .any, .any, .any, .any, .any, .any, .any, .any] [] 0 []), q n, ∀ (k : Nat), k < n → SEnv.c (s k) = SEnv.c (s k), false = true → false = true, q1]) : Option (V × Heap × List Prop)) := by kernel_rfl

theorem pcVn_p111 (n : Nat) (s : Nat → SEnv) (k : Nat) :
  alongPc Tryz.prog (pcVn n s k) [true, true, true] = (some (.ret, St.mk [.any, .any, .bool false, .any, .any, .any, .any, .any, .any, .any, .any, .any, .any, .any, .any, .any, .any, .any, .any, .any, .any, .any, .any, .any, .any, .any, .any, .any, .any] [] 0 [], [decide ((↑k : Int) < (↑n : Int)) = true, (0 : Int) ≤ (↑k : Int) ∧ (↑k : Int) < (↑n : Int), T Tryz.prog 53 [.int .i64 (SEnv.src (s (Int.toNat (↑k : Int)))), .int .i64 64] [] (.bool (uptoS (SEnv.src (s (Int.toNat (↑k : Int)))) (64 : Int))) [], (!uptoS (SEnv.src (s (Int.toNat (↑k : Int)))) (64 : Int)) = true, q2, q false]) : Option (Exit × St × List Prop)) := by kernel_rfl
theorem pcVn_p101 (n : Nat) (s : Nat → SEnv) (k : Nat) :
  alongPc Tryz.prog (pcVn n s k) [true, false, true] = (some (.ret, St.mk [.any, .any, .bool false, .any, .any, .any, .any, .any, .any, .any, .any, .any, .any, .any, .any, .any, .any, .any, .any, .any, .any, .any, .any, .any, .any, .any, .any, .any, .any] [] 0 [], [decide ((↑k : Int) < (↑n : Int)) = true, (0 : Int) ≤ (↑k : Int) ∧ (↑k : Int) < (↑n : Int), T Tryz.prog 53 [.int .i64 (SEnv.src (s (Int.toNat (↑k : Int)))), .int .i64 64] [] (.bool (uptoS (SEnv.src (s (Int.toNat (↑k : Int)))) (64 : Int))) [], (!uptoS (SEnv.src (s (Int.toNat (↑k : Int)))) (64 : Int)) = false, (0 : Int) ≤ (↑k : Int) ∧ (↑k : Int) < (↑n : Int), decide ((4194304 : Int) < (↑(ByteArray.size (SEnv.body (s (Int.toNat (↑k : Int))))) : Int)) = true, q false]) : Option (Exit × St × List Prop)) := by kernel_rfl
theorem pcVn_p100 (n : Nat) (s : Nat → SEnv) (k : Nat) :
  alongPc Tryz.prog (pcVn n s k) [true, false, false] = (some (.normal, St.mk [.ros 18 n (fun i => SEnv.c (s i)) false, .any, .any, .int .i64 (↑(k + 1) : Int), .any, .any, .any, .any, .any, .any, .any, .any, .any, .any, .any, .any, .any, .any, .any, .any, .any, .any, .any, .any, .any, .any, .any, .any, .any] [] 0 [], [decide ((↑k : Int) < (↑n : Int)) = true, (0 : Int) ≤ (↑k : Int) ∧ (↑k : Int) < (↑n : Int), T Tryz.prog 53 [.int .i64 (SEnv.src (s (Int.toNat (↑k : Int)))), .int .i64 64] [] (.bool (uptoS (SEnv.src (s (Int.toNat (↑k : Int)))) (64 : Int))) [], (!uptoS (SEnv.src (s (Int.toNat (↑k : Int)))) (64 : Int)) = false, (0 : Int) ≤ (↑k : Int) ∧ (↑k : Int) < (↑n : Int), decide ((4194304 : Int) < (↑(ByteArray.size (SEnv.body (s (Int.toNat (↑k : Int))))) : Int)) = false, InR IntKind.i64 ((↑k : Int) + (1 : Int)), q n, ∀ (k : Nat), k < n → SEnv.c (s k) = SEnv.c (s k), false = true → false = true, (↑k : Int) + (1 : Int) = (↑(k + (1 : Nat)) : Int)]) : Option (Exit × St × List Prop)) := by kernel_rfl
theorem pcVn_p0 (n : Nat) (s : Nat → SEnv) (k : Nat) :
  alongPc Tryz.prog (pcVn n s k) [false] = (some (.exit 0, St.mk [.ros 18 n (fun i => SEnv.c (s i)) false, .any, .any, .int .i64 ↑n, .any, .any, .any, .any, .any, .any, .any, .any, .any, .any, .any, .any, .any, .any, .any, .any, .any, .any, .any, .any, .any, .any, .any, .any, .any] [] 0 [], [decide ((↑k : Int) < (↑n : Int)) = false, q n, ∀ (k : Nat), k < n → SEnv.c (s k) = SEnv.c (s k), false = true → false = true, (↑k : Int) = (↑n : Int)]) : Option (Exit × St × List Prop)) := by kernel_rfl

theorem bdVh_p1 (n : Nat) (s : Nat → SHeld) (m : Nat) :
  along Tryz.prog (bdVh n s m) [true] = (some (.bool (decide ((↑n : Int) ≤ (4 : Int))), [], [RLoop Tryz.prog none 0 (cB (cB (cR (cL (cR (bodyOf (Bd.f (bdVh n s m)))))))) (n + 1) (St.mk [.ros 39 n (fun i => SHeld.c (s i)) false, .any, .any, .int .i64 0, .any, .any, .any, .any, .any, .any, .any, .any, .any, .any, .any, .any, .any, .any, .any, .any, .any, .any, .any, .any, .any, .any, .any, .any, .any] [] 0 []) (.exit 0) (St.mk [.ros 39 n (fun i => SHeld.c (s i)) false, .any, .any, .int .i64 ↑n, .any, .any, .any, .any, .any, .any, .any, .any, .any, .any, .any, .any, .any, .any, .any, .any, .any, .any, .any, .any, .any, .any, .any, .any, .any] [] 0 []), q n, ∀ (k : Nat), k < n → SHeld.c (s k) = SHeld.c (s k), false = true → false = true, q1]) : Option (V × Heap × List Prop)) := by kernel_rfl
theorem bdVh_p0 (n : Nat) (s : Nat → SHeld) (m : Nat) :
  along Tryz.prog (bdVh n s m) [false] = (some (.bool false, [], [RLoop Tryz.prog none 0 (cB (cB (cR (cL (cR (bodyOf (Bd.f (bdVh n s m)))))))) (m + 1) (St.mk [.ros 39 n (fun i => SHeld.c (s i)) false, .any, .any, .int .i64 0, .any, .any, .any, .any, .any, .any, .any, .any, .any, .any, .any, .any, .any, .any, .any, .any, .any, .any, .any, .any, .any, .any, .any, .any, .any] [] 0 []) .ret (St.mk [.any, .any, .bool false, .any, .any, .any, .any, .any, .any, .any, .any, .any, .any, .any, .any, .any, .any, .any, .any, .any, .any, .any, .any, .any, .any, .any, .any, .any, .any] [] 0 []), q n, ∀ (k : Nat), k < n → SHeld.c (s k) = SHeld.c (s k), false = true → false = true, q1]) : Option (V × Heap × List Prop)) := by kernel_rfl

noncomputable def pcVh_c (n : Nat) (s : Nat → SHeld) (k : Nat) : Nat → List Prop
 | 0 => [decide ((↑k : Int) < (↑n : Int)) = true, (0 : Int) ≤ (↑k : Int) ∧ (↑k : Int) < (↑n : Int), T Tryz.prog 55 [.agg [.bool (SBatch.noop (SHeld.batch (s (Int.toNat (↑k : Int))))), rq (SBatch.n (SHeld.batch (s (Int.toNat (↑k : Int))))) (SBatch.req (SHeld.batch (s (Int.toNat (↑k : Int)))))]] [] (.bool (mayBatchS (SHeld.batch (s k)))) []]
 | 1 => [(!mayBatchS (SHeld.batch (s k))) = false, (0 : Int) ≤ (↑k : Int) ∧ (↑k : Int) < (↑n : Int), T Tryz.prog 59 [.agg [.int .i64 (SVote.kind (SCert.vote (SHeld.cert (s (Int.toNat (↑k : Int)))))), .int .i64 (SVote.epoch (SCert.vote (SHeld.cert (s (Int.toNat (↑k : Int)))))), .int .i64 (SVote.view (SCert.vote (SHeld.cert (s (Int.toNat (↑k : Int)))))), .int .i64 (SVote.slot (SCert.vote (SHeld.cert (s (Int.toNat (↑k : Int)))))), .seg .u8 32 (SVote.digest (SCert.vote (SHeld.cert (s (Int.toNat (↑k : Int)))))), sg (SCert.n (SHeld.cert (s (Int.toNat (↑k : Int))))) (SCert.sig (SHeld.cert (s (Int.toNat (↑k : Int)))))]] [] (.bool (mayCertS (SHeld.cert (s k)))) []]
 | _ => []
theorem pcVh_p111 (n : Nat) (s : Nat → SHeld) (k : Nat) :
 alongPc Tryz.prog (pcVh n s k) [true, true, true] = (some (.ret, St.mk [.any, .any, .bool false, .any, .any, .any, .any, .any, .any, .any, .any, .any, .any, .any, .any, .any, .any, .any, .any, .any, .any, .any, .any, .any, .any, .any, .any, .any, .any] [] 0 [], pcVh_c n s k 0 ++ [(!mayBatchS (SHeld.batch (s k))) = true, q2, q false]) : Option (Exit × St × List Prop)) := by kernel_rfl
theorem pcVh_p101 (n : Nat) (s : Nat → SHeld) (k : Nat) :
 alongPc Tryz.prog (pcVh n s k) [true, false, true] = (some (.ret, St.mk [.any, .any, .bool false, .any, .any, .any, .any, .any, .any, .any, .any, .any, .any, .any, .any, .any, .any, .any, .any, .any, .any, .any, .any, .any, .any, .any, .any, .any, .any] [] 0 [], pcVh_c n s k 0 ++ (pcVh_c n s k 1 ++ [(!mayCertS (SHeld.cert (s k))) = true, q false])) : Option (Exit × St × List Prop)) := by kernel_rfl
theorem pcVh_p100 (n : Nat) (s : Nat → SHeld) (k : Nat) :
 alongPc Tryz.prog (pcVh n s k) [true, false, false] = (some (.normal, St.mk [.ros 39 n (fun i => SHeld.c (s i)) false, .any, .any, .int .i64 (↑(k + 1) : Int), .any, .any, .any, .any, .any, .any, .any, .any, .any, .any, .any, .any, .any, .any, .any, .any, .any, .any, .any, .any, .any, .any, .any, .any, .any] [] 0 [], pcVh_c n s k 0 ++ (pcVh_c n s k 1 ++ [(!mayCertS (SHeld.cert (s k))) = false, InR IntKind.i64 ((↑k : Int) + (1 : Int)), q n, ∀ (k : Nat), k < n → SHeld.c (s k) = SHeld.c (s k), false = true → false = true, (↑k : Int) + (1 : Int) = (↑(k + (1 : Nat)) : Int)])) : Option (Exit × St × List Prop)) := by kernel_rfl
theorem pcVh_p0 (n : Nat) (s : Nat → SHeld) (k : Nat) :
 alongPc Tryz.prog (pcVh n s k) [false] = (some (.exit 0, St.mk [.ros 39 n (fun i => SHeld.c (s i)) false, .any, .any, .int .i64 ↑n, .any, .any, .any, .any, .any, .any, .any, .any, .any, .any, .any, .any, .any, .any, .any, .any, .any, .any, .any, .any, .any, .any, .any, .any, .any] [] 0 [], [decide ((↑k : Int) < (↑n : Int)) = false, q n, ∀ (k : Nat), k < n → SHeld.c (s k) = SHeld.c (s k), false = true → false = true, (↑k : Int) = (↑n : Int)]) : Option (Exit × St × List Prop)) := by kernel_rfl

theorem bdVc_p1 (c : SCert) :
  along Tryz.prog (bdVc c) [true] = (some (.bool (allS (SCert.n c) 64 fun i => maySignS (SCert.sig c i)), [], [T Tryz.prog 58 [.agg (SVote.c (SCert.vote c))] [] (.bool (mayVoteS (SCert.vote c))) [], mayVoteS (SCert.vote c) = true, T Tryz.prog 57 [.ros 17 (SCert.n c) (fun i => SSign.c (SCert.sig c i)) false] [] (.bool (allS (SCert.n c) 64 fun i => maySignS (SCert.sig c i))) []]) : Option (V × Heap × List Prop)) := by kernel_rfl
theorem bdVc_p0 (c : SCert) :
  along Tryz.prog (bdVc c) [false] = (some (.bool false, [], [T Tryz.prog 58 [.agg (SVote.c (SCert.vote c))] [] (.bool (mayVoteS (SCert.vote c))) [], mayVoteS (SCert.vote c) = false]) : Option (V × Heap × List Prop)) := by kernel_rfl

theorem bdVp_p11 (b : SBatch) (m : Nat) :
  along Tryz.prog (bdVp b m) [true, true] = (some (.bool false, [], [decide ((4 : Int) < (↑(SBatch.n b) : Int)) = true, q2]) : Option (V × Heap × List Prop)) := by kernel_rfl
theorem bdVp_p011 (b : SBatch) (m : Nat) :
  along Tryz.prog (bdVp b m) [false, true, true] = (some (.bool false, [], [decide ((4 : Int) < (↑(SBatch.n b) : Int)) = false, SBatch.noop b = true, decide ((0 : Int) < (↑(SBatch.n b) : Int)) = true]) : Option (V × Heap × List Prop)) := by kernel_rfl
theorem bdVp_p0101 (b : SBatch) (m : Nat) :
  along Tryz.prog (bdVp b m) [false, true, false, true] = (some (.bool true, [], [decide ((4 : Int) < (↑(SBatch.n b) : Int)) = false, SBatch.noop b = true, decide ((0 : Int) < (↑(SBatch.n b) : Int)) = false, RLoop Tryz.prog none 0 (cB (cB (cR (cL (cR (cR (bodyOf (Bd.f (bdVp b m))))))))) (SBatch.n b + 1) (St.mk [.any, .ptr (.o 0) 0 0 0 0, .any, .int .i64 0, .any, .any, .any, .any, .any, .any, .any, .any, .any, .any, .any, .any, .any, .any, .any, .any, .any, .any, .any, .any, .any, .any, .any, .any, .any, .any, .any, .any, .any, .any, .any, .any, .any, .any, .any, .any, .any, .any, .any, .any, .any, .any, .any, .any, .any, .any, .any, .any, .any, .any, .any] [(.o 0, .flat (SBatch.c b))] 1 []) (.exit 0) (St.mk [.any, .ptr (.o 0) 0 0 0 0, .any, .int .i64 (↑(SBatch.n b) : Int), .any, .any, .any, .any, .any, .any, .any, .any, .any, .any, .any, .any, .any, .any, .any, .any, .any, .any, .any, .any, .any, .any, .any, .any, .any, .any, .any, .any, .any, .any, .any, .any, .any, .any, .any, .any, .any, .any, .any, .any, .any, .any, .any, .any, .any, .any, .any, .any, .any, .any, .any] [(.o 0, .flat (SBatch.c b))] 1 []), q (SBatch.noop b), q (SBatch.n b), ∀ (k : Nat), k < SBatch.n b → SReq.c (SBatch.req b k) = SReq.c (SBatch.req b k), false = true → false = true, q0, q0, q0, q1]) : Option (V × Heap × List Prop)) := by kernel_rfl
theorem bdVp_p0100 (b : SBatch) (m : Nat) :
  along Tryz.prog (bdVp b m) [false, true, false, false] = (some (.bool false, [], [decide ((4 : Int) < (↑(SBatch.n b) : Int)) = false, SBatch.noop b = true, decide ((0 : Int) < (↑(SBatch.n b) : Int)) = false, RLoop Tryz.prog none 0 (cB (cB (cR (cL (cR (cR (bodyOf (Bd.f (bdVp b m))))))))) (m + 1) (St.mk [.any, .ptr (.o 0) 0 0 0 0, .any, .int .i64 0, .any, .any, .any, .any, .any, .any, .any, .any, .any, .any, .any, .any, .any, .any, .any, .any, .any, .any, .any, .any, .any, .any, .any, .any, .any, .any, .any, .any, .any, .any, .any, .any, .any, .any, .any, .any, .any, .any, .any, .any, .any, .any, .any, .any, .any, .any, .any, .any, .any, .any, .any] [(.o 0, .flat (SBatch.c b))] 1 []) .ret (St.mk [.any, .any, .bool false, .any, .any, .any, .any, .any, .any, .any, .any, .any, .any, .any, .any, .any, .any, .any, .any, .any, .any, .any, .any, .any, .any, .any, .any, .any, .any, .any, .any, .any, .any, .any, .any, .any, .any, .any, .any, .any, .any, .any, .any, .any, .any, .any, .any, .any, .any, .any, .any, .any, .any, .any, .any] [] 0 []), q (SBatch.noop b), q (SBatch.n b), ∀ (k : Nat), k < SBatch.n b → SReq.c (SBatch.req b k) = SReq.c (SBatch.req b k), false = true → false = true, q0, q0, q0, q1]) : Option (V × Heap × List Prop)) := by kernel_rfl
theorem bdVp_p0001 (b : SBatch) (m : Nat) :
  along Tryz.prog (bdVp b m) [false, false, false, true] = (some (.bool true, [], [decide ((4 : Int) < (↑(SBatch.n b) : Int)) = false, SBatch.noop b = false, q false, RLoop Tryz.prog none 0 (cB (cB (cR (cL (cR (cR (bodyOf (Bd.f (bdVp b m))))))))) (SBatch.n b + 1) (St.mk [.any, .ptr (.o 0) 0 0 0 0, .any, .int .i64 0, .any, .any, .any, .any, .any, .any, .any, .any, .any, .any, .any, .any, .any, .any, .any, .any, .any, .any, .any, .any, .any, .any, .any, .any, .any, .any, .any, .any, .any, .any, .any, .any, .any, .any, .any, .any, .any, .any, .any, .any, .any, .any, .any, .any, .any, .any, .any, .any, .any, .any, .any] [(.o 0, .flat (SBatch.c b))] 1 []) (.exit 0) (St.mk [.any, .ptr (.o 0) 0 0 0 0, .any, .int .i64 (↑(SBatch.n b) : Int), .any, .any, .any, .any, .any, .any, .any, .any, .any, .any, .any, .any, .any, .any, .any, .any, .any, .any, .any, .any, .any, .any, .any, .any, .any, .any, .any, .any, .any, .any, .any, .any, .any, .any, .any, .any, .any, .any, .any, .any, .any, .any, .any, .any, .any, .any, .any, .any, .any, .any, .any] [(.o 0, .flat (SBatch.c b))] 1 []), q (SBatch.noop b), q (SBatch.n b), ∀ (k : Nat), k < SBatch.n b → SReq.c (SBatch.req b k) = SReq.c (SBatch.req b k), false = true → false = true, q0, q0, q0, q1]) : Option (V × Heap × List Prop)) := by kernel_rfl
theorem bdVp_p0000 (b : SBatch) (m : Nat) :
  along Tryz.prog (bdVp b m) [false, false, false, false] = (some (.bool false, [], [decide ((4 : Int) < (↑(SBatch.n b) : Int)) = false, SBatch.noop b = false, q false, RLoop Tryz.prog none 0 (cB (cB (cR (cL (cR (cR (bodyOf (Bd.f (bdVp b m))))))))) (m + 1) (St.mk [.any, .ptr (.o 0) 0 0 0 0, .any, .int .i64 0, .any, .any, .any, .any, .any, .any, .any, .any, .any, .any, .any, .any, .any, .any, .any, .any, .any, .any, .any, .any, .any, .any, .any, .any, .any, .any, .any, .any, .any, .any, .any, .any, .any, .any, .any, .any, .any, .any, .any, .any, .any, .any, .any, .any, .any, .any, .any, .any, .any, .any, .any] [(.o 0, .flat (SBatch.c b))] 1 []) .ret (St.mk [.any, .any, .bool false, .any, .any, .any, .any, .any, .any, .any, .any, .any, .any, .any, .any, .any, .any, .any, .any, .any, .any, .any, .any, .any, .any, .any, .any, .any, .any, .any, .any, .any, .any, .any, .any, .any, .any, .any, .any, .any, .any, .any, .any, .any, .any, .any, .any, .any, .any, .any, .any, .any, .any, .any, .any] [] 0 []), q (SBatch.noop b), q (SBatch.n b), ∀ (k : Nat), k < SBatch.n b → SReq.c (SBatch.req b k) = SReq.c (SBatch.req b k), false = true → false = true, q0, q0, q0, q1]) : Option (V × Heap × List Prop)) := by kernel_rfl

noncomputable def pcVp_c (b : SBatch) (k : Nat) : Nat → List Prop
 | 0 => [decide ((↑k : Int) < (↑(SBatch.n b) : Int)) = true, (0 : Int) ≤ (↑k : Int) ∧ (↑k : Int) < (↑(SBatch.n b) : Int)]
 | 1 => [decide (SReq.client (SBatch.req b (Int.toNat (↑k : Int))) < (0 : Int)) = false]
 | _ => []
theorem pcVp_p111111 (b : SBatch) (k : Nat) :
 alongPc Tryz.prog (pcVp b k) [true, true, true, true, true, true] = (some (.ret, St.mk [.any, .any, .bool false, .any, .any, .any, .any, .any, .any, .any, .any, .any, .any, .any, .any, .any, .any, .any, .any, .any, .any, .any, .any, .any, .any, .any, .any, .any, .any, .any, .any, .any, .any, .any, .any, .any, .any, .any, .any, .any, .any, .any, .any, .any, .any, .any, .any, .any, .any, .any, .any, .any, .any, .any, .any] [] 0 [], pcVp_c b k 0 ++ [decide (SReq.client (SBatch.req b (Int.toNat (↑k : Int))) < (0 : Int)) = true, q2, q2, q2, q2, q false]) : Option (Exit × St × List Prop)) := by kernel_rfl
theorem pcVp_p101111 (b : SBatch) (k : Nat) :
 alongPc Tryz.prog (pcVp b k) [true, false, true, true, true, true] = (some (.ret, St.mk [.any, .any, .bool false, .any, .any, .any, .any, .any, .any, .any, .any, .any, .any, .any, .any, .any, .any, .any, .any, .any, .any, .any, .any, .any, .any, .any, .any, .any, .any, .any, .any, .any, .any, .any, .any, .any, .any, .any, .any, .any, .any, .any, .any, .any, .any, .any, .any, .any, .any, .any, .any, .any, .any, .any, .any] [] 0 [], pcVp_c b k 0 ++ (pcVp_c b k 1 ++ [decide ((8 : Int) < SReq.client (SBatch.req b (Int.toNat (↑k : Int)))) = true, q2, q2, q2, q false])) : Option (Exit × St × List Prop)) := by kernel_rfl
theorem pcVp_p100111 (b : SBatch) (k : Nat) :
 alongPc Tryz.prog (pcVp b k) [true, false, false, true, true, true] = (some (.ret, St.mk [.any, .any, .bool false, .any, .any, .any, .any, .any, .any, .any, .any, .any, .any, .any, .any, .any, .any, .any, .any, .any, .any, .any, .any, .any, .any, .any, .any, .any, .any, .any, .any, .any, .any, .any, .any, .any, .any, .any, .any, .any, .any, .any, .any, .any, .any, .any, .any, .any, .any, .any, .any, .any, .any, .any, .any] [] 0 [], pcVp_c b k 0 ++ (pcVp_c b k 1 ++ [decide ((8 : Int) < SReq.client (SBatch.req b (Int.toNat (↑k : Int)))) = false, decide (SReq.num (SBatch.req b (Int.toNat (↑k : Int))) < (0 : Int)) = true, q2, q2, q false])) : Option (Exit × St × List Prop)) := by kernel_rfl
theorem pcVp_p100011 (b : SBatch) (k : Nat) :
 alongPc Tryz.prog (pcVp b k) [true, false, false, false, true, true] = (some (.ret, St.mk [.any, .any, .bool false, .any, .any, .any, .any, .any, .any, .any, .any, .any, .any, .any, .any, .any, .any, .any, .any, .any, .any, .any, .any, .any, .any, .any, .any, .any, .any, .any, .any, .any, .any, .any, .any, .any, .any, .any, .any, .any, .any, .any, .any, .any, .any, .any, .any, .any, .any, .any, .any, .any, .any, .any, .any] [] 0 [], pcVp_c b k 0 ++ (pcVp_c b k 1 ++ [decide ((8 : Int) < SReq.client (SBatch.req b (Int.toNat (↑k : Int)))) = false, decide (SReq.num (SBatch.req b (Int.toNat (↑k : Int))) < (0 : Int)) = false, decide ((1099511627776 : Int) < SReq.num (SBatch.req b (Int.toNat (↑k : Int)))) = true, q2, q false])) : Option (Exit × St × List Prop)) := by kernel_rfl
theorem pcVp_p100001 (b : SBatch) (k : Nat) :
 alongPc Tryz.prog (pcVp b k) [true, false, false, false, false, true] = (some (.ret, St.mk [.any, .any, .bool false, .any, .any, .any, .any, .any, .any, .any, .any, .any, .any, .any, .any, .any, .any, .any, .any, .any, .any, .any, .any, .any, .any, .any, .any, .any, .any, .any, .any, .any, .any, .any, .any, .any, .any, .any, .any, .any, .any, .any, .any, .any, .any, .any, .any, .any, .any, .any, .any, .any, .any, .any, .any] [] 0 [], pcVp_c b k 0 ++ (pcVp_c b k 1 ++ [decide ((8 : Int) < SReq.client (SBatch.req b (Int.toNat (↑k : Int)))) = false, decide (SReq.num (SBatch.req b (Int.toNat (↑k : Int))) < (0 : Int)) = false, decide ((1099511627776 : Int) < SReq.num (SBatch.req b (Int.toNat (↑k : Int)))) = false, decide ((64 : Int) < (↑(ByteArray.size (SReq.data (SBatch.req b (Int.toNat (↑k : Int))))) : Int)) = true, q false])) : Option (Exit × St × List Prop)) := by kernel_rfl
theorem pcVp_p100000 (b : SBatch) (k : Nat) :
 alongPc Tryz.prog (pcVp b k) [true, false, false, false, false, false] = (some (.normal, St.mk [.any, .ptr (.o 0) 0 0 0 0, .any, .int .i64 (↑(k + 1) : Int), .any, .any, .any, .any, .any, .any, .any, .any, .any, .any, .any, .any, .any, .any, .any, .any, .any, .any, .any, .any, .any, .any, .any, .any, .any, .any, .any, .any, .any, .any, .any, .any, .any, .any, .any, .any, .any, .any, .any, .any, .any, .any, .any, .any, .any, .any, .any, .any, .any, .any, .any] [(.o 0, .flat (SBatch.c b))] 1 [], pcVp_c b k 0 ++ (pcVp_c b k 1 ++ [decide ((8 : Int) < SReq.client (SBatch.req b (Int.toNat (↑k : Int)))) = false, decide (SReq.num (SBatch.req b (Int.toNat (↑k : Int))) < (0 : Int)) = false, decide ((1099511627776 : Int) < SReq.num (SBatch.req b (Int.toNat (↑k : Int)))) = false, decide ((64 : Int) < (↑(ByteArray.size (SReq.data (SBatch.req b (Int.toNat (↑k : Int))))) : Int)) = false, InR IntKind.i64 ((↑k : Int) + (1 : Int)), q (SBatch.noop b), q (SBatch.n b), ∀ (k : Nat), k < SBatch.n b → SReq.c (SBatch.req b k) = SReq.c (SBatch.req b k), false = true → false = true, q0, q0, q0, (↑k : Int) + (1 : Int) = (↑(k + (1 : Nat)) : Int)])) : Option (Exit × St × List Prop)) := by kernel_rfl
theorem pcVp_p0 (b : SBatch) (k : Nat) :
 alongPc Tryz.prog (pcVp b k) [false] = (some (.exit 0, St.mk [.any, .ptr (.o 0) 0 0 0 0, .any, .int .i64 (↑(SBatch.n b) : Int), .any, .any, .any, .any, .any, .any, .any, .any, .any, .any, .any, .any, .any, .any, .any, .any, .any, .any, .any, .any, .any, .any, .any, .any, .any, .any, .any, .any, .any, .any, .any, .any, .any, .any, .any, .any, .any, .any, .any, .any, .any, .any, .any, .any, .any, .any, .any, .any, .any, .any, .any] [(.o 0, .flat (SBatch.c b))] 1 [], [decide ((↑k : Int) < (↑(SBatch.n b) : Int)) = false, q (SBatch.noop b), q (SBatch.n b), ∀ (k : Nat), k < SBatch.n b → SReq.c (SBatch.req b k) = SReq.c (SBatch.req b k), false = true → false = true, q0, q0, q0, (↑k : Int) = (↑(SBatch.n b) : Int)]) : Option (Exit × St × List Prop)) := by kernel_rfl

theorem T_vu (n m : Int) : T Tryz.prog 53 [.int .i64 n, .int .i64 m] [] (.bool (uptoS n m)) [] := by
 by_cases h1 : 0 ≤ n
 ·
  refine T.bool (T_al (bdVu_p1 n m) Tryz.func53 ?_) (by simp [uptoS, h1] <;> omega)
  simp only [All, All_append, bdVv_c, pcVh_c, pcVp_c]
  and_intros
  all_goals first
   | (simp [h1]; done)
 ·
  refine T.bool (T_al (bdVu_p0 n m) Tryz.func53 ?_) (by simp [uptoS, h1] <;> omega)
  simp only [All, All_append, bdVv_c, pcVh_c, pcVp_c]
  and_intros
  all_goals first
   | (simp [h1]; done)
theorem T_vv (v : SVote) : T Tryz.prog 58 [.agg v.c] [] (.bool (mayVoteS v)) [] := by
 by_cases h1 : v.kind = 1
 ·
  by_cases h2 : uptoS v.epoch 1048576 = true
  ·
   by_cases h3 : uptoS v.view 1099511627776 = true
   ·
    refine T.bool (T_al (bdVv_p1111 v) Tryz.func58 ?_) (by simp [mayVoteS, h1, h2, h3] <;> omega)
    simp only [All, All_append, bdVv_c, pcVh_c, pcVp_c]
    and_intros
    all_goals first
     | exact T_vu _ _
     | (simp [h1, h2, h3]; done)
   ·
    refine T.bool (T_al (bdVv_p1110 v) Tryz.func58 ?_) (by simp [mayVoteS, h1, h2, h3] <;> omega)
    simp only [All, All_append, bdVv_c, pcVh_c, pcVp_c]
    and_intros
    all_goals first
     | exact T_vu _ _
     | (simp [h1, h2, h3]; done)
  ·
   refine T.bool (T_al (bdVv_p1100 v) Tryz.func58 ?_) (by simp [mayVoteS, h1, h2] <;> omega)
   simp only [All, All_append, bdVv_c, pcVh_c, pcVp_c]
   and_intros
   all_goals first
    | exact T_vu _ _
    | (simp [h1, h2]; done)
 ·
  by_cases h2 : v.kind = 2
  ·
   by_cases h3 : uptoS v.epoch 1048576 = true
   ·
    by_cases h4 : uptoS v.view 1099511627776 = true
    ·
     refine T.bool (T_al (bdVv_p0111 v) Tryz.func58 ?_) (by simp [mayVoteS, h1, h2, h3, h4] <;> omega)
     simp only [All, All_append, bdVv_c, pcVh_c, pcVp_c]
     and_intros
     all_goals first
      | exact T_vu _ _
      | (simp [h1, h2, h3, h4]; done)
    ·
     refine T.bool (T_al (bdVv_p0110 v) Tryz.func58 ?_) (by simp [mayVoteS, h1, h2, h3, h4] <;> omega)
     simp only [All, All_append, bdVv_c, pcVh_c, pcVp_c]
     and_intros
     all_goals first
      | exact T_vu _ _
      | (simp [h1, h2, h3, h4]; done)
   ·
    refine T.bool (T_al (bdVv_p0100 v) Tryz.func58 ?_) (by simp [mayVoteS, h1, h2, h3] <;> omega)
    simp only [All, All_append, bdVv_c, pcVh_c, pcVp_c]
    and_intros
    all_goals first
     | exact T_vu _ _
     | (simp [h1, h2, h3]; done)
  ·
   refine T.bool (T_al (bdVv_p0000 v) Tryz.func58 ?_) (by simp [mayVoteS, h1, h2] <;> omega)
   simp only [All, All_append, bdVv_c, pcVh_c, pcVp_c]
   and_intros
   all_goals first
    | exact T_vu _ _
    | (simp [h1, h2]; done)
theorem T_vs {n : Nat} (s : Nat → SSign) (hn : n ≤ 9223372036854775807) : T Tryz.prog 57 [sg n s] [] (.bool (allS n 64 (fun i => maySignS (s i)))) [] := by
 have step : ∀ k, k < n → maySignS (s k) = true → R Tryz.prog none 0 (cB (cB (cR (cL (cR (bodyOf Tryz.f57)))))) (gI 20 (sg n s) 3 k) .normal (gI 20 (sg n s) 3 (k + 1)) := fun k hk hp => by
  refine R_alongPc NG MO _ (pcVs_p10 n s k) ?_ (Nat.zero_le _)
  simp [maySignS] at hp
  simp only [All, All_append, bdVv_c, pcVh_c, pcVp_c, Int.toNat_natCast]
  and_intros
  all_goals first
   | exact T_vu _ _
   | (simp [hk, hp, IntKind.min, IntKind.max, IntKind.signed, IntKind.bits] <;> omega)
 obtain ⟨m, h1, h2, h3⟩ := stop_at (fun k => maySignS (s k) = true) n
 by_cases hmn : m = n
 ·subst hmn
  have e : allS m 64 (fun i => maySignS (s i)) = decide (m ≤ 64) := by
   simp only [allS]; rw [decide_eq_true (p := ∀ i, i < m → maySignS (s i) = true) (fun i hi => h2 i hi), Bool.and_true]
  refine T.bool (T_al (bdVs_p1 m s m) Tryz.func57 ?_) (by rw [e]; exact decide_eq_decide.mpr (by omega))
  simp only [All, All_append, bdVv_c, pcVh_c, pcVp_c]
  and_intros
  all_goals first
   | exact RLoop.inv (gI 20 (sg m s) 3) m (fun k hk => step k hk (h2 k hk)) (R_alongPc NG MO _ (pcVs_p0 m s m) (by simp [All, All_append, bdVv_c, pcVh_c, pcVp_c]) (Nat.zero_le _)) (by simp)
   | trivial
   | rfl
   | (simp; done)
 ·have hm' : m < n := by omega
  have h3 := h3.resolve_left hmn
  have bad : R Tryz.prog none 0 (cB (cB (cR (cL (cR (bodyOf Tryz.f57)))))) (gI 20 (sg n s) 3 m) .ret (smF 2 20) := by
   refine R_alongPc NG MO _ (pcVs_p11 n s m) ?_ (Nat.zero_le _)
   simp only [All, All_append, bdVv_c, pcVh_c, pcVp_c, Int.toNat_natCast]
   and_intros
   all_goals first
   | exact T_vu _ _
   | (simp [maySignS] at h3; simp [hm', h3] <;> omega)
  refine T.bool (T_al (bdVs_p0 n s m) Tryz.func57 ?_) (by
   have : ¬ ∀ i, i < n → maySignS (s i) = true := fun h => h3 (h m hm')
   simp only [allS, this, decide_false, Bool.and_false])
  simp only [All, All_append, bdVv_c, pcVh_c, pcVp_c]
  and_intros
  all_goals first
   | exact RLoop.inv (gI 20 (sg n s) 3) m (fun k hk => step k (by omega) (h2 k hk)) bad (by simp)
   | trivial
   | rfl
   | (simp; done)
theorem T_vn {n : Nat} (s : Nat → SEnv) (hn : n ≤ 9223372036854775807) : T Tryz.prog 56 [nw n s] [] (.bool (allS n 64 (fun i => mayEnvS (s i)))) [] := by
 have step : ∀ k, k < n → mayEnvS (s k) = true → R Tryz.prog none 0 (cB (cB (cR (cL (cR (bodyOf Tryz.f56)))))) (gI 29 (nw n s) 3 k) .normal (gI 29 (nw n s) 3 (k + 1)) := fun k hk hp => by
  refine R_alongPc NG MO _ (pcVn_p100 n s k) ?_ (Nat.zero_le _)
  simp [mayEnvS] at hp
  simp only [All, All_append, bdVv_c, pcVh_c, pcVp_c, Int.toNat_natCast]
  and_intros
  all_goals first
   | exact T_vu _ _
   | (simp [hk, hp, IntKind.min, IntKind.max, IntKind.signed, IntKind.bits] <;> omega)
 obtain ⟨m, h1, h2, h3⟩ := stop_at (fun k => mayEnvS (s k) = true) n
 by_cases hmn : m = n
 ·subst hmn
  have e : allS m 64 (fun i => mayEnvS (s i)) = decide (m ≤ 64) := by
   simp only [allS]; rw [decide_eq_true (p := ∀ i, i < m → mayEnvS (s i) = true) (fun i hi => h2 i hi), Bool.and_true]
  refine T.bool (T_al (bdVn_p1 m s m) Tryz.func56 ?_) (by rw [e]; exact decide_eq_decide.mpr (by omega))
  simp only [All, All_append, bdVv_c, pcVh_c, pcVp_c]
  and_intros
  all_goals first
   | exact RLoop.inv (gI 29 (nw m s) 3) m (fun k hk => step k hk (h2 k hk)) (R_alongPc NG MO _ (pcVn_p0 m s m) (by simp [All, All_append, bdVv_c, pcVh_c, pcVp_c]) (Nat.zero_le _)) (by simp)
   | trivial
   | rfl
   | (simp; done)
 ·have hm' : m < n := by omega
  have h3 := h3.resolve_left hmn
  have bad : R Tryz.prog none 0 (cB (cB (cR (cL (cR (bodyOf Tryz.f56)))))) (gI 29 (nw n s) 3 m) .ret (smF 2 29) := by
   by_cases hq : uptoS (s m).src 64 = true
   ·refine R_alongPc NG MO _ (pcVn_p101 n s m) ?_ (Nat.zero_le _)
    simp only [All, All_append, bdVv_c, pcVh_c, pcVp_c, Int.toNat_natCast]
    and_intros
    all_goals first
   | exact T_vu _ _
     | (simp [mayEnvS, hq] at h3; simp [hm', hq, h3] <;> omega)
   ·refine R_alongPc NG MO _ (pcVn_p111 n s m) ?_ (Nat.zero_le _)
    simp only [All, All_append, bdVv_c, pcVh_c, pcVp_c, Int.toNat_natCast]
    and_intros
    all_goals first
   | exact T_vu _ _
     | (simp [hm', hq] <;> omega)
  refine T.bool (T_al (bdVn_p0 n s m) Tryz.func56 ?_) (by
   have : ¬ ∀ i, i < n → mayEnvS (s i) = true := fun h => h3 (h m hm')
   simp only [allS, this, decide_false, Bool.and_false])
  simp only [All, All_append, bdVv_c, pcVh_c, pcVp_c]
  and_intros
  all_goals first
   | exact RLoop.inv (gI 29 (nw n s) 3) m (fun k hk => step k (by omega) (h2 k hk)) bad (by simp)
   | trivial
   | rfl
   | (simp; done)
theorem T_vc (c : SCert) (hn : c.n ≤ 9223372036854775807) : T Tryz.prog 59 [.agg c.c] [] (.bool (mayCertS c)) [] := by
 by_cases h1 : mayVoteS c.vote = true
 ·refine T.bool (T_al (bdVc_p1 c) Tryz.func59 ?_) (by simp [mayCertS, h1])
  simp only [All, All_append, bdVv_c, pcVh_c, pcVp_c]
  and_intros
  all_goals first
   | exact T_vv c.vote
   | exact T_vs c.sig hn
   | (simp [h1]; done)
 ·refine T.bool (T_al (bdVc_p0 c) Tryz.func59 ?_) (by simp [mayCertS, h1])
  simp only [All, All_append, bdVv_c, pcVh_c, pcVp_c]
  and_intros
  all_goals first
   | exact T_vv c.vote
   | (simp [h1]; done)
theorem T_vp (b : SBatch) : T Tryz.prog 55 [.agg b.c] [] (.bool (mayBatchS b)) [] := by
 by_cases hn : 4 < b.n
 ·refine T.bool (T_al (bdVp_p11 b 0) Tryz.func55 ?_) (by simp [mayBatchS, allS, show ¬ b.n ≤ 4 by omega])
  simp only [All, All_append, bdVv_c, pcVh_c, pcVp_c]
  and_intros
  all_goals first
   | (rw [decide_eq_true_eq]; omega)
   | rfl
   | trivial
 have step : ∀ k, k < b.n → mayReqS (b.req k) = true → R Tryz.prog none 0 (cB (cB (cR (cL (cR (cR (bodyOf Tryz.f55))))))) (plI b k) .normal (plI b (k + 1)) := fun k hk hp => by
  refine R_alongPc NG MO _ (pcVp_p100000 b k) ?_ (Nat.zero_le _)
  simp [mayReqS, uptoS] at hp
  simp only [All, All_append, bdVv_c, pcVh_c, pcVp_c, Int.toNat_natCast]
  and_intros
  all_goals first
   | (rw [decide_eq_true_eq]; omega)
   | (rw [decide_eq_false_iff_not]; omega)
   | omega
   | rfl
   | trivial
   | (intro _ _; rfl)
   | (simp [IntKind.min, IntKind.max, IntKind.signed, IntKind.bits] <;> omega)
 have fin : R Tryz.prog none 0 (cB (cB (cR (cL (cR (cR (bodyOf Tryz.f55))))))) (plI b b.n) (.exit 0) (plI b b.n) := by
  refine R_alongPc NG MO _ (pcVp_p0 b b.n) ?_ (Nat.zero_le _)
  simp only [All, All_append, bdVv_c, pcVh_c, pcVp_c, Int.toNat_natCast]
  and_intros
  all_goals first
   | (rw [decide_eq_true_eq]; omega)
   | (rw [decide_eq_false_iff_not]; omega)
   | omega
   | rfl
   | trivial
   | (intro _ _; rfl)
   | (simp [IntKind.min, IntKind.max, IntKind.signed, IntKind.bits] <;> omega)
 have bad : ∀ m, m < b.n → ¬ mayReqS (b.req m) = true → R Tryz.prog none 0 (cB (cB (cR (cL (cR (cR (bodyOf Tryz.f55))))))) (plI b m) .ret (smF 2 55) := fun m hm' h3 => by
  have hb : (b.req m).client < 0 ∨ (0 ≤ (b.req m).client ∧ 8 < (b.req m).client) ∨ (0 ≤ (b.req m).client ∧ (b.req m).client ≤ 8 ∧ (b.req m).num < 0) ∨ (0 ≤ (b.req m).client ∧ (b.req m).client ≤ 8 ∧ 0 ≤ (b.req m).num ∧ 1099511627776 < (b.req m).num) ∨ (0 ≤ (b.req m).client ∧ (b.req m).client ≤ 8 ∧ 0 ≤ (b.req m).num ∧ (b.req m).num ≤ 1099511627776 ∧ 64 < (b.req m).data.size) := by
   simp [mayReqS, uptoS] at h3; omega
  rcases hb with hb | hb | hb | hb | hb
  ·refine R_alongPc NG MO _ (pcVp_p111111 b m) ?_ (Nat.zero_le _)
   simp only [All, All_append, bdVv_c, pcVh_c, pcVp_c, Int.toNat_natCast]
   and_intros
   all_goals first
    | (rw [decide_eq_true_eq]; omega)
    | (rw [decide_eq_false_iff_not]; omega)
    | omega
    | rfl
    | trivial
    | (intro _ _; rfl)
    | (simp [IntKind.min, IntKind.max, IntKind.signed, IntKind.bits] <;> omega)
  ·refine R_alongPc NG MO _ (pcVp_p101111 b m) ?_ (Nat.zero_le _)
   simp only [All, All_append, bdVv_c, pcVh_c, pcVp_c, Int.toNat_natCast]
   and_intros
   all_goals first
    | (rw [decide_eq_true_eq]; omega)
    | (rw [decide_eq_false_iff_not]; omega)
    | omega
    | rfl
    | trivial
    | (intro _ _; rfl)
    | (simp [IntKind.min, IntKind.max, IntKind.signed, IntKind.bits] <;> omega)
  ·refine R_alongPc NG MO _ (pcVp_p100111 b m) ?_ (Nat.zero_le _)
   simp only [All, All_append, bdVv_c, pcVh_c, pcVp_c, Int.toNat_natCast]
   and_intros
   all_goals first
    | (rw [decide_eq_true_eq]; omega)
    | (rw [decide_eq_false_iff_not]; omega)
    | omega
    | rfl
    | trivial
    | (intro _ _; rfl)
    | (simp [IntKind.min, IntKind.max, IntKind.signed, IntKind.bits] <;> omega)
  ·refine R_alongPc NG MO _ (pcVp_p100011 b m) ?_ (Nat.zero_le _)
   simp only [All, All_append, bdVv_c, pcVh_c, pcVp_c, Int.toNat_natCast]
   and_intros
   all_goals first
    | (rw [decide_eq_true_eq]; omega)
    | (rw [decide_eq_false_iff_not]; omega)
    | omega
    | rfl
    | trivial
    | (intro _ _; rfl)
    | (simp [IntKind.min, IntKind.max, IntKind.signed, IntKind.bits] <;> omega)
  ·refine R_alongPc NG MO _ (pcVp_p100001 b m) ?_ (Nat.zero_le _)
   simp only [All, All_append, bdVv_c, pcVh_c, pcVp_c, Int.toNat_natCast]
   and_intros
   all_goals first
    | (rw [decide_eq_true_eq]; omega)
    | (rw [decide_eq_false_iff_not]; omega)
    | omega
    | rfl
    | trivial
    | (intro _ _; rfl)
    | (simp [IntKind.min, IntKind.max, IntKind.signed, IntKind.bits] <;> omega)
 by_cases hno : b.noop = true
 ·by_cases h0 : 0 < b.n
  ·refine T.bool (T_al (bdVp_p011 b 0) Tryz.func55 ?_) (by simp [mayBatchS, hno, h0])
   simp only [All, All_append, bdVv_c, pcVh_c, pcVp_c]
   and_intros
   all_goals first
    | (rw [decide_eq_true_eq]; omega)
    | (rw [decide_eq_false_iff_not]; omega)
    | exact hno
    | rfl
    | trivial
  obtain ⟨m, h1, h2, h3⟩ := stop_at (fun k => mayReqS (b.req k) = true) b.n
  by_cases hmn : m = b.n
  ·have ha : allS b.n 4 (fun i => mayReqS (b.req i)) = true := by
    simp only [allS]; rw [decide_eq_true (p := ∀ i, i < b.n → mayReqS (b.req i) = true) (fun i hi => h2 i (by omega)), Bool.and_true]; simp; omega
   refine T.bool (T_al (bdVp_p0101 b m) Tryz.func55 ?_) (by simp [mayBatchS, ha, hno, h0])
   simp only [All, All_append, bdVv_c, pcVh_c, pcVp_c]
   and_intros
   all_goals first
    | exact RLoop.inv (plI b) b.n (fun k hk => step k hk (h2 k (by omega))) fin (by simp)
    | (rw [decide_eq_false_iff_not]; omega)
    | trivial
    | rfl
    | (intro _ _; rfl)
    | (simp [hno, h0]; done)
  ·have hm' : m < b.n := by omega
   have ha : allS b.n 4 (fun i => mayReqS (b.req i)) = false := by
    have : ¬ ∀ i, i < b.n → mayReqS (b.req i) = true := fun h => (h3.resolve_left hmn) (h m hm')
    simp only [allS, this, decide_false, Bool.and_false]
   refine T.bool (T_al (bdVp_p0100 b m) Tryz.func55 ?_) (by simp [mayBatchS, ha, hno, h0])
   simp only [All, All_append, bdVv_c, pcVh_c, pcVp_c]
   and_intros
   all_goals first
    | exact RLoop.inv (plI b) m (fun k hk => step k (by omega) (h2 k hk)) (bad m hm' (h3.resolve_left hmn)) (by simp)
    | (rw [decide_eq_false_iff_not]; omega)
    | trivial
    | rfl
    | (intro _ _; rfl)
    | (simp [hno, h0]; done)
 ·skip
  obtain ⟨m, h1, h2, h3⟩ := stop_at (fun k => mayReqS (b.req k) = true) b.n
  by_cases hmn : m = b.n
  ·have ha : allS b.n 4 (fun i => mayReqS (b.req i)) = true := by
    simp only [allS]; rw [decide_eq_true (p := ∀ i, i < b.n → mayReqS (b.req i) = true) (fun i hi => h2 i (by omega)), Bool.and_true]; simp; omega
   refine T.bool (T_al (bdVp_p0001 b m) Tryz.func55 ?_) (by simp [mayBatchS, ha, hno])
   simp only [All, All_append, bdVv_c, pcVh_c, pcVp_c]
   and_intros
   all_goals first
    | exact RLoop.inv (plI b) b.n (fun k hk => step k hk (h2 k (by omega))) fin (by simp)
    | (rw [decide_eq_false_iff_not]; omega)
    | trivial
    | rfl
    | (intro _ _; rfl)
    | (simp [hno]; done)
  ·have hm' : m < b.n := by omega
   have ha : allS b.n 4 (fun i => mayReqS (b.req i)) = false := by
    have : ¬ ∀ i, i < b.n → mayReqS (b.req i) = true := fun h => (h3.resolve_left hmn) (h m hm')
    simp only [allS, this, decide_false, Bool.and_false]
   refine T.bool (T_al (bdVp_p0000 b m) Tryz.func55 ?_) (by simp [mayBatchS, ha, hno])
   simp only [All, All_append, bdVv_c, pcVh_c, pcVp_c]
   and_intros
   all_goals first
    | exact RLoop.inv (plI b) m (fun k hk => step k (by omega) (h2 k hk)) (bad m hm' (h3.resolve_left hmn)) (by simp)
    | (rw [decide_eq_false_iff_not]; omega)
    | trivial
    | rfl
    | (intro _ _; rfl)
    | (simp [hno]; done)
theorem T_vh {n : Nat} (s : Nat → SHeld) (hn : n ≤ 9223372036854775807) (hc : ∀ k, k < n → (s k).cert.n ≤ 9223372036854775807) : T Tryz.prog 54 [hl n s] [] (.bool (allS n 4 (fun i => mayHeldS (s i)))) [] := by
 have step : ∀ k, k < n → mayHeldS (s k) = true → R Tryz.prog none 0 (cB (cB (cR (cL (cR (bodyOf Tryz.f54)))))) (gI 29 (hl n s) 3 k) .normal (gI 29 (hl n s) 3 (k + 1)) := fun k hk hp => by
  refine R_alongPc NG MO _ (pcVh_p100 n s k) ?_ (Nat.zero_le _)
  simp [mayHeldS] at hp
  simp only [All, All_append, bdVv_c, pcVh_c, pcVp_c, Int.toNat_natCast]
  and_intros
  all_goals first
   | exact T_vp (s k).batch
   | exact T_vc (s k).cert (hc k (by omega))
   | (simp [hk, hp, IntKind.min, IntKind.max, IntKind.signed, IntKind.bits] <;> omega)
 obtain ⟨m, h1, h2, h3⟩ := stop_at (fun k => mayHeldS (s k) = true) n
 by_cases hmn : m = n
 ·subst hmn
  have e : allS m 4 (fun i => mayHeldS (s i)) = decide (m ≤ 4) := by
   simp only [allS]; rw [decide_eq_true (p := ∀ i, i < m → mayHeldS (s i) = true) (fun i hi => h2 i hi), Bool.and_true]
  refine T.bool (T_al (bdVh_p1 m s m) Tryz.func54 ?_) (by rw [e]; exact decide_eq_decide.mpr (by omega))
  simp only [All, All_append, bdVv_c, pcVh_c, pcVp_c]
  and_intros
  all_goals first
   | exact RLoop.inv (gI 29 (hl m s) 3) m (fun k hk => step k hk (h2 k hk)) (R_alongPc NG MO _ (pcVh_p0 m s m) (by simp [All, All_append, bdVv_c, pcVh_c, pcVp_c]) (Nat.zero_le _)) (by simp)
   | trivial
   | rfl
   | (simp; done)
 ·have hm' : m < n := by omega
  have h3 := h3.resolve_left hmn
  have bad : R Tryz.prog none 0 (cB (cB (cR (cL (cR (bodyOf Tryz.f54)))))) (gI 29 (hl n s) 3 m) .ret (smF 2 29) := by
   by_cases hq : mayBatchS (s m).batch = true
   ·refine R_alongPc NG MO _ (pcVh_p101 n s m) ?_ (Nat.zero_le _)
    simp only [All, All_append, bdVv_c, pcVh_c, pcVp_c, Int.toNat_natCast]
    and_intros
    all_goals first
   | exact T_vp (s m).batch
   | exact T_vc (s m).cert (hc m (by omega))
     | (simp [mayHeldS, hq] at h3; simp [hm', hq, h3] <;> omega)
   ·refine R_alongPc NG MO _ (pcVh_p111 n s m) ?_ (Nat.zero_le _)
    simp only [All, All_append, bdVv_c, pcVh_c, pcVp_c, Int.toNat_natCast]
    and_intros
    all_goals first
   | exact T_vp (s m).batch
   | exact T_vc (s m).cert (hc m (by omega))
     | (simp [hm', hq] <;> omega)
  refine T.bool (T_al (bdVh_p0 n s m) Tryz.func54 ?_) (by
   have : ¬ ∀ i, i < n → mayHeldS (s i) = true := fun h => h3 (h m hm')
   simp only [allS, this, decide_false, Bool.and_false])
  simp only [All, All_append, bdVv_c, pcVh_c, pcVp_c]
  and_intros
  all_goals first
   | exact RLoop.inv (gI 29 (hl n s) 3) m (fun k hk => step k (by omega) (h2 k hk)) bad (by simp)
   | trivial
   | rfl
   | (simp; done)
end Go.Proofs.YthifjamdfpjilaaGreat
namespace Go.Proofs.YthifjamdfpjilaaGreat
open Go Sy Go.Proofs
def bodyB (m : SMsg) : List UInt8 :=
 if m.kind = 1 then numsB [m.epoch, m.slot] ++ batchB m.batch else
 if m.kind = 2 then voteB m.vote else
 if m.kind = 3 then numsB [m.cepoch, m.cleader, m.cview] ++ (numsB [(m.nheld : Int)] ++ heldsB m.held m.nheld) else
 if m.kind = 4 then numsB [m.epoch, m.leader, m.view] ++ (numsB [(m.nnews : Int)] ++ envsB m.news m.nnews) else
 if m.kind = 5 then numsB [m.epoch] ++ segB m.digest else
 if m.kind = 6 then numsB [m.epoch, m.slot] else
 if m.kind = 7 then batchB m.batch ++ certB m.cert else
 if m.kind = 8 then textB m.state ++ (numsB [(m.n : Int)] ++ signsB m.sig m.n) else []
def encB (m : SMsg) : List UInt8 := putZ m.kind ++ bodyB m
def baL (l : List UInt8) : ByteArray := ⟨l.toArray⟩
def look2 {α : Type} : List (Nat × Nat × α) → Nat → Nat → Option α
 | [], _, _ => none
 | p :: r, k, n => bif Nat.beq p.1 k && Nat.beq p.2.1 n then some p.2.2 else look2 r k n
def dbSeqF (base : Nat) (l : List (Nat × Nat × (List V → Heap → Nat → List Cl))) : Nat → List V → Heap → Nat → List Cl := fun k args h lo => match look2 l k ((lo - base) / 64) with
 | some f => f args h lo
 | none => []
def cVal (v : V) : List V → Heap → Nat → List Cl := fun _ _ _ => [{ val := v }]
def encDb (m : SMsg) (g : Bool) : List (Nat × Nat × (List V → Heap → Nat → List Cl)) := [
 (10, 4, cVal (.bool g)),
 (29, 13, cW (putZ m.kind)),
 (29, 24, cW (putZ m.kind ++ numsB [m.epoch, m.slot])), (30, 28, cW (putZ m.kind ++ numsB [m.epoch, m.slot] ++ batchB m.batch)),
 (31, 23, cW (putZ m.kind ++ voteB m.vote)),
 (29, 33, cW (putZ m.kind ++ numsB [m.cepoch, m.cleader, m.cview])), (32, 40, cW (putZ m.kind ++ numsB [m.cepoch, m.cleader, m.cview] ++ (numsB [(m.nheld : Int)] ++ heldsB m.held m.nheld))),
 (29, 32, cW (putZ m.kind ++ numsB [m.epoch, m.leader, m.view])), (34, 38, cW (putZ m.kind ++ numsB [m.epoch, m.leader, m.view] ++ (numsB [(m.nnews : Int)] ++ envsB m.news m.nnews))),
 (29, 30, cW (putZ m.kind ++ numsB [m.epoch])), (36, 34, cW (putZ m.kind ++ numsB [m.epoch] ++ segB m.digest)),
 (29, 34, cW (putZ m.kind ++ numsB [m.epoch, m.slot])),
 (30, 33, cW (putZ m.kind ++ batchB m.batch)), (37, 37, cW (putZ m.kind ++ batchB m.batch ++ certB m.cert)),
 (38, 35, cW (putZ m.kind ++ textB m.state)), (39, 41, cW (putZ m.kind ++ textB m.state ++ (numsB [(m.n : Int)] ++ signsB m.sig m.n)))]
noncomputable def bdEnc (m : SMsg) (g : Bool) : Bd := { f := Tryz.f8, args := [.agg m.c], kb := { db := dbSeqF 0 (encDb m g) } }
end Go.Proofs.YthifjamdfpjilaaGreat
namespace Go.Proofs.YthifjamdfpjilaaGreat
open Go Sy Go.Proofs
noncomputable def bdEnc_c (m : SMsg) (g : Bool) : Nat → List Prop
 | 0 => [(!g) = false, T Tryz.prog 29 [.ptr (.o 448) 0 0 0 0, .sl (.o 768) 1 0 0 0 1 (some 1)] [(.o 448, .flat [.snil]), (.o 768, .rows 1 1 (getL [[.int .i64 (SMsg.kind m)]]) false)] (.tup []) [(.o 448, .flat [sb (.o 832) (putZ (SMsg.kind m))]), (.o 832, bs (putZ (SMsg.kind m))), (.o 768, .rows 1 1 (getL [[.int .i64 (SMsg.kind m)]]) false)]]
 | 1 => [decide (SMsg.kind m = (1 : Int)) = true, T Tryz.prog 29 [.ptr (.o 448) 0 0 0 0, .sl (.o 1472) 1 0 0 0 2 (some 2)] [(.o 448, .flat [sb (.o 832) (putZ (SMsg.kind m))]), (.o 832, bs (putZ (SMsg.kind m))), (.o 1472, .rows 1 2 (getL [[.int .i64 (SMsg.epoch m)], [.int .i64 (SMsg.slot m)]]) false)] (.tup []) [(.o 448, .flat [sb (.o 1536) (putZ (SMsg.kind m) ++ numsB [SMsg.epoch m, SMsg.slot m])]), (.o 1536, bs (putZ (SMsg.kind m) ++ numsB [SMsg.epoch m, SMsg.slot m])), (.o 1472, .rows 1 2 (getL [[.int .i64 (SMsg.epoch m)], [.int .i64 (SMsg.slot m)]]) false)], T Tryz.prog 30 [.ptr (.o 448) 0 0 0 0, .agg [.bool (SBatch.noop (SMsg.batch m)), rq (SBatch.n (SMsg.batch m)) (SBatch.req (SMsg.batch m))]] [(.o 448, .flat [sb (.o 1536) (putZ (SMsg.kind m) ++ numsB [SMsg.epoch m, SMsg.slot m])]), (.o 1536, bs (putZ (SMsg.kind m) ++ numsB [SMsg.epoch m, SMsg.slot m]))] (.tup []) [(.o 448, .flat [sb (.o 1792) (putZ (SMsg.kind m) ++ numsB [SMsg.epoch m, SMsg.slot m] ++ batchB (SMsg.batch m))]), (.o 1792, bs (putZ (SMsg.kind m) ++ numsB [SMsg.epoch m, SMsg.slot m] ++ batchB (SMsg.batch m)))]]
 | 2 => [decide (SMsg.kind m = (2 : Int)) = true, T Tryz.prog 31 [.ptr (.o 448) 0 0 0 0, .agg [.int .i64 (SVote.kind (SMsg.vote m)), .int .i64 (SVote.epoch (SMsg.vote m)), .int .i64 (SVote.view (SMsg.vote m)), .int .i64 (SVote.slot (SMsg.vote m)), .seg .u8 32 (SVote.digest (SMsg.vote m))]] [(.o 448, .flat [sb (.o 832) (putZ (SMsg.kind m))]), (.o 832, bs (putZ (SMsg.kind m)))] (.tup []) [(.o 448, .flat [sb (.o 1472) (putZ (SMsg.kind m) ++ voteB (SMsg.vote m))]), (.o 1472, bs (putZ (SMsg.kind m) ++ voteB (SMsg.vote m)))]]
 | 3 => [decide (SMsg.kind m = (3 : Int)) = true, T Tryz.prog 29 [.ptr (.o 448) 0 0 0 0, .sl (.o 2048) 1 0 0 0 3 (some 3)] [(.o 448, .flat [sb (.o 832) (putZ (SMsg.kind m))]), (.o 832, bs (putZ (SMsg.kind m))), (.o 2048, .rows 1 3 (getL [[.int .i64 (SMsg.cepoch m)], [.int .i64 (SMsg.cleader m)], [.int .i64 (SMsg.cview m)]]) false)] (.tup []) [(.o 448, .flat [sb (.o 2112) (putZ (SMsg.kind m) ++ numsB [SMsg.cepoch m, SMsg.cleader m, SMsg.cview m])]), (.o 2112, bs (putZ (SMsg.kind m) ++ numsB [SMsg.cepoch m, SMsg.cleader m, SMsg.cview m])), (.o 2048, .rows 1 3 (getL [[.int .i64 (SMsg.cepoch m)], [.int .i64 (SMsg.cleader m)], [.int .i64 (SMsg.cview m)]]) false)], T Tryz.prog 32 [.ptr (.o 448) 0 0 0 0, .ros 39 (SMsg.nheld m) (fun i => SHeld.c (SMsg.held m i)) false, .fn (.func 33) [.ptr (.o 448) 0 0 0 0] []] [(.o 448, .flat [sb (.o 2112) (putZ (SMsg.kind m) ++ numsB [SMsg.cepoch m, SMsg.cleader m, SMsg.cview m])]), (.o 2112, bs (putZ (SMsg.kind m) ++ numsB [SMsg.cepoch m, SMsg.cleader m, SMsg.cview m]))] (.tup []) [(.o 448, .flat [sb (.o 2560) (putZ (SMsg.kind m) ++ numsB [SMsg.cepoch m, SMsg.cleader m, SMsg.cview m] ++ (numsB [(↑(SMsg.nheld m) : Int)] ++ heldsB (SMsg.held m) (SMsg.nheld m)))]), (.o 2560, bs (putZ (SMsg.kind m) ++ numsB [SMsg.cepoch m, SMsg.cleader m, SMsg.cview m] ++ (numsB [(↑(SMsg.nheld m) : Int)] ++ heldsB (SMsg.held m) (SMsg.nheld m))))]]
 | 4 => [decide (SMsg.kind m = (4 : Int)) = true, T Tryz.prog 29 [.ptr (.o 448) 0 0 0 0, .sl (.o 1984) 1 0 0 0 3 (some 3)] [(.o 448, .flat [sb (.o 832) (putZ (SMsg.kind m))]), (.o 832, bs (putZ (SMsg.kind m))), (.o 1984, .rows 1 3 (getL [[.int .i64 (SMsg.epoch m)], [.int .i64 (SMsg.leader m)], [.int .i64 (SMsg.view m)]]) false)] (.tup []) [(.o 448, .flat [sb (.o 2048) (putZ (SMsg.kind m) ++ numsB [SMsg.epoch m, SMsg.leader m, SMsg.view m])]), (.o 2048, bs (putZ (SMsg.kind m) ++ numsB [SMsg.epoch m, SMsg.leader m, SMsg.view m])), (.o 1984, .rows 1 3 (getL [[.int .i64 (SMsg.epoch m)], [.int .i64 (SMsg.leader m)], [.int .i64 (SMsg.view m)]]) false)], T Tryz.prog 34 [.ptr (.o 448) 0 0 0 0, .ros 18 (SMsg.nnews m) (fun i => SEnv.c (SMsg.news m i)) false, .fn (.func 35) [.ptr (.o 448) 0 0 0 0] []] [(.o 448, .flat [sb (.o 2048) (putZ (SMsg.kind m) ++ numsB [SMsg.epoch m, SMsg.leader m, SMsg.view m])]), (.o 2048, bs (putZ (SMsg.kind m) ++ numsB [SMsg.epoch m, SMsg.leader m, SMsg.view m]))] (.tup []) [(.o 448, .flat [sb (.o 2432) (putZ (SMsg.kind m) ++ numsB [SMsg.epoch m, SMsg.leader m, SMsg.view m] ++ (numsB [(↑(SMsg.nnews m) : Int)] ++ envsB (SMsg.news m) (SMsg.nnews m)))]), (.o 2432, bs (putZ (SMsg.kind m) ++ numsB [SMsg.epoch m, SMsg.leader m, SMsg.view m] ++ (numsB [(↑(SMsg.nnews m) : Int)] ++ envsB (SMsg.news m) (SMsg.nnews m))))]]
 | 5 => [decide (SMsg.kind m = (5 : Int)) = true, T Tryz.prog 29 [.ptr (.o 448) 0 0 0 0, .sl (.o 1856) 1 0 0 0 1 (some 1)] [(.o 448, .flat [sb (.o 832) (putZ (SMsg.kind m))]), (.o 832, bs (putZ (SMsg.kind m))), (.o 1856, .rows 1 1 (getL [[.int .i64 (SMsg.epoch m)]]) false)] (.tup []) [(.o 448, .flat [sb (.o 1920) (putZ (SMsg.kind m) ++ numsB [SMsg.epoch m])]), (.o 1920, bs (putZ (SMsg.kind m) ++ numsB [SMsg.epoch m])), (.o 1856, .rows 1 1 (getL [[.int .i64 (SMsg.epoch m)]]) false)], T Tryz.prog 36 [.ptr (.o 448) 0 0 0 0, .agg [.seg .u8 32 (SMsg.digest m)]] [(.o 448, .flat [sb (.o 1920) (putZ (SMsg.kind m) ++ numsB [SMsg.epoch m])]), (.o 1920, bs (putZ (SMsg.kind m) ++ numsB [SMsg.epoch m]))] (.tup []) [(.o 448, .flat [sb (.o 2176) (putZ (SMsg.kind m) ++ numsB [SMsg.epoch m] ++ segB (SMsg.digest m))]), (.o 2176, bs (putZ (SMsg.kind m) ++ numsB [SMsg.epoch m] ++ segB (SMsg.digest m)))]]
 | 6 => [decide (SMsg.kind m = (6 : Int)) = true, T Tryz.prog 29 [.ptr (.o 448) 0 0 0 0, .sl (.o 2112) 1 0 0 0 2 (some 2)] [(.o 448, .flat [sb (.o 832) (putZ (SMsg.kind m))]), (.o 832, bs (putZ (SMsg.kind m))), (.o 2112, .rows 1 2 (getL [[.int .i64 (SMsg.epoch m)], [.int .i64 (SMsg.slot m)]]) false)] (.tup []) [(.o 448, .flat [sb (.o 2176) (putZ (SMsg.kind m) ++ numsB [SMsg.epoch m, SMsg.slot m])]), (.o 2176, bs (putZ (SMsg.kind m) ++ numsB [SMsg.epoch m, SMsg.slot m])), (.o 2112, .rows 1 2 (getL [[.int .i64 (SMsg.epoch m)], [.int .i64 (SMsg.slot m)]]) false)]]
 | 7 => [decide (SMsg.kind m = (7 : Int)) = true, T Tryz.prog 30 [.ptr (.o 448) 0 0 0 0, .agg [.bool (SBatch.noop (SMsg.batch m)), rq (SBatch.n (SMsg.batch m)) (SBatch.req (SMsg.batch m))]] [(.o 448, .flat [sb (.o 832) (putZ (SMsg.kind m))]), (.o 832, bs (putZ (SMsg.kind m)))] (.tup []) [(.o 448, .flat [sb (.o 2112) (putZ (SMsg.kind m) ++ batchB (SMsg.batch m))]), (.o 2112, bs (putZ (SMsg.kind m) ++ batchB (SMsg.batch m)))], T Tryz.prog 37 [.ptr (.o 448) 0 0 0 0, .agg [.int .i64 (SVote.kind (SCert.vote (SMsg.cert m))), .int .i64 (SVote.epoch (SCert.vote (SMsg.cert m))), .int .i64 (SVote.view (SCert.vote (SMsg.cert m))), .int .i64 (SVote.slot (SCert.vote (SMsg.cert m))), .seg .u8 32 (SVote.digest (SCert.vote (SMsg.cert m))), sg (SCert.n (SMsg.cert m)) (SCert.sig (SMsg.cert m))]] [(.o 448, .flat [sb (.o 2112) (putZ (SMsg.kind m) ++ batchB (SMsg.batch m))]), (.o 2112, bs (putZ (SMsg.kind m) ++ batchB (SMsg.batch m)))] (.tup []) [(.o 448, .flat [sb (.o 2368) (putZ (SMsg.kind m) ++ batchB (SMsg.batch m) ++ certB (SMsg.cert m))]), (.o 2368, bs (putZ (SMsg.kind m) ++ batchB (SMsg.batch m) ++ certB (SMsg.cert m)))]]
 | 8 => [decide (SMsg.kind m = (8 : Int)) = true, T Tryz.prog 38 [.ptr (.o 448) 0 0 0 0, .str (SMsg.state m)] [(.o 448, .flat [sb (.o 832) (putZ (SMsg.kind m))]), (.o 832, bs (putZ (SMsg.kind m)))] (.tup []) [(.o 448, .flat [sb (.o 2240) (putZ (SMsg.kind m) ++ textB (SMsg.state m))]), (.o 2240, bs (putZ (SMsg.kind m) ++ textB (SMsg.state m)))], T Tryz.prog 39 [.ptr (.o 448) 0 0 0 0, .ros 17 (SMsg.n m) (fun i => SSign.c (SMsg.sig m i)) false, .fn (.func 40) [.ptr (.o 448) 0 0 0 0] []] [(.o 448, .flat [sb (.o 2240) (putZ (SMsg.kind m) ++ textB (SMsg.state m))]), (.o 2240, bs (putZ (SMsg.kind m) ++ textB (SMsg.state m)))] (.tup []) [(.o 448, .flat [sb (.o 2624) (putZ (SMsg.kind m) ++ textB (SMsg.state m) ++ (numsB [(↑(SMsg.n m) : Int)] ++ signsB (SMsg.sig m) (SMsg.n m)))]), (.o 2624, bs (putZ (SMsg.kind m) ++ textB (SMsg.state m) ++ (numsB [(↑(SMsg.n m) : Int)] ++ signsB (SMsg.sig m) (SMsg.n m))))]]
 | _ => []
theorem bdEnc_p1 (m : SMsg) (g : Bool) :
 along Tryz.prog (bdEnc m g) [true] = (some (.tup [.str (ByteArray.mk (Array.mk [])), .int .i64 130], [], [T Tryz.prog 10 [.agg (SMsg.c m)] [] (.bool g) [], (!g) = true]) : Option (V × Heap × List Prop)) := by kernel_rfl
theorem bdEnc_p011 (m : SMsg) (g : Bool) :
 along Tryz.prog (bdEnc m g) [false, true, true] = (some (.tup [.str (ByteArray.mk (Array.mk [])), .int .i64 3], [], [T Tryz.prog 10 [.agg (SMsg.c m)] [] (.bool g) []] ++ (bdEnc_c m g 0 ++ (bdEnc_c m g 1 ++ ([decide ((4194304 : Int) < (↑(List.length (putZ (SMsg.kind m) ++ numsB [SMsg.epoch m, SMsg.slot m] ++ batchB (SMsg.batch m))) : Int)) = true])))) : Option (V × Heap × List Prop)) := by kernel_rfl
theorem bdEnc_p010 (m : SMsg) (g : Bool) :
 along Tryz.prog (bdEnc m g) [false, true, false] = (some (.tup [.str (bytesF (List.length (putZ (SMsg.kind m) ++ numsB [SMsg.epoch m, SMsg.slot m] ++ batchB (SMsg.batch m))) fun k => bl (putZ (SMsg.kind m) ++ numsB [SMsg.epoch m, SMsg.slot m] ++ batchB (SMsg.batch m)) (0 + k)), .int .i64 0], [], [T Tryz.prog 10 [.agg (SMsg.c m)] [] (.bool g) []] ++ (bdEnc_c m g 0 ++ (bdEnc_c m g 1 ++ ([decide ((4194304 : Int) < (↑(List.length (putZ (SMsg.kind m) ++ numsB [SMsg.epoch m, SMsg.slot m] ++ batchB (SMsg.batch m))) : Int)) = false, ∀ (k : Nat), k < List.length (putZ (SMsg.kind m) ++ numsB [SMsg.epoch m, SMsg.slot m] ++ batchB (SMsg.batch m)) → true = true, (0 : Nat) + List.length (putZ (SMsg.kind m) ++ numsB [SMsg.epoch m, SMsg.slot m] ++ batchB (SMsg.batch m)) ≤ List.length (putZ (SMsg.kind m) ++ numsB [SMsg.epoch m, SMsg.slot m] ++ batchB (SMsg.batch m)), ∀ (k : Nat), k < List.length (putZ (SMsg.kind m) ++ numsB [SMsg.epoch m, SMsg.slot m] ++ batchB (SMsg.batch m)) → true = true])))) : Option (V × Heap × List Prop)) := by kernel_rfl
theorem bdEnc_p0011 (m : SMsg) (g : Bool) :
 along Tryz.prog (bdEnc m g) [false, false, true, true] = (some (.tup [.str (ByteArray.mk (Array.mk [])), .int .i64 3], [], [T Tryz.prog 10 [.agg (SMsg.c m)] [] (.bool g) []] ++ (bdEnc_c m g 0 ++ ([decide (SMsg.kind m = (1 : Int)) = false] ++ (bdEnc_c m g 2 ++ ([decide ((4194304 : Int) < (↑(List.length (putZ (SMsg.kind m) ++ voteB (SMsg.vote m))) : Int)) = true]))))) : Option (V × Heap × List Prop)) := by kernel_rfl
theorem bdEnc_p0010 (m : SMsg) (g : Bool) :
 along Tryz.prog (bdEnc m g) [false, false, true, false] = (some (.tup [.str (bytesF (List.length (putZ (SMsg.kind m) ++ voteB (SMsg.vote m))) fun k => bl (putZ (SMsg.kind m) ++ voteB (SMsg.vote m)) (0 + k)), .int .i64 0], [], [T Tryz.prog 10 [.agg (SMsg.c m)] [] (.bool g) []] ++ (bdEnc_c m g 0 ++ ([decide (SMsg.kind m = (1 : Int)) = false] ++ (bdEnc_c m g 2 ++ ([decide ((4194304 : Int) < (↑(List.length (putZ (SMsg.kind m) ++ voteB (SMsg.vote m))) : Int)) = false, ∀ (k : Nat), k < List.length (putZ (SMsg.kind m) ++ voteB (SMsg.vote m)) → true = true, (0 : Nat) + List.length (putZ (SMsg.kind m) ++ voteB (SMsg.vote m)) ≤ List.length (putZ (SMsg.kind m) ++ voteB (SMsg.vote m)), ∀ (k : Nat), k < List.length (putZ (SMsg.kind m) ++ voteB (SMsg.vote m)) → true = true]))))) : Option (V × Heap × List Prop)) := by kernel_rfl
theorem bdEnc_p00011 (m : SMsg) (g : Bool) :
 along Tryz.prog (bdEnc m g) [false, false, false, true, true] = (some (.tup [.str (ByteArray.mk (Array.mk [])), .int .i64 3], [], [T Tryz.prog 10 [.agg (SMsg.c m)] [] (.bool g) []] ++ (bdEnc_c m g 0 ++ ([decide (SMsg.kind m = (1 : Int)) = false, decide (SMsg.kind m = (2 : Int)) = false] ++ (bdEnc_c m g 3 ++ ([decide ((4194304 : Int) < (↑(List.length (putZ (SMsg.kind m) ++ numsB [SMsg.cepoch m, SMsg.cleader m, SMsg.cview m] ++ (numsB [(↑(SMsg.nheld m) : Int)] ++ heldsB (SMsg.held m) (SMsg.nheld m)))) : Int)) = true]))))) : Option (V × Heap × List Prop)) := by kernel_rfl
theorem bdEnc_p00010 (m : SMsg) (g : Bool) :
 along Tryz.prog (bdEnc m g) [false, false, false, true, false] = (some (.tup [.str (bytesF (List.length (putZ (SMsg.kind m) ++ numsB [SMsg.cepoch m, SMsg.cleader m, SMsg.cview m] ++ (numsB [(↑(SMsg.nheld m) : Int)] ++ heldsB (SMsg.held m) (SMsg.nheld m)))) fun k => bl (putZ (SMsg.kind m) ++ numsB [SMsg.cepoch m, SMsg.cleader m, SMsg.cview m] ++ (numsB [(↑(SMsg.nheld m) : Int)] ++ heldsB (SMsg.held m) (SMsg.nheld m))) (0 + k)), .int .i64 0], [], [T Tryz.prog 10 [.agg (SMsg.c m)] [] (.bool g) []] ++ (bdEnc_c m g 0 ++ ([decide (SMsg.kind m = (1 : Int)) = false, decide (SMsg.kind m = (2 : Int)) = false] ++ (bdEnc_c m g 3 ++ ([decide ((4194304 : Int) < (↑(List.length (putZ (SMsg.kind m) ++ numsB [SMsg.cepoch m, SMsg.cleader m, SMsg.cview m] ++ (numsB [(↑(SMsg.nheld m) : Int)] ++ heldsB (SMsg.held m) (SMsg.nheld m)))) : Int)) = false, ∀ (k : Nat), k < List.length (putZ (SMsg.kind m) ++ numsB [SMsg.cepoch m, SMsg.cleader m, SMsg.cview m] ++ (numsB [(↑(SMsg.nheld m) : Int)] ++ heldsB (SMsg.held m) (SMsg.nheld m))) → true = true, (0 : Nat) + List.length (putZ (SMsg.kind m) ++ numsB [SMsg.cepoch m, SMsg.cleader m, SMsg.cview m] ++ (numsB [(↑(SMsg.nheld m) : Int)] ++ heldsB (SMsg.held m) (SMsg.nheld m))) ≤ List.length (putZ (SMsg.kind m) ++ numsB [SMsg.cepoch m, SMsg.cleader m, SMsg.cview m] ++ (numsB [(↑(SMsg.nheld m) : Int)] ++ heldsB (SMsg.held m) (SMsg.nheld m))), ∀ (k : Nat), k < List.length (putZ (SMsg.kind m) ++ numsB [SMsg.cepoch m, SMsg.cleader m, SMsg.cview m] ++ (numsB [(↑(SMsg.nheld m) : Int)] ++ heldsB (SMsg.held m) (SMsg.nheld m))) → true = true]))))) : Option (V × Heap × List Prop)) := by kernel_rfl
theorem bdEnc_p000011 (m : SMsg) (g : Bool) :
 along Tryz.prog (bdEnc m g) [false, false, false, false, true, true] = (some (.tup [.str (ByteArray.mk (Array.mk [])), .int .i64 3], [], [T Tryz.prog 10 [.agg (SMsg.c m)] [] (.bool g) []] ++ (bdEnc_c m g 0 ++ ([decide (SMsg.kind m = (1 : Int)) = false, decide (SMsg.kind m = (2 : Int)) = false, decide (SMsg.kind m = (3 : Int)) = false] ++ (bdEnc_c m g 4 ++ ([decide ((4194304 : Int) < (↑(List.length (putZ (SMsg.kind m) ++ numsB [SMsg.epoch m, SMsg.leader m, SMsg.view m] ++ (numsB [(↑(SMsg.nnews m) : Int)] ++ envsB (SMsg.news m) (SMsg.nnews m)))) : Int)) = true]))))) : Option (V × Heap × List Prop)) := by kernel_rfl
theorem bdEnc_p000010 (m : SMsg) (g : Bool) :
 along Tryz.prog (bdEnc m g) [false, false, false, false, true, false] = (some (.tup [.str (bytesF (List.length (putZ (SMsg.kind m) ++ numsB [SMsg.epoch m, SMsg.leader m, SMsg.view m] ++ (numsB [(↑(SMsg.nnews m) : Int)] ++ envsB (SMsg.news m) (SMsg.nnews m)))) fun k => bl (putZ (SMsg.kind m) ++ numsB [SMsg.epoch m, SMsg.leader m, SMsg.view m] ++ (numsB [(↑(SMsg.nnews m) : Int)] ++ envsB (SMsg.news m) (SMsg.nnews m))) (0 + k)), .int .i64 0], [], [T Tryz.prog 10 [.agg (SMsg.c m)] [] (.bool g) []] ++ (bdEnc_c m g 0 ++ ([decide (SMsg.kind m = (1 : Int)) = false, decide (SMsg.kind m = (2 : Int)) = false, decide (SMsg.kind m = (3 : Int)) = false] ++ (bdEnc_c m g 4 ++ ([decide ((4194304 : Int) < (↑(List.length (putZ (SMsg.kind m) ++ numsB [SMsg.epoch m, SMsg.leader m, SMsg.view m] ++ (numsB [(↑(SMsg.nnews m) : Int)] ++ envsB (SMsg.news m) (SMsg.nnews m)))) : Int)) = false, ∀ (k : Nat), k < List.length (putZ (SMsg.kind m) ++ numsB [SMsg.epoch m, SMsg.leader m, SMsg.view m] ++ (numsB [(↑(SMsg.nnews m) : Int)] ++ envsB (SMsg.news m) (SMsg.nnews m))) → true = true, (0 : Nat) + List.length (putZ (SMsg.kind m) ++ numsB [SMsg.epoch m, SMsg.leader m, SMsg.view m] ++ (numsB [(↑(SMsg.nnews m) : Int)] ++ envsB (SMsg.news m) (SMsg.nnews m))) ≤ List.length (putZ (SMsg.kind m) ++ numsB [SMsg.epoch m, SMsg.leader m, SMsg.view m] ++ (numsB [(↑(SMsg.nnews m) : Int)] ++ envsB (SMsg.news m) (SMsg.nnews m))), ∀ (k : Nat), k < List.length (putZ (SMsg.kind m) ++ numsB [SMsg.epoch m, SMsg.leader m, SMsg.view m] ++ (numsB [(↑(SMsg.nnews m) : Int)] ++ envsB (SMsg.news m) (SMsg.nnews m))) → true = true]))))) : Option (V × Heap × List Prop)) := by kernel_rfl
theorem bdEnc_p0000011 (m : SMsg) (g : Bool) :
 along Tryz.prog (bdEnc m g) [false, false, false, false, false, true, true] = (some (.tup [.str (ByteArray.mk (Array.mk [])), .int .i64 3], [], [T Tryz.prog 10 [.agg (SMsg.c m)] [] (.bool g) []] ++ (bdEnc_c m g 0 ++ ([decide (SMsg.kind m = (1 : Int)) = false, decide (SMsg.kind m = (2 : Int)) = false, decide (SMsg.kind m = (3 : Int)) = false, decide (SMsg.kind m = (4 : Int)) = false] ++ (bdEnc_c m g 5 ++ ([decide ((4194304 : Int) < (↑(List.length (putZ (SMsg.kind m) ++ numsB [SMsg.epoch m] ++ segB (SMsg.digest m))) : Int)) = true]))))) : Option (V × Heap × List Prop)) := by kernel_rfl
theorem bdEnc_p0000010 (m : SMsg) (g : Bool) :
 along Tryz.prog (bdEnc m g) [false, false, false, false, false, true, false] = (some (.tup [.str (bytesF (List.length (putZ (SMsg.kind m) ++ numsB [SMsg.epoch m] ++ segB (SMsg.digest m))) fun k => bl (putZ (SMsg.kind m) ++ numsB [SMsg.epoch m] ++ segB (SMsg.digest m)) (0 + k)), .int .i64 0], [], [T Tryz.prog 10 [.agg (SMsg.c m)] [] (.bool g) []] ++ (bdEnc_c m g 0 ++ ([decide (SMsg.kind m = (1 : Int)) = false, decide (SMsg.kind m = (2 : Int)) = false, decide (SMsg.kind m = (3 : Int)) = false, decide (SMsg.kind m = (4 : Int)) = false] ++ (bdEnc_c m g 5 ++ ([decide ((4194304 : Int) < (↑(List.length (putZ (SMsg.kind m) ++ numsB [SMsg.epoch m] ++ segB (SMsg.digest m))) : Int)) = false, ∀ (k : Nat), k < List.length (putZ (SMsg.kind m) ++ numsB [SMsg.epoch m] ++ segB (SMsg.digest m)) → true = true, (0 : Nat) + List.length (putZ (SMsg.kind m) ++ numsB [SMsg.epoch m] ++ segB (SMsg.digest m)) ≤ List.length (putZ (SMsg.kind m) ++ numsB [SMsg.epoch m] ++ segB (SMsg.digest m)), ∀ (k : Nat), k < List.length (putZ (SMsg.kind m) ++ numsB [SMsg.epoch m] ++ segB (SMsg.digest m)) → true = true]))))) : Option (V × Heap × List Prop)) := by kernel_rfl
theorem bdEnc_p00000011 (m : SMsg) (g : Bool) :
 along Tryz.prog (bdEnc m g) [false, false, false, false, false, false, true, true] = (some (.tup [.str (ByteArray.mk (Array.mk [])), .int .i64 3], [], [T Tryz.prog 10 [.agg (SMsg.c m)] [] (.bool g) []] ++ (bdEnc_c m g 0 ++ ([decide (SMsg.kind m = (1 : Int)) = false, decide (SMsg.kind m = (2 : Int)) = false, decide (SMsg.kind m = (3 : Int)) = false, decide (SMsg.kind m = (4 : Int)) = false, decide (SMsg.kind m = (5 : Int)) = false] ++ (bdEnc_c m g 6 ++ ([decide ((4194304 : Int) < (↑(List.length (putZ (SMsg.kind m) ++ numsB [SMsg.epoch m, SMsg.slot m])) : Int)) = true]))))) : Option (V × Heap × List Prop)) := by kernel_rfl
theorem bdEnc_p00000010 (m : SMsg) (g : Bool) :
 along Tryz.prog (bdEnc m g) [false, false, false, false, false, false, true, false] = (some (.tup [.str (bytesF (List.length (putZ (SMsg.kind m) ++ numsB [SMsg.epoch m, SMsg.slot m])) fun k => bl (putZ (SMsg.kind m) ++ numsB [SMsg.epoch m, SMsg.slot m]) (0 + k)), .int .i64 0], [], [T Tryz.prog 10 [.agg (SMsg.c m)] [] (.bool g) []] ++ (bdEnc_c m g 0 ++ ([decide (SMsg.kind m = (1 : Int)) = false, decide (SMsg.kind m = (2 : Int)) = false, decide (SMsg.kind m = (3 : Int)) = false, decide (SMsg.kind m = (4 : Int)) = false, decide (SMsg.kind m = (5 : Int)) = false] ++ (bdEnc_c m g 6 ++ ([decide ((4194304 : Int) < (↑(List.length (putZ (SMsg.kind m) ++ numsB [SMsg.epoch m, SMsg.slot m])) : Int)) = false, ∀ (k : Nat), k < List.length (putZ (SMsg.kind m) ++ numsB [SMsg.epoch m, SMsg.slot m]) → true = true, (0 : Nat) + List.length (putZ (SMsg.kind m) ++ numsB [SMsg.epoch m, SMsg.slot m]) ≤ List.length (putZ (SMsg.kind m) ++ numsB [SMsg.epoch m, SMsg.slot m]), ∀ (k : Nat), k < List.length (putZ (SMsg.kind m) ++ numsB [SMsg.epoch m, SMsg.slot m]) → true = true]))))) : Option (V × Heap × List Prop)) := by kernel_rfl
theorem bdEnc_p000000011 (m : SMsg) (g : Bool) :
 along Tryz.prog (bdEnc m g) [false, false, false, false, false, false, false, true, true] = (some (.tup [.str (ByteArray.mk (Array.mk [])), .int .i64 3], [], [T Tryz.prog 10 [.agg (SMsg.c m)] [] (.bool g) []] ++ (bdEnc_c m g 0 ++ ([decide (SMsg.kind m = (1 : Int)) = false, decide (SMsg.kind m = (2 : Int)) = false, decide (SMsg.kind m = (3 : Int)) = false, decide (SMsg.kind m = (4 : Int)) = false, decide (SMsg.kind m = (5 : Int)) = false, decide (SMsg.kind m = (6 : Int)) = false] ++ (bdEnc_c m g 7 ++ ([decide ((4194304 : Int) < (↑(List.length (putZ (SMsg.kind m) ++ batchB (SMsg.batch m) ++ certB (SMsg.cert m))) : Int)) = true]))))) : Option (V × Heap × List Prop)) := by kernel_rfl
theorem bdEnc_p000000010 (m : SMsg) (g : Bool) :
 along Tryz.prog (bdEnc m g) [false, false, false, false, false, false, false, true, false] = (some (.tup [.str (bytesF (List.length (putZ (SMsg.kind m) ++ batchB (SMsg.batch m) ++ certB (SMsg.cert m))) fun k => bl (putZ (SMsg.kind m) ++ batchB (SMsg.batch m) ++ certB (SMsg.cert m)) (0 + k)), .int .i64 0], [], [T Tryz.prog 10 [.agg (SMsg.c m)] [] (.bool g) []] ++ (bdEnc_c m g 0 ++ ([decide (SMsg.kind m = (1 : Int)) = false, decide (SMsg.kind m = (2 : Int)) = false, decide (SMsg.kind m = (3 : Int)) = false, decide (SMsg.kind m = (4 : Int)) = false, decide (SMsg.kind m = (5 : Int)) = false, decide (SMsg.kind m = (6 : Int)) = false] ++ (bdEnc_c m g 7 ++ ([decide ((4194304 : Int) < (↑(List.length (putZ (SMsg.kind m) ++ batchB (SMsg.batch m) ++ certB (SMsg.cert m))) : Int)) = false, ∀ (k : Nat), k < List.length (putZ (SMsg.kind m) ++ batchB (SMsg.batch m) ++ certB (SMsg.cert m)) → true = true, (0 : Nat) + List.length (putZ (SMsg.kind m) ++ batchB (SMsg.batch m) ++ certB (SMsg.cert m)) ≤ List.length (putZ (SMsg.kind m) ++ batchB (SMsg.batch m) ++ certB (SMsg.cert m)), ∀ (k : Nat), k < List.length (putZ (SMsg.kind m) ++ batchB (SMsg.batch m) ++ certB (SMsg.cert m)) → true = true]))))) : Option (V × Heap × List Prop)) := by kernel_rfl
theorem bdEnc_p0000000011 (m : SMsg) (g : Bool) :
 along Tryz.prog (bdEnc m g) [false, false, false, false, false, false, false, false, true, true] = (some (.tup [.str (ByteArray.mk (Array.mk [])), .int .i64 3], [], [T Tryz.prog 10 [.agg (SMsg.c m)] [] (.bool g) []] ++ (bdEnc_c m g 0 ++ ([decide (SMsg.kind m = (1 : Int)) = false, decide (SMsg.kind m = (2 : Int)) = false, decide (SMsg.kind m = (3 : Int)) = false, decide (SMsg.kind m = (4 : Int)) = false, decide (SMsg.kind m = (5 : Int)) = false, decide (SMsg.kind m = (6 : Int)) = false, decide (SMsg.kind m = (7 : Int)) = false] ++ (bdEnc_c m g 8 ++ ([decide ((4194304 : Int) < (↑(List.length (putZ (SMsg.kind m) ++ textB (SMsg.state m) ++ (numsB [(↑(SMsg.n m) : Int)] ++ signsB (SMsg.sig m) (SMsg.n m)))) : Int)) = true]))))) : Option (V × Heap × List Prop)) := by kernel_rfl
theorem bdEnc_p0000000010 (m : SMsg) (g : Bool) :
 along Tryz.prog (bdEnc m g) [false, false, false, false, false, false, false, false, true, false] = (some (.tup [.str (bytesF (List.length (putZ (SMsg.kind m) ++ textB (SMsg.state m) ++ (numsB [(↑(SMsg.n m) : Int)] ++ signsB (SMsg.sig m) (SMsg.n m)))) fun k => bl (putZ (SMsg.kind m) ++ textB (SMsg.state m) ++ (numsB [(↑(SMsg.n m) : Int)] ++ signsB (SMsg.sig m) (SMsg.n m))) (0 + k)), .int .i64 0], [], [T Tryz.prog 10 [.agg (SMsg.c m)] [] (.bool g) []] ++ (bdEnc_c m g 0 ++ ([decide (SMsg.kind m = (1 : Int)) = false, decide (SMsg.kind m = (2 : Int)) = false, decide (SMsg.kind m = (3 : Int)) = false, decide (SMsg.kind m = (4 : Int)) = false, decide (SMsg.kind m = (5 : Int)) = false, decide (SMsg.kind m = (6 : Int)) = false, decide (SMsg.kind m = (7 : Int)) = false] ++ (bdEnc_c m g 8 ++ ([decide ((4194304 : Int) < (↑(List.length (putZ (SMsg.kind m) ++ textB (SMsg.state m) ++ (numsB [(↑(SMsg.n m) : Int)] ++ signsB (SMsg.sig m) (SMsg.n m)))) : Int)) = false, ∀ (k : Nat), k < List.length (putZ (SMsg.kind m) ++ textB (SMsg.state m) ++ (numsB [(↑(SMsg.n m) : Int)] ++ signsB (SMsg.sig m) (SMsg.n m))) → true = true, (0 : Nat) + List.length (putZ (SMsg.kind m) ++ textB (SMsg.state m) ++ (numsB [(↑(SMsg.n m) : Int)] ++ signsB (SMsg.sig m) (SMsg.n m))) ≤ List.length (putZ (SMsg.kind m) ++ textB (SMsg.state m) ++ (numsB [(↑(SMsg.n m) : Int)] ++ signsB (SMsg.sig m) (SMsg.n m))), ∀ (k : Nat), k < List.length (putZ (SMsg.kind m) ++ textB (SMsg.state m) ++ (numsB [(↑(SMsg.n m) : Int)] ++ signsB (SMsg.sig m) (SMsg.n m))) → true = true]))))) : Option (V × Heap × List Prop)) := by kernel_rfl
theorem bdEnc_p0000000001 (m : SMsg) (g : Bool) :
 along Tryz.prog (bdEnc m g) [false, false, false, false, false, false, false, false, false, true] = (some (.tup [.str (ByteArray.mk (Array.mk [])), .int .i64 3], [], [T Tryz.prog 10 [.agg (SMsg.c m)] [] (.bool g) []] ++ (bdEnc_c m g 0 ++ [decide (SMsg.kind m = (1 : Int)) = false, decide (SMsg.kind m = (2 : Int)) = false, decide (SMsg.kind m = (3 : Int)) = false, decide (SMsg.kind m = (4 : Int)) = false, decide (SMsg.kind m = (5 : Int)) = false, decide (SMsg.kind m = (6 : Int)) = false, decide (SMsg.kind m = (7 : Int)) = false, decide (SMsg.kind m = (8 : Int)) = false, decide ((4194304 : Int) < (↑(List.length (putZ (SMsg.kind m))) : Int)) = true])) : Option (V × Heap × List Prop)) := by kernel_rfl
theorem bdEnc_p0000000000 (m : SMsg) (g : Bool) :
 along Tryz.prog (bdEnc m g) [false, false, false, false, false, false, false, false, false, false] = (some (.tup [.str (bytesF (List.length (putZ (SMsg.kind m))) fun k => bl (putZ (SMsg.kind m)) (0 + k)), .int .i64 0], [], [T Tryz.prog 10 [.agg (SMsg.c m)] [] (.bool g) []] ++ (bdEnc_c m g 0 ++ [decide (SMsg.kind m = (1 : Int)) = false, decide (SMsg.kind m = (2 : Int)) = false, decide (SMsg.kind m = (3 : Int)) = false, decide (SMsg.kind m = (4 : Int)) = false, decide (SMsg.kind m = (5 : Int)) = false, decide (SMsg.kind m = (6 : Int)) = false, decide (SMsg.kind m = (7 : Int)) = false, decide (SMsg.kind m = (8 : Int)) = false, decide ((4194304 : Int) < (↑(List.length (putZ (SMsg.kind m))) : Int)) = false, ∀ (k : Nat), k < List.length (putZ (SMsg.kind m)) → true = true, (0 : Nat) + List.length (putZ (SMsg.kind m)) ≤ List.length (putZ (SMsg.kind m)), ∀ (k : Nat), k < List.length (putZ (SMsg.kind m)) → true = true])) : Option (V × Heap × List Prop)) := by kernel_rfl

theorem bytesF_bl (l : List UInt8) : bytesF l.length (fun k => bl l (0 + k)) = baL l := by
 unfold bytesF baL
 congr 2
 apply List.ext_getElem?
 intro i
 rcases Nat.lt_or_ge i l.length with h | h
 ·simp [h, bl, intOf, List.getD_eq_getElem?_getD]
 ·rw [List.getElem?_eq_none (by simpa using h), List.getElem?_eq_none h]
theorem numsB2_len {a b : Int} (ha : num63 a) (hb : num63 b) : (numsB [a, b]).length ≤ 18 := by
 have h1 := putZ_len ha
 have h2 := putZ_len hb
 simp only [numsB, List.length_append, List.length_nil]; omega
theorem numsB3_len {a b c : Int} (ha : num63 a) (hb : num63 b) (hc : num63 c) : (numsB [a, b, c]).length ≤ 27 := by
 have h1 := putZ_len ha
 have h2 := putZ_len hb
 have h3 := putZ_len hc
 simp only [numsB, List.length_append, List.length_nil]; omega
/-- What a message that may be has. -/
structure EncOk (m : SMsg) : Prop where
 kind : 1 ≤ m.kind ∧ m.kind ≤ 8
 epoch : num63 m.epoch
 leader : num63 m.leader
 view : num63 m.view
 slot : num63 m.slot
 cepoch : num63 m.cepoch
 cleader : num63 m.cleader
 cview : num63 m.cview
 batch : BatchOk m.batch
 vote : m.kind = 2 → VoteOk m.vote
 nheld : m.nheld ≤ 100
 held : ∀ k, k < m.nheld → HeldOk (m.held k)
 nnews : m.nnews ≤ 1000
 news : ∀ k, k < m.nnews → EnvOk (m.news k)
 digest : SegOk 32 m.digest
 cert : m.kind = 7 → CertOk m.cert
 state : m.state.size ≤ 10000000
 n : m.n ≤ 1000
 sig : ∀ k, k < m.n → SignOk (m.sig k)
def encV (m : SMsg) (g : Bool) : V := if g = true then (if 4194304 < (encB m).length then .tup [.str (ByteArray.mk (Array.mk [])), .int .i64 3] else .tup [.str (baL (encB m)), .int .i64 0]) else .tup [.str (ByteArray.mk (Array.mk [])), .int .i64 130]
theorem T_enc1 {m : SMsg} (hg : T Tryz.prog 10 [.agg m.c] [] (.bool true) []) (h : EncOk m) (hk : m.kind = 1) : T Tryz.prog 8 [.agg m.c] [] (encV m true) [] := by
 have e : encB m = putZ m.kind ++ numsB [m.epoch, m.slot] ++ batchB m.batch := by simp [encB, bodyB, hk]
 have h0 : num63 m.kind := by rw [hk]; exact ⟨by decide, by decide⟩
 have h9 := putZ_len h0
 have hs := h.state
 have hl0 := numsB2_len h.epoch h.slot
 by_cases hl : 4194304 < (encB m).length
 ·refine T.val (T_al (bdEnc_p011 m true) Tryz.func8 ?_) (by simp [encV, hl])
  rw [e] at hl
  simp only [All, All_append, bdEnc_c]
  and_intros
  all_goals first
   | exact hg
   | exact T_nu0 h0 (by decide)
   | exact T_nu2 (by first | omega | (simp only [List.length_append]; omega)) h.epoch h.slot (by decide)
   | exact T_wb (by first | omega | (simp only [List.length_append]; omega)) h.batch (by decide)
   | (rw [decide_eq_true_eq]; omega)
   | (simp [hk]; done)
 ·refine T.val (T_al (bdEnc_p010 m true) Tryz.func8 ?_) (by rw [bytesF_bl, ← e]; simp [encV, hl])
  rw [e] at hl
  simp only [All, All_append, bdEnc_c]
  and_intros
  all_goals first
   | exact hg
   | exact T_nu0 h0 (by decide)
   | exact T_nu2 (by first | omega | (simp only [List.length_append]; omega)) h.epoch h.slot (by decide)
   | exact T_wb (by first | omega | (simp only [List.length_append]; omega)) h.batch (by decide)
   | (rw [decide_eq_false_iff_not]; omega)
   | (simp [hk]; done)
theorem T_enc2 {m : SMsg} (hg : T Tryz.prog 10 [.agg m.c] [] (.bool true) []) (h : EncOk m) (hk : m.kind = 2) : T Tryz.prog 8 [.agg m.c] [] (encV m true) [] := by
 have e : encB m = putZ m.kind ++ voteB m.vote := by simp [encB, bodyB, hk]
 have h0 : num63 m.kind := by rw [hk]; exact ⟨by decide, by decide⟩
 have h9 := putZ_len h0
 have hs := h.state
 by_cases hl : 4194304 < (encB m).length
 ·refine T.val (T_al (bdEnc_p0011 m true) Tryz.func8 ?_) (by simp [encV, hl])
  rw [e] at hl
  simp only [All, All_append, bdEnc_c]
  and_intros
  all_goals first
   | exact hg
   | exact T_nu0 h0 (by decide)
   | exact T_vot (by first | omega | (simp only [List.length_append]; omega)) (h.vote hk) (by decide)
   | (rw [decide_eq_true_eq]; omega)
   | (simp [hk]; done)
 ·refine T.val (T_al (bdEnc_p0010 m true) Tryz.func8 ?_) (by rw [bytesF_bl, ← e]; simp [encV, hl])
  rw [e] at hl
  simp only [All, All_append, bdEnc_c]
  and_intros
  all_goals first
   | exact hg
   | exact T_nu0 h0 (by decide)
   | exact T_vot (by first | omega | (simp only [List.length_append]; omega)) (h.vote hk) (by decide)
   | (rw [decide_eq_false_iff_not]; omega)
   | (simp [hk]; done)
theorem T_enc3 {m : SMsg} (hg : T Tryz.prog 10 [.agg m.c] [] (.bool true) []) (h : EncOk m) (hk : m.kind = 3) : T Tryz.prog 8 [.agg m.c] [] (encV m true) [] := by
 have e : encB m = putZ m.kind ++ numsB [m.cepoch, m.cleader, m.cview] ++ (numsB [(m.nheld : Int)] ++ heldsB m.held m.nheld) := by simp [encB, bodyB, hk]
 have h0 : num63 m.kind := by rw [hk]; exact ⟨by decide, by decide⟩
 have h9 := putZ_len h0
 have hs := h.state
 have hl0 := numsB3_len h.cepoch h.cleader h.cview
 by_cases hl : 4194304 < (encB m).length
 ·refine T.val (T_al (bdEnc_p00011 m true) Tryz.func8 ?_) (by simp [encV, hl])
  rw [e] at hl
  simp only [All, All_append, bdEnc_c]
  and_intros
  all_goals first
   | exact hg
   | exact T_nu0 h0 (by decide)
   | exact T_nu3 (by first | omega | (simp only [List.length_append]; omega)) h.cepoch h.cleader h.cview (by decide)
   | exact T_pHl (by first | omega | (simp only [List.length_append]; omega)) h.nheld h.held (by decide)
   | (rw [decide_eq_true_eq]; omega)
   | (simp [hk]; done)
 ·refine T.val (T_al (bdEnc_p00010 m true) Tryz.func8 ?_) (by rw [bytesF_bl, ← e]; simp [encV, hl])
  rw [e] at hl
  simp only [All, All_append, bdEnc_c]
  and_intros
  all_goals first
   | exact hg
   | exact T_nu0 h0 (by decide)
   | exact T_nu3 (by first | omega | (simp only [List.length_append]; omega)) h.cepoch h.cleader h.cview (by decide)
   | exact T_pHl (by first | omega | (simp only [List.length_append]; omega)) h.nheld h.held (by decide)
   | (rw [decide_eq_false_iff_not]; omega)
   | (simp [hk]; done)
theorem T_enc4 {m : SMsg} (hg : T Tryz.prog 10 [.agg m.c] [] (.bool true) []) (h : EncOk m) (hk : m.kind = 4) : T Tryz.prog 8 [.agg m.c] [] (encV m true) [] := by
 have e : encB m = putZ m.kind ++ numsB [m.epoch, m.leader, m.view] ++ (numsB [(m.nnews : Int)] ++ envsB m.news m.nnews) := by simp [encB, bodyB, hk]
 have h0 : num63 m.kind := by rw [hk]; exact ⟨by decide, by decide⟩
 have h9 := putZ_len h0
 have hs := h.state
 have hl0 := numsB3_len h.epoch h.leader h.view
 by_cases hl : 4194304 < (encB m).length
 ·refine T.val (T_al (bdEnc_p000011 m true) Tryz.func8 ?_) (by simp [encV, hl])
  rw [e] at hl
  simp only [All, All_append, bdEnc_c]
  and_intros
  all_goals first
   | exact hg
   | exact T_nu0 h0 (by decide)
   | exact T_nu3 (by first | omega | (simp only [List.length_append]; omega)) h.epoch h.leader h.view (by decide)
   | exact T_pNw (by first | omega | (simp only [List.length_append]; omega)) h.nnews h.news (by decide)
   | (rw [decide_eq_true_eq]; omega)
   | (simp [hk]; done)
 ·refine T.val (T_al (bdEnc_p000010 m true) Tryz.func8 ?_) (by rw [bytesF_bl, ← e]; simp [encV, hl])
  rw [e] at hl
  simp only [All, All_append, bdEnc_c]
  and_intros
  all_goals first
   | exact hg
   | exact T_nu0 h0 (by decide)
   | exact T_nu3 (by first | omega | (simp only [List.length_append]; omega)) h.epoch h.leader h.view (by decide)
   | exact T_pNw (by first | omega | (simp only [List.length_append]; omega)) h.nnews h.news (by decide)
   | (rw [decide_eq_false_iff_not]; omega)
   | (simp [hk]; done)
theorem T_enc5 {m : SMsg} (hg : T Tryz.prog 10 [.agg m.c] [] (.bool true) []) (h : EncOk m) (hk : m.kind = 5) : T Tryz.prog 8 [.agg m.c] [] (encV m true) [] := by
 have e : encB m = putZ m.kind ++ numsB [m.epoch] ++ segB m.digest := by simp [encB, bodyB, hk]
 have h0 : num63 m.kind := by rw [hk]; exact ⟨by decide, by decide⟩
 have h9 := putZ_len h0
 have hs := h.state
 have hl0 := numsB1_len h.epoch
 by_cases hl : 4194304 < (encB m).length
 ·refine T.val (T_al (bdEnc_p0000011 m true) Tryz.func8 ?_) (by simp [encV, hl])
  rw [e] at hl
  simp only [All, All_append, bdEnc_c]
  and_intros
  all_goals first
   | exact hg
   | exact T_nu0 h0 (by decide)
   | exact T_nu1 (by first | omega | (simp only [List.length_append]; omega)) h.epoch (by decide)
   | exact T_dig (by first | omega | (simp only [List.length_append]; omega)) h.digest (by decide)
   | (rw [decide_eq_true_eq]; omega)
   | (simp [hk]; done)
 ·refine T.val (T_al (bdEnc_p0000010 m true) Tryz.func8 ?_) (by rw [bytesF_bl, ← e]; simp [encV, hl])
  rw [e] at hl
  simp only [All, All_append, bdEnc_c]
  and_intros
  all_goals first
   | exact hg
   | exact T_nu0 h0 (by decide)
   | exact T_nu1 (by first | omega | (simp only [List.length_append]; omega)) h.epoch (by decide)
   | exact T_dig (by first | omega | (simp only [List.length_append]; omega)) h.digest (by decide)
   | (rw [decide_eq_false_iff_not]; omega)
   | (simp [hk]; done)
theorem T_enc6 {m : SMsg} (hg : T Tryz.prog 10 [.agg m.c] [] (.bool true) []) (h : EncOk m) (hk : m.kind = 6) : T Tryz.prog 8 [.agg m.c] [] (encV m true) [] := by
 have e : encB m = putZ m.kind ++ numsB [m.epoch, m.slot] := by simp [encB, bodyB, hk]
 have h0 : num63 m.kind := by rw [hk]; exact ⟨by decide, by decide⟩
 have h9 := putZ_len h0
 have hs := h.state
 by_cases hl : 4194304 < (encB m).length
 ·refine T.val (T_al (bdEnc_p00000011 m true) Tryz.func8 ?_) (by simp [encV, hl])
  rw [e] at hl
  simp only [All, All_append, bdEnc_c]
  and_intros
  all_goals first
   | exact hg
   | exact T_nu0 h0 (by decide)
   | exact T_nu2 (by first | omega | (simp only [List.length_append]; omega)) h.epoch h.slot (by decide)
   | (rw [decide_eq_true_eq]; omega)
   | (simp [hk]; done)
 ·refine T.val (T_al (bdEnc_p00000010 m true) Tryz.func8 ?_) (by rw [bytesF_bl, ← e]; simp [encV, hl])
  rw [e] at hl
  simp only [All, All_append, bdEnc_c]
  and_intros
  all_goals first
   | exact hg
   | exact T_nu0 h0 (by decide)
   | exact T_nu2 (by first | omega | (simp only [List.length_append]; omega)) h.epoch h.slot (by decide)
   | (rw [decide_eq_false_iff_not]; omega)
   | (simp [hk]; done)
theorem T_enc7 {m : SMsg} (hg : T Tryz.prog 10 [.agg m.c] [] (.bool true) []) (h : EncOk m) (hk : m.kind = 7) : T Tryz.prog 8 [.agg m.c] [] (encV m true) [] := by
 have e : encB m = putZ m.kind ++ batchB m.batch ++ certB m.cert := by simp [encB, bodyB, hk]
 have h0 : num63 m.kind := by rw [hk]; exact ⟨by decide, by decide⟩
 have h9 := putZ_len h0
 have hs := h.state
 have hl0 := batchB_len h.batch
 by_cases hl : 4194304 < (encB m).length
 ·refine T.val (T_al (bdEnc_p000000011 m true) Tryz.func8 ?_) (by simp [encV, hl])
  rw [e] at hl
  simp only [All, All_append, bdEnc_c]
  and_intros
  all_goals first
   | exact hg
   | exact T_nu0 h0 (by decide)
   | exact T_wb (by first | omega | (simp only [List.length_append]; omega)) h.batch (by decide)
   | exact T_crt (by first | omega | (simp only [List.length_append]; omega)) (h.cert hk) (by decide)
   | (rw [decide_eq_true_eq]; omega)
   | (simp [hk]; done)
 ·refine T.val (T_al (bdEnc_p000000010 m true) Tryz.func8 ?_) (by rw [bytesF_bl, ← e]; simp [encV, hl])
  rw [e] at hl
  simp only [All, All_append, bdEnc_c]
  and_intros
  all_goals first
   | exact hg
   | exact T_nu0 h0 (by decide)
   | exact T_wb (by first | omega | (simp only [List.length_append]; omega)) h.batch (by decide)
   | exact T_crt (by first | omega | (simp only [List.length_append]; omega)) (h.cert hk) (by decide)
   | (rw [decide_eq_false_iff_not]; omega)
   | (simp [hk]; done)
theorem T_enc8 {m : SMsg} (hg : T Tryz.prog 10 [.agg m.c] [] (.bool true) []) (h : EncOk m) (hk : m.kind = 8) : T Tryz.prog 8 [.agg m.c] [] (encV m true) [] := by
 have e : encB m = putZ m.kind ++ textB m.state ++ (numsB [(m.n : Int)] ++ signsB m.sig m.n) := by simp [encB, bodyB, hk]
 have h0 : num63 m.kind := by rw [hk]; exact ⟨by decide, by decide⟩
 have h9 := putZ_len h0
 have hs := h.state
 have hl0 := textB_len (s := m.state) (by have := h.state; omega)
 by_cases hl : 4194304 < (encB m).length
 ·refine T.val (T_al (bdEnc_p0000000011 m true) Tryz.func8 ?_) (by simp [encV, hl])
  rw [e] at hl
  simp only [All, All_append, bdEnc_c]
  and_intros
  all_goals first
   | exact hg
   | exact T_nu0 h0 (by decide)
   | exact T_wt (by first | omega | (simp only [List.length_append]; omega)) (by have := h.state; omega) (by decide)
   | exact T_pSg (by first | omega | (simp only [List.length_append]; omega)) h.n h.sig (by decide)
   | (rw [decide_eq_true_eq]; omega)
   | (simp [hk]; done)
 ·refine T.val (T_al (bdEnc_p0000000010 m true) Tryz.func8 ?_) (by rw [bytesF_bl, ← e]; simp [encV, hl])
  rw [e] at hl
  simp only [All, All_append, bdEnc_c]
  and_intros
  all_goals first
   | exact hg
   | exact T_nu0 h0 (by decide)
   | exact T_wt (by first | omega | (simp only [List.length_append]; omega)) (by have := h.state; omega) (by decide)
   | exact T_pSg (by first | omega | (simp only [List.length_append]; omega)) h.n h.sig (by decide)
   | (rw [decide_eq_false_iff_not]; omega)
   | (simp [hk]; done)
theorem T_enc {m : SMsg} {g : Bool} (hg : T Tryz.prog 10 [.agg m.c] [] (.bool g) []) (h : g = true → EncOk m) : T Tryz.prog 8 [.agg m.c] [] (encV m g) [] := by
 cases g with
 | false => exact T_al (bdEnc_p1 m false) Tryz.func8 ⟨hg, rfl, trivial⟩
 | true =>
  have h := h rfl
  have hk := h.kind
  have : m.kind = 1 ∨ m.kind = 2 ∨ m.kind = 3 ∨ m.kind = 4 ∨ m.kind = 5 ∨ m.kind = 6 ∨ m.kind = 7 ∨ m.kind = 8 := by omega
  rcases this with h1 | h1 | h1 | h1 | h1 | h1 | h1 | h1
  ·exact T_enc1 hg h h1
  ·exact T_enc2 hg h h1
  ·exact T_enc3 hg h h1
  ·exact T_enc4 hg h h1
  ·exact T_enc5 hg h h1
  ·exact T_enc6 hg h h1
  ·exact T_enc7 hg h h1
  ·exact T_enc8 hg h h1
end Go.Proofs.YthifjamdfpjilaaGreat
namespace Go.Proofs.YthifjamdfpjilaaGreat
open Go Sy Go.Proofs
def h3 (m : SMsg) : List UInt8 := putZ m.kind ++ numsB [m.cepoch, m.cleader, m.cview, (m.nheld : Int)]
def h4 (m : SMsg) : List UInt8 := putZ m.kind ++ numsB [m.epoch, m.leader, m.view, (m.nnews : Int)]
def chL (m : SMsg) : List V := [.int .i64 m.cepoch, .int .i64 m.cleader, .int .i64 m.cview, hl m.nheld m.held]
def b3I (m : SMsg) (k : Nat) : St := ⟨mkT 148 [(3, sb (.o 1) (h3 m ++ heldsB m.held k)), (4, .ptr (.o 2) 0 0 0 0), (5, .int .i64 (k : Nat))], [(.o 1, bs (h3 m ++ heldsB m.held k)), (.o 2, .flat (chL m))], 3, []⟩
def b4I (m : SMsg) (k : Nat) : St := ⟨mkT 148 [(1, .ptr (.o 2) 0 0 0 0), (3, sb (.o 1) (h4 m ++ envsB m.news k)), (6, .int .i64 (k : Nat))], [(.o 1, bs (h4 m ++ envsB m.news k)), (.o 2, .flat m.c)], 3, []⟩
def cNz (l : List UInt8) : List V → Heap → Nat → List Cl := fun args _ lo => cNs l args lo
def byDb (m : SMsg) : List (Nat × Nat × (List V → Heap → Nat → List Cl)) := [
 (78, 4, cN (putZ m.kind)),
 (91, 16, cNz (putZ m.kind ++ numsB [m.epoch, m.slot])), (79, 19, cN (putZ m.kind ++ numsB [m.epoch, m.slot] ++ batchB m.batch)),
 (92, 15, cN (putZ m.kind ++ voteB m.vote)),
 (91, 29, cNz (h3 m)),
 (91, 27, cNz (h4 m)),
 (78, 21, cN (putZ m.kind ++ numsB [m.epoch])), (95, 24, cN (putZ m.kind ++ numsB [m.epoch] ++ segB m.digest)),
 (91, 26, cNz (putZ m.kind ++ numsB [m.epoch, m.slot])),
 (79, 25, cN (putZ m.kind ++ batchB m.batch)), (93, 28, cN (putZ m.kind ++ batchB m.batch ++ certB m.cert)),
 (81, 27, cN (putZ m.kind ++ textB m.state)), (96, 30, cN (putZ m.kind ++ textB m.state ++ (numsB [(m.n : Int)] ++ signsB m.sig m.n)))]
noncomputable def bdBy (m : SMsg) : Bd := { f := Tryz.f41, args := [.agg m.c], kb := { db := dbSeqF 0 (byDb m), lp := fun id t => bif Nat.beq id 1 then (match getV t.tmps 3, getV t.tmps 4 with | .sl a _ _ _ _ _ _, .ptr p _ _ _ _ => [(True, .loop (m.nheld + 1) (wToS [(.o 1, a), (.o 2, p)] (b3I m 0)) (.exit 1) (b3I m m.nheld))] | _, _ => []) else (match getV t.tmps 3, getV t.tmps 1 with | .sl a _ _ _ _ _ _, .ptr p _ _ _ _ => [(True, .loop (m.nnews + 1) (wToS [(.o 1, a), (.o 2, p)] (b4I m 0)) (.exit 3) (b4I m m.nnews))] | _, _ => []) }, names := fun _ => [.o 63], k := kSb 2 63 (encB m) }
noncomputable def pcB3 (m : SMsg) (k : Nat) : Pc := { c := cB (cB (cR (cR (cR (cT (cR (cE (cR (cE (cR (cB (cR (cL (cR (cR (bodyOf Tryz.f41)))))))))))))))), st := b3I m k, p := 0, kb := { db := dbQ [(79, cN (h3 m ++ heldsB m.held k ++ batchB (m.held k).batch)), (93, cN (h3 m ++ heldsB m.held (k + 1)))] }, k := fun e t => match e with
 | .normal => match getV t.tmps 3 with
  | .sl a _ _ _ _ _ _ => some (wToS [(.o 1, a)] (b3I m (k + 1)))
  | _ => none
 | _ => some (wTo (b3I m k)) }
noncomputable def pcB4 (m : SMsg) (k : Nat) : Pc := { c := cB (cB (cR (cR (cT (cR (cE (cR (cE (cR (cE (cR (cB (cR (cL (cR (cR (bodyOf Tryz.f41))))))))))))))))), st := b4I m k, p := 0, kb := { db := dbQ [(78, cN (h4 m ++ envsB m.news k ++ numsB [(m.news k).src])), (81, cN (h4 m ++ envsB m.news k ++ numsB [(m.news k).src] ++ textB (m.news k).body)), (94, cN (h4 m ++ envsB m.news (k + 1)))] }, k := fun e t => match e with
 | .normal => match getV t.tmps 3 with
  | .sl a _ _ _ _ _ _ => some (wToS [(.o 1, a)] (b4I m (k + 1)))
  | _ => none
 | _ => some (wTo (b4I m k)) }
end Go.Proofs.YthifjamdfpjilaaGreat
