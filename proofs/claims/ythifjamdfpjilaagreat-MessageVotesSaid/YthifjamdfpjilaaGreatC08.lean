/-
  Contracts and laws that the claim's theorem leans on, joined out of the texts ZVa4 ZVa5D ZVa5 ZTa8D ZTa8 ZTc0D (own work of this seat): Contracts: a message's bytes, as the document's answer has them; Contract: the document's Encode; Contract: the document's Encode; Contracts: which messages may be; Contracts: which messages may be; Contracts: what is the same, as the document's answer has it.
-/
import Derived.Test.YthifjamdfpjilaaGreatC06
import Derived.Test.YthifjamdfpjilaaGreatC07
set_option linter.unusedVariables false
set_option linter.unusedSimpArgs false
set_option maxHeartbeats 1000000
namespace Go.Proofs.YthifjamdfpjilaaGreat
open Go Sy Go.Proofs
noncomputable def bdBy_c (m : SMsg) : Nat → List Prop
 | 0 => [T Tryz.prog 78 [.snil, .int .i64 (SMsg.kind m)] [] (sb (.o 256) (putZ (SMsg.kind m))) [(.o 256, bs (putZ (SMsg.kind m)))]]
 | _ => []
theorem bdBy_p1 (m : SMsg) :
 along Tryz.prog (bdBy m) [true] = (some (.sl (.o 63) 1 0 0 0 (List.length (encB m)) none, [(.o 63, bs (encB m))], bdBy_c m 0 ++ ([decide (SMsg.kind m = (1 : Int)) = true, T Tryz.prog 91 [.sl (.o 256) 1 0 0 0 (List.length (putZ (SMsg.kind m))) none, .sl (.o 960) 1 0 0 0 2 (some 2)] [(.o 256, bs (putZ (SMsg.kind m))), (.o 960, .rows 1 2 (getL [[.int .i64 (SMsg.epoch m)], [.int .i64 (SMsg.slot m)]]) false)] (sb (.o 1024) (putZ (SMsg.kind m) ++ numsB [SMsg.epoch m, SMsg.slot m])) [(.o 1024, bs (putZ (SMsg.kind m) ++ numsB [SMsg.epoch m, SMsg.slot m])), (.o 960, .rows 1 2 (getL [[.int .i64 (SMsg.epoch m)], [.int .i64 (SMsg.slot m)]]) false)], T Tryz.prog 79 [.sl (.o 1024) 1 0 0 0 (List.length (putZ (SMsg.kind m) ++ numsB [SMsg.epoch m, SMsg.slot m])) none, .agg (SBatch.c (SMsg.batch m))] [(.o 1024, bs (putZ (SMsg.kind m) ++ numsB [SMsg.epoch m, SMsg.slot m]))] (sb (.o 1216) (putZ (SMsg.kind m) ++ numsB [SMsg.epoch m, SMsg.slot m] ++ batchB (SMsg.batch m))) [(.o 1216, bs (putZ (SMsg.kind m) ++ numsB [SMsg.epoch m, SMsg.slot m] ++ batchB (SMsg.batch m)))], List.length (putZ (SMsg.kind m) ++ numsB [SMsg.epoch m, SMsg.slot m] ++ batchB (SMsg.batch m)) = List.length (encB m), ∀ (k : Nat), k < List.length (putZ (SMsg.kind m) ++ numsB [SMsg.epoch m, SMsg.slot m] ++ batchB (SMsg.batch m)) → bl (putZ (SMsg.kind m) ++ numsB [SMsg.epoch m, SMsg.slot m] ++ batchB (SMsg.batch m)) k = bl (encB m) k, true = false → true = false, q0, q0, q0, List.length (putZ (SMsg.kind m) ++ numsB [SMsg.epoch m, SMsg.slot m] ++ batchB (SMsg.batch m)) = List.length (encB m), (none : Option Nat) = none ∨ (none : Option Nat) = none])) : Option (V × Heap × List Prop)) := by kernel_rfl
theorem bdBy_p01 (m : SMsg) :
 along Tryz.prog (bdBy m) [false, true] = (some (.sl (.o 63) 1 0 0 0 (List.length (encB m)) none, [(.o 63, bs (encB m))], bdBy_c m 0 ++ ([decide (SMsg.kind m = (1 : Int)) = false, decide (SMsg.kind m = (2 : Int)) = true, T Tryz.prog 92 [.sl (.o 256) 1 0 0 0 (List.length (putZ (SMsg.kind m))) none, .agg (SVote.c (SMsg.vote m))] [(.o 256, bs (putZ (SMsg.kind m)))] (sb (.o 960) (putZ (SMsg.kind m) ++ voteB (SMsg.vote m))) [(.o 960, bs (putZ (SMsg.kind m) ++ voteB (SMsg.vote m)))], List.length (putZ (SMsg.kind m) ++ voteB (SMsg.vote m)) = List.length (encB m), ∀ (k : Nat), k < List.length (putZ (SMsg.kind m) ++ voteB (SMsg.vote m)) → bl (putZ (SMsg.kind m) ++ voteB (SMsg.vote m)) k = bl (encB m) k, true = false → true = false, q0, q0, q0, List.length (putZ (SMsg.kind m) ++ voteB (SMsg.vote m)) = List.length (encB m), (none : Option Nat) = none ∨ (none : Option Nat) = none])) : Option (V × Heap × List Prop)) := by kernel_rfl
theorem bdBy_p001 (m : SMsg) :
 along Tryz.prog (bdBy m) [false, false, true] = (some (.sl (.o 63) 1 0 0 0 (List.length (encB m)) none, [(.o 63, bs (encB m))], bdBy_c m 0 ++ ([decide (SMsg.kind m = (1 : Int)) = false, decide (SMsg.kind m = (2 : Int)) = false, decide (SMsg.kind m = (3 : Int)) = true, T Tryz.prog 91 [.sl (.o 256) 1 0 0 0 (List.length (putZ (SMsg.kind m))) none, .sl (.o 1792) 1 0 0 0 4 (some 4)] [(.o 256, bs (putZ (SMsg.kind m))), (.o 1792, .rows 1 4 (getL [[.int .i64 (SMsg.cepoch m)], [.int .i64 (SMsg.cleader m)], [.int .i64 (SMsg.cview m)], [.int .i64 (↑(SMsg.nheld m) : Int)]]) false)] (sb (.o 1856) (h3 m)) [(.o 1856, bs (h3 m)), (.o 1792, .rows 1 4 (getL [[.int .i64 (SMsg.cepoch m)], [.int .i64 (SMsg.cleader m)], [.int .i64 (SMsg.cview m)], [.int .i64 (↑(SMsg.nheld m) : Int)]]) false)], RLoop Tryz.prog none 0 (cB (cB (cR (cR (cR (cT (cR (cE (cR (cE (cR (cB (cR (cL (cR (cR (bodyOf (Bd.f (bdBy m))))))))))))))))))) (SMsg.nheld m + 1) (St.mk [.any, .any, .any, .sl (.o 1) 1 0 0 0 (List.length (h3 m ++ heldsB (SMsg.held m) 0)) none, .ptr (.o 2) 0 0 0 0, .int .i64 0, .any, .any, .any, .any, .any, .any, .any, .any, .any, .any, .any, .any, .any, .any, .any, .any, .any, .any, .any, .any, .any, .any, .any, .any, .any, .any, .any, .any, .any, .any, .any, .any, .any, .any, .any, .any, .any, .any, .any, .any, .any, .any, .any, .any, .any, .any, .any, .any, .any, .any, .any, .any, .any, .any, .any, .any, .any, .any, .any, .any, .any, .any, .any, .any, .any, .any, .any, .any, .any, .any, .any, .any, .any, .any, .any, .any, .any, .any, .any, .any, .any, .any, .any, .any, .any, .any, .any, .any, .any, .any, .any, .any, .any, .any, .any, .any, .any, .any, .any, .any, .any, .any, .any, .any, .any, .any, .any, .any, .any, .any, .any, .any, .any, .any, .any, .any, .any, .any, .any, .any, .any, .any, .any, .any, .any, .any, .any, .any, .any, .any, .any, .any, .any, .any, .any, .any, .any, .any, .any, .any, .any, .any] [(.o 1, bs (h3 m ++ heldsB (SMsg.held m) 0)), (.o 2, .flat [.int .i64 (SMsg.cepoch m), .int .i64 (SMsg.cleader m), .int .i64 (SMsg.cview m), hl (SMsg.nheld m) (SMsg.held m)])] 3 []) (.exit 1) (St.mk [.any, .any, .any, .sl (.o 1) 1 0 0 0 (List.length (h3 m ++ heldsB (SMsg.held m) (SMsg.nheld m))) none, .ptr (.o 2) 0 0 0 0, .int .i64 (↑(SMsg.nheld m) : Int), .any, .any, .any, .any, .any, .any, .any, .any, .any, .any, .any, .any, .any, .any, .any, .any, .any, .any, .any, .any, .any, .any, .any, .any, .any, .any, .any, .any, .any, .any, .any, .any, .any, .any, .any, .any, .any, .any, .any, .any, .any, .any, .any, .any, .any, .any, .any, .any, .any, .any, .any, .any, .any, .any, .any, .any, .any, .any, .any, .any, .any, .any, .any, .any, .any, .any, .any, .any, .any, .any, .any, .any, .any, .any, .any, .any, .any, .any, .any, .any, .any, .any, .any, .any, .any, .any, .any, .any, .any, .any, .any, .any, .any, .any, .any, .any, .any, .any, .any, .any, .any, .any, .any, .any, .any, .any, .any, .any, .any, .any, .any, .any, .any, .any, .any, .any, .any, .any, .any, .any, .any, .any, .any, .any, .any, .any, .any, .any, .any, .any, .any, .any, .any, .any, .any, .any, .any, .any, .any, .any, .any, .any] [(.o 1, bs (h3 m ++ heldsB (SMsg.held m) (SMsg.nheld m))), (.o 2, .flat [.int .i64 (SMsg.cepoch m), .int .i64 (SMsg.cleader m), .int .i64 (SMsg.cview m), hl (SMsg.nheld m) (SMsg.held m)])] 3 []), List.length (h3 m) = List.length (h3 m ++ heldsB (SMsg.held m) (0 : Nat)), ∀ (k : Nat), k < List.length (h3 m) → bl (h3 m) k = bl (h3 m ++ heldsB (SMsg.held m) (0 : Nat)) k, true = false → true = false, q (SMsg.cepoch m), q (SMsg.cleader m), q (SMsg.cview m), q (SMsg.nheld m), ∀ (k : Nat), k < SMsg.nheld m → SHeld.c (SMsg.held m k) = SHeld.c (SMsg.held m k), false = true → false = true, q0, q0, q0, List.length (h3 m) = List.length (h3 m ++ heldsB (SMsg.held m) (0 : Nat)), (none : Option Nat) = none ∨ (none : Option Nat) = none, q0, q0, q0, q1, List.length (h3 m ++ heldsB (SMsg.held m) (SMsg.nheld m)) = List.length (encB m), ∀ (k : Nat), k < List.length (h3 m ++ heldsB (SMsg.held m) (SMsg.nheld m)) → bl (h3 m ++ heldsB (SMsg.held m) (SMsg.nheld m)) k = bl (encB m) k, true = false → true = false, q0, q0, q0, List.length (h3 m ++ heldsB (SMsg.held m) (SMsg.nheld m)) = List.length (encB m), (none : Option Nat) = none ∨ (none : Option Nat) = none])) : Option (V × Heap × List Prop)) := by kernel_rfl
theorem bdBy_p0001 (m : SMsg) :
 along Tryz.prog (bdBy m) [false, false, false, true] = (some (.sl (.o 63) 1 0 0 0 (List.length (encB m)) none, [(.o 63, bs (encB m))], bdBy_c m 0 ++ ([decide (SMsg.kind m = (1 : Int)) = false, decide (SMsg.kind m = (2 : Int)) = false, decide (SMsg.kind m = (3 : Int)) = false, decide (SMsg.kind m = (4 : Int)) = true, T Tryz.prog 91 [.sl (.o 256) 1 0 0 0 (List.length (putZ (SMsg.kind m))) none, .sl (.o 1664) 1 0 0 0 4 (some 4)] [(.o 256, bs (putZ (SMsg.kind m))), (.o 1664, .rows 1 4 (getL [[.int .i64 (SMsg.epoch m)], [.int .i64 (SMsg.leader m)], [.int .i64 (SMsg.view m)], [.int .i64 (↑(SMsg.nnews m) : Int)]]) false)] (sb (.o 1728) (h4 m)) [(.o 1728, bs (h4 m)), (.o 1664, .rows 1 4 (getL [[.int .i64 (SMsg.epoch m)], [.int .i64 (SMsg.leader m)], [.int .i64 (SMsg.view m)], [.int .i64 (↑(SMsg.nnews m) : Int)]]) false)], RLoop Tryz.prog none 0 (cB (cB (cR (cR (cT (cR (cE (cR (cE (cR (cE (cR (cB (cR (cL (cR (cR (bodyOf (Bd.f (bdBy m)))))))))))))))))))) (SMsg.nnews m + 1) (St.mk [.any, .ptr (.o 2) 0 0 0 0, .any, .sl (.o 1) 1 0 0 0 (List.length (h4 m ++ envsB (SMsg.news m) 0)) none, .any, .any, .int .i64 0, .any, .any, .any, .any, .any, .any, .any, .any, .any, .any, .any, .any, .any, .any, .any, .any, .any, .any, .any, .any, .any, .any, .any, .any, .any, .any, .any, .any, .any, .any, .any, .any, .any, .any, .any, .any, .any, .any, .any, .any, .any, .any, .any, .any, .any, .any, .any, .any, .any, .any, .any, .any, .any, .any, .any, .any, .any, .any, .any, .any, .any, .any, .any, .any, .any, .any, .any, .any, .any, .any, .any, .any, .any, .any, .any, .any, .any, .any, .any, .any, .any, .any, .any, .any, .any, .any, .any, .any, .any, .any, .any, .any, .any, .any, .any, .any, .any, .any, .any, .any, .any, .any, .any, .any, .any, .any, .any, .any, .any, .any, .any, .any, .any, .any, .any, .any, .any, .any, .any, .any, .any, .any, .any, .any, .any, .any, .any, .any, .any, .any, .any, .any, .any, .any, .any, .any, .any, .any, .any, .any, .any] [(.o 1, bs (h4 m ++ envsB (SMsg.news m) 0)), (.o 2, .flat (SMsg.c m))] 3 []) (.exit 3) (St.mk [.any, .ptr (.o 2) 0 0 0 0, .any, .sl (.o 1) 1 0 0 0 (List.length (h4 m ++ envsB (SMsg.news m) (SMsg.nnews m))) none, .any, .any, .int .i64 (↑(SMsg.nnews m) : Int), .any, .any, .any, .any, .any, .any, .any, .any, .any, .any, .any, .any, .any, .any, .any, .any, .any, .any, .any, .any, .any, .any, .any, .any, .any, .any, .any, .any, .any, .any, .any, .any, .any, .any, .any, .any, .any, .any, .any, .any, .any, .any, .any, .any, .any, .any, .any, .any, .any, .any, .any, .any, .any, .any, .any, .any, .any, .any, .any, .any, .any, .any, .any, .any, .any, .any, .any, .any, .any, .any, .any, .any, .any, .any, .any, .any, .any, .any, .any, .any, .any, .any, .any, .any, .any, .any, .any, .any, .any, .any, .any, .any, .any, .any, .any, .any, .any, .any, .any, .any, .any, .any, .any, .any, .any, .any, .any, .any, .any, .any, .any, .any, .any, .any, .any, .any, .any, .any, .any, .any, .any, .any, .any, .any, .any, .any, .any, .any, .any, .any, .any, .any, .any, .any, .any, .any, .any, .any, .any, .any, .any] [(.o 1, bs (h4 m ++ envsB (SMsg.news m) (SMsg.nnews m))), (.o 2, .flat (SMsg.c m))] 3 []), List.length (h4 m) = List.length (h4 m ++ envsB (SMsg.news m) (0 : Nat)), ∀ (k : Nat), k < List.length (h4 m) → bl (h4 m) k = bl (h4 m ++ envsB (SMsg.news m) (0 : Nat)) k, true = false → true = false, q (SMsg.kind m), q (SMsg.epoch m), q (SMsg.leader m), q (SMsg.view m), q (SMsg.slot m), q (SBatch.noop (SMsg.batch m)), q (SBatch.n (SMsg.batch m)), ∀ (k : Nat), k < SBatch.n (SMsg.batch m) → SReq.c (SBatch.req (SMsg.batch m) k) = SReq.c (SBatch.req (SMsg.batch m) k), false = true → false = true, q (SVote.kind (SMsg.vote m)), q (SVote.epoch (SMsg.vote m)), q (SVote.view (SMsg.vote m)), q (SVote.slot (SMsg.vote m)), q (32 : Nat), q (SVote.digest (SMsg.vote m)), q (SMsg.cepoch m), q (SMsg.cleader m), q (SMsg.cview m), q (SMsg.nheld m), ∀ (k : Nat), k < SMsg.nheld m → SHeld.c (SMsg.held m k) = SHeld.c (SMsg.held m k), false = true → false = true, q (SMsg.nnews m), ∀ (k : Nat), k < SMsg.nnews m → SEnv.c (SMsg.news m k) = SEnv.c (SMsg.news m k), false = true → false = true, q (32 : Nat), q (SMsg.digest m), q (SVote.kind (SCert.vote (SMsg.cert m))), q (SVote.epoch (SCert.vote (SMsg.cert m))), q (SVote.view (SCert.vote (SMsg.cert m))), q (SVote.slot (SCert.vote (SMsg.cert m))), q (32 : Nat), q (SVote.digest (SCert.vote (SMsg.cert m))), q (SCert.n (SMsg.cert m)), ∀ (k : Nat), k < SCert.n (SMsg.cert m) → SSign.c (SCert.sig (SMsg.cert m) k) = SSign.c (SCert.sig (SMsg.cert m) k), false = true → false = true, q (SMsg.state m), q (SMsg.n m), ∀ (k : Nat), k < SMsg.n m → SSign.c (SMsg.sig m k) = SSign.c (SMsg.sig m k), false = true → false = true, q0, q0, q0, q0, q0, q0, List.length (h4 m) = List.length (h4 m ++ envsB (SMsg.news m) (0 : Nat)), (none : Option Nat) = none ∨ (none : Option Nat) = none, q1, List.length (h4 m ++ envsB (SMsg.news m) (SMsg.nnews m)) = List.length (encB m), ∀ (k : Nat), k < List.length (h4 m ++ envsB (SMsg.news m) (SMsg.nnews m)) → bl (h4 m ++ envsB (SMsg.news m) (SMsg.nnews m)) k = bl (encB m) k, true = false → true = false, q0, q0, q0, List.length (h4 m ++ envsB (SMsg.news m) (SMsg.nnews m)) = List.length (encB m), (none : Option Nat) = none ∨ (none : Option Nat) = none])) : Option (V × Heap × List Prop)) := by kernel_rfl
theorem bdBy_p00001 (m : SMsg) :
 along Tryz.prog (bdBy m) [false, false, false, false, true] = (some (.sl (.o 63) 1 0 0 0 (List.length (encB m)) none, [(.o 63, bs (encB m))], bdBy_c m 0 ++ ([decide (SMsg.kind m = (1 : Int)) = false, decide (SMsg.kind m = (2 : Int)) = false, decide (SMsg.kind m = (3 : Int)) = false, decide (SMsg.kind m = (4 : Int)) = false, decide (SMsg.kind m = (5 : Int)) = true, T Tryz.prog 78 [.sl (.o 256) 1 0 0 0 (List.length (putZ (SMsg.kind m))) none, .int .i64 (SMsg.epoch m)] [(.o 256, bs (putZ (SMsg.kind m)))] (sb (.o 1344) (putZ (SMsg.kind m) ++ numsB [SMsg.epoch m])) [(.o 1344, bs (putZ (SMsg.kind m) ++ numsB [SMsg.epoch m]))], T Tryz.prog 95 [.sl (.o 1344) 1 0 0 0 (List.length (putZ (SMsg.kind m) ++ numsB [SMsg.epoch m])) none, .agg [.seg .u8 32 (SMsg.digest m)]] [(.o 1344, bs (putZ (SMsg.kind m) ++ numsB [SMsg.epoch m]))] (sb (.o 1536) (putZ (SMsg.kind m) ++ numsB [SMsg.epoch m] ++ segB (SMsg.digest m))) [(.o 1536, bs (putZ (SMsg.kind m) ++ numsB [SMsg.epoch m] ++ segB (SMsg.digest m)))], List.length (putZ (SMsg.kind m) ++ numsB [SMsg.epoch m] ++ segB (SMsg.digest m)) = List.length (encB m), ∀ (k : Nat), k < List.length (putZ (SMsg.kind m) ++ numsB [SMsg.epoch m] ++ segB (SMsg.digest m)) → bl (putZ (SMsg.kind m) ++ numsB [SMsg.epoch m] ++ segB (SMsg.digest m)) k = bl (encB m) k, true = false → true = false, q0, q0, q0, List.length (putZ (SMsg.kind m) ++ numsB [SMsg.epoch m] ++ segB (SMsg.digest m)) = List.length (encB m), (none : Option Nat) = none ∨ (none : Option Nat) = none])) : Option (V × Heap × List Prop)) := by kernel_rfl
theorem bdBy_p000001 (m : SMsg) :
 along Tryz.prog (bdBy m) [false, false, false, false, false, true] = (some (.sl (.o 63) 1 0 0 0 (List.length (encB m)) none, [(.o 63, bs (encB m))], bdBy_c m 0 ++ ([decide (SMsg.kind m = (1 : Int)) = false, decide (SMsg.kind m = (2 : Int)) = false, decide (SMsg.kind m = (3 : Int)) = false, decide (SMsg.kind m = (4 : Int)) = false, decide (SMsg.kind m = (5 : Int)) = false, decide (SMsg.kind m = (6 : Int)) = true, T Tryz.prog 91 [.sl (.o 256) 1 0 0 0 (List.length (putZ (SMsg.kind m))) none, .sl (.o 1600) 1 0 0 0 2 (some 2)] [(.o 256, bs (putZ (SMsg.kind m))), (.o 1600, .rows 1 2 (getL [[.int .i64 (SMsg.epoch m)], [.int .i64 (SMsg.slot m)]]) false)] (sb (.o 1664) (putZ (SMsg.kind m) ++ numsB [SMsg.epoch m, SMsg.slot m])) [(.o 1664, bs (putZ (SMsg.kind m) ++ numsB [SMsg.epoch m, SMsg.slot m])), (.o 1600, .rows 1 2 (getL [[.int .i64 (SMsg.epoch m)], [.int .i64 (SMsg.slot m)]]) false)], List.length (putZ (SMsg.kind m) ++ numsB [SMsg.epoch m, SMsg.slot m]) = List.length (encB m), ∀ (k : Nat), k < List.length (putZ (SMsg.kind m) ++ numsB [SMsg.epoch m, SMsg.slot m]) → bl (putZ (SMsg.kind m) ++ numsB [SMsg.epoch m, SMsg.slot m]) k = bl (encB m) k, true = false → true = false, q0, q0, q0, List.length (putZ (SMsg.kind m) ++ numsB [SMsg.epoch m, SMsg.slot m]) = List.length (encB m), (none : Option Nat) = none ∨ (none : Option Nat) = none])) : Option (V × Heap × List Prop)) := by kernel_rfl
theorem bdBy_p0000001 (m : SMsg) :
 along Tryz.prog (bdBy m) [false, false, false, false, false, false, true] = (some (.sl (.o 63) 1 0 0 0 (List.length (encB m)) none, [(.o 63, bs (encB m))], bdBy_c m 0 ++ ([decide (SMsg.kind m = (1 : Int)) = false, decide (SMsg.kind m = (2 : Int)) = false, decide (SMsg.kind m = (3 : Int)) = false, decide (SMsg.kind m = (4 : Int)) = false, decide (SMsg.kind m = (5 : Int)) = false, decide (SMsg.kind m = (6 : Int)) = false, decide (SMsg.kind m = (7 : Int)) = true, T Tryz.prog 79 [.sl (.o 256) 1 0 0 0 (List.length (putZ (SMsg.kind m))) none, .agg (SBatch.c (SMsg.batch m))] [(.o 256, bs (putZ (SMsg.kind m)))] (sb (.o 1600) (putZ (SMsg.kind m) ++ batchB (SMsg.batch m))) [(.o 1600, bs (putZ (SMsg.kind m) ++ batchB (SMsg.batch m)))], T Tryz.prog 93 [.sl (.o 1600) 1 0 0 0 (List.length (putZ (SMsg.kind m) ++ batchB (SMsg.batch m))) none, .agg [.int .i64 (SVote.kind (SCert.vote (SMsg.cert m))), .int .i64 (SVote.epoch (SCert.vote (SMsg.cert m))), .int .i64 (SVote.view (SCert.vote (SMsg.cert m))), .int .i64 (SVote.slot (SCert.vote (SMsg.cert m))), .seg .u8 32 (SVote.digest (SCert.vote (SMsg.cert m))), sg (SCert.n (SMsg.cert m)) (SCert.sig (SMsg.cert m))]] [(.o 1600, bs (putZ (SMsg.kind m) ++ batchB (SMsg.batch m)))] (sb (.o 1792) (putZ (SMsg.kind m) ++ batchB (SMsg.batch m) ++ certB (SMsg.cert m))) [(.o 1792, bs (putZ (SMsg.kind m) ++ batchB (SMsg.batch m) ++ certB (SMsg.cert m)))], List.length (putZ (SMsg.kind m) ++ batchB (SMsg.batch m) ++ certB (SMsg.cert m)) = List.length (encB m), ∀ (k : Nat), k < List.length (putZ (SMsg.kind m) ++ batchB (SMsg.batch m) ++ certB (SMsg.cert m)) → bl (putZ (SMsg.kind m) ++ batchB (SMsg.batch m) ++ certB (SMsg.cert m)) k = bl (encB m) k, true = false → true = false, q0, q0, q0, List.length (putZ (SMsg.kind m) ++ batchB (SMsg.batch m) ++ certB (SMsg.cert m)) = List.length (encB m), (none : Option Nat) = none ∨ (none : Option Nat) = none])) : Option (V × Heap × List Prop)) := by kernel_rfl
theorem bdBy_p00000001 (m : SMsg) :
 along Tryz.prog (bdBy m) [false, false, false, false, false, false, false, true] = (some (.sl (.o 63) 1 0 0 0 (List.length (encB m)) none, [(.o 63, bs (encB m))], bdBy_c m 0 ++ ([decide (SMsg.kind m = (1 : Int)) = false, decide (SMsg.kind m = (2 : Int)) = false, decide (SMsg.kind m = (3 : Int)) = false, decide (SMsg.kind m = (4 : Int)) = false, decide (SMsg.kind m = (5 : Int)) = false, decide (SMsg.kind m = (6 : Int)) = false, decide (SMsg.kind m = (7 : Int)) = false, decide (SMsg.kind m = (8 : Int)) = true, T Tryz.prog 81 [.sl (.o 256) 1 0 0 0 (List.length (putZ (SMsg.kind m))) none, .str (SMsg.state m)] [(.o 256, bs (putZ (SMsg.kind m)))] (sb (.o 1728) (putZ (SMsg.kind m) ++ textB (SMsg.state m))) [(.o 1728, bs (putZ (SMsg.kind m) ++ textB (SMsg.state m)))], T Tryz.prog 96 [.sl (.o 1728) 1 0 0 0 (List.length (putZ (SMsg.kind m) ++ textB (SMsg.state m))) none, .ros 17 (SMsg.n m) (fun i => SSign.c (SMsg.sig m i)) false] [(.o 1728, bs (putZ (SMsg.kind m) ++ textB (SMsg.state m)))] (sb (.o 1920) (putZ (SMsg.kind m) ++ textB (SMsg.state m) ++ (numsB [(↑(SMsg.n m) : Int)] ++ signsB (SMsg.sig m) (SMsg.n m)))) [(.o 1920, bs (putZ (SMsg.kind m) ++ textB (SMsg.state m) ++ (numsB [(↑(SMsg.n m) : Int)] ++ signsB (SMsg.sig m) (SMsg.n m))))], List.length (putZ (SMsg.kind m) ++ textB (SMsg.state m) ++ (numsB [(↑(SMsg.n m) : Int)] ++ signsB (SMsg.sig m) (SMsg.n m))) = List.length (encB m), ∀ (k : Nat), k < List.length (putZ (SMsg.kind m) ++ textB (SMsg.state m) ++ (numsB [(↑(SMsg.n m) : Int)] ++ signsB (SMsg.sig m) (SMsg.n m))) → bl (putZ (SMsg.kind m) ++ textB (SMsg.state m) ++ (numsB [(↑(SMsg.n m) : Int)] ++ signsB (SMsg.sig m) (SMsg.n m))) k = bl (encB m) k, true = false → true = false, q0, q0, q0, List.length (putZ (SMsg.kind m) ++ textB (SMsg.state m) ++ (numsB [(↑(SMsg.n m) : Int)] ++ signsB (SMsg.sig m) (SMsg.n m))) = List.length (encB m), (none : Option Nat) = none ∨ (none : Option Nat) = none])) : Option (V × Heap × List Prop)) := by kernel_rfl
theorem bdBy_p00000000 (m : SMsg) :
 along Tryz.prog (bdBy m) [false, false, false, false, false, false, false, false] = (some (.sl (.o 63) 1 0 0 0 (List.length (encB m)) none, [(.o 63, bs (encB m))], bdBy_c m 0 ++ [decide (SMsg.kind m = (1 : Int)) = false, decide (SMsg.kind m = (2 : Int)) = false, decide (SMsg.kind m = (3 : Int)) = false, decide (SMsg.kind m = (4 : Int)) = false, decide (SMsg.kind m = (5 : Int)) = false, decide (SMsg.kind m = (6 : Int)) = false, decide (SMsg.kind m = (7 : Int)) = false, decide (SMsg.kind m = (8 : Int)) = false, List.length (putZ (SMsg.kind m)) = List.length (encB m), ∀ (k : Nat), k < List.length (putZ (SMsg.kind m)) → bl (putZ (SMsg.kind m)) k = bl (encB m) k, true = false → true = false, q0, q0, q0, List.length (putZ (SMsg.kind m)) = List.length (encB m), (none : Option Nat) = none ∨ (none : Option Nat) = none]) : Option (V × Heap × List Prop)) := by kernel_rfl

theorem pcB3_p1 (m : SMsg) (k : Nat) :
  alongPc Tryz.prog (pcB3 m k) [true] = (some (.normal, St.mk [.any, .any, .any, .sl (.o 1) 1 0 0 0 (List.length (h3 m ++ heldsB (SMsg.held m) (k + 1))) none, .ptr (.o 2) 0 0 0 0, .int .i64 (↑(k + 1) : Int), .any, .any, .any, .any, .any, .any, .any, .any, .any, .any, .any, .any, .any, .any, .any, .any, .any, .any, .any, .any, .any, .any, .any, .any, .any, .any, .any, .any, .any, .any, .any, .any, .any, .any, .any, .any, .any, .any, .any, .any, .any, .any, .any, .any, .any, .any, .any, .any, .any, .any, .any, .any, .any, .any, .any, .any, .any, .any, .any, .any, .any, .any, .any, .any, .any, .any, .any, .any, .any, .any, .any, .any, .any, .any, .any, .any, .any, .any, .any, .any, .any, .any, .any, .any, .any, .any, .any, .any, .any, .any, .any, .any, .any, .any, .any, .any, .any, .any, .any, .any, .any, .any, .any, .any, .any, .any, .any, .any, .any, .any, .any, .any, .any, .any, .any, .any, .any, .any, .any, .any, .any, .any, .any, .any, .any, .any, .any, .any, .any, .any, .any, .any, .any, .any, .any, .any, .any, .any, .any, .any, .any, .any] [(.o 1, bs (h3 m ++ heldsB (SMsg.held m) (k + 1))), (.o 2, .flat [.int .i64 (SMsg.cepoch m), .int .i64 (SMsg.cleader m), .int .i64 (SMsg.cview m), hl (SMsg.nheld m) (SMsg.held m)])] 3 [], [decide ((↑k : Int) < (↑(SMsg.nheld m) : Int)) = true, (0 : Int) ≤ (↑k : Int) ∧ (↑k : Int) < (↑(SMsg.nheld m) : Int), T Tryz.prog 79 [.sl (.o 1) 1 0 0 0 (List.length (h3 m ++ heldsB (SMsg.held m) k)) none, .agg [.bool (SBatch.noop (SHeld.batch (SMsg.held m (Int.toNat (↑k : Int))))), rq (SBatch.n (SHeld.batch (SMsg.held m (Int.toNat (↑k : Int))))) (SBatch.req (SHeld.batch (SMsg.held m (Int.toNat (↑k : Int)))))]] [(.o 1, bs (h3 m ++ heldsB (SMsg.held m) k))] (sb (.o 771) (h3 m ++ heldsB (SMsg.held m) k ++ batchB (SHeld.batch (SMsg.held m k)))) [(.o 771, bs (h3 m ++ heldsB (SMsg.held m) k ++ batchB (SHeld.batch (SMsg.held m k))))], (0 : Int) ≤ (↑k : Int) ∧ (↑k : Int) < (↑(SMsg.nheld m) : Int), T Tryz.prog 93 [.sl (.o 771) 1 0 0 0 (List.length (h3 m ++ heldsB (SMsg.held m) k ++ batchB (SHeld.batch (SMsg.held m k)))) none, .agg [.int .i64 (SVote.kind (SCert.vote (SHeld.cert (SMsg.held m (Int.toNat (↑k : Int)))))), .int .i64 (SVote.epoch (SCert.vote (SHeld.cert (SMsg.held m (Int.toNat (↑k : Int)))))), .int .i64 (SVote.view (SCert.vote (SHeld.cert (SMsg.held m (Int.toNat (↑k : Int)))))), .int .i64 (SVote.slot (SCert.vote (SHeld.cert (SMsg.held m (Int.toNat (↑k : Int)))))), .seg .u8 32 (SVote.digest (SCert.vote (SHeld.cert (SMsg.held m (Int.toNat (↑k : Int)))))), sg (SCert.n (SHeld.cert (SMsg.held m (Int.toNat (↑k : Int))))) (SCert.sig (SHeld.cert (SMsg.held m (Int.toNat (↑k : Int)))))]] [(.o 771, bs (h3 m ++ heldsB (SMsg.held m) k ++ batchB (SHeld.batch (SMsg.held m k))))] (sb (.o 1219) (h3 m ++ heldsB (SMsg.held m) (k + 1))) [(.o 1219, bs (h3 m ++ heldsB (SMsg.held m) (k + 1)))], InR IntKind.i64 ((↑k : Int) + (1 : Int)), q (List.length (h3 m ++ heldsB (SMsg.held m) (k + (1 : Nat)))), ∀ (k_1 : Nat), k_1 < List.length (h3 m ++ heldsB (SMsg.held m) (k + (1 : Nat))) → bl (h3 m ++ heldsB (SMsg.held m) (k + (1 : Nat))) k_1 = bl (h3 m ++ heldsB (SMsg.held m) (k + (1 : Nat))) k_1, true = false → true = false, q (SMsg.cepoch m), q (SMsg.cleader m), q (SMsg.cview m), q (SMsg.nheld m), ∀ (k : Nat), k < SMsg.nheld m → SHeld.c (SMsg.held m k) = SHeld.c (SMsg.held m k), false = true → false = true, q0, q0, q0, q (List.length (h3 m ++ heldsB (SMsg.held m) (k + (1 : Nat)))), (none : Option Nat) = none ∨ (none : Option Nat) = none, q0, q0, q0, (↑k : Int) + (1 : Int) = (↑(k + (1 : Nat)) : Int)]) : Option (Exit × St × List Prop)) := by kernel_rfl
theorem pcB3_p0 (m : SMsg) (k : Nat) :
  alongPc Tryz.prog (pcB3 m k) [false] = (some (.exit 1, St.mk [.any, .any, .any, .sl (.o 1) 1 0 0 0 (List.length (h3 m ++ heldsB (SMsg.held m) k)) none, .ptr (.o 2) 0 0 0 0, .int .i64 ↑k, .any, .any, .any, .any, .any, .any, .any, .any, .any, .any, .any, .any, .any, .any, .any, .any, .any, .any, .any, .any, .any, .any, .any, .any, .any, .any, .any, .any, .any, .any, .any, .any, .any, .any, .any, .any, .any, .any, .any, .any, .any, .any, .any, .any, .any, .any, .any, .any, .any, .any, .any, .any, .any, .any, .any, .any, .any, .any, .any, .any, .any, .any, .any, .any, .any, .any, .any, .any, .any, .any, .any, .any, .any, .any, .any, .any, .any, .any, .any, .any, .any, .any, .any, .any, .any, .any, .any, .any, .any, .any, .any, .any, .any, .any, .any, .any, .any, .any, .any, .any, .any, .any, .any, .any, .any, .any, .any, .any, .any, .any, .any, .any, .any, .any, .any, .any, .any, .any, .any, .any, .any, .any, .any, .any, .any, .any, .any, .any, .any, .any, .any, .any, .any, .any, .any, .any, .any, .any, .any, .any, .any, .any] [(.o 1, bs (h3 m ++ heldsB (SMsg.held m) k)), (.o 2, .flat [.int .i64 (SMsg.cepoch m), .int .i64 (SMsg.cleader m), .int .i64 (SMsg.cview m), hl (SMsg.nheld m) (SMsg.held m)])] 3 [], [decide ((↑k : Int) < (↑(SMsg.nheld m) : Int)) = false, q (List.length (h3 m ++ heldsB (SMsg.held m) k)), ∀ (k_1 : Nat), k_1 < List.length (h3 m ++ heldsB (SMsg.held m) k) → bl (h3 m ++ heldsB (SMsg.held m) k) k_1 = bl (h3 m ++ heldsB (SMsg.held m) k) k_1, true = false → true = false, q (SMsg.cepoch m), q (SMsg.cleader m), q (SMsg.cview m), q (SMsg.nheld m), ∀ (k : Nat), k < SMsg.nheld m → SHeld.c (SMsg.held m k) = SHeld.c (SMsg.held m k), false = true → false = true, q0, q0, q0, q (List.length (h3 m ++ heldsB (SMsg.held m) k)), (none : Option Nat) = none ∨ (none : Option Nat) = none, q0, q0, q0, q (↑k : Int)]) : Option (Exit × St × List Prop)) := by kernel_rfl

theorem pcB4_p1 (m : SMsg) (k : Nat) :
  alongPc Tryz.prog (pcB4 m k) [true] = (some (.normal, St.mk [.any, .ptr (.o 2) 0 0 0 0, .any, .sl (.o 1) 1 0 0 0 (List.length (h4 m ++ envsB (SMsg.news m) (k + 1))) none, .any, .any, .int .i64 (↑(k + 1) : Int), .any, .any, .any, .any, .any, .any, .any, .any, .any, .any, .any, .any, .any, .any, .any, .any, .any, .any, .any, .any, .any, .any, .any, .any, .any, .any, .any, .any, .any, .any, .any, .any, .any, .any, .any, .any, .any, .any, .any, .any, .any, .any, .any, .any, .any, .any, .any, .any, .any, .any, .any, .any, .any, .any, .any, .any, .any, .any, .any, .any, .any, .any, .any, .any, .any, .any, .any, .any, .any, .any, .any, .any, .any, .any, .any, .any, .any, .any, .any, .any, .any, .any, .any, .any, .any, .any, .any, .any, .any, .any, .any, .any, .any, .any, .any, .any, .any, .any, .any, .any, .any, .any, .any, .any, .any, .any, .any, .any, .any, .any, .any, .any, .any, .any, .any, .any, .any, .any, .any, .any, .any, .any, .any, .any, .any, .any, .any, .any, .any, .any, .any, .any, .any, .any, .any, .any, .any, .any, .any, .any, .any] [(.o 1, bs (h4 m ++ envsB (SMsg.news m) (k + 1))), (.o 2, .flat (SMsg.c m))] 3 [], [decide ((↑k : Int) < (↑(SMsg.nnews m) : Int)) = true, (0 : Int) ≤ (↑k : Int) ∧ (↑k : Int) < (↑(SMsg.nnews m) : Int), T Tryz.prog 78 [.sl (.o 1) 1 0 0 0 (List.length (h4 m ++ envsB (SMsg.news m) k)) none, .int .i64 (SEnv.src (SMsg.news m (Int.toNat (↑k : Int))))] [(.o 1, bs (h4 m ++ envsB (SMsg.news m) k))] (sb (.o 771) (h4 m ++ envsB (SMsg.news m) k ++ numsB [SEnv.src (SMsg.news m k)])) [(.o 771, bs (h4 m ++ envsB (SMsg.news m) k ++ numsB [SEnv.src (SMsg.news m k)]))], (0 : Int) ≤ (↑k : Int) ∧ (↑k : Int) < (↑(SMsg.nnews m) : Int), T Tryz.prog 81 [.sl (.o 771) 1 0 0 0 (List.length (h4 m ++ envsB (SMsg.news m) k ++ numsB [SEnv.src (SMsg.news m k)])) none, .str (SEnv.body (SMsg.news m (Int.toNat (↑k : Int))))] [(.o 771, bs (h4 m ++ envsB (SMsg.news m) k ++ numsB [SEnv.src (SMsg.news m k)]))] (sb (.o 1219) (h4 m ++ envsB (SMsg.news m) k ++ numsB [SEnv.src (SMsg.news m k)] ++ textB (SEnv.body (SMsg.news m k)))) [(.o 1219, bs (h4 m ++ envsB (SMsg.news m) k ++ numsB [SEnv.src (SMsg.news m k)] ++ textB (SEnv.body (SMsg.news m k))))], (0 : Int) ≤ (↑k : Int) ∧ (↑k : Int) < (↑(SMsg.nnews m) : Int), T Tryz.prog 94 [.sl (.o 1219) 1 0 0 0 (List.length (h4 m ++ envsB (SMsg.news m) k ++ numsB [SEnv.src (SMsg.news m k)] ++ textB (SEnv.body (SMsg.news m k)))) none, .agg [.seg .u8 16 (SEnv.tag (SMsg.news m (Int.toNat (↑k : Int))))]] [(.o 1219, bs (h4 m ++ envsB (SMsg.news m) k ++ numsB [SEnv.src (SMsg.news m k)] ++ textB (SEnv.body (SMsg.news m k))))] (sb (.o 1667) (h4 m ++ envsB (SMsg.news m) (k + 1))) [(.o 1667, bs (h4 m ++ envsB (SMsg.news m) (k + 1)))], InR IntKind.i64 ((↑k : Int) + (1 : Int)), q (List.length (h4 m ++ envsB (SMsg.news m) (k + (1 : Nat)))), ∀ (k_1 : Nat), k_1 < List.length (h4 m ++ envsB (SMsg.news m) (k + (1 : Nat))) → bl (h4 m ++ envsB (SMsg.news m) (k + (1 : Nat))) k_1 = bl (h4 m ++ envsB (SMsg.news m) (k + (1 : Nat))) k_1, true = false → true = false, q (SMsg.kind m), q (SMsg.epoch m), q (SMsg.leader m), q (SMsg.view m), q (SMsg.slot m), q (SBatch.noop (SMsg.batch m)), q (SBatch.n (SMsg.batch m)), ∀ (k : Nat), k < SBatch.n (SMsg.batch m) → SReq.c (SBatch.req (SMsg.batch m) k) = SReq.c (SBatch.req (SMsg.batch m) k), false = true → false = true, q (SVote.kind (SMsg.vote m)), q (SVote.epoch (SMsg.vote m)), q (SVote.view (SMsg.vote m)), q (SVote.slot (SMsg.vote m)), q (32 : Nat), q (SVote.digest (SMsg.vote m)), q (SMsg.cepoch m), q (SMsg.cleader m), q (SMsg.cview m), q (SMsg.nheld m), ∀ (k : Nat), k < SMsg.nheld m → SHeld.c (SMsg.held m k) = SHeld.c (SMsg.held m k), false = true → false = true, q (SMsg.nnews m), ∀ (k : Nat), k < SMsg.nnews m → SEnv.c (SMsg.news m k) = SEnv.c (SMsg.news m k), false = true → false = true, q (32 : Nat), q (SMsg.digest m), q (SVote.kind (SCert.vote (SMsg.cert m))), q (SVote.epoch (SCert.vote (SMsg.cert m))), q (SVote.view (SCert.vote (SMsg.cert m))), q (SVote.slot (SCert.vote (SMsg.cert m))), q (32 : Nat), q (SVote.digest (SCert.vote (SMsg.cert m))), q (SCert.n (SMsg.cert m)), ∀ (k : Nat), k < SCert.n (SMsg.cert m) → SSign.c (SCert.sig (SMsg.cert m) k) = SSign.c (SCert.sig (SMsg.cert m) k), false = true → false = true, q (SMsg.state m), q (SMsg.n m), ∀ (k : Nat), k < SMsg.n m → SSign.c (SMsg.sig m k) = SSign.c (SMsg.sig m k), false = true → false = true, q0, q0, q0, q0, q0, q0, q (List.length (h4 m ++ envsB (SMsg.news m) (k + (1 : Nat)))), (none : Option Nat) = none ∨ (none : Option Nat) = none, (↑k : Int) + (1 : Int) = (↑(k + (1 : Nat)) : Int)]) : Option (Exit × St × List Prop)) := by kernel_rfl
theorem pcB4_p0 (m : SMsg) (k : Nat) :
  alongPc Tryz.prog (pcB4 m k) [false] = (some (.exit 3, St.mk [.any, .ptr (.o 2) 0 0 0 0, .any, .sl (.o 1) 1 0 0 0 (List.length (h4 m ++ envsB (SMsg.news m) k)) none, .any, .any, .int .i64 ↑k, .any, .any, .any, .any, .any, .any, .any, .any, .any, .any, .any, .any, .any, .any, .any, .any, .any, .any, .any, .any, .any, .any, .any, .any, .any, .any, .any, .any, .any, .any, .any, .any, .any, .any, .any, .any, .any, .any, .any, .any, .any, .any, .any, .any, .any, .any, .any, .any, .any, .any, .any, .any, .any, .any, .any, .any, .any, .any, .any, .any, .any, .any, .any, .any, .any, .any, .any, .any, .any, .any, .any, .any, .any, .any, .any, .any, .any, .any, .any, .any, .any, .any, .any, .any, .any, .any, .any, .any, .any, .any, .any, .any, .any, .any, .any, .any, .any, .any, .any, .any, .any, .any, .any, .any, .any, .any, .any, .any, .any, .any, .any, .any, .any, .any, .any, .any, .any, .any, .any, .any, .any, .any, .any, .any, .any, .any, .any, .any, .any, .any, .any, .any, .any, .any, .any, .any, .any, .any, .any, .any, .any] [(.o 1, bs (h4 m ++ envsB (SMsg.news m) k)), (.o 2, .flat (SMsg.c m))] 3 [], [decide ((↑k : Int) < (↑(SMsg.nnews m) : Int)) = false, q (List.length (h4 m ++ envsB (SMsg.news m) k)), ∀ (k_1 : Nat), k_1 < List.length (h4 m ++ envsB (SMsg.news m) k) → bl (h4 m ++ envsB (SMsg.news m) k) k_1 = bl (h4 m ++ envsB (SMsg.news m) k) k_1, true = false → true = false, q (SMsg.kind m), q (SMsg.epoch m), q (SMsg.leader m), q (SMsg.view m), q (SMsg.slot m), q (SBatch.noop (SMsg.batch m)), q (SBatch.n (SMsg.batch m)), ∀ (k : Nat), k < SBatch.n (SMsg.batch m) → SReq.c (SBatch.req (SMsg.batch m) k) = SReq.c (SBatch.req (SMsg.batch m) k), false = true → false = true, q (SVote.kind (SMsg.vote m)), q (SVote.epoch (SMsg.vote m)), q (SVote.view (SMsg.vote m)), q (SVote.slot (SMsg.vote m)), q (32 : Nat), q (SVote.digest (SMsg.vote m)), q (SMsg.cepoch m), q (SMsg.cleader m), q (SMsg.cview m), q (SMsg.nheld m), ∀ (k : Nat), k < SMsg.nheld m → SHeld.c (SMsg.held m k) = SHeld.c (SMsg.held m k), false = true → false = true, q (SMsg.nnews m), ∀ (k : Nat), k < SMsg.nnews m → SEnv.c (SMsg.news m k) = SEnv.c (SMsg.news m k), false = true → false = true, q (32 : Nat), q (SMsg.digest m), q (SVote.kind (SCert.vote (SMsg.cert m))), q (SVote.epoch (SCert.vote (SMsg.cert m))), q (SVote.view (SCert.vote (SMsg.cert m))), q (SVote.slot (SCert.vote (SMsg.cert m))), q (32 : Nat), q (SVote.digest (SCert.vote (SMsg.cert m))), q (SCert.n (SMsg.cert m)), ∀ (k : Nat), k < SCert.n (SMsg.cert m) → SSign.c (SCert.sig (SMsg.cert m) k) = SSign.c (SCert.sig (SMsg.cert m) k), false = true → false = true, q (SMsg.state m), q (SMsg.n m), ∀ (k : Nat), k < SMsg.n m → SSign.c (SMsg.sig m k) = SSign.c (SMsg.sig m k), false = true → false = true, q0, q0, q0, q0, q0, q0, q (List.length (h4 m ++ envsB (SMsg.news m) k)), (none : Option Nat) = none ∨ (none : Option Nat) = none, q (↑k : Int)]) : Option (Exit × St × List Prop)) := by kernel_rfl

theorem numsB4_len {a b c d : Int} (ha : num63 a) (hb : num63 b) (hc : num63 c) (hd : num63 d) : (numsB [a, b, c, d]).length ≤ 36 := by
 have h1 := putZ_len ha
 have h2 := putZ_len hb
 have h3 := putZ_len hc
 have h4 := putZ_len hd
 simp only [numsB, List.length_append, List.length_nil]; omega
theorem T_by1 {m : SMsg} (h : EncOk m) (hk : m.kind = 1) : T Tryz.prog 41 [.agg m.c] [] (sb (.o 63) (encB m)) [(.o 63, bs (encB m))] := by
 have e : encB m = putZ m.kind ++ numsB [m.epoch, m.slot] ++ batchB m.batch := by simp [encB, bodyB, hk]
 have h0 : num63 m.kind := by rw [hk]; exact ⟨by decide, by decide⟩
 have h9 := putZ_len h0
 have hs := h.state
 have hl0 := numsB2_len h.epoch h.slot
 refine T_al (bdBy_p1 m) Tryz.func41 ?_
 rw [e]
 simp only [All, All_append, bdBy_c]
 and_intros
 all_goals first
  | exact T_rpNil h0
  | exact T_pn2 (by first | omega | (simp only [List.length_append]; omega)) h.epoch h.slot (by decide)
  | exact T_pB (by first | omega | (simp only [List.length_append]; omega)) h.batch (by decide)
  | rfl
  | trivial
  | (intro _ _; rfl)
  | (rw [decide_eq_true_eq]; omega)
  | (rw [decide_eq_false_iff_not]; omega)
  | (simp [hk]; done)
theorem T_by2 {m : SMsg} (h : EncOk m) (hk : m.kind = 2) : T Tryz.prog 41 [.agg m.c] [] (sb (.o 63) (encB m)) [(.o 63, bs (encB m))] := by
 have e : encB m = putZ m.kind ++ voteB m.vote := by simp [encB, bodyB, hk]
 have h0 : num63 m.kind := by rw [hk]; exact ⟨by decide, by decide⟩
 have h9 := putZ_len h0
 have hs := h.state
 refine T_al (bdBy_p01 m) Tryz.func41 ?_
 rw [e]
 simp only [All, All_append, bdBy_c]
 and_intros
 all_goals first
  | exact T_rpNil h0
  | exact T_pv (by first | omega | (simp only [List.length_append]; omega)) (h.vote hk) (by decide)
  | rfl
  | trivial
  | (intro _ _; rfl)
  | (rw [decide_eq_true_eq]; omega)
  | (rw [decide_eq_false_iff_not]; omega)
  | (simp [hk]; done)
theorem T_by3 {m : SMsg} (h : EncOk m) (hk : m.kind = 3) : T Tryz.prog 41 [.agg m.c] [] (sb (.o 63) (encB m)) [(.o 63, bs (encB m))] := by
 have e : encB m = h3 m ++ heldsB m.held m.nheld := by simp [encB, bodyB, hk, h3, numsB]
 have h0 : num63 m.kind := by rw [hk]; exact ⟨by decide, by decide⟩
 have h9 := putZ_len h0
 have hs := h.state
 have hn := h.nheld
 have hz := num63_nat (n := m.nheld) (by omega)
 have h36 := numsB4_len h.cepoch h.cleader h.cview hz
 have eh : h3 m = putZ m.kind ++ numsB [m.cepoch, m.cleader, m.cview, (m.nheld : Int)] := rfl
 have h45 : (h3 m).length ≤ 45 := by rw [eh, List.length_append]; omega
 have hL : RLoop Tryz.prog none 0 (cB (cB (cR (cR (cR (cT (cR (cE (cR (cE (cR (cB (cR (cL (cR (cR (bodyOf Tryz.f41))))))))))))))))) (m.nheld + 1) (b3I m 0) (.exit 1) (b3I m m.nheld) :=
  RLoop.inv (b3I m) m.nheld (fun k hk => by
   have hk' := h.held k hk
   have hle := heldsB_len (s := m.held) (n := k) (fun i hi => h.held i (by omega))
   have hlb := batchB_len hk'.batch
   have hT := T_pB (l := h3 m ++ heldsB m.held k) (by rw [List.length_append]; omega) hk'.batch (a := 1) (m := 771) (by decide)
   have hT2 := T_pc (l := h3 m ++ heldsB m.held k ++ batchB (m.held k).batch) (by rw [List.length_append, List.length_append]; omega) hk'.cert (a := 771) (m := 1219) (by decide)
   have e1 : h3 m ++ heldsB m.held k ++ batchB (m.held k).batch ++ certB (m.held k).cert = h3 m ++ heldsB m.held (k + 1) := by simp [heldsB, heldB]
   rw [e1] at hT2
   refine R_alongPc NG MO _ (pcB3_p1 m k) ?_ (show 0 ≤ 3 by decide)
   simp only [All, All_append, bdBy_c, Int.toNat_natCast]
   and_intros
   all_goals first
    | exact hT
    | exact hT2
    | (simp [hk, IntKind.min, IntKind.max, IntKind.signed, IntKind.bits] <;> omega))
   (R_alongPc NG MO _ (pcB3_p0 m m.nheld) (by simp [All, All_append, bdBy_c]) (show 0 ≤ 3 by decide)) (by simp)
 refine T_al (bdBy_p001 m) Tryz.func41 ?_
 rw [e]
 simp only [All, All_append, bdBy_c]
 and_intros
 all_goals first
  | exact T_rpNil h0
  | exact T_pn4 (by first | omega | (simp only [List.length_append]; omega)) h.cepoch h.cleader h.cview hz (by decide)
  | exact hL
  | rfl
  | trivial
  | (intro _ _; rfl)
  | (rw [decide_eq_true_eq]; omega)
  | (rw [decide_eq_false_iff_not]; omega)
  | (simp [hk, heldsB]; done)
theorem T_by4 {m : SMsg} (h : EncOk m) (hk : m.kind = 4) : T Tryz.prog 41 [.agg m.c] [] (sb (.o 63) (encB m)) [(.o 63, bs (encB m))] := by
 have e : encB m = h4 m ++ envsB m.news m.nnews := by simp [encB, bodyB, hk, h4, numsB]
 have h0 : num63 m.kind := by rw [hk]; exact ⟨by decide, by decide⟩
 have h9 := putZ_len h0
 have hs := h.state
 have hn := h.nnews
 have hz := num63_nat (n := m.nnews) (by omega)
 have h36 := numsB4_len h.epoch h.leader h.view hz
 have eh : h4 m = putZ m.kind ++ numsB [m.epoch, m.leader, m.view, (m.nnews : Int)] := rfl
 have h45 : (h4 m).length ≤ 45 := by rw [eh, List.length_append]; omega
 have hL : RLoop Tryz.prog none 0 (cB (cB (cR (cR (cT (cR (cE (cR (cE (cR (cE (cR (cB (cR (cL (cR (cR (bodyOf Tryz.f41)))))))))))))))))) (m.nnews + 1) (b4I m 0) (.exit 3) (b4I m m.nnews) :=
  RLoop.inv (b4I m) m.nnews (fun k hk => by
   have hk' := h.news k hk
   have hle := envsB_len (s := m.news) (n := k) (fun i hi => h.news i (by omega))
   have hb := hk'.body
   have hlb := textB_len (s := (m.news k).body) (by omega)
   have e2 : numsB [(m.news k).src] = putZ (m.news k).src := by simp [numsB]
   have h10 := putZ_len hk'.src
   have hT := T_rp hk'.src (l := h4 m ++ envsB m.news k) (by rw [List.length_append]; omega) (a := 1) (m := 771) (by decide)
   rw [← e2] at hT h10
   have hT1 := T_rt (l := h4 m ++ envsB m.news k ++ numsB [(m.news k).src]) (s := (m.news k).body) (by simp only [List.length_append]; omega) (by omega) (a := 771) (m := 1219) (by decide)
   have hT2 := T_Tg (l := h4 m ++ envsB m.news k ++ numsB [(m.news k).src] ++ textB (m.news k).body) (xs := (m.news k).tag) (by simp only [List.length_append]; omega) hk'.tag (a := 1219) (m := 1667) (by decide)
   have e1 : h4 m ++ envsB m.news k ++ numsB [(m.news k).src] ++ textB (m.news k).body ++ segB (m.news k).tag = h4 m ++ envsB m.news (k + 1) := by simp [envsB, envB]
   rw [e1] at hT2
   refine R_alongPc NG MO _ (pcB4_p1 m k) ?_ (show 0 ≤ 3 by decide)
   simp only [All, All_append, bdBy_c, Int.toNat_natCast]
   and_intros
   all_goals first
    | exact hT
    | exact hT1
    | exact hT2
    | (simp [hk, IntKind.min, IntKind.max, IntKind.signed, IntKind.bits] <;> omega))
   (R_alongPc NG MO _ (pcB4_p0 m m.nnews) (by simp [All, All_append, bdBy_c]) (show 0 ≤ 3 by decide)) (by simp)
 refine T_al (bdBy_p0001 m) Tryz.func41 ?_
 rw [e]
 simp only [All, All_append, bdBy_c]
 and_intros
 all_goals first
  | exact T_rpNil h0
  | exact T_pn4 (by first | omega | (simp only [List.length_append]; omega)) h.epoch h.leader h.view hz (by decide)
  | exact hL
  | rfl
  | trivial
  | (intro _ _; rfl)
  | (rw [decide_eq_true_eq]; omega)
  | (rw [decide_eq_false_iff_not]; omega)
  | (simp [hk, envsB]; done)
theorem T_by5 {m : SMsg} (h : EncOk m) (hk : m.kind = 5) : T Tryz.prog 41 [.agg m.c] [] (sb (.o 63) (encB m)) [(.o 63, bs (encB m))] := by
 have e : encB m = putZ m.kind ++ numsB [m.epoch] ++ segB m.digest := by simp [encB, bodyB, hk]
 have h0 : num63 m.kind := by rw [hk]; exact ⟨by decide, by decide⟩
 have h9 := putZ_len h0
 have hs := h.state
 have hl0 := numsB1_len h.epoch
 have e2 : numsB [m.epoch] = putZ m.epoch := by simp [numsB]
 have hE := T_rp h.epoch (l := putZ m.kind) (by omega) (a := 256) (m := 1344) (by decide)
 rw [← e2] at hE
 refine T_al (bdBy_p00001 m) Tryz.func41 ?_
 rw [e]
 simp only [All, All_append, bdBy_c]
 and_intros
 all_goals first
  | exact T_rpNil h0
  | exact hE
  | exact T_Dd (by first | omega | (simp only [List.length_append]; omega)) h.digest (by decide)
  | rfl
  | trivial
  | (intro _ _; rfl)
  | (rw [decide_eq_true_eq]; omega)
  | (rw [decide_eq_false_iff_not]; omega)
  | (simp [hk]; done)
theorem T_by6 {m : SMsg} (h : EncOk m) (hk : m.kind = 6) : T Tryz.prog 41 [.agg m.c] [] (sb (.o 63) (encB m)) [(.o 63, bs (encB m))] := by
 have e : encB m = putZ m.kind ++ numsB [m.epoch, m.slot] := by simp [encB, bodyB, hk]
 have h0 : num63 m.kind := by rw [hk]; exact ⟨by decide, by decide⟩
 have h9 := putZ_len h0
 have hs := h.state
 refine T_al (bdBy_p000001 m) Tryz.func41 ?_
 rw [e]
 simp only [All, All_append, bdBy_c]
 and_intros
 all_goals first
  | exact T_rpNil h0
  | exact T_pn2 (by first | omega | (simp only [List.length_append]; omega)) h.epoch h.slot (by decide)
  | rfl
  | trivial
  | (intro _ _; rfl)
  | (rw [decide_eq_true_eq]; omega)
  | (rw [decide_eq_false_iff_not]; omega)
  | (simp [hk]; done)
theorem T_by7 {m : SMsg} (h : EncOk m) (hk : m.kind = 7) : T Tryz.prog 41 [.agg m.c] [] (sb (.o 63) (encB m)) [(.o 63, bs (encB m))] := by
 have e : encB m = putZ m.kind ++ batchB m.batch ++ certB m.cert := by simp [encB, bodyB, hk]
 have h0 : num63 m.kind := by rw [hk]; exact ⟨by decide, by decide⟩
 have h9 := putZ_len h0
 have hs := h.state
 have hlb := batchB_len h.batch
 refine T_al (bdBy_p0000001 m) Tryz.func41 ?_
 rw [e]
 simp only [All, All_append, bdBy_c]
 and_intros
 all_goals first
  | exact T_rpNil h0
  | exact T_pB (by first | omega | (simp only [List.length_append]; omega)) h.batch (by decide)
  | exact T_pc (by first | omega | (simp only [List.length_append]; omega)) (h.cert hk) (by decide)
  | rfl
  | trivial
  | (intro _ _; rfl)
  | (rw [decide_eq_true_eq]; omega)
  | (rw [decide_eq_false_iff_not]; omega)
  | (simp [hk]; done)
theorem T_by8 {m : SMsg} (h : EncOk m) (hk : m.kind = 8) : T Tryz.prog 41 [.agg m.c] [] (sb (.o 63) (encB m)) [(.o 63, bs (encB m))] := by
 have e : encB m = putZ m.kind ++ textB m.state ++ (numsB [(m.n : Int)] ++ signsB m.sig m.n) := by simp [encB, bodyB, hk]
 have h0 : num63 m.kind := by rw [hk]; exact ⟨by decide, by decide⟩
 have h9 := putZ_len h0
 have hs := h.state
 have hlb := textB_len (s := m.state) (by omega)
 refine T_al (bdBy_p00000001 m) Tryz.func41 ?_
 rw [e]
 simp only [All, All_append, bdBy_c]
 and_intros
 all_goals first
  | exact T_rpNil h0
  | exact T_rt (by first | omega | (simp only [List.length_append]; omega)) (by omega) (by decide)
  | exact T_ps (by first | omega | (simp only [List.length_append]; omega)) h.n h.sig (by decide)
  | rfl
  | trivial
  | (intro _ _; rfl)
  | (rw [decide_eq_true_eq]; omega)
  | (rw [decide_eq_false_iff_not]; omega)
  | (simp [hk]; done)
theorem T_by {m : SMsg} (h : EncOk m) : T Tryz.prog 41 [.agg m.c] [] (sb (.o 63) (encB m)) [(.o 63, bs (encB m))] := by
 have h1 := h.kind
 rcases (show m.kind = 1 ∨ m.kind = 2 ∨ m.kind = 3 ∨ m.kind = 4 ∨ m.kind = 5 ∨ m.kind = 6 ∨ m.kind = 7 ∨ m.kind = 8 by omega) with e | e | e | e | e | e | e | e
 ·exact T_by1 h e
 ·exact T_by2 h e
 ·exact T_by3 h e
 ·exact T_by4 h e
 ·exact T_by5 h e
 ·exact T_by6 h e
 ·exact T_by7 h e
 ·exact T_by8 h e
end Go.Proofs.YthifjamdfpjilaaGreat
namespace Go.Proofs.YthifjamdfpjilaaGreat
open Go Sy Go.Proofs
def cMk (l : List UInt8) : List V → Heap → Nat → List Cl := fun _ _ lo => [{ val := sb (.o lo) l, post := [(.o lo, bs l)] }]
noncomputable def bdRe (m : SMsg) (g : Bool) : Bd := { f := Tryz.f9, args := [.agg m.c], kb := { db := dbQ [(11, cVal (.bool g)), (41, cMk (encB m))] } }
end Go.Proofs.YthifjamdfpjilaaGreat
namespace Go.Proofs.YthifjamdfpjilaaGreat
open Go Sy Go.Proofs
theorem bdRe_p1 (m : SMsg) (g : Bool) :
  along Tryz.prog (bdRe m g) [true] = (some (.tup [.str (ByteArray.mk (Array.mk [])), .int .i64 130], [], [T Tryz.prog 11 [.agg (SMsg.c m)] [] (.bool g) [], (!g) = true]) : Option (V × Heap × List Prop)) := by kernel_rfl
theorem bdRe_p01 (m : SMsg) (g : Bool) :
  along Tryz.prog (bdRe m g) [false, true] = (some (.tup [.str (ByteArray.mk (Array.mk [])), .int .i64 3], [], [T Tryz.prog 11 [.agg (SMsg.c m)] [] (.bool g) [], (!g) = false, T Tryz.prog 41 [.agg (SMsg.c m)] [] (sb (.o 448) (encB m)) [(.o 448, bs (encB m))], decide ((4194304 : Int) < (↑(List.length (encB m)) : Int)) = true]) : Option (V × Heap × List Prop)) := by kernel_rfl
theorem bdRe_p00 (m : SMsg) (g : Bool) :
  along Tryz.prog (bdRe m g) [false, false] = (some (.tup [.str (bytesF (List.length (encB m)) fun k => bl (encB m) (0 + k)), .int .i64 0], [], [T Tryz.prog 11 [.agg (SMsg.c m)] [] (.bool g) [], (!g) = false, T Tryz.prog 41 [.agg (SMsg.c m)] [] (sb (.o 448) (encB m)) [(.o 448, bs (encB m))], decide ((4194304 : Int) < (↑(List.length (encB m)) : Int)) = false, ∀ (k : Nat), k < List.length (encB m) → true = true, (0 : Nat) + List.length (encB m) ≤ List.length (encB m), ∀ (k : Nat), k < List.length (encB m) → true = true]) : Option (V × Heap × List Prop)) := by kernel_rfl

theorem T_re {m : SMsg} {g : Bool} (hg : T Tryz.prog 11 [.agg m.c] [] (.bool g) []) (h : g = true → EncOk m) : T Tryz.prog 9 [.agg m.c] [] (encV m g) [] := by
 cases g with
 | false => exact T_al (bdRe_p1 m false) Tryz.func9 ⟨hg, rfl, trivial⟩
 | true =>
  have hb : ∀ q, T Tryz.prog 41 [.agg m.c] [] (sb (.o q) (encB m)) [(.o q, bs (encB m))] := fun q => by
   obtain ⟨σ, hσ, h1⟩ := T.at (T_by (h rfl)) [.o 63] [.o q] (by simp) (by simp) rfl
   simp only [List.map_cons, List.map_nil, List.cons.injEq, and_true] at hσ
   simpa [V.rens, V.ren, SMsg.c, SVote.c, SCert.c, SBatch.c, rq, sg, hl, nw, sb, bs, Heap.ren, B.ren, hσ] using h1
  by_cases hl : 4194304 < (encB m).length
  ·refine T.val (T_al (bdRe_p01 m true) Tryz.func9 ?_) (by simp [encV, hl])
   simp only [All]
   and_intros
   all_goals first
    | exact hg
    | exact hb _
    | (rw [decide_eq_true_eq]; omega)
    | rfl
    | trivial
  ·refine T.val (T_al (bdRe_p00 m true) Tryz.func9 ?_) (by rw [bytesF_bl]; simp [encV, hl])
   simp only [All]
   and_intros
   all_goals first
    | exact hg
    | exact hb _
    | (rw [decide_eq_false_iff_not]; omega)
    | rfl
    | omega
    | trivial
    | (intro _ _; trivial)
end Go.Proofs.YthifjamdfpjilaaGreat
namespace Go.Proofs.YthifjamdfpjilaaGreat
open Go Sy Go.Proofs
def vote0 : SVote := { digest := z32 }
/-- A message with its kind alone. -/
def msg0 (k : Int) : SMsg := { kind := k, vote := vote0, digest := z32, cert := { vote := vote0 } }
def kOnly (r : SMsg) : Exit → St → Option W := fun _ st => some ⟨[], [(2, .set (.ptr (.o 64) 0 0 0 0))], [(.o 64, .set (.flat r.c))], none, st.next⟩
def o1 (m : SMsg) : SMsg := { msg0 m.kind with epoch := m.epoch, slot := m.slot, batch := m.batch }
def o2 (m : SMsg) : SMsg := { msg0 m.kind with vote := m.vote }
def o3 (m : SMsg) : SMsg := { msg0 m.kind with cepoch := m.cepoch, cleader := m.cleader, cview := m.cview, nheld := m.nheld, held := m.held }
def o4 (m : SMsg) : SMsg := { msg0 m.kind with epoch := m.epoch, leader := m.leader, view := m.view, nnews := m.nnews, news := m.news }
def o5 (m : SMsg) : SMsg := { msg0 m.kind with epoch := m.epoch, digest := m.digest }
def o6 (m : SMsg) : SMsg := { msg0 m.kind with epoch := m.epoch, slot := m.slot }
def o7 (m : SMsg) : SMsg := { msg0 m.kind with batch := m.batch, cert := m.cert }
def o8 (m : SMsg) : SMsg := { msg0 m.kind with state := m.state, n := m.n, sig := m.sig }
def o9 (m : SMsg) : SMsg := msg0 m.kind
def onlyS (m : SMsg) : SMsg :=
 if m.kind = 2 then o2 m else if m.kind = 3 then o3 m else if m.kind = 4 then o4 m else if m.kind = 5 then o5 m else
 if m.kind = 1 then o1 m else if m.kind = 6 then o6 m else if m.kind = 7 then o7 m else if m.kind = 8 then o8 m else o9 m
noncomputable def bdOnly (m r : SMsg) : Bd := { f := Tryz.f42, args := [.agg m.c], kb := kb0, k := kOnly r }
noncomputable def bdO1 (m : SMsg) : Bd := bdOnly m (o1 m)
noncomputable def bdO2 (m : SMsg) : Bd := bdOnly m (o2 m)
noncomputable def bdO3 (m : SMsg) : Bd := bdOnly m (o3 m)
noncomputable def bdO4 (m : SMsg) : Bd := bdOnly m (o4 m)
noncomputable def bdO5 (m : SMsg) : Bd := bdOnly m (o5 m)
noncomputable def bdO6 (m : SMsg) : Bd := bdOnly m (o6 m)
noncomputable def bdO7 (m : SMsg) : Bd := bdOnly m (o7 m)
noncomputable def bdO8 (m : SMsg) : Bd := bdOnly m (o8 m)
noncomputable def bdO9 (m : SMsg) : Bd := bdOnly m (o9 m)
noncomputable def bdGood (m o : SMsg) : Bd := { f := Tryz.f10, args := [.agg m.c], kb := { db := dbV [(42, .agg o.c), (12, .bool (sameMsgS m o)), (43, .bool (mayVoteS m.vote)), (44, .bool (mayCertS m.cert)), (46, .bool (mayBatchS m.batch)), (47, .bool (mayChangeS m)), (48, .bool (allS m.nnews 64 (fun i => mayEnvS (m.news i)))), (50, .bool (allS m.n 64 (fun i => maySignS (m.sig i))))] } }
def goodS (m : SMsg) : Bool := decide (1 ≤ m.kind) && (decide (m.kind ≤ 8) && (sameMsgS m (onlyS m) && ((!decide (m.kind = 2) || mayVoteS m.vote) && ((!decide (m.kind = 7) || mayCertS m.cert) && (uptoS m.epoch 1048576 && (uptoS m.slot 1099511627776 && (uptoS m.view 1099511627776 && (uptoS m.leader 64 && (mayBatchS m.batch && (mayChangeS m && (allS m.nnews 64 (fun i => mayEnvS (m.news i)) && (allS m.n 64 (fun i => maySignS (m.sig i)) && decide ((m.state.size : Int) ≤ 4194304)))))))))))))
end Go.Proofs.YthifjamdfpjilaaGreat
namespace Go.Proofs.YthifjamdfpjilaaGreat
open Go Sy Go.Proofs
theorem bdO2_p1 (m : SMsg) :
  along Tryz.prog (bdO2 m) [true] = (some (.agg [.int .i64 (SMsg.kind m), .int .i64 0, .int .i64 0, .int .i64 0, .int .i64 0, .bool false, rq 0 fun x => SReq.mk (0 : Int) (0 : Int) ByteArray.empty [], .int .i64 (SVote.kind (SMsg.vote m)), .int .i64 (SVote.epoch (SMsg.vote m)), .int .i64 (SVote.view (SMsg.vote m)), .int .i64 (SVote.slot (SMsg.vote m)), .seg .u8 32 (SVote.digest (SMsg.vote m)), .int .i64 0, .int .i64 0, .int .i64 0, hl 0 fun x => SHeld.mk (SBatch.mk false 0 fun x => SReq.mk (0 : Int) (0 : Int) ByteArray.empty []) (SCert.mk (SVote.mk (0 : Int) (0 : Int) (0 : Int) (0 : Int) []) 0 fun x => SSign.mk (0 : Int) []), nw 0 fun x => SEnv.mk (0 : Int) ByteArray.empty [], .seg .u8 32 z32, .int .i64 0, .int .i64 0, .int .i64 0, .int .i64 0, .seg .u8 32 z32, sg 0 fun x => SSign.mk (0 : Int) [], .str ByteArray.empty, sg 0 fun x => SSign.mk (0 : Int) []], [], [decide (SMsg.kind m = (2 : Int)) = true, q (SMsg.kind m), q1, q1, q1, q1, q false, q0, q (SVote.kind (SMsg.vote m)), q (SVote.epoch (SMsg.vote m)), q (SVote.view (SMsg.vote m)), q (SVote.slot (SMsg.vote m)), q (32 : Nat), q (SVote.digest (SMsg.vote m)), q1, q1, q1, q0, q0, q (32 : Nat), q z32, q1, q1, q1, q1, q (32 : Nat), q z32, q0, q ByteArray.empty, q0, q0, q0, q0]) : Option (V × Heap × List Prop)) := by kernel_rfl

theorem bdO3_p01 (m : SMsg) :
  along Tryz.prog (bdO3 m) [false, true] = (some (.agg [.int .i64 (SMsg.kind m), .int .i64 0, .int .i64 0, .int .i64 0, .int .i64 0, .bool false, rq 0 fun x => SReq.mk (0 : Int) (0 : Int) ByteArray.empty [], .int .i64 0, .int .i64 0, .int .i64 0, .int .i64 0, .seg .u8 32 z32, .int .i64 (SMsg.cepoch m), .int .i64 (SMsg.cleader m), .int .i64 (SMsg.cview m), hl (SMsg.nheld m) (SMsg.held m), nw 0 fun x => SEnv.mk (0 : Int) ByteArray.empty [], .seg .u8 32 z32, .int .i64 0, .int .i64 0, .int .i64 0, .int .i64 0, .seg .u8 32 z32, sg 0 fun x => SSign.mk (0 : Int) [], .str ByteArray.empty, sg 0 fun x => SSign.mk (0 : Int) []], [], [decide (SMsg.kind m = (2 : Int)) = false, decide (SMsg.kind m = (3 : Int)) = true, q (SMsg.kind m), q1, q1, q1, q1, q false, q0, q1, q1, q1, q1, q (32 : Nat), q z32, q (SMsg.cepoch m), q (SMsg.cleader m), q (SMsg.cview m), q (SMsg.nheld m), ∀ (k : Nat), k < SMsg.nheld m → SHeld.c (SMsg.held m k) = SHeld.c (SMsg.held (SMsg.mk (SMsg.kind m) (0 : Int) (0 : Int) (0 : Int) (0 : Int) (SBatch.mk false (0 : Nat) fun x => SReq.mk (0 : Int) (0 : Int) ByteArray.empty []) vote0 (SMsg.cepoch m) (SMsg.cleader m) (SMsg.cview m) (SMsg.nheld m) (SMsg.held m) (0 : Nat) (fun x => SEnv.mk (0 : Int) ByteArray.empty []) z32 (SCert.mk vote0 (0 : Nat) fun x => SSign.mk (0 : Int) []) ByteArray.empty (0 : Nat) fun x => SSign.mk (0 : Int) []) k), false = true → false = true, q0, q (32 : Nat), q z32, q1, q1, q1, q1, q (32 : Nat), q z32, q0, q ByteArray.empty, q0, q0, q0, q0]) : Option (V × Heap × List Prop)) := by kernel_rfl

theorem bdO4_p001 (m : SMsg) :
  along Tryz.prog (bdO4 m) [false, false, true] = (some (.agg [.int .i64 (SMsg.kind m), .int .i64 (SMsg.epoch m), .int .i64 (SMsg.leader m), .int .i64 (SMsg.view m), .int .i64 0, .bool false, rq 0 fun x => SReq.mk (0 : Int) (0 : Int) ByteArray.empty [], .int .i64 0, .int .i64 0, .int .i64 0, .int .i64 0, .seg .u8 32 z32, .int .i64 0, .int .i64 0, .int .i64 0, hl 0 fun x => SHeld.mk (SBatch.mk false 0 fun x => SReq.mk (0 : Int) (0 : Int) ByteArray.empty []) (SCert.mk (SVote.mk (0 : Int) (0 : Int) (0 : Int) (0 : Int) []) 0 fun x => SSign.mk (0 : Int) []), nw (SMsg.nnews m) (SMsg.news m), .seg .u8 32 z32, .int .i64 0, .int .i64 0, .int .i64 0, .int .i64 0, .seg .u8 32 z32, sg 0 fun x => SSign.mk (0 : Int) [], .str ByteArray.empty, sg 0 fun x => SSign.mk (0 : Int) []], [], [decide (SMsg.kind m = (2 : Int)) = false, decide (SMsg.kind m = (3 : Int)) = false, decide (SMsg.kind m = (4 : Int)) = true, q (SMsg.kind m), q (SMsg.epoch m), q (SMsg.leader m), q (SMsg.view m), q1, q false, q0, q1, q1, q1, q1, q (32 : Nat), q z32, q1, q1, q1, q0, q (SMsg.nnews m), ∀ (k : Nat), k < SMsg.nnews m → SEnv.c (SMsg.news m k) = SEnv.c (SMsg.news (SMsg.mk (SMsg.kind m) (SMsg.epoch m) (SMsg.leader m) (SMsg.view m) (0 : Int) (SBatch.mk false (0 : Nat) fun x => SReq.mk (0 : Int) (0 : Int) ByteArray.empty []) vote0 (0 : Int) (0 : Int) (0 : Int) (0 : Nat) (fun x => SHeld.mk (SBatch.mk false (0 : Nat) fun x => SReq.mk (0 : Int) (0 : Int) ByteArray.empty []) (SCert.mk (SVote.mk (0 : Int) (0 : Int) (0 : Int) (0 : Int) []) (0 : Nat) fun x => SSign.mk (0 : Int) [])) (SMsg.nnews m) (SMsg.news m) z32 (SCert.mk vote0 (0 : Nat) fun x => SSign.mk (0 : Int) []) ByteArray.empty (0 : Nat) fun x => SSign.mk (0 : Int) []) k), false = true → false = true, q (32 : Nat), q z32, q1, q1, q1, q1, q (32 : Nat), q z32, q0, q ByteArray.empty, q0, q0, q0, q0]) : Option (V × Heap × List Prop)) := by kernel_rfl

theorem bdO5_p0001 (m : SMsg) :
  along Tryz.prog (bdO5 m) [false, false, false, true] = (some (.agg [.int .i64 (SMsg.kind m), .int .i64 (SMsg.epoch m), .int .i64 0, .int .i64 0, .int .i64 0, .bool false, rq 0 fun x => SReq.mk (0 : Int) (0 : Int) ByteArray.empty [], .int .i64 0, .int .i64 0, .int .i64 0, .int .i64 0, .seg .u8 32 z32, .int .i64 0, .int .i64 0, .int .i64 0, hl 0 fun x => SHeld.mk (SBatch.mk false 0 fun x => SReq.mk (0 : Int) (0 : Int) ByteArray.empty []) (SCert.mk (SVote.mk (0 : Int) (0 : Int) (0 : Int) (0 : Int) []) 0 fun x => SSign.mk (0 : Int) []), nw 0 fun x => SEnv.mk (0 : Int) ByteArray.empty [], .seg .u8 32 (SMsg.digest m), .int .i64 0, .int .i64 0, .int .i64 0, .int .i64 0, .seg .u8 32 z32, sg 0 fun x => SSign.mk (0 : Int) [], .str ByteArray.empty, sg 0 fun x => SSign.mk (0 : Int) []], [], [decide (SMsg.kind m = (2 : Int)) = false, decide (SMsg.kind m = (3 : Int)) = false, decide (SMsg.kind m = (4 : Int)) = false, decide (SMsg.kind m = (5 : Int)) = true, q (SMsg.kind m), q (SMsg.epoch m), q1, q1, q1, q false, q0, q1, q1, q1, q1, q (32 : Nat), q z32, q1, q1, q1, q0, q0, q (32 : Nat), q (SMsg.digest m), q1, q1, q1, q1, q (32 : Nat), q z32, q0, q ByteArray.empty, q0, q0, q0, q0]) : Option (V × Heap × List Prop)) := by kernel_rfl

theorem bdO1_p00001 (m : SMsg) :
  along Tryz.prog (bdO1 m) [false, false, false, false, true] = (some (.agg [.int .i64 (SMsg.kind m), .int .i64 (SMsg.epoch m), .int .i64 0, .int .i64 0, .int .i64 (SMsg.slot m), .bool (SBatch.noop (SMsg.batch m)), rq (SBatch.n (SMsg.batch m)) (SBatch.req (SMsg.batch m)), .int .i64 0, .int .i64 0, .int .i64 0, .int .i64 0, .seg .u8 32 z32, .int .i64 0, .int .i64 0, .int .i64 0, hl 0 fun x => SHeld.mk (SBatch.mk false 0 fun x => SReq.mk (0 : Int) (0 : Int) ByteArray.empty []) (SCert.mk (SVote.mk (0 : Int) (0 : Int) (0 : Int) (0 : Int) []) 0 fun x => SSign.mk (0 : Int) []), nw 0 fun x => SEnv.mk (0 : Int) ByteArray.empty [], .seg .u8 32 z32, .int .i64 0, .int .i64 0, .int .i64 0, .int .i64 0, .seg .u8 32 z32, sg 0 fun x => SSign.mk (0 : Int) [], .str ByteArray.empty, sg 0 fun x => SSign.mk (0 : Int) []], [], [decide (SMsg.kind m = (2 : Int)) = false, decide (SMsg.kind m = (3 : Int)) = false, decide (SMsg.kind m = (4 : Int)) = false, decide (SMsg.kind m = (5 : Int)) = false, decide (SMsg.kind m = (1 : Int)) = true, q (SMsg.kind m), q (SMsg.epoch m), q1, q1, q (SMsg.slot m), q (SBatch.noop (SMsg.batch m)), q (SBatch.n (SMsg.batch m)), ∀ (k : Nat), k < SBatch.n (SMsg.batch m) → SReq.c (SBatch.req (SMsg.batch m) k) = SReq.c (SBatch.req (SMsg.batch m) k), false = true → false = true, q1, q1, q1, q1, q (32 : Nat), q z32, q1, q1, q1, q0, q0, q (32 : Nat), q z32, q1, q1, q1, q1, q (32 : Nat), q z32, q0, q ByteArray.empty, q0, q0, q0, q0]) : Option (V × Heap × List Prop)) := by kernel_rfl

theorem bdO6_p000001 (m : SMsg) :
  along Tryz.prog (bdO6 m) [false, false, false, false, false, true] = (some (.agg [.int .i64 (SMsg.kind m), .int .i64 (SMsg.epoch m), .int .i64 0, .int .i64 0, .int .i64 (SMsg.slot m), .bool false, rq 0 fun x => SReq.mk (0 : Int) (0 : Int) ByteArray.empty [], .int .i64 0, .int .i64 0, .int .i64 0, .int .i64 0, .seg .u8 32 z32, .int .i64 0, .int .i64 0, .int .i64 0, hl 0 fun x => SHeld.mk (SBatch.mk false 0 fun x => SReq.mk (0 : Int) (0 : Int) ByteArray.empty []) (SCert.mk (SVote.mk (0 : Int) (0 : Int) (0 : Int) (0 : Int) []) 0 fun x => SSign.mk (0 : Int) []), nw 0 fun x => SEnv.mk (0 : Int) ByteArray.empty [], .seg .u8 32 z32, .int .i64 0, .int .i64 0, .int .i64 0, .int .i64 0, .seg .u8 32 z32, sg 0 fun x => SSign.mk (0 : Int) [], .str ByteArray.empty, sg 0 fun x => SSign.mk (0 : Int) []], [], [decide (SMsg.kind m = (2 : Int)) = false, decide (SMsg.kind m = (3 : Int)) = false, decide (SMsg.kind m = (4 : Int)) = false, decide (SMsg.kind m = (5 : Int)) = false, decide (SMsg.kind m = (1 : Int)) = false, decide (SMsg.kind m = (6 : Int)) = true, q (SMsg.kind m), q (SMsg.epoch m), q1, q1, q (SMsg.slot m), q false, q0, q1, q1, q1, q1, q (32 : Nat), q z32, q1, q1, q1, q0, q0, q (32 : Nat), q z32, q1, q1, q1, q1, q (32 : Nat), q z32, q0, q ByteArray.empty, q0, q0, q0, q0]) : Option (V × Heap × List Prop)) := by kernel_rfl

theorem bdO7_p0000001 (m : SMsg) :
  along Tryz.prog (bdO7 m) [false, false, false, false, false, false, true] = (some (.agg [.int .i64 (SMsg.kind m), .int .i64 0, .int .i64 0, .int .i64 0, .int .i64 0, .bool (SBatch.noop (SMsg.batch m)), rq (SBatch.n (SMsg.batch m)) (SBatch.req (SMsg.batch m)), .int .i64 0, .int .i64 0, .int .i64 0, .int .i64 0, .seg .u8 32 z32, .int .i64 0, .int .i64 0, .int .i64 0, hl 0 fun x => SHeld.mk (SBatch.mk false 0 fun x => SReq.mk (0 : Int) (0 : Int) ByteArray.empty []) (SCert.mk (SVote.mk (0 : Int) (0 : Int) (0 : Int) (0 : Int) []) 0 fun x => SSign.mk (0 : Int) []), nw 0 fun x => SEnv.mk (0 : Int) ByteArray.empty [], .seg .u8 32 z32, .int .i64 (SVote.kind (SCert.vote (SMsg.cert m))), .int .i64 (SVote.epoch (SCert.vote (SMsg.cert m))), .int .i64 (SVote.view (SCert.vote (SMsg.cert m))), .int .i64 (SVote.slot (SCert.vote (SMsg.cert m))), .seg .u8 32 (SVote.digest (SCert.vote (SMsg.cert m))), sg (SCert.n (SMsg.cert m)) (SCert.sig (SMsg.cert m)), .str ByteArray.empty, sg 0 fun x => SSign.mk (0 : Int) []], [], [decide (SMsg.kind m = (2 : Int)) = false, decide (SMsg.kind m = (3 : Int)) = false, decide (SMsg.kind m = (4 : Int)) = false, decide (SMsg.kind m = (5 : Int)) = false, decide (SMsg.kind m = (1 : Int)) = false, decide (SMsg.kind m = (6 : Int)) = false, decide (SMsg.kind m = (7 : Int)) = true, q (SMsg.kind m), q1, q1, q1, q1, q (SBatch.noop (SMsg.batch m)), q (SBatch.n (SMsg.batch m)), ∀ (k : Nat), k < SBatch.n (SMsg.batch m) → SReq.c (SBatch.req (SMsg.batch m) k) = SReq.c (SBatch.req (SMsg.batch m) k), false = true → false = true, q1, q1, q1, q1, q (32 : Nat), q z32, q1, q1, q1, q0, q0, q (32 : Nat), q z32, q (SVote.kind (SCert.vote (SMsg.cert m))), q (SVote.epoch (SCert.vote (SMsg.cert m))), q (SVote.view (SCert.vote (SMsg.cert m))), q (SVote.slot (SCert.vote (SMsg.cert m))), q (32 : Nat), q (SVote.digest (SCert.vote (SMsg.cert m))), q (SCert.n (SMsg.cert m)), ∀ (k : Nat), k < SCert.n (SMsg.cert m) → SSign.c (SCert.sig (SMsg.cert m) k) = SSign.c (SCert.sig (SMsg.cert m) k), false = true → false = true, q ByteArray.empty, q0, q0, q0, q0]) : Option (V × Heap × List Prop)) := by kernel_rfl

theorem bdO8_p00000001 (m : SMsg) :
  along Tryz.prog (bdO8 m) [false, false, false, false, false, false, false, true] = (some (.agg [.int .i64 (SMsg.kind m), .int .i64 0, .int .i64 0, .int .i64 0, .int .i64 0, .bool false, rq 0 fun x => SReq.mk (0 : Int) (0 : Int) ByteArray.empty [], .int .i64 0, .int .i64 0, .int .i64 0, .int .i64 0, .seg .u8 32 z32, .int .i64 0, .int .i64 0, .int .i64 0, hl 0 fun x => SHeld.mk (SBatch.mk false 0 fun x => SReq.mk (0 : Int) (0 : Int) ByteArray.empty []) (SCert.mk (SVote.mk (0 : Int) (0 : Int) (0 : Int) (0 : Int) []) 0 fun x => SSign.mk (0 : Int) []), nw 0 fun x => SEnv.mk (0 : Int) ByteArray.empty [], .seg .u8 32 z32, .int .i64 0, .int .i64 0, .int .i64 0, .int .i64 0, .seg .u8 32 z32, sg 0 fun x => SSign.mk (0 : Int) [], .str (SMsg.state m), sg (SMsg.n m) (SMsg.sig m)], [], [decide (SMsg.kind m = (2 : Int)) = false, decide (SMsg.kind m = (3 : Int)) = false, decide (SMsg.kind m = (4 : Int)) = false, decide (SMsg.kind m = (5 : Int)) = false, decide (SMsg.kind m = (1 : Int)) = false, decide (SMsg.kind m = (6 : Int)) = false, decide (SMsg.kind m = (7 : Int)) = false, decide (SMsg.kind m = (8 : Int)) = true, q (SMsg.kind m), q1, q1, q1, q1, q false, q0, q1, q1, q1, q1, q (32 : Nat), q z32, q1, q1, q1, q0, q0, q (32 : Nat), q z32, q1, q1, q1, q1, q (32 : Nat), q z32, q0, q (SMsg.state m), q (SMsg.n m), ∀ (k : Nat), k < SMsg.n m → SSign.c (SMsg.sig m k) = SSign.c (SMsg.sig (SMsg.mk (SMsg.kind m) (0 : Int) (0 : Int) (0 : Int) (0 : Int) (SBatch.mk false (0 : Nat) fun x => SReq.mk (0 : Int) (0 : Int) ByteArray.empty []) vote0 (0 : Int) (0 : Int) (0 : Int) (0 : Nat) (fun x => SHeld.mk (SBatch.mk false (0 : Nat) fun x => SReq.mk (0 : Int) (0 : Int) ByteArray.empty []) (SCert.mk (SVote.mk (0 : Int) (0 : Int) (0 : Int) (0 : Int) []) (0 : Nat) fun x => SSign.mk (0 : Int) [])) (0 : Nat) (fun x => SEnv.mk (0 : Int) ByteArray.empty []) z32 (SCert.mk vote0 (0 : Nat) fun x => SSign.mk (0 : Int) []) (SMsg.state m) (SMsg.n m) (SMsg.sig m)) k), false = true → false = true, q0, q0, q0]) : Option (V × Heap × List Prop)) := by kernel_rfl

theorem bdO9_p00000000 (m : SMsg) :
  along Tryz.prog (bdO9 m) [false, false, false, false, false, false, false, false] = (some (.agg [.int .i64 (SMsg.kind m), .int .i64 0, .int .i64 0, .int .i64 0, .int .i64 0, .bool false, rq 0 fun x => SReq.mk (0 : Int) (0 : Int) ByteArray.empty [], .int .i64 0, .int .i64 0, .int .i64 0, .int .i64 0, .seg .u8 32 z32, .int .i64 0, .int .i64 0, .int .i64 0, hl 0 fun x => SHeld.mk (SBatch.mk false 0 fun x => SReq.mk (0 : Int) (0 : Int) ByteArray.empty []) (SCert.mk (SVote.mk (0 : Int) (0 : Int) (0 : Int) (0 : Int) []) 0 fun x => SSign.mk (0 : Int) []), nw 0 fun x => SEnv.mk (0 : Int) ByteArray.empty [], .seg .u8 32 z32, .int .i64 0, .int .i64 0, .int .i64 0, .int .i64 0, .seg .u8 32 z32, sg 0 fun x => SSign.mk (0 : Int) [], .str ByteArray.empty, sg 0 fun x => SSign.mk (0 : Int) []], [], [decide (SMsg.kind m = (2 : Int)) = false, decide (SMsg.kind m = (3 : Int)) = false, decide (SMsg.kind m = (4 : Int)) = false, decide (SMsg.kind m = (5 : Int)) = false, decide (SMsg.kind m = (1 : Int)) = false, decide (SMsg.kind m = (6 : Int)) = false, decide (SMsg.kind m = (7 : Int)) = false, decide (SMsg.kind m = (8 : Int)) = false, q (SMsg.kind m), q1, q1, q1, q1, q false, q0, q1, q1, q1, q1, q (32 : Nat), q z32, q1, q1, q1, q0, q0, q (32 : Nat), q z32, q1, q1, q1, q1, q (32 : Nat), q z32, q0, q ByteArray.empty, q0, q0, q0, q0]) : Option (V × Heap × List Prop)) := by kernel_rfl

noncomputable def bdGood_c (m : SMsg) (o : SMsg) : Nat → List Prop
 | 0 => [decide ((8 : Int) < SMsg.kind m) = false, T Tryz.prog 42 [.agg (SMsg.c m)] [] (.agg (SMsg.c o)) [], T Tryz.prog 12 [.agg (SMsg.c m), .agg (SMsg.c o)] [] (.bool (sameMsgS m o)) []]
 | 1 => [decide (SMsg.kind m = (2 : Int)) = true, T Tryz.prog 43 [.agg [.int .i64 (SVote.kind (SMsg.vote m)), .int .i64 (SVote.epoch (SMsg.vote m)), .int .i64 (SVote.view (SMsg.vote m)), .int .i64 (SVote.slot (SMsg.vote m)), .seg .u8 32 (SVote.digest (SMsg.vote m))]] [] (.bool (mayVoteS (SMsg.vote m))) []]
 | 2 => [(!mayVoteS (SMsg.vote m)) = false, decide (SMsg.kind m = (7 : Int)) = false, q false, T Tryz.prog 45 [.int .i64 (SMsg.epoch m), .int .i64 1048576] [] (.bool (uptoS (SMsg.epoch m) (1048576 : Int))) []]
 | 3 => [uptoS (SMsg.epoch m) (1048576 : Int) = true, T Tryz.prog 45 [.int .i64 (SMsg.slot m), .int .i64 1099511627776] [] (.bool (uptoS (SMsg.slot m) (1099511627776 : Int))) []]
 | 4 => [uptoS (SMsg.slot m) (1099511627776 : Int) = true, T Tryz.prog 45 [.int .i64 (SMsg.view m), .int .i64 1099511627776] [] (.bool (uptoS (SMsg.view m) (1099511627776 : Int))) []]
 | 5 => [uptoS (SMsg.view m) (1099511627776 : Int) = true, T Tryz.prog 45 [.int .i64 (SMsg.leader m), .int .i64 64] [] (.bool (uptoS (SMsg.leader m) (64 : Int))) []]
 | 6 => [uptoS (SMsg.leader m) (64 : Int) = true, T Tryz.prog 46 [.agg [.bool (SBatch.noop (SMsg.batch m)), rq (SBatch.n (SMsg.batch m)) (SBatch.req (SMsg.batch m))]] [] (.bool (mayBatchS (SMsg.batch m))) []]
 | 7 => [mayBatchS (SMsg.batch m) = true, T Tryz.prog 47 [.agg [.int .i64 (SMsg.cepoch m), .int .i64 (SMsg.cleader m), .int .i64 (SMsg.cview m), hl (SMsg.nheld m) (SMsg.held m)]] [] (.bool (mayChangeS m)) []]
 | 8 => [mayChangeS m = true, T Tryz.prog 48 [.ros 18 (SMsg.nnews m) (fun i => SEnv.c (SMsg.news m i)) false, .int .i64 64, .fn (.func 49) [] []] [] (.bool (allS (SMsg.nnews m) 64 fun i => mayEnvS (SMsg.news m i))) []]
 | 9 => [(allS (SMsg.nnews m) (64 : Nat) fun i => mayEnvS (SMsg.news m i)) = true, T Tryz.prog 50 [.ros 17 (SMsg.n m) (fun i => SSign.c (SMsg.sig m i)) false, .int .i64 64, .fn (.func 51) [] []] [] (.bool (allS (SMsg.n m) 64 fun i => maySignS (SMsg.sig m i))) []]
 | 10 => [decide (SMsg.kind m = (7 : Int)) = true, T Tryz.prog 44 [.agg [.int .i64 (SVote.kind (SCert.vote (SMsg.cert m))), .int .i64 (SVote.epoch (SCert.vote (SMsg.cert m))), .int .i64 (SVote.view (SCert.vote (SMsg.cert m))), .int .i64 (SVote.slot (SCert.vote (SMsg.cert m))), .seg .u8 32 (SVote.digest (SCert.vote (SMsg.cert m))), sg (SCert.n (SMsg.cert m)) (SCert.sig (SMsg.cert m))]] [] (.bool (mayCertS (SMsg.cert m))) []]
 | 11 => [(!mayCertS (SMsg.cert m)) = false, T Tryz.prog 45 [.int .i64 (SMsg.epoch m), .int .i64 1048576] [] (.bool (uptoS (SMsg.epoch m) (1048576 : Int))) []]
 | 12 => [uptoS (SMsg.epoch m) (1048576 : Int) = true, T Tryz.prog 45 [.int .i64 (SMsg.slot m), .int .i64 1099511627776] [] (.bool (uptoS (SMsg.slot m) (1099511627776 : Int))) []]
 | 13 => [uptoS (SMsg.slot m) (1099511627776 : Int) = true, T Tryz.prog 45 [.int .i64 (SMsg.view m), .int .i64 1099511627776] [] (.bool (uptoS (SMsg.view m) (1099511627776 : Int))) []]
 | 14 => [uptoS (SMsg.view m) (1099511627776 : Int) = true, T Tryz.prog 45 [.int .i64 (SMsg.leader m), .int .i64 64] [] (.bool (uptoS (SMsg.leader m) (64 : Int))) []]
 | 15 => [uptoS (SMsg.leader m) (64 : Int) = true, T Tryz.prog 46 [.agg [.bool (SBatch.noop (SMsg.batch m)), rq (SBatch.n (SMsg.batch m)) (SBatch.req (SMsg.batch m))]] [] (.bool (mayBatchS (SMsg.batch m))) []]
 | 16 => [mayBatchS (SMsg.batch m) = true, T Tryz.prog 47 [.agg [.int .i64 (SMsg.cepoch m), .int .i64 (SMsg.cleader m), .int .i64 (SMsg.cview m), hl (SMsg.nheld m) (SMsg.held m)]] [] (.bool (mayChangeS m)) []]
 | 17 => [mayChangeS m = true, T Tryz.prog 48 [.ros 18 (SMsg.nnews m) (fun i => SEnv.c (SMsg.news m i)) false, .int .i64 64, .fn (.func 49) [] []] [] (.bool (allS (SMsg.nnews m) 64 fun i => mayEnvS (SMsg.news m i))) []]
 | 18 => [(allS (SMsg.nnews m) (64 : Nat) fun i => mayEnvS (SMsg.news m i)) = true, T Tryz.prog 50 [.ros 17 (SMsg.n m) (fun i => SSign.c (SMsg.sig m i)) false, .int .i64 64, .fn (.func 51) [] []] [] (.bool (allS (SMsg.n m) 64 fun i => maySignS (SMsg.sig m i))) []]
 | 19 => [decide (SMsg.kind m = (7 : Int)) = false, q false, T Tryz.prog 45 [.int .i64 (SMsg.epoch m), .int .i64 1048576] [] (.bool (uptoS (SMsg.epoch m) (1048576 : Int))) []]
 | 20 => [uptoS (SMsg.epoch m) (1048576 : Int) = true, T Tryz.prog 45 [.int .i64 (SMsg.slot m), .int .i64 1099511627776] [] (.bool (uptoS (SMsg.slot m) (1099511627776 : Int))) []]
 | 21 => [uptoS (SMsg.slot m) (1099511627776 : Int) = true, T Tryz.prog 45 [.int .i64 (SMsg.view m), .int .i64 1099511627776] [] (.bool (uptoS (SMsg.view m) (1099511627776 : Int))) []]
 | 22 => [uptoS (SMsg.view m) (1099511627776 : Int) = true, T Tryz.prog 45 [.int .i64 (SMsg.leader m), .int .i64 64] [] (.bool (uptoS (SMsg.leader m) (64 : Int))) []]
 | 23 => [uptoS (SMsg.leader m) (64 : Int) = true, T Tryz.prog 46 [.agg [.bool (SBatch.noop (SMsg.batch m)), rq (SBatch.n (SMsg.batch m)) (SBatch.req (SMsg.batch m))]] [] (.bool (mayBatchS (SMsg.batch m))) []]
 | 24 => [mayBatchS (SMsg.batch m) = true, T Tryz.prog 47 [.agg [.int .i64 (SMsg.cepoch m), .int .i64 (SMsg.cleader m), .int .i64 (SMsg.cview m), hl (SMsg.nheld m) (SMsg.held m)]] [] (.bool (mayChangeS m)) []]
 | 25 => [mayChangeS m = true, T Tryz.prog 48 [.ros 18 (SMsg.nnews m) (fun i => SEnv.c (SMsg.news m i)) false, .int .i64 64, .fn (.func 49) [] []] [] (.bool (allS (SMsg.nnews m) 64 fun i => mayEnvS (SMsg.news m i))) []]
 | 26 => [(allS (SMsg.nnews m) (64 : Nat) fun i => mayEnvS (SMsg.news m i)) = true, T Tryz.prog 50 [.ros 17 (SMsg.n m) (fun i => SSign.c (SMsg.sig m i)) false, .int .i64 64, .fn (.func 51) [] []] [] (.bool (allS (SMsg.n m) 64 fun i => maySignS (SMsg.sig m i))) []]
 | _ => []
theorem bdGood_p111 (m : SMsg) (o : SMsg) :
 along Tryz.prog (bdGood m o) [true, true, true] = (some (.bool false, [], [decide (SMsg.kind m < (1 : Int)) = true, q2, q2]) : Option (V × Heap × List Prop)) := by kernel_rfl

theorem bdGood_p011 (m : SMsg) (o : SMsg) :
 along Tryz.prog (bdGood m o) [false, true, true] = (some (.bool false, [], [decide (SMsg.kind m < (1 : Int)) = false, decide ((8 : Int) < SMsg.kind m) = true, q2]) : Option (V × Heap × List Prop)) := by kernel_rfl

theorem bdGood_p001 (m : SMsg) (o : SMsg) :
 along Tryz.prog (bdGood m o) [false, false, true] = (some (.bool false, [], [decide (SMsg.kind m < (1 : Int)) = false] ++ (bdGood_c m o 0 ++ [(!sameMsgS m o) = true])) : Option (V × Heap × List Prop)) := by kernel_rfl

theorem bdGood_p000111 (m : SMsg) (o : SMsg) :
 along Tryz.prog (bdGood m o) [false, false, false, true, true, true] = (some (.bool false, [], [decide (SMsg.kind m < (1 : Int)) = false] ++ (bdGood_c m o 0 ++ ([(!sameMsgS m o) = false] ++ (bdGood_c m o 1 ++ [(!mayVoteS (SMsg.vote m)) = true, q2])))) : Option (V × Heap × List Prop)) := by kernel_rfl

theorem bdGood_p0000011 (m : SMsg) (o : SMsg) :
 along Tryz.prog (bdGood m o) [false, false, false, false, false, true, true] = (some (.bool false, [], [decide (SMsg.kind m < (1 : Int)) = false] ++ (bdGood_c m o 0 ++ ([(!sameMsgS m o) = false, decide (SMsg.kind m = (2 : Int)) = false, q false] ++ (bdGood_c m o 10 ++ [(!mayCertS (SMsg.cert m)) = true])))) : Option (V × Heap × List Prop)) := by kernel_rfl

theorem bdGood_p000100000000000 (m : SMsg) (o : SMsg) :
 along Tryz.prog (bdGood m o) [false, false, false, true, false, false, false, false, false, false, false, false, false, false, false] = (some (.bool false, [], [decide (SMsg.kind m < (1 : Int)) = false] ++ (bdGood_c m o 0 ++ ([(!sameMsgS m o) = false] ++ (bdGood_c m o 1 ++ (bdGood_c m o 2 ++ [uptoS (SMsg.epoch m) (1048576 : Int) = false, q false, q false, q false, q false, q false, q false, q false]))))) : Option (V × Heap × List Prop)) := by kernel_rfl

theorem bdGood_p000100010000000 (m : SMsg) (o : SMsg) :
 along Tryz.prog (bdGood m o) [false, false, false, true, false, false, false, true, false, false, false, false, false, false, false] = (some (.bool false, [], [decide (SMsg.kind m < (1 : Int)) = false] ++ (bdGood_c m o 0 ++ ([(!sameMsgS m o) = false] ++ (bdGood_c m o 1 ++ (bdGood_c m o 2 ++ (bdGood_c m o 3 ++ [uptoS (SMsg.slot m) (1099511627776 : Int) = false, q false, q false, q false, q false, q false, q false])))))) : Option (V × Heap × List Prop)) := by kernel_rfl

theorem bdGood_p000100011000000 (m : SMsg) (o : SMsg) :
 along Tryz.prog (bdGood m o) [false, false, false, true, false, false, false, true, true, false, false, false, false, false, false] = (some (.bool false, [], [decide (SMsg.kind m < (1 : Int)) = false] ++ (bdGood_c m o 0 ++ ([(!sameMsgS m o) = false] ++ (bdGood_c m o 1 ++ (bdGood_c m o 2 ++ (bdGood_c m o 3 ++ (bdGood_c m o 4 ++ [uptoS (SMsg.view m) (1099511627776 : Int) = false, q false, q false, q false, q false, q false]))))))) : Option (V × Heap × List Prop)) := by kernel_rfl

theorem bdGood_p000100011100000 (m : SMsg) (o : SMsg) :
 along Tryz.prog (bdGood m o) [false, false, false, true, false, false, false, true, true, true, false, false, false, false, false] = (some (.bool false, [], [decide (SMsg.kind m < (1 : Int)) = false] ++ (bdGood_c m o 0 ++ ([(!sameMsgS m o) = false] ++ (bdGood_c m o 1 ++ (bdGood_c m o 2 ++ (bdGood_c m o 3 ++ (bdGood_c m o 4 ++ (bdGood_c m o 5 ++ [uptoS (SMsg.leader m) (64 : Int) = false, q false, q false, q false, q false])))))))) : Option (V × Heap × List Prop)) := by kernel_rfl

theorem bdGood_p000100011110000 (m : SMsg) (o : SMsg) :
 along Tryz.prog (bdGood m o) [false, false, false, true, false, false, false, true, true, true, true, false, false, false, false] = (some (.bool false, [], [decide (SMsg.kind m < (1 : Int)) = false] ++ (bdGood_c m o 0 ++ ([(!sameMsgS m o) = false] ++ (bdGood_c m o 1 ++ (bdGood_c m o 2 ++ (bdGood_c m o 3 ++ (bdGood_c m o 4 ++ (bdGood_c m o 5 ++ (bdGood_c m o 6 ++ [mayBatchS (SMsg.batch m) = false, q false, q false, q false]))))))))) : Option (V × Heap × List Prop)) := by kernel_rfl

theorem bdGood_p000100011111000 (m : SMsg) (o : SMsg) :
 along Tryz.prog (bdGood m o) [false, false, false, true, false, false, false, true, true, true, true, true, false, false, false] = (some (.bool false, [], [decide (SMsg.kind m < (1 : Int)) = false] ++ (bdGood_c m o 0 ++ ([(!sameMsgS m o) = false] ++ (bdGood_c m o 1 ++ (bdGood_c m o 2 ++ (bdGood_c m o 3 ++ (bdGood_c m o 4 ++ (bdGood_c m o 5 ++ (bdGood_c m o 6 ++ (bdGood_c m o 7 ++ [mayChangeS m = false, q false, q false])))))))))) : Option (V × Heap × List Prop)) := by kernel_rfl

theorem bdGood_p000100011111100 (m : SMsg) (o : SMsg) :
 along Tryz.prog (bdGood m o) [false, false, false, true, false, false, false, true, true, true, true, true, true, false, false] = (some (.bool false, [], [decide (SMsg.kind m < (1 : Int)) = false] ++ (bdGood_c m o 0 ++ ([(!sameMsgS m o) = false] ++ (bdGood_c m o 1 ++ (bdGood_c m o 2 ++ (bdGood_c m o 3 ++ (bdGood_c m o 4 ++ (bdGood_c m o 5 ++ (bdGood_c m o 6 ++ (bdGood_c m o 7 ++ (bdGood_c m o 8 ++ [(allS (SMsg.nnews m) (64 : Nat) fun i => mayEnvS (SMsg.news m i)) = false, q false]))))))))))) : Option (V × Heap × List Prop)) := by kernel_rfl

theorem bdGood_p000100011111110 (m : SMsg) (o : SMsg) :
 along Tryz.prog (bdGood m o) [false, false, false, true, false, false, false, true, true, true, true, true, true, true, false] = (some (.bool false, [], [decide (SMsg.kind m < (1 : Int)) = false] ++ (bdGood_c m o 0 ++ ([(!sameMsgS m o) = false] ++ (bdGood_c m o 1 ++ (bdGood_c m o 2 ++ (bdGood_c m o 3 ++ (bdGood_c m o 4 ++ (bdGood_c m o 5 ++ (bdGood_c m o 6 ++ (bdGood_c m o 7 ++ (bdGood_c m o 8 ++ (bdGood_c m o 9 ++ [(allS (SMsg.n m) (64 : Nat) fun i => maySignS (SMsg.sig m i)) = false])))))))))))) : Option (V × Heap × List Prop)) := by kernel_rfl

theorem bdGood_p000100011111111 (m : SMsg) (o : SMsg) :
 along Tryz.prog (bdGood m o) [false, false, false, true, false, false, false, true, true, true, true, true, true, true, true] = (some (.bool (decide ((↑(ByteArray.size (SMsg.state m)) : Int) ≤ (4194304 : Int))), [], [decide (SMsg.kind m < (1 : Int)) = false] ++ (bdGood_c m o 0 ++ ([(!sameMsgS m o) = false] ++ (bdGood_c m o 1 ++ (bdGood_c m o 2 ++ (bdGood_c m o 3 ++ (bdGood_c m o 4 ++ (bdGood_c m o 5 ++ (bdGood_c m o 6 ++ (bdGood_c m o 7 ++ (bdGood_c m o 8 ++ (bdGood_c m o 9 ++ [(allS (SMsg.n m) (64 : Nat) fun i => maySignS (SMsg.sig m i)) = true])))))))))))) : Option (V × Heap × List Prop)) := by kernel_rfl

theorem bdGood_p000001000000000 (m : SMsg) (o : SMsg) :
 along Tryz.prog (bdGood m o) [false, false, false, false, false, true, false, false, false, false, false, false, false, false, false] = (some (.bool false, [], [decide (SMsg.kind m < (1 : Int)) = false] ++ (bdGood_c m o 0 ++ ([(!sameMsgS m o) = false, decide (SMsg.kind m = (2 : Int)) = false, q false] ++ (bdGood_c m o 10 ++ (bdGood_c m o 11 ++ [uptoS (SMsg.epoch m) (1048576 : Int) = false, q false, q false, q false, q false, q false, q false, q false]))))) : Option (V × Heap × List Prop)) := by kernel_rfl

theorem bdGood_p000001010000000 (m : SMsg) (o : SMsg) :
 along Tryz.prog (bdGood m o) [false, false, false, false, false, true, false, true, false, false, false, false, false, false, false] = (some (.bool false, [], [decide (SMsg.kind m < (1 : Int)) = false] ++ (bdGood_c m o 0 ++ ([(!sameMsgS m o) = false, decide (SMsg.kind m = (2 : Int)) = false, q false] ++ (bdGood_c m o 10 ++ (bdGood_c m o 11 ++ (bdGood_c m o 12 ++ [uptoS (SMsg.slot m) (1099511627776 : Int) = false, q false, q false, q false, q false, q false, q false])))))) : Option (V × Heap × List Prop)) := by kernel_rfl

theorem bdGood_p000001011000000 (m : SMsg) (o : SMsg) :
 along Tryz.prog (bdGood m o) [false, false, false, false, false, true, false, true, true, false, false, false, false, false, false] = (some (.bool false, [], [decide (SMsg.kind m < (1 : Int)) = false] ++ (bdGood_c m o 0 ++ ([(!sameMsgS m o) = false, decide (SMsg.kind m = (2 : Int)) = false, q false] ++ (bdGood_c m o 10 ++ (bdGood_c m o 11 ++ (bdGood_c m o 12 ++ (bdGood_c m o 13 ++ [uptoS (SMsg.view m) (1099511627776 : Int) = false, q false, q false, q false, q false, q false]))))))) : Option (V × Heap × List Prop)) := by kernel_rfl

theorem bdGood_p000001011100000 (m : SMsg) (o : SMsg) :
 along Tryz.prog (bdGood m o) [false, false, false, false, false, true, false, true, true, true, false, false, false, false, false] = (some (.bool false, [], [decide (SMsg.kind m < (1 : Int)) = false] ++ (bdGood_c m o 0 ++ ([(!sameMsgS m o) = false, decide (SMsg.kind m = (2 : Int)) = false, q false] ++ (bdGood_c m o 10 ++ (bdGood_c m o 11 ++ (bdGood_c m o 12 ++ (bdGood_c m o 13 ++ (bdGood_c m o 14 ++ [uptoS (SMsg.leader m) (64 : Int) = false, q false, q false, q false, q false])))))))) : Option (V × Heap × List Prop)) := by kernel_rfl

theorem bdGood_p000001011110000 (m : SMsg) (o : SMsg) :
 along Tryz.prog (bdGood m o) [false, false, false, false, false, true, false, true, true, true, true, false, false, false, false] = (some (.bool false, [], [decide (SMsg.kind m < (1 : Int)) = false] ++ (bdGood_c m o 0 ++ ([(!sameMsgS m o) = false, decide (SMsg.kind m = (2 : Int)) = false, q false] ++ (bdGood_c m o 10 ++ (bdGood_c m o 11 ++ (bdGood_c m o 12 ++ (bdGood_c m o 13 ++ (bdGood_c m o 14 ++ (bdGood_c m o 15 ++ [mayBatchS (SMsg.batch m) = false, q false, q false, q false]))))))))) : Option (V × Heap × List Prop)) := by kernel_rfl

theorem bdGood_p000001011111000 (m : SMsg) (o : SMsg) :
 along Tryz.prog (bdGood m o) [false, false, false, false, false, true, false, true, true, true, true, true, false, false, false] = (some (.bool false, [], [decide (SMsg.kind m < (1 : Int)) = false] ++ (bdGood_c m o 0 ++ ([(!sameMsgS m o) = false, decide (SMsg.kind m = (2 : Int)) = false, q false] ++ (bdGood_c m o 10 ++ (bdGood_c m o 11 ++ (bdGood_c m o 12 ++ (bdGood_c m o 13 ++ (bdGood_c m o 14 ++ (bdGood_c m o 15 ++ (bdGood_c m o 16 ++ [mayChangeS m = false, q false, q false])))))))))) : Option (V × Heap × List Prop)) := by kernel_rfl

theorem bdGood_p000001011111100 (m : SMsg) (o : SMsg) :
 along Tryz.prog (bdGood m o) [false, false, false, false, false, true, false, true, true, true, true, true, true, false, false] = (some (.bool false, [], [decide (SMsg.kind m < (1 : Int)) = false] ++ (bdGood_c m o 0 ++ ([(!sameMsgS m o) = false, decide (SMsg.kind m = (2 : Int)) = false, q false] ++ (bdGood_c m o 10 ++ (bdGood_c m o 11 ++ (bdGood_c m o 12 ++ (bdGood_c m o 13 ++ (bdGood_c m o 14 ++ (bdGood_c m o 15 ++ (bdGood_c m o 16 ++ (bdGood_c m o 17 ++ [(allS (SMsg.nnews m) (64 : Nat) fun i => mayEnvS (SMsg.news m i)) = false, q false]))))))))))) : Option (V × Heap × List Prop)) := by kernel_rfl

theorem bdGood_p000001011111110 (m : SMsg) (o : SMsg) :
 along Tryz.prog (bdGood m o) [false, false, false, false, false, true, false, true, true, true, true, true, true, true, false] = (some (.bool false, [], [decide (SMsg.kind m < (1 : Int)) = false] ++ (bdGood_c m o 0 ++ ([(!sameMsgS m o) = false, decide (SMsg.kind m = (2 : Int)) = false, q false] ++ (bdGood_c m o 10 ++ (bdGood_c m o 11 ++ (bdGood_c m o 12 ++ (bdGood_c m o 13 ++ (bdGood_c m o 14 ++ (bdGood_c m o 15 ++ (bdGood_c m o 16 ++ (bdGood_c m o 17 ++ (bdGood_c m o 18 ++ [(allS (SMsg.n m) (64 : Nat) fun i => maySignS (SMsg.sig m i)) = false])))))))))))) : Option (V × Heap × List Prop)) := by kernel_rfl

theorem bdGood_p000001011111111 (m : SMsg) (o : SMsg) :
 along Tryz.prog (bdGood m o) [false, false, false, false, false, true, false, true, true, true, true, true, true, true, true] = (some (.bool (decide ((↑(ByteArray.size (SMsg.state m)) : Int) ≤ (4194304 : Int))), [], [decide (SMsg.kind m < (1 : Int)) = false] ++ (bdGood_c m o 0 ++ ([(!sameMsgS m o) = false, decide (SMsg.kind m = (2 : Int)) = false, q false] ++ (bdGood_c m o 10 ++ (bdGood_c m o 11 ++ (bdGood_c m o 12 ++ (bdGood_c m o 13 ++ (bdGood_c m o 14 ++ (bdGood_c m o 15 ++ (bdGood_c m o 16 ++ (bdGood_c m o 17 ++ (bdGood_c m o 18 ++ [(allS (SMsg.n m) (64 : Nat) fun i => maySignS (SMsg.sig m i)) = true])))))))))))) : Option (V × Heap × List Prop)) := by kernel_rfl

theorem bdGood_p000000000000000 (m : SMsg) (o : SMsg) :
 along Tryz.prog (bdGood m o) [false, false, false, false, false, false, false, false, false, false, false, false, false, false, false] = (some (.bool false, [], [decide (SMsg.kind m < (1 : Int)) = false] ++ (bdGood_c m o 0 ++ ([(!sameMsgS m o) = false, decide (SMsg.kind m = (2 : Int)) = false, q false] ++ (bdGood_c m o 19 ++ [uptoS (SMsg.epoch m) (1048576 : Int) = false, q false, q false, q false, q false, q false, q false, q false])))) : Option (V × Heap × List Prop)) := by kernel_rfl

theorem bdGood_p000000010000000 (m : SMsg) (o : SMsg) :
 along Tryz.prog (bdGood m o) [false, false, false, false, false, false, false, true, false, false, false, false, false, false, false] = (some (.bool false, [], [decide (SMsg.kind m < (1 : Int)) = false] ++ (bdGood_c m o 0 ++ ([(!sameMsgS m o) = false, decide (SMsg.kind m = (2 : Int)) = false, q false] ++ (bdGood_c m o 19 ++ (bdGood_c m o 20 ++ [uptoS (SMsg.slot m) (1099511627776 : Int) = false, q false, q false, q false, q false, q false, q false]))))) : Option (V × Heap × List Prop)) := by kernel_rfl

theorem bdGood_p000000011000000 (m : SMsg) (o : SMsg) :
 along Tryz.prog (bdGood m o) [false, false, false, false, false, false, false, true, true, false, false, false, false, false, false] = (some (.bool false, [], [decide (SMsg.kind m < (1 : Int)) = false] ++ (bdGood_c m o 0 ++ ([(!sameMsgS m o) = false, decide (SMsg.kind m = (2 : Int)) = false, q false] ++ (bdGood_c m o 19 ++ (bdGood_c m o 20 ++ (bdGood_c m o 21 ++ [uptoS (SMsg.view m) (1099511627776 : Int) = false, q false, q false, q false, q false, q false])))))) : Option (V × Heap × List Prop)) := by kernel_rfl

theorem bdGood_p000000011100000 (m : SMsg) (o : SMsg) :
 along Tryz.prog (bdGood m o) [false, false, false, false, false, false, false, true, true, true, false, false, false, false, false] = (some (.bool false, [], [decide (SMsg.kind m < (1 : Int)) = false] ++ (bdGood_c m o 0 ++ ([(!sameMsgS m o) = false, decide (SMsg.kind m = (2 : Int)) = false, q false] ++ (bdGood_c m o 19 ++ (bdGood_c m o 20 ++ (bdGood_c m o 21 ++ (bdGood_c m o 22 ++ [uptoS (SMsg.leader m) (64 : Int) = false, q false, q false, q false, q false]))))))) : Option (V × Heap × List Prop)) := by kernel_rfl

theorem bdGood_p000000011110000 (m : SMsg) (o : SMsg) :
 along Tryz.prog (bdGood m o) [false, false, false, false, false, false, false, true, true, true, true, false, false, false, false] = (some (.bool false, [], [decide (SMsg.kind m < (1 : Int)) = false] ++ (bdGood_c m o 0 ++ ([(!sameMsgS m o) = false, decide (SMsg.kind m = (2 : Int)) = false, q false] ++ (bdGood_c m o 19 ++ (bdGood_c m o 20 ++ (bdGood_c m o 21 ++ (bdGood_c m o 22 ++ (bdGood_c m o 23 ++ [mayBatchS (SMsg.batch m) = false, q false, q false, q false])))))))) : Option (V × Heap × List Prop)) := by kernel_rfl

theorem bdGood_p000000011111000 (m : SMsg) (o : SMsg) :
 along Tryz.prog (bdGood m o) [false, false, false, false, false, false, false, true, true, true, true, true, false, false, false] = (some (.bool false, [], [decide (SMsg.kind m < (1 : Int)) = false] ++ (bdGood_c m o 0 ++ ([(!sameMsgS m o) = false, decide (SMsg.kind m = (2 : Int)) = false, q false] ++ (bdGood_c m o 19 ++ (bdGood_c m o 20 ++ (bdGood_c m o 21 ++ (bdGood_c m o 22 ++ (bdGood_c m o 23 ++ (bdGood_c m o 24 ++ [mayChangeS m = false, q false, q false]))))))))) : Option (V × Heap × List Prop)) := by kernel_rfl

theorem bdGood_p000000011111100 (m : SMsg) (o : SMsg) :
 along Tryz.prog (bdGood m o) [false, false, false, false, false, false, false, true, true, true, true, true, true, false, false] = (some (.bool false, [], [decide (SMsg.kind m < (1 : Int)) = false] ++ (bdGood_c m o 0 ++ ([(!sameMsgS m o) = false, decide (SMsg.kind m = (2 : Int)) = false, q false] ++ (bdGood_c m o 19 ++ (bdGood_c m o 20 ++ (bdGood_c m o 21 ++ (bdGood_c m o 22 ++ (bdGood_c m o 23 ++ (bdGood_c m o 24 ++ (bdGood_c m o 25 ++ [(allS (SMsg.nnews m) (64 : Nat) fun i => mayEnvS (SMsg.news m i)) = false, q false])))))))))) : Option (V × Heap × List Prop)) := by kernel_rfl

theorem bdGood_p000000011111110 (m : SMsg) (o : SMsg) :
 along Tryz.prog (bdGood m o) [false, false, false, false, false, false, false, true, true, true, true, true, true, true, false] = (some (.bool false, [], [decide (SMsg.kind m < (1 : Int)) = false] ++ (bdGood_c m o 0 ++ ([(!sameMsgS m o) = false, decide (SMsg.kind m = (2 : Int)) = false, q false] ++ (bdGood_c m o 19 ++ (bdGood_c m o 20 ++ (bdGood_c m o 21 ++ (bdGood_c m o 22 ++ (bdGood_c m o 23 ++ (bdGood_c m o 24 ++ (bdGood_c m o 25 ++ (bdGood_c m o 26 ++ [(allS (SMsg.n m) (64 : Nat) fun i => maySignS (SMsg.sig m i)) = false]))))))))))) : Option (V × Heap × List Prop)) := by kernel_rfl

theorem bdGood_p000000011111111 (m : SMsg) (o : SMsg) :
 along Tryz.prog (bdGood m o) [false, false, false, false, false, false, false, true, true, true, true, true, true, true, true] = (some (.bool (decide ((↑(ByteArray.size (SMsg.state m)) : Int) ≤ (4194304 : Int))), [], [decide (SMsg.kind m < (1 : Int)) = false] ++ (bdGood_c m o 0 ++ ([(!sameMsgS m o) = false, decide (SMsg.kind m = (2 : Int)) = false, q false] ++ (bdGood_c m o 19 ++ (bdGood_c m o 20 ++ (bdGood_c m o 21 ++ (bdGood_c m o 22 ++ (bdGood_c m o 23 ++ (bdGood_c m o 24 ++ (bdGood_c m o 25 ++ (bdGood_c m o 26 ++ [(allS (SMsg.n m) (64 : Nat) fun i => maySignS (SMsg.sig m i)) = true]))))))))))) : Option (V × Heap × List Prop)) := by kernel_rfl

theorem T_only (m : SMsg) : T Tryz.prog 42 [.agg m.c] [] (.agg (onlyS m).c) [] := by
 by_cases h1 : m.kind = 2
 ·refine T.val (T_al (bdO2_p1 m) Tryz.func42 ?_) (by simp only [onlyS, if_pos h1]; rfl)
  simp [All, All_append, bdGood_c, h1]
 ·
  by_cases h2 : m.kind = 3
  ·refine T.val (T_al (bdO3_p01 m) Tryz.func42 ?_) (by simp only [onlyS, if_neg h1, if_pos h2]; rfl)
   simp [All, All_append, bdGood_c, h1, h2]
  ·
   by_cases h3 : m.kind = 4
   ·refine T.val (T_al (bdO4_p001 m) Tryz.func42 ?_) (by simp only [onlyS, if_neg h1, if_neg h2, if_pos h3]; rfl)
    simp [All, All_append, bdGood_c, h1, h2, h3]
   ·
    by_cases h4 : m.kind = 5
    ·refine T.val (T_al (bdO5_p0001 m) Tryz.func42 ?_) (by simp only [onlyS, if_neg h1, if_neg h2, if_neg h3, if_pos h4]; rfl)
     simp [All, All_append, bdGood_c, h1, h2, h3, h4]
    ·
     by_cases h5 : m.kind = 1
     ·refine T.val (T_al (bdO1_p00001 m) Tryz.func42 ?_) (by simp only [onlyS, if_neg h1, if_neg h2, if_neg h3, if_neg h4, if_pos h5]; rfl)
      simp [All, All_append, bdGood_c, h1, h2, h3, h4, h5]
     ·
      by_cases h6 : m.kind = 6
      ·refine T.val (T_al (bdO6_p000001 m) Tryz.func42 ?_) (by simp only [onlyS, if_neg h1, if_neg h2, if_neg h3, if_neg h4, if_neg h5, if_pos h6]; rfl)
       simp [All, All_append, bdGood_c, h1, h2, h3, h4, h5, h6]
      ·
       by_cases h7 : m.kind = 7
       ·refine T.val (T_al (bdO7_p0000001 m) Tryz.func42 ?_) (by simp only [onlyS, if_neg h1, if_neg h2, if_neg h3, if_neg h4, if_neg h5, if_neg h6, if_pos h7]; rfl)
        simp [All, All_append, bdGood_c, h1, h2, h3, h4, h5, h6, h7]
       ·
        by_cases h8 : m.kind = 8
        ·refine T.val (T_al (bdO8_p00000001 m) Tryz.func42 ?_) (by simp only [onlyS, if_neg h1, if_neg h2, if_neg h3, if_neg h4, if_neg h5, if_neg h6, if_neg h7, if_pos h8]; rfl)
         simp [All, All_append, bdGood_c, h1, h2, h3, h4, h5, h6, h7, h8]
        ·
         refine T.val (T_al (bdO9_p00000000 m) Tryz.func42 ?_) (by simp only [onlyS, if_neg h1, if_neg h2, if_neg h3, if_neg h4, if_neg h5, if_neg h6, if_neg h7, if_neg h8]; rfl)
         simp [All, All_append, bdGood_c, h1, h2, h3, h4, h5, h6, h7, h8]
theorem T_good {m : SMsg} (hf : FitM m) : T Tryz.prog 10 [.agg m.c] [] (.bool (goodS m)) [] := by
 by_cases h1 : m.kind < 1
 ·
  refine T.bool (T_al (bdGood_p111 m (onlyS m)) Tryz.func10 ?_) (by simp [goodS, h1] <;> omega)
  simp only [All, All_append, bdGood_c]
  and_intros
  all_goals first
   | exact T_only m
   | exact T_mS m (onlyS m) hf
   | exact T_mv m.vote
   | exact T_mc m.cert
   | exact T_upto _ _
   | exact T_mb m.batch
   | exact T_mg m
   | exact T_alE m.news (by decide)
   | exact T_alS m.sig (by decide)
   | (simp [h1]; done)
   | exact h1
   | exact Bool.eq_false_iff.mpr h1
 ·
  by_cases h2 : 8 < m.kind
  ·
   refine T.bool (T_al (bdGood_p011 m (onlyS m)) Tryz.func10 ?_) (by simp [goodS, h1, h2] <;> omega)
   simp only [All, All_append, bdGood_c]
   and_intros
   all_goals first
    | exact T_only m
    | exact T_mS m (onlyS m) hf
    | exact T_mv m.vote
    | exact T_mc m.cert
    | exact T_upto _ _
    | exact T_mb m.batch
    | exact T_mg m
    | exact T_alE m.news (by decide)
    | exact T_alS m.sig (by decide)
    | (simp [h1, h2]; done)
    | exact h1
    | exact Bool.eq_false_iff.mpr h1
    | exact h2
    | exact Bool.eq_false_iff.mpr h2
  ·
   by_cases h3 : sameMsgS m (onlyS m) = false
   ·
    refine T.bool (T_al (bdGood_p001 m (onlyS m)) Tryz.func10 ?_) (by simp [goodS, h1, h2, h3] <;> omega)
    simp only [All, All_append, bdGood_c]
    and_intros
    all_goals first
     | exact T_only m
     | exact T_mS m (onlyS m) hf
     | exact T_mv m.vote
     | exact T_mc m.cert
     | exact T_upto _ _
     | exact T_mb m.batch
     | exact T_mg m
     | exact T_alE m.news (by decide)
     | exact T_alS m.sig (by decide)
     | (simp [h1, h2, h3]; done)
     | exact h1
     | exact Bool.eq_false_iff.mpr h1
     | exact h2
     | exact Bool.eq_false_iff.mpr h2
     | exact h3
     | exact Bool.eq_false_iff.mpr h3
   ·
    by_cases h4 : m.kind = 2
    ·
     by_cases h5 : mayVoteS m.vote = false
     ·
      refine T.bool (T_al (bdGood_p000111 m (onlyS m)) Tryz.func10 ?_) (by simp [goodS, h1, h2, h3, h4, h5] <;> omega)
      simp only [All, All_append, bdGood_c]
      and_intros
      all_goals first
       | exact T_only m
       | exact T_mS m (onlyS m) hf
       | exact T_mv m.vote
       | exact T_mc m.cert
       | exact T_upto _ _
       | exact T_mb m.batch
       | exact T_mg m
       | exact T_alE m.news (by decide)
       | exact T_alS m.sig (by decide)
       | (simp [h1, h2, h3, h4, h5]; done)
       | exact h1
       | exact Bool.eq_false_iff.mpr h1
       | exact h2
       | exact Bool.eq_false_iff.mpr h2
       | exact h3
       | exact Bool.eq_false_iff.mpr h3
       | exact h4
       | exact Bool.eq_false_iff.mpr h4
       | exact h5
       | exact Bool.eq_false_iff.mpr h5
     ·
      by_cases h6 : uptoS m.epoch 1048576 = true
      ·
       by_cases h7 : uptoS m.slot 1099511627776 = true
       ·
        by_cases h8 : uptoS m.view 1099511627776 = true
        ·
         by_cases h9 : uptoS m.leader 64 = true
         ·
          by_cases h10 : mayBatchS m.batch = true
          ·
           by_cases h11 : mayChangeS m = true
           ·
            by_cases h12 : (allS m.nnews 64 fun i => mayEnvS (m.news i)) = true
            ·
             by_cases h13 : (allS m.n 64 fun i => maySignS (m.sig i)) = true
             ·
              refine T.bool (T_al (bdGood_p000100011111111 m (onlyS m)) Tryz.func10 ?_) (by simp [goodS, h1, h2, h3, h4, h5, h6, h7, h8, h9, h10, h11, h12, h13] <;> omega)
              simp only [All, All_append, bdGood_c]
              and_intros
              all_goals first
               | exact T_only m
               | exact T_mS m (onlyS m) hf
               | exact T_mv m.vote
               | exact T_mc m.cert
               | exact T_upto _ _
               | exact T_mb m.batch
               | exact T_mg m
               | exact T_alE m.news (by decide)
               | exact T_alS m.sig (by decide)
               | (simp [h1, h2, h3, h4, h5, h6, h7, h8, h9, h10, h11, h12, h13]; done)
               | exact h1
               | exact Bool.eq_false_iff.mpr h1
               | exact h2
               | exact Bool.eq_false_iff.mpr h2
               | exact h3
               | exact Bool.eq_false_iff.mpr h3
               | exact h4
               | exact Bool.eq_false_iff.mpr h4
               | exact h5
               | exact Bool.eq_false_iff.mpr h5
               | exact h6
               | exact Bool.eq_false_iff.mpr h6
               | exact h7
               | exact Bool.eq_false_iff.mpr h7
               | exact h8
               | exact Bool.eq_false_iff.mpr h8
               | exact h9
               | exact Bool.eq_false_iff.mpr h9
               | exact h10
               | exact Bool.eq_false_iff.mpr h10
               | exact h11
               | exact Bool.eq_false_iff.mpr h11
               | exact h12
               | exact Bool.eq_false_iff.mpr h12
               | exact h13
               | exact Bool.eq_false_iff.mpr h13
             ·
              refine T.bool (T_al (bdGood_p000100011111110 m (onlyS m)) Tryz.func10 ?_) (by simp [goodS, h1, h2, h3, h4, h5, h6, h7, h8, h9, h10, h11, h12, h13] <;> omega)
              simp only [All, All_append, bdGood_c]
              and_intros
              all_goals first
               | exact T_only m
               | exact T_mS m (onlyS m) hf
               | exact T_mv m.vote
               | exact T_mc m.cert
               | exact T_upto _ _
               | exact T_mb m.batch
               | exact T_mg m
               | exact T_alE m.news (by decide)
               | exact T_alS m.sig (by decide)
               | (simp [h1, h2, h3, h4, h5, h6, h7, h8, h9, h10, h11, h12, h13]; done)
               | exact h1
               | exact Bool.eq_false_iff.mpr h1
               | exact h2
               | exact Bool.eq_false_iff.mpr h2
               | exact h3
               | exact Bool.eq_false_iff.mpr h3
               | exact h4
               | exact Bool.eq_false_iff.mpr h4
               | exact h5
               | exact Bool.eq_false_iff.mpr h5
               | exact h6
               | exact Bool.eq_false_iff.mpr h6
               | exact h7
               | exact Bool.eq_false_iff.mpr h7
               | exact h8
               | exact Bool.eq_false_iff.mpr h8
               | exact h9
               | exact Bool.eq_false_iff.mpr h9
               | exact h10
               | exact Bool.eq_false_iff.mpr h10
               | exact h11
               | exact Bool.eq_false_iff.mpr h11
               | exact h12
               | exact Bool.eq_false_iff.mpr h12
               | exact h13
               | exact Bool.eq_false_iff.mpr h13
            ·
             refine T.bool (T_al (bdGood_p000100011111100 m (onlyS m)) Tryz.func10 ?_) (by simp [goodS, h1, h2, h3, h4, h5, h6, h7, h8, h9, h10, h11, h12] <;> omega)
             simp only [All, All_append, bdGood_c]
             and_intros
             all_goals first
              | exact T_only m
              | exact T_mS m (onlyS m) hf
              | exact T_mv m.vote
              | exact T_mc m.cert
              | exact T_upto _ _
              | exact T_mb m.batch
              | exact T_mg m
              | exact T_alE m.news (by decide)
              | exact T_alS m.sig (by decide)
              | (simp [h1, h2, h3, h4, h5, h6, h7, h8, h9, h10, h11, h12]; done)
              | exact h1
              | exact Bool.eq_false_iff.mpr h1
              | exact h2
              | exact Bool.eq_false_iff.mpr h2
              | exact h3
              | exact Bool.eq_false_iff.mpr h3
              | exact h4
              | exact Bool.eq_false_iff.mpr h4
              | exact h5
              | exact Bool.eq_false_iff.mpr h5
              | exact h6
              | exact Bool.eq_false_iff.mpr h6
              | exact h7
              | exact Bool.eq_false_iff.mpr h7
              | exact h8
              | exact Bool.eq_false_iff.mpr h8
              | exact h9
              | exact Bool.eq_false_iff.mpr h9
              | exact h10
              | exact Bool.eq_false_iff.mpr h10
              | exact h11
              | exact Bool.eq_false_iff.mpr h11
              | exact h12
              | exact Bool.eq_false_iff.mpr h12
           ·
            refine T.bool (T_al (bdGood_p000100011111000 m (onlyS m)) Tryz.func10 ?_) (by simp [goodS, h1, h2, h3, h4, h5, h6, h7, h8, h9, h10, h11] <;> omega)
            simp only [All, All_append, bdGood_c]
            and_intros
            all_goals first
             | exact T_only m
             | exact T_mS m (onlyS m) hf
             | exact T_mv m.vote
             | exact T_mc m.cert
             | exact T_upto _ _
             | exact T_mb m.batch
             | exact T_mg m
             | exact T_alE m.news (by decide)
             | exact T_alS m.sig (by decide)
             | (simp [h1, h2, h3, h4, h5, h6, h7, h8, h9, h10, h11]; done)
             | exact h1
             | exact Bool.eq_false_iff.mpr h1
             | exact h2
             | exact Bool.eq_false_iff.mpr h2
             | exact h3
             | exact Bool.eq_false_iff.mpr h3
             | exact h4
             | exact Bool.eq_false_iff.mpr h4
             | exact h5
             | exact Bool.eq_false_iff.mpr h5
             | exact h6
             | exact Bool.eq_false_iff.mpr h6
             | exact h7
             | exact Bool.eq_false_iff.mpr h7
             | exact h8
             | exact Bool.eq_false_iff.mpr h8
             | exact h9
             | exact Bool.eq_false_iff.mpr h9
             | exact h10
             | exact Bool.eq_false_iff.mpr h10
             | exact h11
             | exact Bool.eq_false_iff.mpr h11
          ·
           refine T.bool (T_al (bdGood_p000100011110000 m (onlyS m)) Tryz.func10 ?_) (by simp [goodS, h1, h2, h3, h4, h5, h6, h7, h8, h9, h10] <;> omega)
           simp only [All, All_append, bdGood_c]
           and_intros
           all_goals first
            | exact T_only m
            | exact T_mS m (onlyS m) hf
            | exact T_mv m.vote
            | exact T_mc m.cert
            | exact T_upto _ _
            | exact T_mb m.batch
            | exact T_mg m
            | exact T_alE m.news (by decide)
            | exact T_alS m.sig (by decide)
            | (simp [h1, h2, h3, h4, h5, h6, h7, h8, h9, h10]; done)
            | exact h1
            | exact Bool.eq_false_iff.mpr h1
            | exact h2
            | exact Bool.eq_false_iff.mpr h2
            | exact h3
            | exact Bool.eq_false_iff.mpr h3
            | exact h4
            | exact Bool.eq_false_iff.mpr h4
            | exact h5
            | exact Bool.eq_false_iff.mpr h5
            | exact h6
            | exact Bool.eq_false_iff.mpr h6
            | exact h7
            | exact Bool.eq_false_iff.mpr h7
            | exact h8
            | exact Bool.eq_false_iff.mpr h8
            | exact h9
            | exact Bool.eq_false_iff.mpr h9
            | exact h10
            | exact Bool.eq_false_iff.mpr h10
         ·
          refine T.bool (T_al (bdGood_p000100011100000 m (onlyS m)) Tryz.func10 ?_) (by simp [goodS, h1, h2, h3, h4, h5, h6, h7, h8, h9] <;> omega)
          simp only [All, All_append, bdGood_c]
          and_intros
          all_goals first
           | exact T_only m
           | exact T_mS m (onlyS m) hf
           | exact T_mv m.vote
           | exact T_mc m.cert
           | exact T_upto _ _
           | exact T_mb m.batch
           | exact T_mg m
           | exact T_alE m.news (by decide)
           | exact T_alS m.sig (by decide)
           | (simp [h1, h2, h3, h4, h5, h6, h7, h8, h9]; done)
           | exact h1
           | exact Bool.eq_false_iff.mpr h1
           | exact h2
           | exact Bool.eq_false_iff.mpr h2
           | exact h3
           | exact Bool.eq_false_iff.mpr h3
           | exact h4
           | exact Bool.eq_false_iff.mpr h4
           | exact h5
           | exact Bool.eq_false_iff.mpr h5
           | exact h6
           | exact Bool.eq_false_iff.mpr h6
           | exact h7
           | exact Bool.eq_false_iff.mpr h7
           | exact h8
           | exact Bool.eq_false_iff.mpr h8
           | exact h9
           | exact Bool.eq_false_iff.mpr h9
        ·
         refine T.bool (T_al (bdGood_p000100011000000 m (onlyS m)) Tryz.func10 ?_) (by simp [goodS, h1, h2, h3, h4, h5, h6, h7, h8] <;> omega)
         simp only [All, All_append, bdGood_c]
         and_intros
         all_goals first
          | exact T_only m
          | exact T_mS m (onlyS m) hf
          | exact T_mv m.vote
          | exact T_mc m.cert
          | exact T_upto _ _
          | exact T_mb m.batch
          | exact T_mg m
          | exact T_alE m.news (by decide)
          | exact T_alS m.sig (by decide)
          | (simp [h1, h2, h3, h4, h5, h6, h7, h8]; done)
          | exact h1
          | exact Bool.eq_false_iff.mpr h1
          | exact h2
          | exact Bool.eq_false_iff.mpr h2
          | exact h3
          | exact Bool.eq_false_iff.mpr h3
          | exact h4
          | exact Bool.eq_false_iff.mpr h4
          | exact h5
          | exact Bool.eq_false_iff.mpr h5
          | exact h6
          | exact Bool.eq_false_iff.mpr h6
          | exact h7
          | exact Bool.eq_false_iff.mpr h7
          | exact h8
          | exact Bool.eq_false_iff.mpr h8
       ·
        refine T.bool (T_al (bdGood_p000100010000000 m (onlyS m)) Tryz.func10 ?_) (by simp [goodS, h1, h2, h3, h4, h5, h6, h7] <;> omega)
        simp only [All, All_append, bdGood_c]
        and_intros
        all_goals first
         | exact T_only m
         | exact T_mS m (onlyS m) hf
         | exact T_mv m.vote
         | exact T_mc m.cert
         | exact T_upto _ _
         | exact T_mb m.batch
         | exact T_mg m
         | exact T_alE m.news (by decide)
         | exact T_alS m.sig (by decide)
         | (simp [h1, h2, h3, h4, h5, h6, h7]; done)
         | exact h1
         | exact Bool.eq_false_iff.mpr h1
         | exact h2
         | exact Bool.eq_false_iff.mpr h2
         | exact h3
         | exact Bool.eq_false_iff.mpr h3
         | exact h4
         | exact Bool.eq_false_iff.mpr h4
         | exact h5
         | exact Bool.eq_false_iff.mpr h5
         | exact h6
         | exact Bool.eq_false_iff.mpr h6
         | exact h7
         | exact Bool.eq_false_iff.mpr h7
      ·
       refine T.bool (T_al (bdGood_p000100000000000 m (onlyS m)) Tryz.func10 ?_) (by simp [goodS, h1, h2, h3, h4, h5, h6] <;> omega)
       simp only [All, All_append, bdGood_c]
       and_intros
       all_goals first
        | exact T_only m
        | exact T_mS m (onlyS m) hf
        | exact T_mv m.vote
        | exact T_mc m.cert
        | exact T_upto _ _
        | exact T_mb m.batch
        | exact T_mg m
        | exact T_alE m.news (by decide)
        | exact T_alS m.sig (by decide)
        | (simp [h1, h2, h3, h4, h5, h6]; done)
        | exact h1
        | exact Bool.eq_false_iff.mpr h1
        | exact h2
        | exact Bool.eq_false_iff.mpr h2
        | exact h3
        | exact Bool.eq_false_iff.mpr h3
        | exact h4
        | exact Bool.eq_false_iff.mpr h4
        | exact h5
        | exact Bool.eq_false_iff.mpr h5
        | exact h6
        | exact Bool.eq_false_iff.mpr h6
    ·
     by_cases h5 : m.kind = 7
     ·
      by_cases h6 : mayCertS m.cert = false
      ·
       refine T.bool (T_al (bdGood_p0000011 m (onlyS m)) Tryz.func10 ?_) (by simp [goodS, h1, h2, h3, h4, h5, h6] <;> omega)
       simp only [All, All_append, bdGood_c]
       and_intros
       all_goals first
        | exact T_only m
        | exact T_mS m (onlyS m) hf
        | exact T_mv m.vote
        | exact T_mc m.cert
        | exact T_upto _ _
        | exact T_mb m.batch
        | exact T_mg m
        | exact T_alE m.news (by decide)
        | exact T_alS m.sig (by decide)
        | (simp [h1, h2, h3, h4, h5, h6]; done)
        | exact h1
        | exact Bool.eq_false_iff.mpr h1
        | exact h2
        | exact Bool.eq_false_iff.mpr h2
        | exact h3
        | exact Bool.eq_false_iff.mpr h3
        | exact h4
        | exact Bool.eq_false_iff.mpr h4
        | exact h5
        | exact Bool.eq_false_iff.mpr h5
        | exact h6
        | exact Bool.eq_false_iff.mpr h6
      ·
       by_cases h7 : uptoS m.epoch 1048576 = true
       ·
        by_cases h8 : uptoS m.slot 1099511627776 = true
        ·
         by_cases h9 : uptoS m.view 1099511627776 = true
         ·
          by_cases h10 : uptoS m.leader 64 = true
          ·
           by_cases h11 : mayBatchS m.batch = true
           ·
            by_cases h12 : mayChangeS m = true
            ·
             by_cases h13 : (allS m.nnews 64 fun i => mayEnvS (m.news i)) = true
             ·
              by_cases h14 : (allS m.n 64 fun i => maySignS (m.sig i)) = true
              ·
               refine T.bool (T_al (bdGood_p000001011111111 m (onlyS m)) Tryz.func10 ?_) (by simp [goodS, h1, h2, h3, h4, h5, h6, h7, h8, h9, h10, h11, h12, h13, h14] <;> omega)
               simp only [All, All_append, bdGood_c]
               and_intros
               all_goals first
                | exact T_only m
                | exact T_mS m (onlyS m) hf
                | exact T_mv m.vote
                | exact T_mc m.cert
                | exact T_upto _ _
                | exact T_mb m.batch
                | exact T_mg m
                | exact T_alE m.news (by decide)
                | exact T_alS m.sig (by decide)
                | (simp [h1, h2, h3, h4, h5, h6, h7, h8, h9, h10, h11, h12, h13, h14]; done)
                | exact h1
                | exact Bool.eq_false_iff.mpr h1
                | exact h2
                | exact Bool.eq_false_iff.mpr h2
                | exact h3
                | exact Bool.eq_false_iff.mpr h3
                | exact h4
                | exact Bool.eq_false_iff.mpr h4
                | exact h5
                | exact Bool.eq_false_iff.mpr h5
                | exact h6
                | exact Bool.eq_false_iff.mpr h6
                | exact h7
                | exact Bool.eq_false_iff.mpr h7
                | exact h8
                | exact Bool.eq_false_iff.mpr h8
                | exact h9
                | exact Bool.eq_false_iff.mpr h9
                | exact h10
                | exact Bool.eq_false_iff.mpr h10
                | exact h11
                | exact Bool.eq_false_iff.mpr h11
                | exact h12
                | exact Bool.eq_false_iff.mpr h12
                | exact h13
                | exact Bool.eq_false_iff.mpr h13
                | exact h14
                | exact Bool.eq_false_iff.mpr h14
              ·
               refine T.bool (T_al (bdGood_p000001011111110 m (onlyS m)) Tryz.func10 ?_) (by simp [goodS, h1, h2, h3, h4, h5, h6, h7, h8, h9, h10, h11, h12, h13, h14] <;> omega)
               simp only [All, All_append, bdGood_c]
               and_intros
               all_goals first
                | exact T_only m
                | exact T_mS m (onlyS m) hf
                | exact T_mv m.vote
                | exact T_mc m.cert
                | exact T_upto _ _
                | exact T_mb m.batch
                | exact T_mg m
                | exact T_alE m.news (by decide)
                | exact T_alS m.sig (by decide)
                | (simp [h1, h2, h3, h4, h5, h6, h7, h8, h9, h10, h11, h12, h13, h14]; done)
                | exact h1
                | exact Bool.eq_false_iff.mpr h1
                | exact h2
                | exact Bool.eq_false_iff.mpr h2
                | exact h3
                | exact Bool.eq_false_iff.mpr h3
                | exact h4
                | exact Bool.eq_false_iff.mpr h4
                | exact h5
                | exact Bool.eq_false_iff.mpr h5
                | exact h6
                | exact Bool.eq_false_iff.mpr h6
                | exact h7
                | exact Bool.eq_false_iff.mpr h7
                | exact h8
                | exact Bool.eq_false_iff.mpr h8
                | exact h9
                | exact Bool.eq_false_iff.mpr h9
                | exact h10
                | exact Bool.eq_false_iff.mpr h10
                | exact h11
                | exact Bool.eq_false_iff.mpr h11
                | exact h12
                | exact Bool.eq_false_iff.mpr h12
                | exact h13
                | exact Bool.eq_false_iff.mpr h13
                | exact h14
                | exact Bool.eq_false_iff.mpr h14
             ·
              refine T.bool (T_al (bdGood_p000001011111100 m (onlyS m)) Tryz.func10 ?_) (by simp [goodS, h1, h2, h3, h4, h5, h6, h7, h8, h9, h10, h11, h12, h13] <;> omega)
              simp only [All, All_append, bdGood_c]
              and_intros
              all_goals first
               | exact T_only m
               | exact T_mS m (onlyS m) hf
               | exact T_mv m.vote
               | exact T_mc m.cert
               | exact T_upto _ _
               | exact T_mb m.batch
               | exact T_mg m
               | exact T_alE m.news (by decide)
               | exact T_alS m.sig (by decide)
               | (simp [h1, h2, h3, h4, h5, h6, h7, h8, h9, h10, h11, h12, h13]; done)
               | exact h1
               | exact Bool.eq_false_iff.mpr h1
               | exact h2
               | exact Bool.eq_false_iff.mpr h2
               | exact h3
               | exact Bool.eq_false_iff.mpr h3
               | exact h4
               | exact Bool.eq_false_iff.mpr h4
               | exact h5
               | exact Bool.eq_false_iff.mpr h5
               | exact h6
               | exact Bool.eq_false_iff.mpr h6
               | exact h7
               | exact Bool.eq_false_iff.mpr h7
               | exact h8
               | exact Bool.eq_false_iff.mpr h8
               | exact h9
               | exact Bool.eq_false_iff.mpr h9
               | exact h10
               | exact Bool.eq_false_iff.mpr h10
               | exact h11
               | exact Bool.eq_false_iff.mpr h11
               | exact h12
               | exact Bool.eq_false_iff.mpr h12
               | exact h13
               | exact Bool.eq_false_iff.mpr h13
            ·
             refine T.bool (T_al (bdGood_p000001011111000 m (onlyS m)) Tryz.func10 ?_) (by simp [goodS, h1, h2, h3, h4, h5, h6, h7, h8, h9, h10, h11, h12] <;> omega)
             simp only [All, All_append, bdGood_c]
             and_intros
             all_goals first
              | exact T_only m
              | exact T_mS m (onlyS m) hf
              | exact T_mv m.vote
              | exact T_mc m.cert
              | exact T_upto _ _
              | exact T_mb m.batch
              | exact T_mg m
              | exact T_alE m.news (by decide)
              | exact T_alS m.sig (by decide)
              | (simp [h1, h2, h3, h4, h5, h6, h7, h8, h9, h10, h11, h12]; done)
              | exact h1
              | exact Bool.eq_false_iff.mpr h1
              | exact h2
              | exact Bool.eq_false_iff.mpr h2
              | exact h3
              | exact Bool.eq_false_iff.mpr h3
              | exact h4
              | exact Bool.eq_false_iff.mpr h4
              | exact h5
              | exact Bool.eq_false_iff.mpr h5
              | exact h6
              | exact Bool.eq_false_iff.mpr h6
              | exact h7
              | exact Bool.eq_false_iff.mpr h7
              | exact h8
              | exact Bool.eq_false_iff.mpr h8
              | exact h9
              | exact Bool.eq_false_iff.mpr h9
              | exact h10
              | exact Bool.eq_false_iff.mpr h10
              | exact h11
              | exact Bool.eq_false_iff.mpr h11
              | exact h12
              | exact Bool.eq_false_iff.mpr h12
           ·
            refine T.bool (T_al (bdGood_p000001011110000 m (onlyS m)) Tryz.func10 ?_) (by simp [goodS, h1, h2, h3, h4, h5, h6, h7, h8, h9, h10, h11] <;> omega)
            simp only [All, All_append, bdGood_c]
            and_intros
            all_goals first
             | exact T_only m
             | exact T_mS m (onlyS m) hf
             | exact T_mv m.vote
             | exact T_mc m.cert
             | exact T_upto _ _
             | exact T_mb m.batch
             | exact T_mg m
             | exact T_alE m.news (by decide)
             | exact T_alS m.sig (by decide)
             | (simp [h1, h2, h3, h4, h5, h6, h7, h8, h9, h10, h11]; done)
             | exact h1
             | exact Bool.eq_false_iff.mpr h1
             | exact h2
             | exact Bool.eq_false_iff.mpr h2
             | exact h3
             | exact Bool.eq_false_iff.mpr h3
             | exact h4
             | exact Bool.eq_false_iff.mpr h4
             | exact h5
             | exact Bool.eq_false_iff.mpr h5
             | exact h6
             | exact Bool.eq_false_iff.mpr h6
             | exact h7
             | exact Bool.eq_false_iff.mpr h7
             | exact h8
             | exact Bool.eq_false_iff.mpr h8
             | exact h9
             | exact Bool.eq_false_iff.mpr h9
             | exact h10
             | exact Bool.eq_false_iff.mpr h10
             | exact h11
             | exact Bool.eq_false_iff.mpr h11
          ·
           refine T.bool (T_al (bdGood_p000001011100000 m (onlyS m)) Tryz.func10 ?_) (by simp [goodS, h1, h2, h3, h4, h5, h6, h7, h8, h9, h10] <;> omega)
           simp only [All, All_append, bdGood_c]
           and_intros
           all_goals first
            | exact T_only m
            | exact T_mS m (onlyS m) hf
            | exact T_mv m.vote
            | exact T_mc m.cert
            | exact T_upto _ _
            | exact T_mb m.batch
            | exact T_mg m
            | exact T_alE m.news (by decide)
            | exact T_alS m.sig (by decide)
            | (simp [h1, h2, h3, h4, h5, h6, h7, h8, h9, h10]; done)
            | exact h1
            | exact Bool.eq_false_iff.mpr h1
            | exact h2
            | exact Bool.eq_false_iff.mpr h2
            | exact h3
            | exact Bool.eq_false_iff.mpr h3
            | exact h4
            | exact Bool.eq_false_iff.mpr h4
            | exact h5
            | exact Bool.eq_false_iff.mpr h5
            | exact h6
            | exact Bool.eq_false_iff.mpr h6
            | exact h7
            | exact Bool.eq_false_iff.mpr h7
            | exact h8
            | exact Bool.eq_false_iff.mpr h8
            | exact h9
            | exact Bool.eq_false_iff.mpr h9
            | exact h10
            | exact Bool.eq_false_iff.mpr h10
         ·
          refine T.bool (T_al (bdGood_p000001011000000 m (onlyS m)) Tryz.func10 ?_) (by simp [goodS, h1, h2, h3, h4, h5, h6, h7, h8, h9] <;> omega)
          simp only [All, All_append, bdGood_c]
          and_intros
          all_goals first
           | exact T_only m
           | exact T_mS m (onlyS m) hf
           | exact T_mv m.vote
           | exact T_mc m.cert
           | exact T_upto _ _
           | exact T_mb m.batch
           | exact T_mg m
           | exact T_alE m.news (by decide)
           | exact T_alS m.sig (by decide)
           | (simp [h1, h2, h3, h4, h5, h6, h7, h8, h9]; done)
           | exact h1
           | exact Bool.eq_false_iff.mpr h1
           | exact h2
           | exact Bool.eq_false_iff.mpr h2
           | exact h3
           | exact Bool.eq_false_iff.mpr h3
           | exact h4
           | exact Bool.eq_false_iff.mpr h4
           | exact h5
           | exact Bool.eq_false_iff.mpr h5
           | exact h6
           | exact Bool.eq_false_iff.mpr h6
           | exact h7
           | exact Bool.eq_false_iff.mpr h7
           | exact h8
           | exact Bool.eq_false_iff.mpr h8
           | exact h9
           | exact Bool.eq_false_iff.mpr h9
        ·
         refine T.bool (T_al (bdGood_p000001010000000 m (onlyS m)) Tryz.func10 ?_) (by simp [goodS, h1, h2, h3, h4, h5, h6, h7, h8] <;> omega)
         simp only [All, All_append, bdGood_c]
         and_intros
         all_goals first
          | exact T_only m
          | exact T_mS m (onlyS m) hf
          | exact T_mv m.vote
          | exact T_mc m.cert
          | exact T_upto _ _
          | exact T_mb m.batch
          | exact T_mg m
          | exact T_alE m.news (by decide)
          | exact T_alS m.sig (by decide)
          | (simp [h1, h2, h3, h4, h5, h6, h7, h8]; done)
          | exact h1
          | exact Bool.eq_false_iff.mpr h1
          | exact h2
          | exact Bool.eq_false_iff.mpr h2
          | exact h3
          | exact Bool.eq_false_iff.mpr h3
          | exact h4
          | exact Bool.eq_false_iff.mpr h4
          | exact h5
          | exact Bool.eq_false_iff.mpr h5
          | exact h6
          | exact Bool.eq_false_iff.mpr h6
          | exact h7
          | exact Bool.eq_false_iff.mpr h7
          | exact h8
          | exact Bool.eq_false_iff.mpr h8
       ·
        refine T.bool (T_al (bdGood_p000001000000000 m (onlyS m)) Tryz.func10 ?_) (by simp [goodS, h1, h2, h3, h4, h5, h6, h7] <;> omega)
        simp only [All, All_append, bdGood_c]
        and_intros
        all_goals first
         | exact T_only m
         | exact T_mS m (onlyS m) hf
         | exact T_mv m.vote
         | exact T_mc m.cert
         | exact T_upto _ _
         | exact T_mb m.batch
         | exact T_mg m
         | exact T_alE m.news (by decide)
         | exact T_alS m.sig (by decide)
         | (simp [h1, h2, h3, h4, h5, h6, h7]; done)
         | exact h1
         | exact Bool.eq_false_iff.mpr h1
         | exact h2
         | exact Bool.eq_false_iff.mpr h2
         | exact h3
         | exact Bool.eq_false_iff.mpr h3
         | exact h4
         | exact Bool.eq_false_iff.mpr h4
         | exact h5
         | exact Bool.eq_false_iff.mpr h5
         | exact h6
         | exact Bool.eq_false_iff.mpr h6
         | exact h7
         | exact Bool.eq_false_iff.mpr h7
     ·
      by_cases h6 : uptoS m.epoch 1048576 = true
      ·
       by_cases h7 : uptoS m.slot 1099511627776 = true
       ·
        by_cases h8 : uptoS m.view 1099511627776 = true
        ·
         by_cases h9 : uptoS m.leader 64 = true
         ·
          by_cases h10 : mayBatchS m.batch = true
          ·
           by_cases h11 : mayChangeS m = true
           ·
            by_cases h12 : (allS m.nnews 64 fun i => mayEnvS (m.news i)) = true
            ·
             by_cases h13 : (allS m.n 64 fun i => maySignS (m.sig i)) = true
             ·
              refine T.bool (T_al (bdGood_p000000011111111 m (onlyS m)) Tryz.func10 ?_) (by
  have e1 : 1 ≤ m.kind := by omega
  have e2 : m.kind ≤ 8 := by omega
  simp [goodS, e1, e2, h1, h2, h3, h4, h5, h6, h7, h8, h9, h10, h11, h12, h13] <;> omega)
              simp only [All, All_append, bdGood_c]
              and_intros
              all_goals first
               | exact T_only m
               | exact T_mS m (onlyS m) hf
               | exact T_mv m.vote
               | exact T_mc m.cert
               | exact T_upto _ _
               | exact T_mb m.batch
               | exact T_mg m
               | exact T_alE m.news (by decide)
               | exact T_alS m.sig (by decide)
               | (simp [h1, h2, h3, h4, h5, h6, h7, h8, h9, h10, h11, h12, h13]; done)
               | exact h1
               | exact Bool.eq_false_iff.mpr h1
               | exact h2
               | exact Bool.eq_false_iff.mpr h2
               | exact h3
               | exact Bool.eq_false_iff.mpr h3
               | exact h4
               | exact Bool.eq_false_iff.mpr h4
               | exact h5
               | exact Bool.eq_false_iff.mpr h5
               | exact h6
               | exact Bool.eq_false_iff.mpr h6
               | exact h7
               | exact Bool.eq_false_iff.mpr h7
               | exact h8
               | exact Bool.eq_false_iff.mpr h8
               | exact h9
               | exact Bool.eq_false_iff.mpr h9
               | exact h10
               | exact Bool.eq_false_iff.mpr h10
               | exact h11
               | exact Bool.eq_false_iff.mpr h11
               | exact h12
               | exact Bool.eq_false_iff.mpr h12
               | exact h13
               | exact Bool.eq_false_iff.mpr h13
             ·
              refine T.bool (T_al (bdGood_p000000011111110 m (onlyS m)) Tryz.func10 ?_) (by simp [goodS, h1, h2, h3, h4, h5, h6, h7, h8, h9, h10, h11, h12, h13] <;> omega)
              simp only [All, All_append, bdGood_c]
              and_intros
              all_goals first
               | exact T_only m
               | exact T_mS m (onlyS m) hf
               | exact T_mv m.vote
               | exact T_mc m.cert
               | exact T_upto _ _
               | exact T_mb m.batch
               | exact T_mg m
               | exact T_alE m.news (by decide)
               | exact T_alS m.sig (by decide)
               | (simp [h1, h2, h3, h4, h5, h6, h7, h8, h9, h10, h11, h12, h13]; done)
               | exact h1
               | exact Bool.eq_false_iff.mpr h1
               | exact h2
               | exact Bool.eq_false_iff.mpr h2
               | exact h3
               | exact Bool.eq_false_iff.mpr h3
               | exact h4
               | exact Bool.eq_false_iff.mpr h4
               | exact h5
               | exact Bool.eq_false_iff.mpr h5
               | exact h6
               | exact Bool.eq_false_iff.mpr h6
               | exact h7
               | exact Bool.eq_false_iff.mpr h7
               | exact h8
               | exact Bool.eq_false_iff.mpr h8
               | exact h9
               | exact Bool.eq_false_iff.mpr h9
               | exact h10
               | exact Bool.eq_false_iff.mpr h10
               | exact h11
               | exact Bool.eq_false_iff.mpr h11
               | exact h12
               | exact Bool.eq_false_iff.mpr h12
               | exact h13
               | exact Bool.eq_false_iff.mpr h13
            ·
             refine T.bool (T_al (bdGood_p000000011111100 m (onlyS m)) Tryz.func10 ?_) (by simp [goodS, h1, h2, h3, h4, h5, h6, h7, h8, h9, h10, h11, h12] <;> omega)
             simp only [All, All_append, bdGood_c]
             and_intros
             all_goals first
              | exact T_only m
              | exact T_mS m (onlyS m) hf
              | exact T_mv m.vote
              | exact T_mc m.cert
              | exact T_upto _ _
              | exact T_mb m.batch
              | exact T_mg m
              | exact T_alE m.news (by decide)
              | exact T_alS m.sig (by decide)
              | (simp [h1, h2, h3, h4, h5, h6, h7, h8, h9, h10, h11, h12]; done)
              | exact h1
              | exact Bool.eq_false_iff.mpr h1
              | exact h2
              | exact Bool.eq_false_iff.mpr h2
              | exact h3
              | exact Bool.eq_false_iff.mpr h3
              | exact h4
              | exact Bool.eq_false_iff.mpr h4
              | exact h5
              | exact Bool.eq_false_iff.mpr h5
              | exact h6
              | exact Bool.eq_false_iff.mpr h6
              | exact h7
              | exact Bool.eq_false_iff.mpr h7
              | exact h8
              | exact Bool.eq_false_iff.mpr h8
              | exact h9
              | exact Bool.eq_false_iff.mpr h9
              | exact h10
              | exact Bool.eq_false_iff.mpr h10
              | exact h11
              | exact Bool.eq_false_iff.mpr h11
              | exact h12
              | exact Bool.eq_false_iff.mpr h12
           ·
            refine T.bool (T_al (bdGood_p000000011111000 m (onlyS m)) Tryz.func10 ?_) (by simp [goodS, h1, h2, h3, h4, h5, h6, h7, h8, h9, h10, h11] <;> omega)
            simp only [All, All_append, bdGood_c]
            and_intros
            all_goals first
             | exact T_only m
             | exact T_mS m (onlyS m) hf
             | exact T_mv m.vote
             | exact T_mc m.cert
             | exact T_upto _ _
             | exact T_mb m.batch
             | exact T_mg m
             | exact T_alE m.news (by decide)
             | exact T_alS m.sig (by decide)
             | (simp [h1, h2, h3, h4, h5, h6, h7, h8, h9, h10, h11]; done)
             | exact h1
             | exact Bool.eq_false_iff.mpr h1
             | exact h2
             | exact Bool.eq_false_iff.mpr h2
             | exact h3
             | exact Bool.eq_false_iff.mpr h3
             | exact h4
             | exact Bool.eq_false_iff.mpr h4
             | exact h5
             | exact Bool.eq_false_iff.mpr h5
             | exact h6
             | exact Bool.eq_false_iff.mpr h6
             | exact h7
             | exact Bool.eq_false_iff.mpr h7
             | exact h8
             | exact Bool.eq_false_iff.mpr h8
             | exact h9
             | exact Bool.eq_false_iff.mpr h9
             | exact h10
             | exact Bool.eq_false_iff.mpr h10
             | exact h11
             | exact Bool.eq_false_iff.mpr h11
          ·
           refine T.bool (T_al (bdGood_p000000011110000 m (onlyS m)) Tryz.func10 ?_) (by simp [goodS, h1, h2, h3, h4, h5, h6, h7, h8, h9, h10] <;> omega)
           simp only [All, All_append, bdGood_c]
           and_intros
           all_goals first
            | exact T_only m
            | exact T_mS m (onlyS m) hf
            | exact T_mv m.vote
            | exact T_mc m.cert
            | exact T_upto _ _
            | exact T_mb m.batch
            | exact T_mg m
            | exact T_alE m.news (by decide)
            | exact T_alS m.sig (by decide)
            | (simp [h1, h2, h3, h4, h5, h6, h7, h8, h9, h10]; done)
            | exact h1
            | exact Bool.eq_false_iff.mpr h1
            | exact h2
            | exact Bool.eq_false_iff.mpr h2
            | exact h3
            | exact Bool.eq_false_iff.mpr h3
            | exact h4
            | exact Bool.eq_false_iff.mpr h4
            | exact h5
            | exact Bool.eq_false_iff.mpr h5
            | exact h6
            | exact Bool.eq_false_iff.mpr h6
            | exact h7
            | exact Bool.eq_false_iff.mpr h7
            | exact h8
            | exact Bool.eq_false_iff.mpr h8
            | exact h9
            | exact Bool.eq_false_iff.mpr h9
            | exact h10
            | exact Bool.eq_false_iff.mpr h10
         ·
          refine T.bool (T_al (bdGood_p000000011100000 m (onlyS m)) Tryz.func10 ?_) (by simp [goodS, h1, h2, h3, h4, h5, h6, h7, h8, h9] <;> omega)
          simp only [All, All_append, bdGood_c]
          and_intros
          all_goals first
           | exact T_only m
           | exact T_mS m (onlyS m) hf
           | exact T_mv m.vote
           | exact T_mc m.cert
           | exact T_upto _ _
           | exact T_mb m.batch
           | exact T_mg m
           | exact T_alE m.news (by decide)
           | exact T_alS m.sig (by decide)
           | (simp [h1, h2, h3, h4, h5, h6, h7, h8, h9]; done)
           | exact h1
           | exact Bool.eq_false_iff.mpr h1
           | exact h2
           | exact Bool.eq_false_iff.mpr h2
           | exact h3
           | exact Bool.eq_false_iff.mpr h3
           | exact h4
           | exact Bool.eq_false_iff.mpr h4
           | exact h5
           | exact Bool.eq_false_iff.mpr h5
           | exact h6
           | exact Bool.eq_false_iff.mpr h6
           | exact h7
           | exact Bool.eq_false_iff.mpr h7
           | exact h8
           | exact Bool.eq_false_iff.mpr h8
           | exact h9
           | exact Bool.eq_false_iff.mpr h9
        ·
         refine T.bool (T_al (bdGood_p000000011000000 m (onlyS m)) Tryz.func10 ?_) (by simp [goodS, h1, h2, h3, h4, h5, h6, h7, h8] <;> omega)
         simp only [All, All_append, bdGood_c]
         and_intros
         all_goals first
          | exact T_only m
          | exact T_mS m (onlyS m) hf
          | exact T_mv m.vote
          | exact T_mc m.cert
          | exact T_upto _ _
          | exact T_mb m.batch
          | exact T_mg m
          | exact T_alE m.news (by decide)
          | exact T_alS m.sig (by decide)
          | (simp [h1, h2, h3, h4, h5, h6, h7, h8]; done)
          | exact h1
          | exact Bool.eq_false_iff.mpr h1
          | exact h2
          | exact Bool.eq_false_iff.mpr h2
          | exact h3
          | exact Bool.eq_false_iff.mpr h3
          | exact h4
          | exact Bool.eq_false_iff.mpr h4
          | exact h5
          | exact Bool.eq_false_iff.mpr h5
          | exact h6
          | exact Bool.eq_false_iff.mpr h6
          | exact h7
          | exact Bool.eq_false_iff.mpr h7
          | exact h8
          | exact Bool.eq_false_iff.mpr h8
       ·
        refine T.bool (T_al (bdGood_p000000010000000 m (onlyS m)) Tryz.func10 ?_) (by simp [goodS, h1, h2, h3, h4, h5, h6, h7] <;> omega)
        simp only [All, All_append, bdGood_c]
        and_intros
        all_goals first
         | exact T_only m
         | exact T_mS m (onlyS m) hf
         | exact T_mv m.vote
         | exact T_mc m.cert
         | exact T_upto _ _
         | exact T_mb m.batch
         | exact T_mg m
         | exact T_alE m.news (by decide)
         | exact T_alS m.sig (by decide)
         | (simp [h1, h2, h3, h4, h5, h6, h7]; done)
         | exact h1
         | exact Bool.eq_false_iff.mpr h1
         | exact h2
         | exact Bool.eq_false_iff.mpr h2
         | exact h3
         | exact Bool.eq_false_iff.mpr h3
         | exact h4
         | exact Bool.eq_false_iff.mpr h4
         | exact h5
         | exact Bool.eq_false_iff.mpr h5
         | exact h6
         | exact Bool.eq_false_iff.mpr h6
         | exact h7
         | exact Bool.eq_false_iff.mpr h7
      ·
       refine T.bool (T_al (bdGood_p000000000000000 m (onlyS m)) Tryz.func10 ?_) (by simp [goodS, h1, h2, h3, h4, h5, h6] <;> omega)
       simp only [All, All_append, bdGood_c]
       and_intros
       all_goals first
        | exact T_only m
        | exact T_mS m (onlyS m) hf
        | exact T_mv m.vote
        | exact T_mc m.cert
        | exact T_upto _ _
        | exact T_mb m.batch
        | exact T_mg m
        | exact T_alE m.news (by decide)
        | exact T_alS m.sig (by decide)
        | (simp [h1, h2, h3, h4, h5, h6]; done)
        | exact h1
        | exact Bool.eq_false_iff.mpr h1
        | exact h2
        | exact Bool.eq_false_iff.mpr h2
        | exact h3
        | exact Bool.eq_false_iff.mpr h3
        | exact h4
        | exact Bool.eq_false_iff.mpr h4
        | exact h5
        | exact Bool.eq_false_iff.mpr h5
        | exact h6
        | exact Bool.eq_false_iff.mpr h6
end Go.Proofs.YthifjamdfpjilaaGreat
namespace Go.Proofs.YthifjamdfpjilaaGreat
open Go Sy Go.Proofs
def s5I (a b : V) (nt k : Nat) : St := ⟨mkT nt [(0, a), (1, b), (5, .int .i64 k)], [], 0, []⟩
noncomputable def bdS5 (f : Func) (nt : Nat) (db : Nat → List V → Heap → Nat → List Cl) (a b : V) (n m : Nat) : Bd := { f := f, args := [a, b], kb := { db := db, lp := fun _ _ => [(True, .loop (n + 1) (wTo (s5I a b nt 0)) (.exit 0) (s5I a b nt n)), (True, .loop (m + 1) (wTo (s5I a b nt 0)) .ret (smF 4 nt))] } }
noncomputable def pcS5 (f : Func) (nt : Nat) (db : Nat → List V → Heap → Nat → List Cl) (a b : V) (n k : Nat) : Pc := { c := cB (cB (cR (cL (cR (cR (bodyOf f)))))), st := s5I a b nt k, kb := { db := db }, k := fun e _ => match e with
 | .normal => some (wTo (s5I a b nt (k + 1)))
 | .ret => some (wTo (smF 4 nt))
 | _ => some (wTo (s5I a b nt n)) }
noncomputable def bdRs (n n' : Nat) (a b : Nat → SSign) (m : Nat) : Bd := bdS5 Tryz.f71 26 (fun _ _ _ _ => []) (sg n a) (sg n' b) n m
noncomputable def pcRs (n n' : Nat) (a b : Nat → SSign) (k : Nat) : Pc := pcS5 Tryz.f71 26 (fun _ _ _ _ => []) (sg n a) (sg n' b) n k
def r7I (a b : SBatch) (k : Nat) : St := ⟨mkT 38 [(2, .ptr (.o 0) 0 0 0 0), (3, .ptr (.o 1) 0 0 0 0), (5, .int .i64 k)], [(.o 0, .flat a.c), (.o 1, .flat b.c)], 256, []⟩
noncomputable def bdRb (a b : SBatch) (m : Nat) : Bd := { f := Tryz.f68, args := [.agg a.c, .agg b.c], kb := { db := fun _ _ _ _ => [], lp := fun _ _ => [(True, .loop (a.n + 1) (wToS [(.o 1, .o 64)] (r7I a b 0)) (.exit 0) (r7I a b a.n)), (True, .loop (m + 1) (wToS [(.o 1, .o 64)] (r7I a b 0)) .ret (smF 4 38))] } }
noncomputable def pcRb (a b : SBatch) (k : Nat) : Pc := { c := cB (cB (cR (cL (cR (cR (bodyOf Tryz.f68)))))), st := r7I a b k, kb := kb0, k := fun e _ => match e with
 | .normal => some (wTo (r7I a b (k + 1)))
 | .ret => some (wTo (smF 4 38))
 | _ => some (wTo (r7I a b a.n)) }
noncomputable def bdRc (a b : SCert) : Bd := { f := Tryz.f70, args := [.agg a.c, .agg b.c], kb := { db := dbV [(71, .bool (sameL a.n b.n (fun i => signEq (a.sig i) (b.sig i))))] } }
end Go.Proofs.YthifjamdfpjilaaGreat
