/-
  Contracts and laws that the claim's theorem leans on, joined out of the texts Ta8 Ta5D (own work of this seat): Contracts: which messages may be; Contracts: a message's bytes.
-/
import Derived.Test.YthifjamdfpjilaaC05
import Derived.Test.YthifjamdfpjilaaC06
set_option linter.unusedVariables false
set_option linter.unusedSimpArgs false
namespace Go.Proofs.Ythifjamdfpjilaa
open Go Sy Go.Proofs
theorem bdO2_p1 (m : SMsg) :
  along Try.prog (bdO2 m) [true] = (some (.agg [.int .i64 (SMsg.kind m), .int .i64 0, .int .i64 0, .int .i64 0, .int .i64 0, .bool false, rq 0 fun x => SReq.mk (0 : Int) (0 : Int) ByteArray.empty [], .int .i64 (SVote.kind (SMsg.vote m)), .int .i64 (SVote.epoch (SMsg.vote m)), .int .i64 (SVote.view (SMsg.vote m)), .int .i64 (SVote.slot (SMsg.vote m)), .seg .u8 32 (SVote.digest (SMsg.vote m)), .int .i64 0, .int .i64 0, .int .i64 0, hl 0 fun x => SHeld.mk (SBatch.mk false 0 fun x => SReq.mk (0 : Int) (0 : Int) ByteArray.empty []) (SCert.mk (SVote.mk (0 : Int) (0 : Int) (0 : Int) (0 : Int) []) 0 fun x => SSign.mk (0 : Int) []), nw 0 fun x => SEnv.mk (0 : Int) ByteArray.empty [], .seg .u8 32 z32, .int .i64 0, .int .i64 0, .int .i64 0, .int .i64 0, .seg .u8 32 z32, sg 0 fun x => SSign.mk (0 : Int) [], .str ByteArray.empty, sg 0 fun x => SSign.mk (0 : Int) []], [], [decide (SMsg.kind m = (2 : Int)) = true, q (SMsg.kind m), q1, q1, q1, q1, q false, q0, q (SVote.kind (SMsg.vote m)), q (SVote.epoch (SMsg.vote m)), q (SVote.view (SMsg.vote m)), q (SVote.slot (SMsg.vote m)), q (32 : Nat), q (SVote.digest (SMsg.vote m)), q1, q1, q1, q0, q0, q (32 : Nat), q z32, q1, q1, q1, q1, q (32 : Nat), q z32, q0, q ByteArray.empty, q0, q0, q0, q0]) : Option (V × Heap × List Prop)) := by kernel_rfl

theorem bdO3_p01 (m : SMsg) :
  along Try.prog (bdO3 m) [false, true] = (some (.agg [.int .i64 (SMsg.kind m), .int .i64 0, .int .i64 0, .int .i64 0, .int .i64 0, .bool false, rq 0 fun x => SReq.mk (0 : Int) (0 : Int) ByteArray.empty [], .int .i64 0, .int .i64 0, .int .i64 0, .int .i64 0, .seg .u8 32 z32, .int .i64 (SMsg.cepoch m), .int .i64 (SMsg.cleader m), .int .i64 (SMsg.cview m), hl (SMsg.nheld m) (SMsg.held m), nw 0 fun x => SEnv.mk (0 : Int) ByteArray.empty [], .seg .u8 32 z32, .int .i64 0, .int .i64 0, .int .i64 0, .int .i64 0, .seg .u8 32 z32, sg 0 fun x => SSign.mk (0 : Int) [], .str ByteArray.empty, sg 0 fun x => SSign.mk (0 : Int) []], [], [decide (SMsg.kind m = (2 : Int)) = false, decide (SMsg.kind m = (3 : Int)) = true, q (SMsg.kind m), q1, q1, q1, q1, q false, q0, q1, q1, q1, q1, q (32 : Nat), q z32, q (SMsg.cepoch m), q (SMsg.cleader m), q (SMsg.cview m), q (SMsg.nheld m), ∀ (k : Nat), k < SMsg.nheld m → SHeld.c (SMsg.held m k) = SHeld.c (SMsg.held (SMsg.mk (SMsg.kind m) (0 : Int) (0 : Int) (0 : Int) (0 : Int) (SBatch.mk false (0 : Nat) fun x => SReq.mk (0 : Int) (0 : Int) ByteArray.empty []) vote0 (SMsg.cepoch m) (SMsg.cleader m) (SMsg.cview m) (SMsg.nheld m) (SMsg.held m) (0 : Nat) (fun x => SEnv.mk (0 : Int) ByteArray.empty []) z32 (SCert.mk vote0 (0 : Nat) fun x => SSign.mk (0 : Int) []) ByteArray.empty (0 : Nat) fun x => SSign.mk (0 : Int) []) k), false = true → false = true, q0, q (32 : Nat), q z32, q1, q1, q1, q1, q (32 : Nat), q z32, q0, q ByteArray.empty, q0, q0, q0, q0]) : Option (V × Heap × List Prop)) := by kernel_rfl

theorem bdO4_p001 (m : SMsg) :
  along Try.prog (bdO4 m) [false, false, true] = (some (.agg [.int .i64 (SMsg.kind m), .int .i64 (SMsg.epoch m), .int .i64 (SMsg.leader m), .int .i64 (SMsg.view m), .int .i64 0, .bool false, rq 0 fun x => SReq.mk (0 : Int) (0 : Int) ByteArray.empty [], .int .i64 0, .int .i64 0, .int .i64 0, .int .i64 0, .seg .u8 32 z32, .int .i64 0, .int .i64 0, .int .i64 0, hl 0 fun x => SHeld.mk (SBatch.mk false 0 fun x => SReq.mk (0 : Int) (0 : Int) ByteArray.empty []) (SCert.mk (SVote.mk (0 : Int) (0 : Int) (0 : Int) (0 : Int) []) 0 fun x => SSign.mk (0 : Int) []), nw (SMsg.nnews m) (SMsg.news m), .seg .u8 32 z32, .int .i64 0, .int .i64 0, .int .i64 0, .int .i64 0, .seg .u8 32 z32, sg 0 fun x => SSign.mk (0 : Int) [], .str ByteArray.empty, sg 0 fun x => SSign.mk (0 : Int) []], [], [decide (SMsg.kind m = (2 : Int)) = false, decide (SMsg.kind m = (3 : Int)) = false, decide (SMsg.kind m = (4 : Int)) = true, q (SMsg.kind m), q (SMsg.epoch m), q (SMsg.leader m), q (SMsg.view m), q1, q false, q0, q1, q1, q1, q1, q (32 : Nat), q z32, q1, q1, q1, q0, q (SMsg.nnews m), ∀ (k : Nat), k < SMsg.nnews m → SEnv.c (SMsg.news m k) = SEnv.c (SMsg.news (SMsg.mk (SMsg.kind m) (SMsg.epoch m) (SMsg.leader m) (SMsg.view m) (0 : Int) (SBatch.mk false (0 : Nat) fun x => SReq.mk (0 : Int) (0 : Int) ByteArray.empty []) vote0 (0 : Int) (0 : Int) (0 : Int) (0 : Nat) (fun x => SHeld.mk (SBatch.mk false (0 : Nat) fun x => SReq.mk (0 : Int) (0 : Int) ByteArray.empty []) (SCert.mk (SVote.mk (0 : Int) (0 : Int) (0 : Int) (0 : Int) []) (0 : Nat) fun x => SSign.mk (0 : Int) [])) (SMsg.nnews m) (SMsg.news m) z32 (SCert.mk vote0 (0 : Nat) fun x => SSign.mk (0 : Int) []) ByteArray.empty (0 : Nat) fun x => SSign.mk (0 : Int) []) k), false = true → false = true, q (32 : Nat), q z32, q1, q1, q1, q1, q (32 : Nat), q z32, q0, q ByteArray.empty, q0, q0, q0, q0]) : Option (V × Heap × List Prop)) := by kernel_rfl

theorem bdO5_p0001 (m : SMsg) :
  along Try.prog (bdO5 m) [false, false, false, true] = (some (.agg [.int .i64 (SMsg.kind m), .int .i64 (SMsg.epoch m), .int .i64 0, .int .i64 0, .int .i64 0, .bool false, rq 0 fun x => SReq.mk (0 : Int) (0 : Int) ByteArray.empty [], .int .i64 0, .int .i64 0, .int .i64 0, .int .i64 0, .seg .u8 32 z32, .int .i64 0, .int .i64 0, .int .i64 0, hl 0 fun x => SHeld.mk (SBatch.mk false 0 fun x => SReq.mk (0 : Int) (0 : Int) ByteArray.empty []) (SCert.mk (SVote.mk (0 : Int) (0 : Int) (0 : Int) (0 : Int) []) 0 fun x => SSign.mk (0 : Int) []), nw 0 fun x => SEnv.mk (0 : Int) ByteArray.empty [], .seg .u8 32 (SMsg.digest m), .int .i64 0, .int .i64 0, .int .i64 0, .int .i64 0, .seg .u8 32 z32, sg 0 fun x => SSign.mk (0 : Int) [], .str ByteArray.empty, sg 0 fun x => SSign.mk (0 : Int) []], [], [decide (SMsg.kind m = (2 : Int)) = false, decide (SMsg.kind m = (3 : Int)) = false, decide (SMsg.kind m = (4 : Int)) = false, decide (SMsg.kind m = (5 : Int)) = true, q (SMsg.kind m), q (SMsg.epoch m), q1, q1, q1, q false, q0, q1, q1, q1, q1, q (32 : Nat), q z32, q1, q1, q1, q0, q0, q (32 : Nat), q (SMsg.digest m), q1, q1, q1, q1, q (32 : Nat), q z32, q0, q ByteArray.empty, q0, q0, q0, q0]) : Option (V × Heap × List Prop)) := by kernel_rfl

theorem bdO1_p00001 (m : SMsg) :
  along Try.prog (bdO1 m) [false, false, false, false, true] = (some (.agg [.int .i64 (SMsg.kind m), .int .i64 (SMsg.epoch m), .int .i64 0, .int .i64 0, .int .i64 (SMsg.slot m), .bool (SBatch.noop (SMsg.batch m)), rq (SBatch.n (SMsg.batch m)) (SBatch.req (SMsg.batch m)), .int .i64 0, .int .i64 0, .int .i64 0, .int .i64 0, .seg .u8 32 z32, .int .i64 0, .int .i64 0, .int .i64 0, hl 0 fun x => SHeld.mk (SBatch.mk false 0 fun x => SReq.mk (0 : Int) (0 : Int) ByteArray.empty []) (SCert.mk (SVote.mk (0 : Int) (0 : Int) (0 : Int) (0 : Int) []) 0 fun x => SSign.mk (0 : Int) []), nw 0 fun x => SEnv.mk (0 : Int) ByteArray.empty [], .seg .u8 32 z32, .int .i64 0, .int .i64 0, .int .i64 0, .int .i64 0, .seg .u8 32 z32, sg 0 fun x => SSign.mk (0 : Int) [], .str ByteArray.empty, sg 0 fun x => SSign.mk (0 : Int) []], [], [decide (SMsg.kind m = (2 : Int)) = false, decide (SMsg.kind m = (3 : Int)) = false, decide (SMsg.kind m = (4 : Int)) = false, decide (SMsg.kind m = (5 : Int)) = false, decide (SMsg.kind m = (1 : Int)) = true, q (SMsg.kind m), q (SMsg.epoch m), q1, q1, q (SMsg.slot m), q (SBatch.noop (SMsg.batch m)), q (SBatch.n (SMsg.batch m)), ∀ (k : Nat), k < SBatch.n (SMsg.batch m) → SReq.c (SBatch.req (SMsg.batch m) k) = SReq.c (SBatch.req (SMsg.batch m) k), false = true → false = true, q1, q1, q1, q1, q (32 : Nat), q z32, q1, q1, q1, q0, q0, q (32 : Nat), q z32, q1, q1, q1, q1, q (32 : Nat), q z32, q0, q ByteArray.empty, q0, q0, q0, q0]) : Option (V × Heap × List Prop)) := by kernel_rfl

theorem bdO6_p000001 (m : SMsg) :
  along Try.prog (bdO6 m) [false, false, false, false, false, true] = (some (.agg [.int .i64 (SMsg.kind m), .int .i64 (SMsg.epoch m), .int .i64 0, .int .i64 0, .int .i64 (SMsg.slot m), .bool false, rq 0 fun x => SReq.mk (0 : Int) (0 : Int) ByteArray.empty [], .int .i64 0, .int .i64 0, .int .i64 0, .int .i64 0, .seg .u8 32 z32, .int .i64 0, .int .i64 0, .int .i64 0, hl 0 fun x => SHeld.mk (SBatch.mk false 0 fun x => SReq.mk (0 : Int) (0 : Int) ByteArray.empty []) (SCert.mk (SVote.mk (0 : Int) (0 : Int) (0 : Int) (0 : Int) []) 0 fun x => SSign.mk (0 : Int) []), nw 0 fun x => SEnv.mk (0 : Int) ByteArray.empty [], .seg .u8 32 z32, .int .i64 0, .int .i64 0, .int .i64 0, .int .i64 0, .seg .u8 32 z32, sg 0 fun x => SSign.mk (0 : Int) [], .str ByteArray.empty, sg 0 fun x => SSign.mk (0 : Int) []], [], [decide (SMsg.kind m = (2 : Int)) = false, decide (SMsg.kind m = (3 : Int)) = false, decide (SMsg.kind m = (4 : Int)) = false, decide (SMsg.kind m = (5 : Int)) = false, decide (SMsg.kind m = (1 : Int)) = false, decide (SMsg.kind m = (6 : Int)) = true, q (SMsg.kind m), q (SMsg.epoch m), q1, q1, q (SMsg.slot m), q false, q0, q1, q1, q1, q1, q (32 : Nat), q z32, q1, q1, q1, q0, q0, q (32 : Nat), q z32, q1, q1, q1, q1, q (32 : Nat), q z32, q0, q ByteArray.empty, q0, q0, q0, q0]) : Option (V × Heap × List Prop)) := by kernel_rfl

theorem bdO7_p0000001 (m : SMsg) :
  along Try.prog (bdO7 m) [false, false, false, false, false, false, true] = (some (.agg [.int .i64 (SMsg.kind m), .int .i64 0, .int .i64 0, .int .i64 0, .int .i64 0, .bool (SBatch.noop (SMsg.batch m)), rq (SBatch.n (SMsg.batch m)) (SBatch.req (SMsg.batch m)), .int .i64 0, .int .i64 0, .int .i64 0, .int .i64 0, .seg .u8 32 z32, .int .i64 0, .int .i64 0, .int .i64 0, hl 0 fun x => SHeld.mk (SBatch.mk false 0 fun x => SReq.mk (0 : Int) (0 : Int) ByteArray.empty []) (SCert.mk (SVote.mk (0 : Int) (0 : Int) (0 : Int) (0 : Int) []) 0 fun x => SSign.mk (0 : Int) []), nw 0 fun x => SEnv.mk (0 : Int) ByteArray.empty [], .seg .u8 32 z32, .int .i64 (SVote.kind (SCert.vote (SMsg.cert m))), .int .i64 (SVote.epoch (SCert.vote (SMsg.cert m))), .int .i64 (SVote.view (SCert.vote (SMsg.cert m))), .int .i64 (SVote.slot (SCert.vote (SMsg.cert m))), .seg .u8 32 (SVote.digest (SCert.vote (SMsg.cert m))), sg (SCert.n (SMsg.cert m)) (SCert.sig (SMsg.cert m)), .str ByteArray.empty, sg 0 fun x => SSign.mk (0 : Int) []], [], [decide (SMsg.kind m = (2 : Int)) = false, decide (SMsg.kind m = (3 : Int)) = false, decide (SMsg.kind m = (4 : Int)) = false, decide (SMsg.kind m = (5 : Int)) = false, decide (SMsg.kind m = (1 : Int)) = false, decide (SMsg.kind m = (6 : Int)) = false, decide (SMsg.kind m = (7 : Int)) = true, q (SMsg.kind m), q1, q1, q1, q1, q (SBatch.noop (SMsg.batch m)), q (SBatch.n (SMsg.batch m)), ∀ (k : Nat), k < SBatch.n (SMsg.batch m) → SReq.c (SBatch.req (SMsg.batch m) k) = SReq.c (SBatch.req (SMsg.batch m) k), false = true → false = true, q1, q1, q1, q1, q (32 : Nat), q z32, q1, q1, q1, q0, q0, q (32 : Nat), q z32, q (SVote.kind (SCert.vote (SMsg.cert m))), q (SVote.epoch (SCert.vote (SMsg.cert m))), q (SVote.view (SCert.vote (SMsg.cert m))), q (SVote.slot (SCert.vote (SMsg.cert m))), q (32 : Nat), q (SVote.digest (SCert.vote (SMsg.cert m))), q (SCert.n (SMsg.cert m)), ∀ (k : Nat), k < SCert.n (SMsg.cert m) → SSign.c (SCert.sig (SMsg.cert m) k) = SSign.c (SCert.sig (SMsg.cert m) k), false = true → false = true, q ByteArray.empty, q0, q0, q0, q0]) : Option (V × Heap × List Prop)) := by kernel_rfl

theorem bdO8_p00000001 (m : SMsg) :
  along Try.prog (bdO8 m) [false, false, false, false, false, false, false, true] = (some (.agg [.int .i64 (SMsg.kind m), .int .i64 0, .int .i64 0, .int .i64 0, .int .i64 0, .bool false, rq 0 fun x => SReq.mk (0 : Int) (0 : Int) ByteArray.empty [], .int .i64 0, .int .i64 0, .int .i64 0, .int .i64 0, .seg .u8 32 z32, .int .i64 0, .int .i64 0, .int .i64 0, hl 0 fun x => SHeld.mk (SBatch.mk false 0 fun x => SReq.mk (0 : Int) (0 : Int) ByteArray.empty []) (SCert.mk (SVote.mk (0 : Int) (0 : Int) (0 : Int) (0 : Int) []) 0 fun x => SSign.mk (0 : Int) []), nw 0 fun x => SEnv.mk (0 : Int) ByteArray.empty [], .seg .u8 32 z32, .int .i64 0, .int .i64 0, .int .i64 0, .int .i64 0, .seg .u8 32 z32, sg 0 fun x => SSign.mk (0 : Int) [], .str (SMsg.state m), sg (SMsg.n m) (SMsg.sig m)], [], [decide (SMsg.kind m = (2 : Int)) = false, decide (SMsg.kind m = (3 : Int)) = false, decide (SMsg.kind m = (4 : Int)) = false, decide (SMsg.kind m = (5 : Int)) = false, decide (SMsg.kind m = (1 : Int)) = false, decide (SMsg.kind m = (6 : Int)) = false, decide (SMsg.kind m = (7 : Int)) = false, decide (SMsg.kind m = (8 : Int)) = true, q (SMsg.kind m), q1, q1, q1, q1, q false, q0, q1, q1, q1, q1, q (32 : Nat), q z32, q1, q1, q1, q0, q0, q (32 : Nat), q z32, q1, q1, q1, q1, q (32 : Nat), q z32, q0, q (SMsg.state m), q (SMsg.n m), ∀ (k : Nat), k < SMsg.n m → SSign.c (SMsg.sig m k) = SSign.c (SMsg.sig (SMsg.mk (SMsg.kind m) (0 : Int) (0 : Int) (0 : Int) (0 : Int) (SBatch.mk false (0 : Nat) fun x => SReq.mk (0 : Int) (0 : Int) ByteArray.empty []) vote0 (0 : Int) (0 : Int) (0 : Int) (0 : Nat) (fun x => SHeld.mk (SBatch.mk false (0 : Nat) fun x => SReq.mk (0 : Int) (0 : Int) ByteArray.empty []) (SCert.mk (SVote.mk (0 : Int) (0 : Int) (0 : Int) (0 : Int) []) (0 : Nat) fun x => SSign.mk (0 : Int) [])) (0 : Nat) (fun x => SEnv.mk (0 : Int) ByteArray.empty []) z32 (SCert.mk vote0 (0 : Nat) fun x => SSign.mk (0 : Int) []) (SMsg.state m) (SMsg.n m) (SMsg.sig m)) k), false = true → false = true, q0, q0, q0]) : Option (V × Heap × List Prop)) := by kernel_rfl

theorem bdO9_p00000000 (m : SMsg) :
  along Try.prog (bdO9 m) [false, false, false, false, false, false, false, false] = (some (.agg [.int .i64 (SMsg.kind m), .int .i64 0, .int .i64 0, .int .i64 0, .int .i64 0, .bool false, rq 0 fun x => SReq.mk (0 : Int) (0 : Int) ByteArray.empty [], .int .i64 0, .int .i64 0, .int .i64 0, .int .i64 0, .seg .u8 32 z32, .int .i64 0, .int .i64 0, .int .i64 0, hl 0 fun x => SHeld.mk (SBatch.mk false 0 fun x => SReq.mk (0 : Int) (0 : Int) ByteArray.empty []) (SCert.mk (SVote.mk (0 : Int) (0 : Int) (0 : Int) (0 : Int) []) 0 fun x => SSign.mk (0 : Int) []), nw 0 fun x => SEnv.mk (0 : Int) ByteArray.empty [], .seg .u8 32 z32, .int .i64 0, .int .i64 0, .int .i64 0, .int .i64 0, .seg .u8 32 z32, sg 0 fun x => SSign.mk (0 : Int) [], .str ByteArray.empty, sg 0 fun x => SSign.mk (0 : Int) []], [], [decide (SMsg.kind m = (2 : Int)) = false, decide (SMsg.kind m = (3 : Int)) = false, decide (SMsg.kind m = (4 : Int)) = false, decide (SMsg.kind m = (5 : Int)) = false, decide (SMsg.kind m = (1 : Int)) = false, decide (SMsg.kind m = (6 : Int)) = false, decide (SMsg.kind m = (7 : Int)) = false, decide (SMsg.kind m = (8 : Int)) = false, q (SMsg.kind m), q1, q1, q1, q1, q false, q0, q1, q1, q1, q1, q (32 : Nat), q z32, q1, q1, q1, q0, q0, q (32 : Nat), q z32, q1, q1, q1, q1, q (32 : Nat), q z32, q0, q ByteArray.empty, q0, q0, q0, q0]) : Option (V × Heap × List Prop)) := by kernel_rfl

theorem bdGood_p111 (m : SMsg) (o : SMsg) :
  along Try.prog (bdGood m o) [true, true, true] = (some (.bool false, [], [decide (SMsg.kind m < (1 : Int)) = true, q2, q2]) : Option (V × Heap × List Prop)) := by kernel_rfl

theorem bdGood_p011 (m : SMsg) (o : SMsg) :
  along Try.prog (bdGood m o) [false, true, true] = (some (.bool false, [], [decide (SMsg.kind m < (1 : Int)) = false, decide ((8 : Int) < SMsg.kind m) = true, q2]) : Option (V × Heap × List Prop)) := by kernel_rfl

theorem bdGood_p001 (m : SMsg) (o : SMsg) :
  along Try.prog (bdGood m o) [false, false, true] = (some (.bool false, [], [decide (SMsg.kind m < (1 : Int)) = false, decide ((8 : Int) < SMsg.kind m) = false, T Try.prog 72 [.agg (SMsg.c m)] [] (.agg (SMsg.c o)) [], T Try.prog 71 [.agg (SMsg.c m), .agg (SMsg.c o)] [] (.bool (sameMsgS m o)) [], (!sameMsgS m o) = true]) : Option (V × Heap × List Prop)) := by kernel_rfl

theorem bdGood_p000111 (m : SMsg) (o : SMsg) :
  along Try.prog (bdGood m o) [false, false, false, true, true, true] = (some (.bool false, [], [decide (SMsg.kind m < (1 : Int)) = false, decide ((8 : Int) < SMsg.kind m) = false, T Try.prog 72 [.agg (SMsg.c m)] [] (.agg (SMsg.c o)) [], T Try.prog 71 [.agg (SMsg.c m), .agg (SMsg.c o)] [] (.bool (sameMsgS m o)) [], (!sameMsgS m o) = false, decide (SMsg.kind m = (2 : Int)) = true, T Try.prog 73 [.agg (SVote.c (SMsg.vote m))] [] (.bool (mayVoteS (SMsg.vote m))) [], (!mayVoteS (SMsg.vote m)) = true, q2]) : Option (V × Heap × List Prop)) := by kernel_rfl

theorem bdGood_p0000011 (m : SMsg) (o : SMsg) :
  along Try.prog (bdGood m o) [false, false, false, false, false, true, true] = (some (.bool false, [], [decide (SMsg.kind m < (1 : Int)) = false, decide ((8 : Int) < SMsg.kind m) = false, T Try.prog 72 [.agg (SMsg.c m)] [] (.agg (SMsg.c o)) [], T Try.prog 71 [.agg (SMsg.c m), .agg (SMsg.c o)] [] (.bool (sameMsgS m o)) [], (!sameMsgS m o) = false, decide (SMsg.kind m = (2 : Int)) = false, q false, decide (SMsg.kind m = (7 : Int)) = true, T Try.prog 74 [.agg [.int .i64 (SVote.kind (SCert.vote (SMsg.cert m))), .int .i64 (SVote.epoch (SCert.vote (SMsg.cert m))), .int .i64 (SVote.view (SCert.vote (SMsg.cert m))), .int .i64 (SVote.slot (SCert.vote (SMsg.cert m))), .seg .u8 32 (SVote.digest (SCert.vote (SMsg.cert m))), sg (SCert.n (SMsg.cert m)) (SCert.sig (SMsg.cert m))]] [] (.bool (mayCertS (SMsg.cert m))) [], (!mayCertS (SMsg.cert m)) = true]) : Option (V × Heap × List Prop)) := by kernel_rfl

theorem bdGood_p000100000000000 (m : SMsg) (o : SMsg) :
  along Try.prog (bdGood m o) [false, false, false, true, false, false, false, false, false, false, false, false, false, false, false] = (some (.bool false, [], [decide (SMsg.kind m < (1 : Int)) = false, decide ((8 : Int) < SMsg.kind m) = false, T Try.prog 72 [.agg (SMsg.c m)] [] (.agg (SMsg.c o)) [], T Try.prog 71 [.agg (SMsg.c m), .agg (SMsg.c o)] [] (.bool (sameMsgS m o)) [], (!sameMsgS m o) = false, decide (SMsg.kind m = (2 : Int)) = true, T Try.prog 73 [.agg (SVote.c (SMsg.vote m))] [] (.bool (mayVoteS (SMsg.vote m))) [], (!mayVoteS (SMsg.vote m)) = false, decide (SMsg.kind m = (7 : Int)) = false, q false, T Try.prog 75 [.int .i64 (SMsg.epoch m), .int .i64 1048576] [] (.bool (uptoS (SMsg.epoch m) (1048576 : Int))) [], uptoS (SMsg.epoch m) (1048576 : Int) = false, q false, q false, q false, q false, q false, q false, q false]) : Option (V × Heap × List Prop)) := by kernel_rfl

theorem bdGood_p000100010000000 (m : SMsg) (o : SMsg) :
  along Try.prog (bdGood m o) [false, false, false, true, false, false, false, true, false, false, false, false, false, false, false] = (some (.bool false, [], [decide (SMsg.kind m < (1 : Int)) = false, decide ((8 : Int) < SMsg.kind m) = false, T Try.prog 72 [.agg (SMsg.c m)] [] (.agg (SMsg.c o)) [], T Try.prog 71 [.agg (SMsg.c m), .agg (SMsg.c o)] [] (.bool (sameMsgS m o)) [], (!sameMsgS m o) = false, decide (SMsg.kind m = (2 : Int)) = true, T Try.prog 73 [.agg (SVote.c (SMsg.vote m))] [] (.bool (mayVoteS (SMsg.vote m))) [], (!mayVoteS (SMsg.vote m)) = false, decide (SMsg.kind m = (7 : Int)) = false, q false, T Try.prog 75 [.int .i64 (SMsg.epoch m), .int .i64 1048576] [] (.bool (uptoS (SMsg.epoch m) (1048576 : Int))) [], uptoS (SMsg.epoch m) (1048576 : Int) = true, T Try.prog 75 [.int .i64 (SMsg.slot m), .int .i64 1099511627776] [] (.bool (uptoS (SMsg.slot m) (1099511627776 : Int))) [], uptoS (SMsg.slot m) (1099511627776 : Int) = false, q false, q false, q false, q false, q false, q false]) : Option (V × Heap × List Prop)) := by kernel_rfl

theorem bdGood_p000100011000000 (m : SMsg) (o : SMsg) :
  along Try.prog (bdGood m o) [false, false, false, true, false, false, false, true, true, false, false, false, false, false, false] = (some (.bool false, [], [decide (SMsg.kind m < (1 : Int)) = false, decide ((8 : Int) < SMsg.kind m) = false, T Try.prog 72 [.agg (SMsg.c m)] [] (.agg (SMsg.c o)) [], T Try.prog 71 [.agg (SMsg.c m), .agg (SMsg.c o)] [] (.bool (sameMsgS m o)) [], (!sameMsgS m o) = false, decide (SMsg.kind m = (2 : Int)) = true, T Try.prog 73 [.agg (SVote.c (SMsg.vote m))] [] (.bool (mayVoteS (SMsg.vote m))) [], (!mayVoteS (SMsg.vote m)) = false, decide (SMsg.kind m = (7 : Int)) = false, q false, T Try.prog 75 [.int .i64 (SMsg.epoch m), .int .i64 1048576] [] (.bool (uptoS (SMsg.epoch m) (1048576 : Int))) [], uptoS (SMsg.epoch m) (1048576 : Int) = true, T Try.prog 75 [.int .i64 (SMsg.slot m), .int .i64 1099511627776] [] (.bool (uptoS (SMsg.slot m) (1099511627776 : Int))) [], uptoS (SMsg.slot m) (1099511627776 : Int) = true, T Try.prog 75 [.int .i64 (SMsg.view m), .int .i64 1099511627776] [] (.bool (uptoS (SMsg.view m) (1099511627776 : Int))) [], uptoS (SMsg.view m) (1099511627776 : Int) = false, q false, q false, q false, q false, q false]) : Option (V × Heap × List Prop)) := by kernel_rfl

theorem bdGood_p000100011100000 (m : SMsg) (o : SMsg) :
  along Try.prog (bdGood m o) [false, false, false, true, false, false, false, true, true, true, false, false, false, false, false] = (some (.bool false, [], [decide (SMsg.kind m < (1 : Int)) = false, decide ((8 : Int) < SMsg.kind m) = false, T Try.prog 72 [.agg (SMsg.c m)] [] (.agg (SMsg.c o)) [], T Try.prog 71 [.agg (SMsg.c m), .agg (SMsg.c o)] [] (.bool (sameMsgS m o)) [], (!sameMsgS m o) = false, decide (SMsg.kind m = (2 : Int)) = true, T Try.prog 73 [.agg (SVote.c (SMsg.vote m))] [] (.bool (mayVoteS (SMsg.vote m))) [], (!mayVoteS (SMsg.vote m)) = false, decide (SMsg.kind m = (7 : Int)) = false, q false, T Try.prog 75 [.int .i64 (SMsg.epoch m), .int .i64 1048576] [] (.bool (uptoS (SMsg.epoch m) (1048576 : Int))) [], uptoS (SMsg.epoch m) (1048576 : Int) = true, T Try.prog 75 [.int .i64 (SMsg.slot m), .int .i64 1099511627776] [] (.bool (uptoS (SMsg.slot m) (1099511627776 : Int))) [], uptoS (SMsg.slot m) (1099511627776 : Int) = true, T Try.prog 75 [.int .i64 (SMsg.view m), .int .i64 1099511627776] [] (.bool (uptoS (SMsg.view m) (1099511627776 : Int))) [], uptoS (SMsg.view m) (1099511627776 : Int) = true, T Try.prog 75 [.int .i64 (SMsg.leader m), .int .i64 64] [] (.bool (uptoS (SMsg.leader m) (64 : Int))) [], uptoS (SMsg.leader m) (64 : Int) = false, q false, q false, q false, q false]) : Option (V × Heap × List Prop)) := by kernel_rfl

theorem bdGood_p000100011110000 (m : SMsg) (o : SMsg) :
  along Try.prog (bdGood m o) [false, false, false, true, false, false, false, true, true, true, true, false, false, false, false] = (some (.bool false, [], [decide (SMsg.kind m < (1 : Int)) = false, decide ((8 : Int) < SMsg.kind m) = false, T Try.prog 72 [.agg (SMsg.c m)] [] (.agg (SMsg.c o)) [], T Try.prog 71 [.agg (SMsg.c m), .agg (SMsg.c o)] [] (.bool (sameMsgS m o)) [], (!sameMsgS m o) = false, decide (SMsg.kind m = (2 : Int)) = true, T Try.prog 73 [.agg (SVote.c (SMsg.vote m))] [] (.bool (mayVoteS (SMsg.vote m))) [], (!mayVoteS (SMsg.vote m)) = false, decide (SMsg.kind m = (7 : Int)) = false, q false, T Try.prog 75 [.int .i64 (SMsg.epoch m), .int .i64 1048576] [] (.bool (uptoS (SMsg.epoch m) (1048576 : Int))) [], uptoS (SMsg.epoch m) (1048576 : Int) = true, T Try.prog 75 [.int .i64 (SMsg.slot m), .int .i64 1099511627776] [] (.bool (uptoS (SMsg.slot m) (1099511627776 : Int))) [], uptoS (SMsg.slot m) (1099511627776 : Int) = true, T Try.prog 75 [.int .i64 (SMsg.view m), .int .i64 1099511627776] [] (.bool (uptoS (SMsg.view m) (1099511627776 : Int))) [], uptoS (SMsg.view m) (1099511627776 : Int) = true, T Try.prog 75 [.int .i64 (SMsg.leader m), .int .i64 64] [] (.bool (uptoS (SMsg.leader m) (64 : Int))) [], uptoS (SMsg.leader m) (64 : Int) = true, T Try.prog 76 [.agg (SBatch.c (SMsg.batch m))] [] (.bool (mayBatchS (SMsg.batch m))) [], mayBatchS (SMsg.batch m) = false, q false, q false, q false]) : Option (V × Heap × List Prop)) := by kernel_rfl

theorem bdGood_p000100011111000 (m : SMsg) (o : SMsg) :
  along Try.prog (bdGood m o) [false, false, false, true, false, false, false, true, true, true, true, true, false, false, false] = (some (.bool false, [], [decide (SMsg.kind m < (1 : Int)) = false, decide ((8 : Int) < SMsg.kind m) = false, T Try.prog 72 [.agg (SMsg.c m)] [] (.agg (SMsg.c o)) [], T Try.prog 71 [.agg (SMsg.c m), .agg (SMsg.c o)] [] (.bool (sameMsgS m o)) [], (!sameMsgS m o) = false, decide (SMsg.kind m = (2 : Int)) = true, T Try.prog 73 [.agg (SVote.c (SMsg.vote m))] [] (.bool (mayVoteS (SMsg.vote m))) [], (!mayVoteS (SMsg.vote m)) = false, decide (SMsg.kind m = (7 : Int)) = false, q false, T Try.prog 75 [.int .i64 (SMsg.epoch m), .int .i64 1048576] [] (.bool (uptoS (SMsg.epoch m) (1048576 : Int))) [], uptoS (SMsg.epoch m) (1048576 : Int) = true, T Try.prog 75 [.int .i64 (SMsg.slot m), .int .i64 1099511627776] [] (.bool (uptoS (SMsg.slot m) (1099511627776 : Int))) [], uptoS (SMsg.slot m) (1099511627776 : Int) = true, T Try.prog 75 [.int .i64 (SMsg.view m), .int .i64 1099511627776] [] (.bool (uptoS (SMsg.view m) (1099511627776 : Int))) [], uptoS (SMsg.view m) (1099511627776 : Int) = true, T Try.prog 75 [.int .i64 (SMsg.leader m), .int .i64 64] [] (.bool (uptoS (SMsg.leader m) (64 : Int))) [], uptoS (SMsg.leader m) (64 : Int) = true, T Try.prog 76 [.agg (SBatch.c (SMsg.batch m))] [] (.bool (mayBatchS (SMsg.batch m))) [], mayBatchS (SMsg.batch m) = true, T Try.prog 77 [.agg [.int .i64 (SMsg.cepoch m), .int .i64 (SMsg.cleader m), .int .i64 (SMsg.cview m), hl (SMsg.nheld m) (SMsg.held m)]] [] (.bool (mayChangeS m)) [], mayChangeS m = false, q false, q false]) : Option (V × Heap × List Prop)) := by kernel_rfl

theorem bdGood_p000100011111100 (m : SMsg) (o : SMsg) :
  along Try.prog (bdGood m o) [false, false, false, true, false, false, false, true, true, true, true, true, true, false, false] = (some (.bool false, [], [decide (SMsg.kind m < (1 : Int)) = false, decide ((8 : Int) < SMsg.kind m) = false, T Try.prog 72 [.agg (SMsg.c m)] [] (.agg (SMsg.c o)) [], T Try.prog 71 [.agg (SMsg.c m), .agg (SMsg.c o)] [] (.bool (sameMsgS m o)) [], (!sameMsgS m o) = false, decide (SMsg.kind m = (2 : Int)) = true, T Try.prog 73 [.agg (SVote.c (SMsg.vote m))] [] (.bool (mayVoteS (SMsg.vote m))) [], (!mayVoteS (SMsg.vote m)) = false, decide (SMsg.kind m = (7 : Int)) = false, q false, T Try.prog 75 [.int .i64 (SMsg.epoch m), .int .i64 1048576] [] (.bool (uptoS (SMsg.epoch m) (1048576 : Int))) [], uptoS (SMsg.epoch m) (1048576 : Int) = true, T Try.prog 75 [.int .i64 (SMsg.slot m), .int .i64 1099511627776] [] (.bool (uptoS (SMsg.slot m) (1099511627776 : Int))) [], uptoS (SMsg.slot m) (1099511627776 : Int) = true, T Try.prog 75 [.int .i64 (SMsg.view m), .int .i64 1099511627776] [] (.bool (uptoS (SMsg.view m) (1099511627776 : Int))) [], uptoS (SMsg.view m) (1099511627776 : Int) = true, T Try.prog 75 [.int .i64 (SMsg.leader m), .int .i64 64] [] (.bool (uptoS (SMsg.leader m) (64 : Int))) [], uptoS (SMsg.leader m) (64 : Int) = true, T Try.prog 76 [.agg (SBatch.c (SMsg.batch m))] [] (.bool (mayBatchS (SMsg.batch m))) [], mayBatchS (SMsg.batch m) = true, T Try.prog 77 [.agg [.int .i64 (SMsg.cepoch m), .int .i64 (SMsg.cleader m), .int .i64 (SMsg.cview m), hl (SMsg.nheld m) (SMsg.held m)]] [] (.bool (mayChangeS m)) [], mayChangeS m = true, T Try.prog 78 [.ros 18 (SMsg.nnews m) (fun i => SEnv.c (SMsg.news m i)) false, .int .i64 64, .fn (.func 79) [] []] [] (.bool (allS (SMsg.nnews m) 64 fun i => mayEnvS (SMsg.news m i))) [], (allS (SMsg.nnews m) (64 : Nat) fun i => mayEnvS (SMsg.news m i)) = false, q false]) : Option (V × Heap × List Prop)) := by kernel_rfl

theorem bdGood_p000100011111110 (m : SMsg) (o : SMsg) :
  along Try.prog (bdGood m o) [false, false, false, true, false, false, false, true, true, true, true, true, true, true, false] = (some (.bool false, [], [decide (SMsg.kind m < (1 : Int)) = false, decide ((8 : Int) < SMsg.kind m) = false, T Try.prog 72 [.agg (SMsg.c m)] [] (.agg (SMsg.c o)) [], T Try.prog 71 [.agg (SMsg.c m), .agg (SMsg.c o)] [] (.bool (sameMsgS m o)) [], (!sameMsgS m o) = false, decide (SMsg.kind m = (2 : Int)) = true, T Try.prog 73 [.agg (SVote.c (SMsg.vote m))] [] (.bool (mayVoteS (SMsg.vote m))) [], (!mayVoteS (SMsg.vote m)) = false, decide (SMsg.kind m = (7 : Int)) = false, q false, T Try.prog 75 [.int .i64 (SMsg.epoch m), .int .i64 1048576] [] (.bool (uptoS (SMsg.epoch m) (1048576 : Int))) [], uptoS (SMsg.epoch m) (1048576 : Int) = true, T Try.prog 75 [.int .i64 (SMsg.slot m), .int .i64 1099511627776] [] (.bool (uptoS (SMsg.slot m) (1099511627776 : Int))) [], uptoS (SMsg.slot m) (1099511627776 : Int) = true, T Try.prog 75 [.int .i64 (SMsg.view m), .int .i64 1099511627776] [] (.bool (uptoS (SMsg.view m) (1099511627776 : Int))) [], uptoS (SMsg.view m) (1099511627776 : Int) = true, T Try.prog 75 [.int .i64 (SMsg.leader m), .int .i64 64] [] (.bool (uptoS (SMsg.leader m) (64 : Int))) [], uptoS (SMsg.leader m) (64 : Int) = true, T Try.prog 76 [.agg (SBatch.c (SMsg.batch m))] [] (.bool (mayBatchS (SMsg.batch m))) [], mayBatchS (SMsg.batch m) = true, T Try.prog 77 [.agg [.int .i64 (SMsg.cepoch m), .int .i64 (SMsg.cleader m), .int .i64 (SMsg.cview m), hl (SMsg.nheld m) (SMsg.held m)]] [] (.bool (mayChangeS m)) [], mayChangeS m = true, T Try.prog 78 [.ros 18 (SMsg.nnews m) (fun i => SEnv.c (SMsg.news m i)) false, .int .i64 64, .fn (.func 79) [] []] [] (.bool (allS (SMsg.nnews m) 64 fun i => mayEnvS (SMsg.news m i))) [], (allS (SMsg.nnews m) (64 : Nat) fun i => mayEnvS (SMsg.news m i)) = true, T Try.prog 80 [.ros 17 (SMsg.n m) (fun i => SSign.c (SMsg.sig m i)) false, .int .i64 64, .fn (.func 81) [] []] [] (.bool (allS (SMsg.n m) 64 fun i => maySignS (SMsg.sig m i))) [], (allS (SMsg.n m) (64 : Nat) fun i => maySignS (SMsg.sig m i)) = false]) : Option (V × Heap × List Prop)) := by kernel_rfl

theorem bdGood_p000100011111111 (m : SMsg) (o : SMsg) :
  along Try.prog (bdGood m o) [false, false, false, true, false, false, false, true, true, true, true, true, true, true, true] = (some (.bool (decide ((↑(ByteArray.size (SMsg.state m)) : Int) ≤ (4194304 : Int))), [], [decide (SMsg.kind m < (1 : Int)) = false, decide ((8 : Int) < SMsg.kind m) = false, T Try.prog 72 [.agg (SMsg.c m)] [] (.agg (SMsg.c o)) [], T Try.prog 71 [.agg (SMsg.c m), .agg (SMsg.c o)] [] (.bool (sameMsgS m o)) [], (!sameMsgS m o) = false, decide (SMsg.kind m = (2 : Int)) = true, T Try.prog 73 [.agg (SVote.c (SMsg.vote m))] [] (.bool (mayVoteS (SMsg.vote m))) [], (!mayVoteS (SMsg.vote m)) = false, decide (SMsg.kind m = (7 : Int)) = false, q false, T Try.prog 75 [.int .i64 (SMsg.epoch m), .int .i64 1048576] [] (.bool (uptoS (SMsg.epoch m) (1048576 : Int))) [], uptoS (SMsg.epoch m) (1048576 : Int) = true, T Try.prog 75 [.int .i64 (SMsg.slot m), .int .i64 1099511627776] [] (.bool (uptoS (SMsg.slot m) (1099511627776 : Int))) [], uptoS (SMsg.slot m) (1099511627776 : Int) = true, T Try.prog 75 [.int .i64 (SMsg.view m), .int .i64 1099511627776] [] (.bool (uptoS (SMsg.view m) (1099511627776 : Int))) [], uptoS (SMsg.view m) (1099511627776 : Int) = true, T Try.prog 75 [.int .i64 (SMsg.leader m), .int .i64 64] [] (.bool (uptoS (SMsg.leader m) (64 : Int))) [], uptoS (SMsg.leader m) (64 : Int) = true, T Try.prog 76 [.agg (SBatch.c (SMsg.batch m))] [] (.bool (mayBatchS (SMsg.batch m))) [], mayBatchS (SMsg.batch m) = true, T Try.prog 77 [.agg [.int .i64 (SMsg.cepoch m), .int .i64 (SMsg.cleader m), .int .i64 (SMsg.cview m), hl (SMsg.nheld m) (SMsg.held m)]] [] (.bool (mayChangeS m)) [], mayChangeS m = true, T Try.prog 78 [.ros 18 (SMsg.nnews m) (fun i => SEnv.c (SMsg.news m i)) false, .int .i64 64, .fn (.func 79) [] []] [] (.bool (allS (SMsg.nnews m) 64 fun i => mayEnvS (SMsg.news m i))) [], (allS (SMsg.nnews m) (64 : Nat) fun i => mayEnvS (SMsg.news m i)) = true, T Try.prog 80 [.ros 17 (SMsg.n m) (fun i => SSign.c (SMsg.sig m i)) false, .int .i64 64, .fn (.func 81) [] []] [] (.bool (allS (SMsg.n m) 64 fun i => maySignS (SMsg.sig m i))) [], (allS (SMsg.n m) (64 : Nat) fun i => maySignS (SMsg.sig m i)) = true]) : Option (V × Heap × List Prop)) := by kernel_rfl

theorem bdGood_p000001000000000 (m : SMsg) (o : SMsg) :
  along Try.prog (bdGood m o) [false, false, false, false, false, true, false, false, false, false, false, false, false, false, false] = (some (.bool false, [], [decide (SMsg.kind m < (1 : Int)) = false, decide ((8 : Int) < SMsg.kind m) = false, T Try.prog 72 [.agg (SMsg.c m)] [] (.agg (SMsg.c o)) [], T Try.prog 71 [.agg (SMsg.c m), .agg (SMsg.c o)] [] (.bool (sameMsgS m o)) [], (!sameMsgS m o) = false, decide (SMsg.kind m = (2 : Int)) = false, q false, decide (SMsg.kind m = (7 : Int)) = true, T Try.prog 74 [.agg [.int .i64 (SVote.kind (SCert.vote (SMsg.cert m))), .int .i64 (SVote.epoch (SCert.vote (SMsg.cert m))), .int .i64 (SVote.view (SCert.vote (SMsg.cert m))), .int .i64 (SVote.slot (SCert.vote (SMsg.cert m))), .seg .u8 32 (SVote.digest (SCert.vote (SMsg.cert m))), sg (SCert.n (SMsg.cert m)) (SCert.sig (SMsg.cert m))]] [] (.bool (mayCertS (SMsg.cert m))) [], (!mayCertS (SMsg.cert m)) = false, T Try.prog 75 [.int .i64 (SMsg.epoch m), .int .i64 1048576] [] (.bool (uptoS (SMsg.epoch m) (1048576 : Int))) [], uptoS (SMsg.epoch m) (1048576 : Int) = false, q false, q false, q false, q false, q false, q false, q false]) : Option (V × Heap × List Prop)) := by kernel_rfl

theorem bdGood_p000001010000000 (m : SMsg) (o : SMsg) :
  along Try.prog (bdGood m o) [false, false, false, false, false, true, false, true, false, false, false, false, false, false, false] = (some (.bool false, [], [decide (SMsg.kind m < (1 : Int)) = false, decide ((8 : Int) < SMsg.kind m) = false, T Try.prog 72 [.agg (SMsg.c m)] [] (.agg (SMsg.c o)) [], T Try.prog 71 [.agg (SMsg.c m), .agg (SMsg.c o)] [] (.bool (sameMsgS m o)) [], (!sameMsgS m o) = false, decide (SMsg.kind m = (2 : Int)) = false, q false, decide (SMsg.kind m = (7 : Int)) = true, T Try.prog 74 [.agg [.int .i64 (SVote.kind (SCert.vote (SMsg.cert m))), .int .i64 (SVote.epoch (SCert.vote (SMsg.cert m))), .int .i64 (SVote.view (SCert.vote (SMsg.cert m))), .int .i64 (SVote.slot (SCert.vote (SMsg.cert m))), .seg .u8 32 (SVote.digest (SCert.vote (SMsg.cert m))), sg (SCert.n (SMsg.cert m)) (SCert.sig (SMsg.cert m))]] [] (.bool (mayCertS (SMsg.cert m))) [], (!mayCertS (SMsg.cert m)) = false, T Try.prog 75 [.int .i64 (SMsg.epoch m), .int .i64 1048576] [] (.bool (uptoS (SMsg.epoch m) (1048576 : Int))) [], uptoS (SMsg.epoch m) (1048576 : Int) = true, T Try.prog 75 [.int .i64 (SMsg.slot m), .int .i64 1099511627776] [] (.bool (uptoS (SMsg.slot m) (1099511627776 : Int))) [], uptoS (SMsg.slot m) (1099511627776 : Int) = false, q false, q false, q false, q false, q false, q false]) : Option (V × Heap × List Prop)) := by kernel_rfl

theorem bdGood_p000001011000000 (m : SMsg) (o : SMsg) :
  along Try.prog (bdGood m o) [false, false, false, false, false, true, false, true, true, false, false, false, false, false, false] = (some (.bool false, [], [decide (SMsg.kind m < (1 : Int)) = false, decide ((8 : Int) < SMsg.kind m) = false, T Try.prog 72 [.agg (SMsg.c m)] [] (.agg (SMsg.c o)) [], T Try.prog 71 [.agg (SMsg.c m), .agg (SMsg.c o)] [] (.bool (sameMsgS m o)) [], (!sameMsgS m o) = false, decide (SMsg.kind m = (2 : Int)) = false, q false, decide (SMsg.kind m = (7 : Int)) = true, T Try.prog 74 [.agg [.int .i64 (SVote.kind (SCert.vote (SMsg.cert m))), .int .i64 (SVote.epoch (SCert.vote (SMsg.cert m))), .int .i64 (SVote.view (SCert.vote (SMsg.cert m))), .int .i64 (SVote.slot (SCert.vote (SMsg.cert m))), .seg .u8 32 (SVote.digest (SCert.vote (SMsg.cert m))), sg (SCert.n (SMsg.cert m)) (SCert.sig (SMsg.cert m))]] [] (.bool (mayCertS (SMsg.cert m))) [], (!mayCertS (SMsg.cert m)) = false, T Try.prog 75 [.int .i64 (SMsg.epoch m), .int .i64 1048576] [] (.bool (uptoS (SMsg.epoch m) (1048576 : Int))) [], uptoS (SMsg.epoch m) (1048576 : Int) = true, T Try.prog 75 [.int .i64 (SMsg.slot m), .int .i64 1099511627776] [] (.bool (uptoS (SMsg.slot m) (1099511627776 : Int))) [], uptoS (SMsg.slot m) (1099511627776 : Int) = true, T Try.prog 75 [.int .i64 (SMsg.view m), .int .i64 1099511627776] [] (.bool (uptoS (SMsg.view m) (1099511627776 : Int))) [], uptoS (SMsg.view m) (1099511627776 : Int) = false, q false, q false, q false, q false, q false]) : Option (V × Heap × List Prop)) := by kernel_rfl

theorem bdGood_p000001011100000 (m : SMsg) (o : SMsg) :
  along Try.prog (bdGood m o) [false, false, false, false, false, true, false, true, true, true, false, false, false, false, false] = (some (.bool false, [], [decide (SMsg.kind m < (1 : Int)) = false, decide ((8 : Int) < SMsg.kind m) = false, T Try.prog 72 [.agg (SMsg.c m)] [] (.agg (SMsg.c o)) [], T Try.prog 71 [.agg (SMsg.c m), .agg (SMsg.c o)] [] (.bool (sameMsgS m o)) [], (!sameMsgS m o) = false, decide (SMsg.kind m = (2 : Int)) = false, q false, decide (SMsg.kind m = (7 : Int)) = true, T Try.prog 74 [.agg [.int .i64 (SVote.kind (SCert.vote (SMsg.cert m))), .int .i64 (SVote.epoch (SCert.vote (SMsg.cert m))), .int .i64 (SVote.view (SCert.vote (SMsg.cert m))), .int .i64 (SVote.slot (SCert.vote (SMsg.cert m))), .seg .u8 32 (SVote.digest (SCert.vote (SMsg.cert m))), sg (SCert.n (SMsg.cert m)) (SCert.sig (SMsg.cert m))]] [] (.bool (mayCertS (SMsg.cert m))) [], (!mayCertS (SMsg.cert m)) = false, T Try.prog 75 [.int .i64 (SMsg.epoch m), .int .i64 1048576] [] (.bool (uptoS (SMsg.epoch m) (1048576 : Int))) [], uptoS (SMsg.epoch m) (1048576 : Int) = true, T Try.prog 75 [.int .i64 (SMsg.slot m), .int .i64 1099511627776] [] (.bool (uptoS (SMsg.slot m) (1099511627776 : Int))) [], uptoS (SMsg.slot m) (1099511627776 : Int) = true, T Try.prog 75 [.int .i64 (SMsg.view m), .int .i64 1099511627776] [] (.bool (uptoS (SMsg.view m) (1099511627776 : Int))) [], uptoS (SMsg.view m) (1099511627776 : Int) = true, T Try.prog 75 [.int .i64 (SMsg.leader m), .int .i64 64] [] (.bool (uptoS (SMsg.leader m) (64 : Int))) [], uptoS (SMsg.leader m) (64 : Int) = false, q false, q false, q false, q false]) : Option (V × Heap × List Prop)) := by kernel_rfl

theorem bdGood_p000001011110000 (m : SMsg) (o : SMsg) :
  along Try.prog (bdGood m o) [false, false, false, false, false, true, false, true, true, true, true, false, false, false, false] = (some (.bool false, [], [decide (SMsg.kind m < (1 : Int)) = false, decide ((8 : Int) < SMsg.kind m) = false, T Try.prog 72 [.agg (SMsg.c m)] [] (.agg (SMsg.c o)) [], T Try.prog 71 [.agg (SMsg.c m), .agg (SMsg.c o)] [] (.bool (sameMsgS m o)) [], (!sameMsgS m o) = false, decide (SMsg.kind m = (2 : Int)) = false, q false, decide (SMsg.kind m = (7 : Int)) = true, T Try.prog 74 [.agg [.int .i64 (SVote.kind (SCert.vote (SMsg.cert m))), .int .i64 (SVote.epoch (SCert.vote (SMsg.cert m))), .int .i64 (SVote.view (SCert.vote (SMsg.cert m))), .int .i64 (SVote.slot (SCert.vote (SMsg.cert m))), .seg .u8 32 (SVote.digest (SCert.vote (SMsg.cert m))), sg (SCert.n (SMsg.cert m)) (SCert.sig (SMsg.cert m))]] [] (.bool (mayCertS (SMsg.cert m))) [], (!mayCertS (SMsg.cert m)) = false, T Try.prog 75 [.int .i64 (SMsg.epoch m), .int .i64 1048576] [] (.bool (uptoS (SMsg.epoch m) (1048576 : Int))) [], uptoS (SMsg.epoch m) (1048576 : Int) = true, T Try.prog 75 [.int .i64 (SMsg.slot m), .int .i64 1099511627776] [] (.bool (uptoS (SMsg.slot m) (1099511627776 : Int))) [], uptoS (SMsg.slot m) (1099511627776 : Int) = true, T Try.prog 75 [.int .i64 (SMsg.view m), .int .i64 1099511627776] [] (.bool (uptoS (SMsg.view m) (1099511627776 : Int))) [], uptoS (SMsg.view m) (1099511627776 : Int) = true, T Try.prog 75 [.int .i64 (SMsg.leader m), .int .i64 64] [] (.bool (uptoS (SMsg.leader m) (64 : Int))) [], uptoS (SMsg.leader m) (64 : Int) = true, T Try.prog 76 [.agg (SBatch.c (SMsg.batch m))] [] (.bool (mayBatchS (SMsg.batch m))) [], mayBatchS (SMsg.batch m) = false, q false, q false, q false]) : Option (V × Heap × List Prop)) := by kernel_rfl

theorem bdGood_p000001011111000 (m : SMsg) (o : SMsg) :
  along Try.prog (bdGood m o) [false, false, false, false, false, true, false, true, true, true, true, true, false, false, false] = (some (.bool false, [], [decide (SMsg.kind m < (1 : Int)) = false, decide ((8 : Int) < SMsg.kind m) = false, T Try.prog 72 [.agg (SMsg.c m)] [] (.agg (SMsg.c o)) [], T Try.prog 71 [.agg (SMsg.c m), .agg (SMsg.c o)] [] (.bool (sameMsgS m o)) [], (!sameMsgS m o) = false, decide (SMsg.kind m = (2 : Int)) = false, q false, decide (SMsg.kind m = (7 : Int)) = true, T Try.prog 74 [.agg [.int .i64 (SVote.kind (SCert.vote (SMsg.cert m))), .int .i64 (SVote.epoch (SCert.vote (SMsg.cert m))), .int .i64 (SVote.view (SCert.vote (SMsg.cert m))), .int .i64 (SVote.slot (SCert.vote (SMsg.cert m))), .seg .u8 32 (SVote.digest (SCert.vote (SMsg.cert m))), sg (SCert.n (SMsg.cert m)) (SCert.sig (SMsg.cert m))]] [] (.bool (mayCertS (SMsg.cert m))) [], (!mayCertS (SMsg.cert m)) = false, T Try.prog 75 [.int .i64 (SMsg.epoch m), .int .i64 1048576] [] (.bool (uptoS (SMsg.epoch m) (1048576 : Int))) [], uptoS (SMsg.epoch m) (1048576 : Int) = true, T Try.prog 75 [.int .i64 (SMsg.slot m), .int .i64 1099511627776] [] (.bool (uptoS (SMsg.slot m) (1099511627776 : Int))) [], uptoS (SMsg.slot m) (1099511627776 : Int) = true, T Try.prog 75 [.int .i64 (SMsg.view m), .int .i64 1099511627776] [] (.bool (uptoS (SMsg.view m) (1099511627776 : Int))) [], uptoS (SMsg.view m) (1099511627776 : Int) = true, T Try.prog 75 [.int .i64 (SMsg.leader m), .int .i64 64] [] (.bool (uptoS (SMsg.leader m) (64 : Int))) [], uptoS (SMsg.leader m) (64 : Int) = true, T Try.prog 76 [.agg (SBatch.c (SMsg.batch m))] [] (.bool (mayBatchS (SMsg.batch m))) [], mayBatchS (SMsg.batch m) = true, T Try.prog 77 [.agg [.int .i64 (SMsg.cepoch m), .int .i64 (SMsg.cleader m), .int .i64 (SMsg.cview m), hl (SMsg.nheld m) (SMsg.held m)]] [] (.bool (mayChangeS m)) [], mayChangeS m = false, q false, q false]) : Option (V × Heap × List Prop)) := by kernel_rfl

theorem bdGood_p000001011111100 (m : SMsg) (o : SMsg) :
  along Try.prog (bdGood m o) [false, false, false, false, false, true, false, true, true, true, true, true, true, false, false] = (some (.bool false, [], [decide (SMsg.kind m < (1 : Int)) = false, decide ((8 : Int) < SMsg.kind m) = false, T Try.prog 72 [.agg (SMsg.c m)] [] (.agg (SMsg.c o)) [], T Try.prog 71 [.agg (SMsg.c m), .agg (SMsg.c o)] [] (.bool (sameMsgS m o)) [], (!sameMsgS m o) = false, decide (SMsg.kind m = (2 : Int)) = false, q false, decide (SMsg.kind m = (7 : Int)) = true, T Try.prog 74 [.agg [.int .i64 (SVote.kind (SCert.vote (SMsg.cert m))), .int .i64 (SVote.epoch (SCert.vote (SMsg.cert m))), .int .i64 (SVote.view (SCert.vote (SMsg.cert m))), .int .i64 (SVote.slot (SCert.vote (SMsg.cert m))), .seg .u8 32 (SVote.digest (SCert.vote (SMsg.cert m))), sg (SCert.n (SMsg.cert m)) (SCert.sig (SMsg.cert m))]] [] (.bool (mayCertS (SMsg.cert m))) [], (!mayCertS (SMsg.cert m)) = false, T Try.prog 75 [.int .i64 (SMsg.epoch m), .int .i64 1048576] [] (.bool (uptoS (SMsg.epoch m) (1048576 : Int))) [], uptoS (SMsg.epoch m) (1048576 : Int) = true, T Try.prog 75 [.int .i64 (SMsg.slot m), .int .i64 1099511627776] [] (.bool (uptoS (SMsg.slot m) (1099511627776 : Int))) [], uptoS (SMsg.slot m) (1099511627776 : Int) = true, T Try.prog 75 [.int .i64 (SMsg.view m), .int .i64 1099511627776] [] (.bool (uptoS (SMsg.view m) (1099511627776 : Int))) [], uptoS (SMsg.view m) (1099511627776 : Int) = true, T Try.prog 75 [.int .i64 (SMsg.leader m), .int .i64 64] [] (.bool (uptoS (SMsg.leader m) (64 : Int))) [], uptoS (SMsg.leader m) (64 : Int) = true, T Try.prog 76 [.agg (SBatch.c (SMsg.batch m))] [] (.bool (mayBatchS (SMsg.batch m))) [], mayBatchS (SMsg.batch m) = true, T Try.prog 77 [.agg [.int .i64 (SMsg.cepoch m), .int .i64 (SMsg.cleader m), .int .i64 (SMsg.cview m), hl (SMsg.nheld m) (SMsg.held m)]] [] (.bool (mayChangeS m)) [], mayChangeS m = true, T Try.prog 78 [.ros 18 (SMsg.nnews m) (fun i => SEnv.c (SMsg.news m i)) false, .int .i64 64, .fn (.func 79) [] []] [] (.bool (allS (SMsg.nnews m) 64 fun i => mayEnvS (SMsg.news m i))) [], (allS (SMsg.nnews m) (64 : Nat) fun i => mayEnvS (SMsg.news m i)) = false, q false]) : Option (V × Heap × List Prop)) := by kernel_rfl

theorem bdGood_p000001011111110 (m : SMsg) (o : SMsg) :
  along Try.prog (bdGood m o) [false, false, false, false, false, true, false, true, true, true, true, true, true, true, false] = (some (.bool false, [], [decide (SMsg.kind m < (1 : Int)) = false, decide ((8 : Int) < SMsg.kind m) = false, T Try.prog 72 [.agg (SMsg.c m)] [] (.agg (SMsg.c o)) [], T Try.prog 71 [.agg (SMsg.c m), .agg (SMsg.c o)] [] (.bool (sameMsgS m o)) [], (!sameMsgS m o) = false, decide (SMsg.kind m = (2 : Int)) = false, q false, decide (SMsg.kind m = (7 : Int)) = true, T Try.prog 74 [.agg [.int .i64 (SVote.kind (SCert.vote (SMsg.cert m))), .int .i64 (SVote.epoch (SCert.vote (SMsg.cert m))), .int .i64 (SVote.view (SCert.vote (SMsg.cert m))), .int .i64 (SVote.slot (SCert.vote (SMsg.cert m))), .seg .u8 32 (SVote.digest (SCert.vote (SMsg.cert m))), sg (SCert.n (SMsg.cert m)) (SCert.sig (SMsg.cert m))]] [] (.bool (mayCertS (SMsg.cert m))) [], (!mayCertS (SMsg.cert m)) = false, T Try.prog 75 [.int .i64 (SMsg.epoch m), .int .i64 1048576] [] (.bool (uptoS (SMsg.epoch m) (1048576 : Int))) [], uptoS (SMsg.epoch m) (1048576 : Int) = true, T Try.prog 75 [.int .i64 (SMsg.slot m), .int .i64 1099511627776] [] (.bool (uptoS (SMsg.slot m) (1099511627776 : Int))) [], uptoS (SMsg.slot m) (1099511627776 : Int) = true, T Try.prog 75 [.int .i64 (SMsg.view m), .int .i64 1099511627776] [] (.bool (uptoS (SMsg.view m) (1099511627776 : Int))) [], uptoS (SMsg.view m) (1099511627776 : Int) = true, T Try.prog 75 [.int .i64 (SMsg.leader m), .int .i64 64] [] (.bool (uptoS (SMsg.leader m) (64 : Int))) [], uptoS (SMsg.leader m) (64 : Int) = true, T Try.prog 76 [.agg (SBatch.c (SMsg.batch m))] [] (.bool (mayBatchS (SMsg.batch m))) [], mayBatchS (SMsg.batch m) = true, T Try.prog 77 [.agg [.int .i64 (SMsg.cepoch m), .int .i64 (SMsg.cleader m), .int .i64 (SMsg.cview m), hl (SMsg.nheld m) (SMsg.held m)]] [] (.bool (mayChangeS m)) [], mayChangeS m = true, T Try.prog 78 [.ros 18 (SMsg.nnews m) (fun i => SEnv.c (SMsg.news m i)) false, .int .i64 64, .fn (.func 79) [] []] [] (.bool (allS (SMsg.nnews m) 64 fun i => mayEnvS (SMsg.news m i))) [], (allS (SMsg.nnews m) (64 : Nat) fun i => mayEnvS (SMsg.news m i)) = true, T Try.prog 80 [.ros 17 (SMsg.n m) (fun i => SSign.c (SMsg.sig m i)) false, .int .i64 64, .fn (.func 81) [] []] [] (.bool (allS (SMsg.n m) 64 fun i => maySignS (SMsg.sig m i))) [], (allS (SMsg.n m) (64 : Nat) fun i => maySignS (SMsg.sig m i)) = false]) : Option (V × Heap × List Prop)) := by kernel_rfl

theorem bdGood_p000001011111111 (m : SMsg) (o : SMsg) :
  along Try.prog (bdGood m o) [false, false, false, false, false, true, false, true, true, true, true, true, true, true, true] = (some (.bool (decide ((↑(ByteArray.size (SMsg.state m)) : Int) ≤ (4194304 : Int))), [], [decide (SMsg.kind m < (1 : Int)) = false, decide ((8 : Int) < SMsg.kind m) = false, T Try.prog 72 [.agg (SMsg.c m)] [] (.agg (SMsg.c o)) [], T Try.prog 71 [.agg (SMsg.c m), .agg (SMsg.c o)] [] (.bool (sameMsgS m o)) [], (!sameMsgS m o) = false, decide (SMsg.kind m = (2 : Int)) = false, q false, decide (SMsg.kind m = (7 : Int)) = true, T Try.prog 74 [.agg [.int .i64 (SVote.kind (SCert.vote (SMsg.cert m))), .int .i64 (SVote.epoch (SCert.vote (SMsg.cert m))), .int .i64 (SVote.view (SCert.vote (SMsg.cert m))), .int .i64 (SVote.slot (SCert.vote (SMsg.cert m))), .seg .u8 32 (SVote.digest (SCert.vote (SMsg.cert m))), sg (SCert.n (SMsg.cert m)) (SCert.sig (SMsg.cert m))]] [] (.bool (mayCertS (SMsg.cert m))) [], (!mayCertS (SMsg.cert m)) = false, T Try.prog 75 [.int .i64 (SMsg.epoch m), .int .i64 1048576] [] (.bool (uptoS (SMsg.epoch m) (1048576 : Int))) [], uptoS (SMsg.epoch m) (1048576 : Int) = true, T Try.prog 75 [.int .i64 (SMsg.slot m), .int .i64 1099511627776] [] (.bool (uptoS (SMsg.slot m) (1099511627776 : Int))) [], uptoS (SMsg.slot m) (1099511627776 : Int) = true, T Try.prog 75 [.int .i64 (SMsg.view m), .int .i64 1099511627776] [] (.bool (uptoS (SMsg.view m) (1099511627776 : Int))) [], uptoS (SMsg.view m) (1099511627776 : Int) = true, T Try.prog 75 [.int .i64 (SMsg.leader m), .int .i64 64] [] (.bool (uptoS (SMsg.leader m) (64 : Int))) [], uptoS (SMsg.leader m) (64 : Int) = true, T Try.prog 76 [.agg (SBatch.c (SMsg.batch m))] [] (.bool (mayBatchS (SMsg.batch m))) [], mayBatchS (SMsg.batch m) = true, T Try.prog 77 [.agg [.int .i64 (SMsg.cepoch m), .int .i64 (SMsg.cleader m), .int .i64 (SMsg.cview m), hl (SMsg.nheld m) (SMsg.held m)]] [] (.bool (mayChangeS m)) [], mayChangeS m = true, T Try.prog 78 [.ros 18 (SMsg.nnews m) (fun i => SEnv.c (SMsg.news m i)) false, .int .i64 64, .fn (.func 79) [] []] [] (.bool (allS (SMsg.nnews m) 64 fun i => mayEnvS (SMsg.news m i))) [], (allS (SMsg.nnews m) (64 : Nat) fun i => mayEnvS (SMsg.news m i)) = true, T Try.prog 80 [.ros 17 (SMsg.n m) (fun i => SSign.c (SMsg.sig m i)) false, .int .i64 64, .fn (.func 81) [] []] [] (.bool (allS (SMsg.n m) 64 fun i => maySignS (SMsg.sig m i))) [], (allS (SMsg.n m) (64 : Nat) fun i => maySignS (SMsg.sig m i)) = true]) : Option (V × Heap × List Prop)) := by kernel_rfl

theorem bdGood_p000000000000000 (m : SMsg) (o : SMsg) :
  along Try.prog (bdGood m o) [false, false, false, false, false, false, false, false, false, false, false, false, false, false, false] = (some (.bool false, [], [decide (SMsg.kind m < (1 : Int)) = false, decide ((8 : Int) < SMsg.kind m) = false, T Try.prog 72 [.agg (SMsg.c m)] [] (.agg (SMsg.c o)) [], T Try.prog 71 [.agg (SMsg.c m), .agg (SMsg.c o)] [] (.bool (sameMsgS m o)) [], (!sameMsgS m o) = false, decide (SMsg.kind m = (2 : Int)) = false, q false, decide (SMsg.kind m = (7 : Int)) = false, q false, T Try.prog 75 [.int .i64 (SMsg.epoch m), .int .i64 1048576] [] (.bool (uptoS (SMsg.epoch m) (1048576 : Int))) [], uptoS (SMsg.epoch m) (1048576 : Int) = false, q false, q false, q false, q false, q false, q false, q false]) : Option (V × Heap × List Prop)) := by kernel_rfl

theorem bdGood_p000000010000000 (m : SMsg) (o : SMsg) :
  along Try.prog (bdGood m o) [false, false, false, false, false, false, false, true, false, false, false, false, false, false, false] = (some (.bool false, [], [decide (SMsg.kind m < (1 : Int)) = false, decide ((8 : Int) < SMsg.kind m) = false, T Try.prog 72 [.agg (SMsg.c m)] [] (.agg (SMsg.c o)) [], T Try.prog 71 [.agg (SMsg.c m), .agg (SMsg.c o)] [] (.bool (sameMsgS m o)) [], (!sameMsgS m o) = false, decide (SMsg.kind m = (2 : Int)) = false, q false, decide (SMsg.kind m = (7 : Int)) = false, q false, T Try.prog 75 [.int .i64 (SMsg.epoch m), .int .i64 1048576] [] (.bool (uptoS (SMsg.epoch m) (1048576 : Int))) [], uptoS (SMsg.epoch m) (1048576 : Int) = true, T Try.prog 75 [.int .i64 (SMsg.slot m), .int .i64 1099511627776] [] (.bool (uptoS (SMsg.slot m) (1099511627776 : Int))) [], uptoS (SMsg.slot m) (1099511627776 : Int) = false, q false, q false, q false, q false, q false, q false]) : Option (V × Heap × List Prop)) := by kernel_rfl

theorem bdGood_p000000011000000 (m : SMsg) (o : SMsg) :
  along Try.prog (bdGood m o) [false, false, false, false, false, false, false, true, true, false, false, false, false, false, false] = (some (.bool false, [], [decide (SMsg.kind m < (1 : Int)) = false, decide ((8 : Int) < SMsg.kind m) = false, T Try.prog 72 [.agg (SMsg.c m)] [] (.agg (SMsg.c o)) [], T Try.prog 71 [.agg (SMsg.c m), .agg (SMsg.c o)] [] (.bool (sameMsgS m o)) [], (!sameMsgS m o) = false, decide (SMsg.kind m = (2 : Int)) = false, q false, decide (SMsg.kind m = (7 : Int)) = false, q false, T Try.prog 75 [.int .i64 (SMsg.epoch m), .int .i64 1048576] [] (.bool (uptoS (SMsg.epoch m) (1048576 : Int))) [], uptoS (SMsg.epoch m) (1048576 : Int) = true, T Try.prog 75 [.int .i64 (SMsg.slot m), .int .i64 1099511627776] [] (.bool (uptoS (SMsg.slot m) (1099511627776 : Int))) [], uptoS (SMsg.slot m) (1099511627776 : Int) = true, T Try.prog 75 [.int .i64 (SMsg.view m), .int .i64 1099511627776] [] (.bool (uptoS (SMsg.view m) (1099511627776 : Int))) [], uptoS (SMsg.view m) (1099511627776 : Int) = false, q false, q false, q false, q false, q false]) : Option (V × Heap × List Prop)) := by kernel_rfl

theorem bdGood_p000000011100000 (m : SMsg) (o : SMsg) :
  along Try.prog (bdGood m o) [false, false, false, false, false, false, false, true, true, true, false, false, false, false, false] = (some (.bool false, [], [decide (SMsg.kind m < (1 : Int)) = false, decide ((8 : Int) < SMsg.kind m) = false, T Try.prog 72 [.agg (SMsg.c m)] [] (.agg (SMsg.c o)) [], T Try.prog 71 [.agg (SMsg.c m), .agg (SMsg.c o)] [] (.bool (sameMsgS m o)) [], (!sameMsgS m o) = false, decide (SMsg.kind m = (2 : Int)) = false, q false, decide (SMsg.kind m = (7 : Int)) = false, q false, T Try.prog 75 [.int .i64 (SMsg.epoch m), .int .i64 1048576] [] (.bool (uptoS (SMsg.epoch m) (1048576 : Int))) [], uptoS (SMsg.epoch m) (1048576 : Int) = true, T Try.prog 75 [.int .i64 (SMsg.slot m), .int .i64 1099511627776] [] (.bool (uptoS (SMsg.slot m) (1099511627776 : Int))) [], uptoS (SMsg.slot m) (1099511627776 : Int) = true, T Try.prog 75 [.int .i64 (SMsg.view m), .int .i64 1099511627776] [] (.bool (uptoS (SMsg.view m) (1099511627776 : Int))) [], uptoS (SMsg.view m) (1099511627776 : Int) = true, T Try.prog 75 [.int .i64 (SMsg.leader m), .int .i64 64] [] (.bool (uptoS (SMsg.leader m) (64 : Int))) [], uptoS (SMsg.leader m) (64 : Int) = false, q false, q false, q false, q false]) : Option (V × Heap × List Prop)) := by kernel_rfl

theorem bdGood_p000000011110000 (m : SMsg) (o : SMsg) :
  along Try.prog (bdGood m o) [false, false, false, false, false, false, false, true, true, true, true, false, false, false, false] = (some (.bool false, [], [decide (SMsg.kind m < (1 : Int)) = false, decide ((8 : Int) < SMsg.kind m) = false, T Try.prog 72 [.agg (SMsg.c m)] [] (.agg (SMsg.c o)) [], T Try.prog 71 [.agg (SMsg.c m), .agg (SMsg.c o)] [] (.bool (sameMsgS m o)) [], (!sameMsgS m o) = false, decide (SMsg.kind m = (2 : Int)) = false, q false, decide (SMsg.kind m = (7 : Int)) = false, q false, T Try.prog 75 [.int .i64 (SMsg.epoch m), .int .i64 1048576] [] (.bool (uptoS (SMsg.epoch m) (1048576 : Int))) [], uptoS (SMsg.epoch m) (1048576 : Int) = true, T Try.prog 75 [.int .i64 (SMsg.slot m), .int .i64 1099511627776] [] (.bool (uptoS (SMsg.slot m) (1099511627776 : Int))) [], uptoS (SMsg.slot m) (1099511627776 : Int) = true, T Try.prog 75 [.int .i64 (SMsg.view m), .int .i64 1099511627776] [] (.bool (uptoS (SMsg.view m) (1099511627776 : Int))) [], uptoS (SMsg.view m) (1099511627776 : Int) = true, T Try.prog 75 [.int .i64 (SMsg.leader m), .int .i64 64] [] (.bool (uptoS (SMsg.leader m) (64 : Int))) [], uptoS (SMsg.leader m) (64 : Int) = true, T Try.prog 76 [.agg (SBatch.c (SMsg.batch m))] [] (.bool (mayBatchS (SMsg.batch m))) [], mayBatchS (SMsg.batch m) = false, q false, q false, q false]) : Option (V × Heap × List Prop)) := by kernel_rfl

theorem bdGood_p000000011111000 (m : SMsg) (o : SMsg) :
  along Try.prog (bdGood m o) [false, false, false, false, false, false, false, true, true, true, true, true, false, false, false] = (some (.bool false, [], [decide (SMsg.kind m < (1 : Int)) = false, decide ((8 : Int) < SMsg.kind m) = false, T Try.prog 72 [.agg (SMsg.c m)] [] (.agg (SMsg.c o)) [], T Try.prog 71 [.agg (SMsg.c m), .agg (SMsg.c o)] [] (.bool (sameMsgS m o)) [], (!sameMsgS m o) = false, decide (SMsg.kind m = (2 : Int)) = false, q false, decide (SMsg.kind m = (7 : Int)) = false, q false, T Try.prog 75 [.int .i64 (SMsg.epoch m), .int .i64 1048576] [] (.bool (uptoS (SMsg.epoch m) (1048576 : Int))) [], uptoS (SMsg.epoch m) (1048576 : Int) = true, T Try.prog 75 [.int .i64 (SMsg.slot m), .int .i64 1099511627776] [] (.bool (uptoS (SMsg.slot m) (1099511627776 : Int))) [], uptoS (SMsg.slot m) (1099511627776 : Int) = true, T Try.prog 75 [.int .i64 (SMsg.view m), .int .i64 1099511627776] [] (.bool (uptoS (SMsg.view m) (1099511627776 : Int))) [], uptoS (SMsg.view m) (1099511627776 : Int) = true, T Try.prog 75 [.int .i64 (SMsg.leader m), .int .i64 64] [] (.bool (uptoS (SMsg.leader m) (64 : Int))) [], uptoS (SMsg.leader m) (64 : Int) = true, T Try.prog 76 [.agg (SBatch.c (SMsg.batch m))] [] (.bool (mayBatchS (SMsg.batch m))) [], mayBatchS (SMsg.batch m) = true, T Try.prog 77 [.agg [.int .i64 (SMsg.cepoch m), .int .i64 (SMsg.cleader m), .int .i64 (SMsg.cview m), hl (SMsg.nheld m) (SMsg.held m)]] [] (.bool (mayChangeS m)) [], mayChangeS m = false, q false, q false]) : Option (V × Heap × List Prop)) := by kernel_rfl

theorem bdGood_p000000011111100 (m : SMsg) (o : SMsg) :
  along Try.prog (bdGood m o) [false, false, false, false, false, false, false, true, true, true, true, true, true, false, false] = (some (.bool false, [], [decide (SMsg.kind m < (1 : Int)) = false, decide ((8 : Int) < SMsg.kind m) = false, T Try.prog 72 [.agg (SMsg.c m)] [] (.agg (SMsg.c o)) [], T Try.prog 71 [.agg (SMsg.c m), .agg (SMsg.c o)] [] (.bool (sameMsgS m o)) [], (!sameMsgS m o) = false, decide (SMsg.kind m = (2 : Int)) = false, q false, decide (SMsg.kind m = (7 : Int)) = false, q false, T Try.prog 75 [.int .i64 (SMsg.epoch m), .int .i64 1048576] [] (.bool (uptoS (SMsg.epoch m) (1048576 : Int))) [], uptoS (SMsg.epoch m) (1048576 : Int) = true, T Try.prog 75 [.int .i64 (SMsg.slot m), .int .i64 1099511627776] [] (.bool (uptoS (SMsg.slot m) (1099511627776 : Int))) [], uptoS (SMsg.slot m) (1099511627776 : Int) = true, T Try.prog 75 [.int .i64 (SMsg.view m), .int .i64 1099511627776] [] (.bool (uptoS (SMsg.view m) (1099511627776 : Int))) [], uptoS (SMsg.view m) (1099511627776 : Int) = true, T Try.prog 75 [.int .i64 (SMsg.leader m), .int .i64 64] [] (.bool (uptoS (SMsg.leader m) (64 : Int))) [], uptoS (SMsg.leader m) (64 : Int) = true, T Try.prog 76 [.agg (SBatch.c (SMsg.batch m))] [] (.bool (mayBatchS (SMsg.batch m))) [], mayBatchS (SMsg.batch m) = true, T Try.prog 77 [.agg [.int .i64 (SMsg.cepoch m), .int .i64 (SMsg.cleader m), .int .i64 (SMsg.cview m), hl (SMsg.nheld m) (SMsg.held m)]] [] (.bool (mayChangeS m)) [], mayChangeS m = true, T Try.prog 78 [.ros 18 (SMsg.nnews m) (fun i => SEnv.c (SMsg.news m i)) false, .int .i64 64, .fn (.func 79) [] []] [] (.bool (allS (SMsg.nnews m) 64 fun i => mayEnvS (SMsg.news m i))) [], (allS (SMsg.nnews m) (64 : Nat) fun i => mayEnvS (SMsg.news m i)) = false, q false]) : Option (V × Heap × List Prop)) := by kernel_rfl

theorem bdGood_p000000011111110 (m : SMsg) (o : SMsg) :
  along Try.prog (bdGood m o) [false, false, false, false, false, false, false, true, true, true, true, true, true, true, false] = (some (.bool false, [], [decide (SMsg.kind m < (1 : Int)) = false, decide ((8 : Int) < SMsg.kind m) = false, T Try.prog 72 [.agg (SMsg.c m)] [] (.agg (SMsg.c o)) [], T Try.prog 71 [.agg (SMsg.c m), .agg (SMsg.c o)] [] (.bool (sameMsgS m o)) [], (!sameMsgS m o) = false, decide (SMsg.kind m = (2 : Int)) = false, q false, decide (SMsg.kind m = (7 : Int)) = false, q false, T Try.prog 75 [.int .i64 (SMsg.epoch m), .int .i64 1048576] [] (.bool (uptoS (SMsg.epoch m) (1048576 : Int))) [], uptoS (SMsg.epoch m) (1048576 : Int) = true, T Try.prog 75 [.int .i64 (SMsg.slot m), .int .i64 1099511627776] [] (.bool (uptoS (SMsg.slot m) (1099511627776 : Int))) [], uptoS (SMsg.slot m) (1099511627776 : Int) = true, T Try.prog 75 [.int .i64 (SMsg.view m), .int .i64 1099511627776] [] (.bool (uptoS (SMsg.view m) (1099511627776 : Int))) [], uptoS (SMsg.view m) (1099511627776 : Int) = true, T Try.prog 75 [.int .i64 (SMsg.leader m), .int .i64 64] [] (.bool (uptoS (SMsg.leader m) (64 : Int))) [], uptoS (SMsg.leader m) (64 : Int) = true, T Try.prog 76 [.agg (SBatch.c (SMsg.batch m))] [] (.bool (mayBatchS (SMsg.batch m))) [], mayBatchS (SMsg.batch m) = true, T Try.prog 77 [.agg [.int .i64 (SMsg.cepoch m), .int .i64 (SMsg.cleader m), .int .i64 (SMsg.cview m), hl (SMsg.nheld m) (SMsg.held m)]] [] (.bool (mayChangeS m)) [], mayChangeS m = true, T Try.prog 78 [.ros 18 (SMsg.nnews m) (fun i => SEnv.c (SMsg.news m i)) false, .int .i64 64, .fn (.func 79) [] []] [] (.bool (allS (SMsg.nnews m) 64 fun i => mayEnvS (SMsg.news m i))) [], (allS (SMsg.nnews m) (64 : Nat) fun i => mayEnvS (SMsg.news m i)) = true, T Try.prog 80 [.ros 17 (SMsg.n m) (fun i => SSign.c (SMsg.sig m i)) false, .int .i64 64, .fn (.func 81) [] []] [] (.bool (allS (SMsg.n m) 64 fun i => maySignS (SMsg.sig m i))) [], (allS (SMsg.n m) (64 : Nat) fun i => maySignS (SMsg.sig m i)) = false]) : Option (V × Heap × List Prop)) := by kernel_rfl

theorem bdGood_p000000011111111 (m : SMsg) (o : SMsg) :
  along Try.prog (bdGood m o) [false, false, false, false, false, false, false, true, true, true, true, true, true, true, true] = (some (.bool (decide ((↑(ByteArray.size (SMsg.state m)) : Int) ≤ (4194304 : Int))), [], [decide (SMsg.kind m < (1 : Int)) = false, decide ((8 : Int) < SMsg.kind m) = false, T Try.prog 72 [.agg (SMsg.c m)] [] (.agg (SMsg.c o)) [], T Try.prog 71 [.agg (SMsg.c m), .agg (SMsg.c o)] [] (.bool (sameMsgS m o)) [], (!sameMsgS m o) = false, decide (SMsg.kind m = (2 : Int)) = false, q false, decide (SMsg.kind m = (7 : Int)) = false, q false, T Try.prog 75 [.int .i64 (SMsg.epoch m), .int .i64 1048576] [] (.bool (uptoS (SMsg.epoch m) (1048576 : Int))) [], uptoS (SMsg.epoch m) (1048576 : Int) = true, T Try.prog 75 [.int .i64 (SMsg.slot m), .int .i64 1099511627776] [] (.bool (uptoS (SMsg.slot m) (1099511627776 : Int))) [], uptoS (SMsg.slot m) (1099511627776 : Int) = true, T Try.prog 75 [.int .i64 (SMsg.view m), .int .i64 1099511627776] [] (.bool (uptoS (SMsg.view m) (1099511627776 : Int))) [], uptoS (SMsg.view m) (1099511627776 : Int) = true, T Try.prog 75 [.int .i64 (SMsg.leader m), .int .i64 64] [] (.bool (uptoS (SMsg.leader m) (64 : Int))) [], uptoS (SMsg.leader m) (64 : Int) = true, T Try.prog 76 [.agg (SBatch.c (SMsg.batch m))] [] (.bool (mayBatchS (SMsg.batch m))) [], mayBatchS (SMsg.batch m) = true, T Try.prog 77 [.agg [.int .i64 (SMsg.cepoch m), .int .i64 (SMsg.cleader m), .int .i64 (SMsg.cview m), hl (SMsg.nheld m) (SMsg.held m)]] [] (.bool (mayChangeS m)) [], mayChangeS m = true, T Try.prog 78 [.ros 18 (SMsg.nnews m) (fun i => SEnv.c (SMsg.news m i)) false, .int .i64 64, .fn (.func 79) [] []] [] (.bool (allS (SMsg.nnews m) 64 fun i => mayEnvS (SMsg.news m i))) [], (allS (SMsg.nnews m) (64 : Nat) fun i => mayEnvS (SMsg.news m i)) = true, T Try.prog 80 [.ros 17 (SMsg.n m) (fun i => SSign.c (SMsg.sig m i)) false, .int .i64 64, .fn (.func 81) [] []] [] (.bool (allS (SMsg.n m) 64 fun i => maySignS (SMsg.sig m i))) [], (allS (SMsg.n m) (64 : Nat) fun i => maySignS (SMsg.sig m i)) = true]) : Option (V × Heap × List Prop)) := by kernel_rfl

theorem T_only (m : SMsg) : T Try.prog 72 [.agg m.c] [] (.agg (onlyS m).c) [] := by
 by_cases h1 : m.kind = 2
 ·refine T.val (T_al (bdO2_p1 m) Try.func72 ?_) (by simp only [onlyS, if_pos h1]; rfl)
  simp [All, h1]
 ·
  by_cases h2 : m.kind = 3
  ·refine T.val (T_al (bdO3_p01 m) Try.func72 ?_) (by simp only [onlyS, if_neg h1, if_pos h2]; rfl)
   simp [All, h1, h2]
  ·
   by_cases h3 : m.kind = 4
   ·refine T.val (T_al (bdO4_p001 m) Try.func72 ?_) (by simp only [onlyS, if_neg h1, if_neg h2, if_pos h3]; rfl)
    simp [All, h1, h2, h3]
   ·
    by_cases h4 : m.kind = 5
    ·refine T.val (T_al (bdO5_p0001 m) Try.func72 ?_) (by simp only [onlyS, if_neg h1, if_neg h2, if_neg h3, if_pos h4]; rfl)
     simp [All, h1, h2, h3, h4]
    ·
     by_cases h5 : m.kind = 1
     ·refine T.val (T_al (bdO1_p00001 m) Try.func72 ?_) (by simp only [onlyS, if_neg h1, if_neg h2, if_neg h3, if_neg h4, if_pos h5]; rfl)
      simp [All, h1, h2, h3, h4, h5]
     ·
      by_cases h6 : m.kind = 6
      ·refine T.val (T_al (bdO6_p000001 m) Try.func72 ?_) (by simp only [onlyS, if_neg h1, if_neg h2, if_neg h3, if_neg h4, if_neg h5, if_pos h6]; rfl)
       simp [All, h1, h2, h3, h4, h5, h6]
      ·
       by_cases h7 : m.kind = 7
       ·refine T.val (T_al (bdO7_p0000001 m) Try.func72 ?_) (by simp only [onlyS, if_neg h1, if_neg h2, if_neg h3, if_neg h4, if_neg h5, if_neg h6, if_pos h7]; rfl)
        simp [All, h1, h2, h3, h4, h5, h6, h7]
       ·
        by_cases h8 : m.kind = 8
        ·refine T.val (T_al (bdO8_p00000001 m) Try.func72 ?_) (by simp only [onlyS, if_neg h1, if_neg h2, if_neg h3, if_neg h4, if_neg h5, if_neg h6, if_neg h7, if_pos h8]; rfl)
         simp [All, h1, h2, h3, h4, h5, h6, h7, h8]
        ·
         refine T.val (T_al (bdO9_p00000000 m) Try.func72 ?_) (by simp only [onlyS, if_neg h1, if_neg h2, if_neg h3, if_neg h4, if_neg h5, if_neg h6, if_neg h7, if_neg h8]; rfl)
         simp [All, h1, h2, h3, h4, h5, h6, h7, h8]
theorem T_good {m : SMsg} (hf : FitM m) : T Try.prog 24 [.agg m.c] [] (.bool (goodS m)) [] := by
 by_cases h1 : m.kind < 1
 ·
  refine T.bool (T_al (bdGood_p111 m (onlyS m)) Try.func24 ?_) (by simp [goodS, h1] <;> omega)
  simp only [All]
  and_intros
  all_goals first
   | exact T_only m
   | exact T_mS m (onlyS m) hf
   | exact T_mv m.vote
   | exact T_mc m.cert
   | exact T_upto _ _
   | exact T_mb m.batch
   | exact T_mg m
   | exact T_alE m.news (by decide)
   | exact T_alS m.sig (by decide)
   | (simp [h1]; done)
   | exact h1
   | exact Bool.eq_false_iff.mpr h1
 ·
  by_cases h2 : 8 < m.kind
  ·
   refine T.bool (T_al (bdGood_p011 m (onlyS m)) Try.func24 ?_) (by simp [goodS, h1, h2] <;> omega)
   simp only [All]
   and_intros
   all_goals first
    | exact T_only m
    | exact T_mS m (onlyS m) hf
    | exact T_mv m.vote
    | exact T_mc m.cert
    | exact T_upto _ _
    | exact T_mb m.batch
    | exact T_mg m
    | exact T_alE m.news (by decide)
    | exact T_alS m.sig (by decide)
    | (simp [h1, h2]; done)
    | exact h1
    | exact Bool.eq_false_iff.mpr h1
    | exact h2
    | exact Bool.eq_false_iff.mpr h2
  ·
   by_cases h3 : sameMsgS m (onlyS m) = false
   ·
    refine T.bool (T_al (bdGood_p001 m (onlyS m)) Try.func24 ?_) (by simp [goodS, h1, h2, h3] <;> omega)
    simp only [All]
    and_intros
    all_goals first
     | exact T_only m
     | exact T_mS m (onlyS m) hf
     | exact T_mv m.vote
     | exact T_mc m.cert
     | exact T_upto _ _
     | exact T_mb m.batch
     | exact T_mg m
     | exact T_alE m.news (by decide)
     | exact T_alS m.sig (by decide)
     | (simp [h1, h2, h3]; done)
     | exact h1
     | exact Bool.eq_false_iff.mpr h1
     | exact h2
     | exact Bool.eq_false_iff.mpr h2
     | exact h3
     | exact Bool.eq_false_iff.mpr h3
   ·
    by_cases h4 : m.kind = 2
    ·
     by_cases h5 : mayVoteS m.vote = false
     ·
      refine T.bool (T_al (bdGood_p000111 m (onlyS m)) Try.func24 ?_) (by simp [goodS, h1, h2, h3, h4, h5] <;> omega)
      simp only [All]
      and_intros
      all_goals first
       | exact T_only m
       | exact T_mS m (onlyS m) hf
       | exact T_mv m.vote
       | exact T_mc m.cert
       | exact T_upto _ _
       | exact T_mb m.batch
       | exact T_mg m
       | exact T_alE m.news (by decide)
       | exact T_alS m.sig (by decide)
       | (simp [h1, h2, h3, h4, h5]; done)
       | exact h1
       | exact Bool.eq_false_iff.mpr h1
       | exact h2
       | exact Bool.eq_false_iff.mpr h2
       | exact h3
       | exact Bool.eq_false_iff.mpr h3
       | exact h4
       | exact Bool.eq_false_iff.mpr h4
       | exact h5
       | exact Bool.eq_false_iff.mpr h5
     ·
      by_cases h6 : uptoS m.epoch 1048576 = true
      ·
       by_cases h7 : uptoS m.slot 1099511627776 = true
       ·
        by_cases h8 : uptoS m.view 1099511627776 = true
        ·
         by_cases h9 : uptoS m.leader 64 = true
         ·
          by_cases h10 : mayBatchS m.batch = true
          ·
           by_cases h11 : mayChangeS m = true
           ·
            by_cases h12 : (allS m.nnews 64 fun i => mayEnvS (m.news i)) = true
            ·
             by_cases h13 : (allS m.n 64 fun i => maySignS (m.sig i)) = true
             ·
              refine T.bool (T_al (bdGood_p000100011111111 m (onlyS m)) Try.func24 ?_) (by simp [goodS, h1, h2, h3, h4, h5, h6, h7, h8, h9, h10, h11, h12, h13] <;> omega)
              simp only [All]
              and_intros
              all_goals first
               | exact T_only m
               | exact T_mS m (onlyS m) hf
               | exact T_mv m.vote
               | exact T_mc m.cert
               | exact T_upto _ _
               | exact T_mb m.batch
               | exact T_mg m
               | exact T_alE m.news (by decide)
               | exact T_alS m.sig (by decide)
               | (simp [h1, h2, h3, h4, h5, h6, h7, h8, h9, h10, h11, h12, h13]; done)
               | exact h1
               | exact Bool.eq_false_iff.mpr h1
               | exact h2
               | exact Bool.eq_false_iff.mpr h2
               | exact h3
               | exact Bool.eq_false_iff.mpr h3
               | exact h4
               | exact Bool.eq_false_iff.mpr h4
               | exact h5
               | exact Bool.eq_false_iff.mpr h5
               | exact h6
               | exact Bool.eq_false_iff.mpr h6
               | exact h7
               | exact Bool.eq_false_iff.mpr h7
               | exact h8
               | exact Bool.eq_false_iff.mpr h8
               | exact h9
               | exact Bool.eq_false_iff.mpr h9
               | exact h10
               | exact Bool.eq_false_iff.mpr h10
               | exact h11
               | exact Bool.eq_false_iff.mpr h11
               | exact h12
               | exact Bool.eq_false_iff.mpr h12
               | exact h13
               | exact Bool.eq_false_iff.mpr h13
             ·
              refine T.bool (T_al (bdGood_p000100011111110 m (onlyS m)) Try.func24 ?_) (by simp [goodS, h1, h2, h3, h4, h5, h6, h7, h8, h9, h10, h11, h12, h13] <;> omega)
              simp only [All]
              and_intros
              all_goals first
               | exact T_only m
               | exact T_mS m (onlyS m) hf
               | exact T_mv m.vote
               | exact T_mc m.cert
               | exact T_upto _ _
               | exact T_mb m.batch
               | exact T_mg m
               | exact T_alE m.news (by decide)
               | exact T_alS m.sig (by decide)
               | (simp [h1, h2, h3, h4, h5, h6, h7, h8, h9, h10, h11, h12, h13]; done)
               | exact h1
               | exact Bool.eq_false_iff.mpr h1
               | exact h2
               | exact Bool.eq_false_iff.mpr h2
               | exact h3
               | exact Bool.eq_false_iff.mpr h3
               | exact h4
               | exact Bool.eq_false_iff.mpr h4
               | exact h5
               | exact Bool.eq_false_iff.mpr h5
               | exact h6
               | exact Bool.eq_false_iff.mpr h6
               | exact h7
               | exact Bool.eq_false_iff.mpr h7
               | exact h8
               | exact Bool.eq_false_iff.mpr h8
               | exact h9
               | exact Bool.eq_false_iff.mpr h9
               | exact h10
               | exact Bool.eq_false_iff.mpr h10
               | exact h11
               | exact Bool.eq_false_iff.mpr h11
               | exact h12
               | exact Bool.eq_false_iff.mpr h12
               | exact h13
               | exact Bool.eq_false_iff.mpr h13
            ·
             refine T.bool (T_al (bdGood_p000100011111100 m (onlyS m)) Try.func24 ?_) (by simp [goodS, h1, h2, h3, h4, h5, h6, h7, h8, h9, h10, h11, h12] <;> omega)
             simp only [All]
             and_intros
             all_goals first
              | exact T_only m
              | exact T_mS m (onlyS m) hf
              | exact T_mv m.vote
              | exact T_mc m.cert
              | exact T_upto _ _
              | exact T_mb m.batch
              | exact T_mg m
              | exact T_alE m.news (by decide)
              | exact T_alS m.sig (by decide)
              | (simp [h1, h2, h3, h4, h5, h6, h7, h8, h9, h10, h11, h12]; done)
              | exact h1
              | exact Bool.eq_false_iff.mpr h1
              | exact h2
              | exact Bool.eq_false_iff.mpr h2
              | exact h3
              | exact Bool.eq_false_iff.mpr h3
              | exact h4
              | exact Bool.eq_false_iff.mpr h4
              | exact h5
              | exact Bool.eq_false_iff.mpr h5
              | exact h6
              | exact Bool.eq_false_iff.mpr h6
              | exact h7
              | exact Bool.eq_false_iff.mpr h7
              | exact h8
              | exact Bool.eq_false_iff.mpr h8
              | exact h9
              | exact Bool.eq_false_iff.mpr h9
              | exact h10
              | exact Bool.eq_false_iff.mpr h10
              | exact h11
              | exact Bool.eq_false_iff.mpr h11
              | exact h12
              | exact Bool.eq_false_iff.mpr h12
           ·
            refine T.bool (T_al (bdGood_p000100011111000 m (onlyS m)) Try.func24 ?_) (by simp [goodS, h1, h2, h3, h4, h5, h6, h7, h8, h9, h10, h11] <;> omega)
            simp only [All]
            and_intros
            all_goals first
             | exact T_only m
             | exact T_mS m (onlyS m) hf
             | exact T_mv m.vote
             | exact T_mc m.cert
             | exact T_upto _ _
             | exact T_mb m.batch
             | exact T_mg m
             | exact T_alE m.news (by decide)
             | exact T_alS m.sig (by decide)
             | (simp [h1, h2, h3, h4, h5, h6, h7, h8, h9, h10, h11]; done)
             | exact h1
             | exact Bool.eq_false_iff.mpr h1
             | exact h2
             | exact Bool.eq_false_iff.mpr h2
             | exact h3
             | exact Bool.eq_false_iff.mpr h3
             | exact h4
             | exact Bool.eq_false_iff.mpr h4
             | exact h5
             | exact Bool.eq_false_iff.mpr h5
             | exact h6
             | exact Bool.eq_false_iff.mpr h6
             | exact h7
             | exact Bool.eq_false_iff.mpr h7
             | exact h8
             | exact Bool.eq_false_iff.mpr h8
             | exact h9
             | exact Bool.eq_false_iff.mpr h9
             | exact h10
             | exact Bool.eq_false_iff.mpr h10
             | exact h11
             | exact Bool.eq_false_iff.mpr h11
          ·
           refine T.bool (T_al (bdGood_p000100011110000 m (onlyS m)) Try.func24 ?_) (by simp [goodS, h1, h2, h3, h4, h5, h6, h7, h8, h9, h10] <;> omega)
           simp only [All]
           and_intros
           all_goals first
            | exact T_only m
            | exact T_mS m (onlyS m) hf
            | exact T_mv m.vote
            | exact T_mc m.cert
            | exact T_upto _ _
            | exact T_mb m.batch
            | exact T_mg m
            | exact T_alE m.news (by decide)
            | exact T_alS m.sig (by decide)
            | (simp [h1, h2, h3, h4, h5, h6, h7, h8, h9, h10]; done)
            | exact h1
            | exact Bool.eq_false_iff.mpr h1
            | exact h2
            | exact Bool.eq_false_iff.mpr h2
            | exact h3
            | exact Bool.eq_false_iff.mpr h3
            | exact h4
            | exact Bool.eq_false_iff.mpr h4
            | exact h5
            | exact Bool.eq_false_iff.mpr h5
            | exact h6
            | exact Bool.eq_false_iff.mpr h6
            | exact h7
            | exact Bool.eq_false_iff.mpr h7
            | exact h8
            | exact Bool.eq_false_iff.mpr h8
            | exact h9
            | exact Bool.eq_false_iff.mpr h9
            | exact h10
            | exact Bool.eq_false_iff.mpr h10
         ·
          refine T.bool (T_al (bdGood_p000100011100000 m (onlyS m)) Try.func24 ?_) (by simp [goodS, h1, h2, h3, h4, h5, h6, h7, h8, h9] <;> omega)
          simp only [All]
          and_intros
          all_goals first
           | exact T_only m
           | exact T_mS m (onlyS m) hf
           | exact T_mv m.vote
           | exact T_mc m.cert
           | exact T_upto _ _
           | exact T_mb m.batch
           | exact T_mg m
           | exact T_alE m.news (by decide)
           | exact T_alS m.sig (by decide)
           | (simp [h1, h2, h3, h4, h5, h6, h7, h8, h9]; done)
           | exact h1
           | exact Bool.eq_false_iff.mpr h1
           | exact h2
           | exact Bool.eq_false_iff.mpr h2
           | exact h3
           | exact Bool.eq_false_iff.mpr h3
           | exact h4
           | exact Bool.eq_false_iff.mpr h4
           | exact h5
           | exact Bool.eq_false_iff.mpr h5
           | exact h6
           | exact Bool.eq_false_iff.mpr h6
           | exact h7
           | exact Bool.eq_false_iff.mpr h7
           | exact h8
           | exact Bool.eq_false_iff.mpr h8
           | exact h9
           | exact Bool.eq_false_iff.mpr h9
        ·
         refine T.bool (T_al (bdGood_p000100011000000 m (onlyS m)) Try.func24 ?_) (by simp [goodS, h1, h2, h3, h4, h5, h6, h7, h8] <;> omega)
         simp only [All]
         and_intros
         all_goals first
          | exact T_only m
          | exact T_mS m (onlyS m) hf
          | exact T_mv m.vote
          | exact T_mc m.cert
          | exact T_upto _ _
          | exact T_mb m.batch
          | exact T_mg m
          | exact T_alE m.news (by decide)
          | exact T_alS m.sig (by decide)
          | (simp [h1, h2, h3, h4, h5, h6, h7, h8]; done)
          | exact h1
          | exact Bool.eq_false_iff.mpr h1
          | exact h2
          | exact Bool.eq_false_iff.mpr h2
          | exact h3
          | exact Bool.eq_false_iff.mpr h3
          | exact h4
          | exact Bool.eq_false_iff.mpr h4
          | exact h5
          | exact Bool.eq_false_iff.mpr h5
          | exact h6
          | exact Bool.eq_false_iff.mpr h6
          | exact h7
          | exact Bool.eq_false_iff.mpr h7
          | exact h8
          | exact Bool.eq_false_iff.mpr h8
       ·
        refine T.bool (T_al (bdGood_p000100010000000 m (onlyS m)) Try.func24 ?_) (by simp [goodS, h1, h2, h3, h4, h5, h6, h7] <;> omega)
        simp only [All]
        and_intros
        all_goals first
         | exact T_only m
         | exact T_mS m (onlyS m) hf
         | exact T_mv m.vote
         | exact T_mc m.cert
         | exact T_upto _ _
         | exact T_mb m.batch
         | exact T_mg m
         | exact T_alE m.news (by decide)
         | exact T_alS m.sig (by decide)
         | (simp [h1, h2, h3, h4, h5, h6, h7]; done)
         | exact h1
         | exact Bool.eq_false_iff.mpr h1
         | exact h2
         | exact Bool.eq_false_iff.mpr h2
         | exact h3
         | exact Bool.eq_false_iff.mpr h3
         | exact h4
         | exact Bool.eq_false_iff.mpr h4
         | exact h5
         | exact Bool.eq_false_iff.mpr h5
         | exact h6
         | exact Bool.eq_false_iff.mpr h6
         | exact h7
         | exact Bool.eq_false_iff.mpr h7
      ·
       refine T.bool (T_al (bdGood_p000100000000000 m (onlyS m)) Try.func24 ?_) (by simp [goodS, h1, h2, h3, h4, h5, h6] <;> omega)
       simp only [All]
       and_intros
       all_goals first
        | exact T_only m
        | exact T_mS m (onlyS m) hf
        | exact T_mv m.vote
        | exact T_mc m.cert
        | exact T_upto _ _
        | exact T_mb m.batch
        | exact T_mg m
        | exact T_alE m.news (by decide)
        | exact T_alS m.sig (by decide)
        | (simp [h1, h2, h3, h4, h5, h6]; done)
        | exact h1
        | exact Bool.eq_false_iff.mpr h1
        | exact h2
        | exact Bool.eq_false_iff.mpr h2
        | exact h3
        | exact Bool.eq_false_iff.mpr h3
        | exact h4
        | exact Bool.eq_false_iff.mpr h4
        | exact h5
        | exact Bool.eq_false_iff.mpr h5
        | exact h6
        | exact Bool.eq_false_iff.mpr h6
    ·
     by_cases h5 : m.kind = 7
     ·
      by_cases h6 : mayCertS m.cert = false
      ·
       refine T.bool (T_al (bdGood_p0000011 m (onlyS m)) Try.func24 ?_) (by simp [goodS, h1, h2, h3, h4, h5, h6] <;> omega)
       simp only [All]
       and_intros
       all_goals first
        | exact T_only m
        | exact T_mS m (onlyS m) hf
        | exact T_mv m.vote
        | exact T_mc m.cert
        | exact T_upto _ _
        | exact T_mb m.batch
        | exact T_mg m
        | exact T_alE m.news (by decide)
        | exact T_alS m.sig (by decide)
        | (simp [h1, h2, h3, h4, h5, h6]; done)
        | exact h1
        | exact Bool.eq_false_iff.mpr h1
        | exact h2
        | exact Bool.eq_false_iff.mpr h2
        | exact h3
        | exact Bool.eq_false_iff.mpr h3
        | exact h4
        | exact Bool.eq_false_iff.mpr h4
        | exact h5
        | exact Bool.eq_false_iff.mpr h5
        | exact h6
        | exact Bool.eq_false_iff.mpr h6
      ·
       by_cases h7 : uptoS m.epoch 1048576 = true
       ·
        by_cases h8 : uptoS m.slot 1099511627776 = true
        ·
         by_cases h9 : uptoS m.view 1099511627776 = true
         ·
          by_cases h10 : uptoS m.leader 64 = true
          ·
           by_cases h11 : mayBatchS m.batch = true
           ·
            by_cases h12 : mayChangeS m = true
            ·
             by_cases h13 : (allS m.nnews 64 fun i => mayEnvS (m.news i)) = true
             ·
              by_cases h14 : (allS m.n 64 fun i => maySignS (m.sig i)) = true
              ·
               refine T.bool (T_al (bdGood_p000001011111111 m (onlyS m)) Try.func24 ?_) (by simp [goodS, h1, h2, h3, h4, h5, h6, h7, h8, h9, h10, h11, h12, h13, h14] <;> omega)
               simp only [All]
               and_intros
               all_goals first
                | exact T_only m
                | exact T_mS m (onlyS m) hf
                | exact T_mv m.vote
                | exact T_mc m.cert
                | exact T_upto _ _
                | exact T_mb m.batch
                | exact T_mg m
                | exact T_alE m.news (by decide)
                | exact T_alS m.sig (by decide)
                | (simp [h1, h2, h3, h4, h5, h6, h7, h8, h9, h10, h11, h12, h13, h14]; done)
                | exact h1
                | exact Bool.eq_false_iff.mpr h1
                | exact h2
                | exact Bool.eq_false_iff.mpr h2
                | exact h3
                | exact Bool.eq_false_iff.mpr h3
                | exact h4
                | exact Bool.eq_false_iff.mpr h4
                | exact h5
                | exact Bool.eq_false_iff.mpr h5
                | exact h6
                | exact Bool.eq_false_iff.mpr h6
                | exact h7
                | exact Bool.eq_false_iff.mpr h7
                | exact h8
                | exact Bool.eq_false_iff.mpr h8
                | exact h9
                | exact Bool.eq_false_iff.mpr h9
                | exact h10
                | exact Bool.eq_false_iff.mpr h10
                | exact h11
                | exact Bool.eq_false_iff.mpr h11
                | exact h12
                | exact Bool.eq_false_iff.mpr h12
                | exact h13
                | exact Bool.eq_false_iff.mpr h13
                | exact h14
                | exact Bool.eq_false_iff.mpr h14
              ·
               refine T.bool (T_al (bdGood_p000001011111110 m (onlyS m)) Try.func24 ?_) (by simp [goodS, h1, h2, h3, h4, h5, h6, h7, h8, h9, h10, h11, h12, h13, h14] <;> omega)
               simp only [All]
               and_intros
               all_goals first
                | exact T_only m
                | exact T_mS m (onlyS m) hf
                | exact T_mv m.vote
                | exact T_mc m.cert
                | exact T_upto _ _
                | exact T_mb m.batch
                | exact T_mg m
                | exact T_alE m.news (by decide)
                | exact T_alS m.sig (by decide)
                | (simp [h1, h2, h3, h4, h5, h6, h7, h8, h9, h10, h11, h12, h13, h14]; done)
                | exact h1
                | exact Bool.eq_false_iff.mpr h1
                | exact h2
                | exact Bool.eq_false_iff.mpr h2
                | exact h3
                | exact Bool.eq_false_iff.mpr h3
                | exact h4
                | exact Bool.eq_false_iff.mpr h4
                | exact h5
                | exact Bool.eq_false_iff.mpr h5
                | exact h6
                | exact Bool.eq_false_iff.mpr h6
                | exact h7
                | exact Bool.eq_false_iff.mpr h7
                | exact h8
                | exact Bool.eq_false_iff.mpr h8
                | exact h9
                | exact Bool.eq_false_iff.mpr h9
                | exact h10
                | exact Bool.eq_false_iff.mpr h10
                | exact h11
                | exact Bool.eq_false_iff.mpr h11
                | exact h12
                | exact Bool.eq_false_iff.mpr h12
                | exact h13
                | exact Bool.eq_false_iff.mpr h13
                | exact h14
                | exact Bool.eq_false_iff.mpr h14
             ·
              refine T.bool (T_al (bdGood_p000001011111100 m (onlyS m)) Try.func24 ?_) (by simp [goodS, h1, h2, h3, h4, h5, h6, h7, h8, h9, h10, h11, h12, h13] <;> omega)
              simp only [All]
              and_intros
              all_goals first
               | exact T_only m
               | exact T_mS m (onlyS m) hf
               | exact T_mv m.vote
               | exact T_mc m.cert
               | exact T_upto _ _
               | exact T_mb m.batch
               | exact T_mg m
               | exact T_alE m.news (by decide)
               | exact T_alS m.sig (by decide)
               | (simp [h1, h2, h3, h4, h5, h6, h7, h8, h9, h10, h11, h12, h13]; done)
               | exact h1
               | exact Bool.eq_false_iff.mpr h1
               | exact h2
               | exact Bool.eq_false_iff.mpr h2
               | exact h3
               | exact Bool.eq_false_iff.mpr h3
               | exact h4
               | exact Bool.eq_false_iff.mpr h4
               | exact h5
               | exact Bool.eq_false_iff.mpr h5
               | exact h6
               | exact Bool.eq_false_iff.mpr h6
               | exact h7
               | exact Bool.eq_false_iff.mpr h7
               | exact h8
               | exact Bool.eq_false_iff.mpr h8
               | exact h9
               | exact Bool.eq_false_iff.mpr h9
               | exact h10
               | exact Bool.eq_false_iff.mpr h10
               | exact h11
               | exact Bool.eq_false_iff.mpr h11
               | exact h12
               | exact Bool.eq_false_iff.mpr h12
               | exact h13
               | exact Bool.eq_false_iff.mpr h13
            ·
             refine T.bool (T_al (bdGood_p000001011111000 m (onlyS m)) Try.func24 ?_) (by simp [goodS, h1, h2, h3, h4, h5, h6, h7, h8, h9, h10, h11, h12] <;> omega)
             simp only [All]
             and_intros
             all_goals first
              | exact T_only m
              | exact T_mS m (onlyS m) hf
              | exact T_mv m.vote
              | exact T_mc m.cert
              | exact T_upto _ _
              | exact T_mb m.batch
              | exact T_mg m
              | exact T_alE m.news (by decide)
              | exact T_alS m.sig (by decide)
              | (simp [h1, h2, h3, h4, h5, h6, h7, h8, h9, h10, h11, h12]; done)
              | exact h1
              | exact Bool.eq_false_iff.mpr h1
              | exact h2
              | exact Bool.eq_false_iff.mpr h2
              | exact h3
              | exact Bool.eq_false_iff.mpr h3
              | exact h4
              | exact Bool.eq_false_iff.mpr h4
              | exact h5
              | exact Bool.eq_false_iff.mpr h5
              | exact h6
              | exact Bool.eq_false_iff.mpr h6
              | exact h7
              | exact Bool.eq_false_iff.mpr h7
              | exact h8
              | exact Bool.eq_false_iff.mpr h8
              | exact h9
              | exact Bool.eq_false_iff.mpr h9
              | exact h10
              | exact Bool.eq_false_iff.mpr h10
              | exact h11
              | exact Bool.eq_false_iff.mpr h11
              | exact h12
              | exact Bool.eq_false_iff.mpr h12
           ·
            refine T.bool (T_al (bdGood_p000001011110000 m (onlyS m)) Try.func24 ?_) (by simp [goodS, h1, h2, h3, h4, h5, h6, h7, h8, h9, h10, h11] <;> omega)
            simp only [All]
            and_intros
            all_goals first
             | exact T_only m
             | exact T_mS m (onlyS m) hf
             | exact T_mv m.vote
             | exact T_mc m.cert
             | exact T_upto _ _
             | exact T_mb m.batch
             | exact T_mg m
             | exact T_alE m.news (by decide)
             | exact T_alS m.sig (by decide)
             | (simp [h1, h2, h3, h4, h5, h6, h7, h8, h9, h10, h11]; done)
             | exact h1
             | exact Bool.eq_false_iff.mpr h1
             | exact h2
             | exact Bool.eq_false_iff.mpr h2
             | exact h3
             | exact Bool.eq_false_iff.mpr h3
             | exact h4
             | exact Bool.eq_false_iff.mpr h4
             | exact h5
             | exact Bool.eq_false_iff.mpr h5
             | exact h6
             | exact Bool.eq_false_iff.mpr h6
             | exact h7
             | exact Bool.eq_false_iff.mpr h7
             | exact h8
             | exact Bool.eq_false_iff.mpr h8
             | exact h9
             | exact Bool.eq_false_iff.mpr h9
             | exact h10
             | exact Bool.eq_false_iff.mpr h10
             | exact h11
             | exact Bool.eq_false_iff.mpr h11
          ·
           refine T.bool (T_al (bdGood_p000001011100000 m (onlyS m)) Try.func24 ?_) (by simp [goodS, h1, h2, h3, h4, h5, h6, h7, h8, h9, h10] <;> omega)
           simp only [All]
           and_intros
           all_goals first
            | exact T_only m
            | exact T_mS m (onlyS m) hf
            | exact T_mv m.vote
            | exact T_mc m.cert
            | exact T_upto _ _
            | exact T_mb m.batch
            | exact T_mg m
            | exact T_alE m.news (by decide)
            | exact T_alS m.sig (by decide)
            | (simp [h1, h2, h3, h4, h5, h6, h7, h8, h9, h10]; done)
            | exact h1
            | exact Bool.eq_false_iff.mpr h1
            | exact h2
            | exact Bool.eq_false_iff.mpr h2
            | exact h3
            | exact Bool.eq_false_iff.mpr h3
            | exact h4
            | exact Bool.eq_false_iff.mpr h4
            | exact h5
            | exact Bool.eq_false_iff.mpr h5
            | exact h6
            | exact Bool.eq_false_iff.mpr h6
            | exact h7
            | exact Bool.eq_false_iff.mpr h7
            | exact h8
            | exact Bool.eq_false_iff.mpr h8
            | exact h9
            | exact Bool.eq_false_iff.mpr h9
            | exact h10
            | exact Bool.eq_false_iff.mpr h10
         ·
          refine T.bool (T_al (bdGood_p000001011000000 m (onlyS m)) Try.func24 ?_) (by simp [goodS, h1, h2, h3, h4, h5, h6, h7, h8, h9] <;> omega)
          simp only [All]
          and_intros
          all_goals first
           | exact T_only m
           | exact T_mS m (onlyS m) hf
           | exact T_mv m.vote
           | exact T_mc m.cert
           | exact T_upto _ _
           | exact T_mb m.batch
           | exact T_mg m
           | exact T_alE m.news (by decide)
           | exact T_alS m.sig (by decide)
           | (simp [h1, h2, h3, h4, h5, h6, h7, h8, h9]; done)
           | exact h1
           | exact Bool.eq_false_iff.mpr h1
           | exact h2
           | exact Bool.eq_false_iff.mpr h2
           | exact h3
           | exact Bool.eq_false_iff.mpr h3
           | exact h4
           | exact Bool.eq_false_iff.mpr h4
           | exact h5
           | exact Bool.eq_false_iff.mpr h5
           | exact h6
           | exact Bool.eq_false_iff.mpr h6
           | exact h7
           | exact Bool.eq_false_iff.mpr h7
           | exact h8
           | exact Bool.eq_false_iff.mpr h8
           | exact h9
           | exact Bool.eq_false_iff.mpr h9
        ·
         refine T.bool (T_al (bdGood_p000001010000000 m (onlyS m)) Try.func24 ?_) (by simp [goodS, h1, h2, h3, h4, h5, h6, h7, h8] <;> omega)
         simp only [All]
         and_intros
         all_goals first
          | exact T_only m
          | exact T_mS m (onlyS m) hf
          | exact T_mv m.vote
          | exact T_mc m.cert
          | exact T_upto _ _
          | exact T_mb m.batch
          | exact T_mg m
          | exact T_alE m.news (by decide)
          | exact T_alS m.sig (by decide)
          | (simp [h1, h2, h3, h4, h5, h6, h7, h8]; done)
          | exact h1
          | exact Bool.eq_false_iff.mpr h1
          | exact h2
          | exact Bool.eq_false_iff.mpr h2
          | exact h3
          | exact Bool.eq_false_iff.mpr h3
          | exact h4
          | exact Bool.eq_false_iff.mpr h4
          | exact h5
          | exact Bool.eq_false_iff.mpr h5
          | exact h6
          | exact Bool.eq_false_iff.mpr h6
          | exact h7
          | exact Bool.eq_false_iff.mpr h7
          | exact h8
          | exact Bool.eq_false_iff.mpr h8
       ·
        refine T.bool (T_al (bdGood_p000001000000000 m (onlyS m)) Try.func24 ?_) (by simp [goodS, h1, h2, h3, h4, h5, h6, h7] <;> omega)
        simp only [All]
        and_intros
        all_goals first
         | exact T_only m
         | exact T_mS m (onlyS m) hf
         | exact T_mv m.vote
         | exact T_mc m.cert
         | exact T_upto _ _
         | exact T_mb m.batch
         | exact T_mg m
         | exact T_alE m.news (by decide)
         | exact T_alS m.sig (by decide)
         | (simp [h1, h2, h3, h4, h5, h6, h7]; done)
         | exact h1
         | exact Bool.eq_false_iff.mpr h1
         | exact h2
         | exact Bool.eq_false_iff.mpr h2
         | exact h3
         | exact Bool.eq_false_iff.mpr h3
         | exact h4
         | exact Bool.eq_false_iff.mpr h4
         | exact h5
         | exact Bool.eq_false_iff.mpr h5
         | exact h6
         | exact Bool.eq_false_iff.mpr h6
         | exact h7
         | exact Bool.eq_false_iff.mpr h7
     ·
      by_cases h6 : uptoS m.epoch 1048576 = true
      ·
       by_cases h7 : uptoS m.slot 1099511627776 = true
       ·
        by_cases h8 : uptoS m.view 1099511627776 = true
        ·
         by_cases h9 : uptoS m.leader 64 = true
         ·
          by_cases h10 : mayBatchS m.batch = true
          ·
           by_cases h11 : mayChangeS m = true
           ·
            by_cases h12 : (allS m.nnews 64 fun i => mayEnvS (m.news i)) = true
            ·
             by_cases h13 : (allS m.n 64 fun i => maySignS (m.sig i)) = true
             ·
              refine T.bool (T_al (bdGood_p000000011111111 m (onlyS m)) Try.func24 ?_) (by
  have e1 : 1 ≤ m.kind := by omega
  have e2 : m.kind ≤ 8 := by omega
  simp [goodS, e1, e2, h1, h2, h3, h4, h5, h6, h7, h8, h9, h10, h11, h12, h13] <;> omega)
              simp only [All]
              and_intros
              all_goals first
               | exact T_only m
               | exact T_mS m (onlyS m) hf
               | exact T_mv m.vote
               | exact T_mc m.cert
               | exact T_upto _ _
               | exact T_mb m.batch
               | exact T_mg m
               | exact T_alE m.news (by decide)
               | exact T_alS m.sig (by decide)
               | (simp [h1, h2, h3, h4, h5, h6, h7, h8, h9, h10, h11, h12, h13]; done)
               | exact h1
               | exact Bool.eq_false_iff.mpr h1
               | exact h2
               | exact Bool.eq_false_iff.mpr h2
               | exact h3
               | exact Bool.eq_false_iff.mpr h3
               | exact h4
               | exact Bool.eq_false_iff.mpr h4
               | exact h5
               | exact Bool.eq_false_iff.mpr h5
               | exact h6
               | exact Bool.eq_false_iff.mpr h6
               | exact h7
               | exact Bool.eq_false_iff.mpr h7
               | exact h8
               | exact Bool.eq_false_iff.mpr h8
               | exact h9
               | exact Bool.eq_false_iff.mpr h9
               | exact h10
               | exact Bool.eq_false_iff.mpr h10
               | exact h11
               | exact Bool.eq_false_iff.mpr h11
               | exact h12
               | exact Bool.eq_false_iff.mpr h12
               | exact h13
               | exact Bool.eq_false_iff.mpr h13
             ·
              refine T.bool (T_al (bdGood_p000000011111110 m (onlyS m)) Try.func24 ?_) (by simp [goodS, h1, h2, h3, h4, h5, h6, h7, h8, h9, h10, h11, h12, h13] <;> omega)
              simp only [All]
              and_intros
              all_goals first
               | exact T_only m
               | exact T_mS m (onlyS m) hf
               | exact T_mv m.vote
               | exact T_mc m.cert
               | exact T_upto _ _
               | exact T_mb m.batch
               | exact T_mg m
               | exact T_alE m.news (by decide)
               | exact T_alS m.sig (by decide)
               | (simp [h1, h2, h3, h4, h5, h6, h7, h8, h9, h10, h11, h12, h13]; done)
               | exact h1
               | exact Bool.eq_false_iff.mpr h1
               | exact h2
               | exact Bool.eq_false_iff.mpr h2
               | exact h3
               | exact Bool.eq_false_iff.mpr h3
               | exact h4
               | exact Bool.eq_false_iff.mpr h4
               | exact h5
               | exact Bool.eq_false_iff.mpr h5
               | exact h6
               | exact Bool.eq_false_iff.mpr h6
               | exact h7
               | exact Bool.eq_false_iff.mpr h7
               | exact h8
               | exact Bool.eq_false_iff.mpr h8
               | exact h9
               | exact Bool.eq_false_iff.mpr h9
               | exact h10
               | exact Bool.eq_false_iff.mpr h10
               | exact h11
               | exact Bool.eq_false_iff.mpr h11
               | exact h12
               | exact Bool.eq_false_iff.mpr h12
               | exact h13
               | exact Bool.eq_false_iff.mpr h13
            ·
             refine T.bool (T_al (bdGood_p000000011111100 m (onlyS m)) Try.func24 ?_) (by simp [goodS, h1, h2, h3, h4, h5, h6, h7, h8, h9, h10, h11, h12] <;> omega)
             simp only [All]
             and_intros
             all_goals first
              | exact T_only m
              | exact T_mS m (onlyS m) hf
              | exact T_mv m.vote
              | exact T_mc m.cert
              | exact T_upto _ _
              | exact T_mb m.batch
              | exact T_mg m
              | exact T_alE m.news (by decide)
              | exact T_alS m.sig (by decide)
              | (simp [h1, h2, h3, h4, h5, h6, h7, h8, h9, h10, h11, h12]; done)
              | exact h1
              | exact Bool.eq_false_iff.mpr h1
              | exact h2
              | exact Bool.eq_false_iff.mpr h2
              | exact h3
              | exact Bool.eq_false_iff.mpr h3
              | exact h4
              | exact Bool.eq_false_iff.mpr h4
              | exact h5
              | exact Bool.eq_false_iff.mpr h5
              | exact h6
              | exact Bool.eq_false_iff.mpr h6
              | exact h7
              | exact Bool.eq_false_iff.mpr h7
              | exact h8
              | exact Bool.eq_false_iff.mpr h8
              | exact h9
              | exact Bool.eq_false_iff.mpr h9
              | exact h10
              | exact Bool.eq_false_iff.mpr h10
              | exact h11
              | exact Bool.eq_false_iff.mpr h11
              | exact h12
              | exact Bool.eq_false_iff.mpr h12
           ·
            refine T.bool (T_al (bdGood_p000000011111000 m (onlyS m)) Try.func24 ?_) (by simp [goodS, h1, h2, h3, h4, h5, h6, h7, h8, h9, h10, h11] <;> omega)
            simp only [All]
            and_intros
            all_goals first
             | exact T_only m
             | exact T_mS m (onlyS m) hf
             | exact T_mv m.vote
             | exact T_mc m.cert
             | exact T_upto _ _
             | exact T_mb m.batch
             | exact T_mg m
             | exact T_alE m.news (by decide)
             | exact T_alS m.sig (by decide)
             | (simp [h1, h2, h3, h4, h5, h6, h7, h8, h9, h10, h11]; done)
             | exact h1
             | exact Bool.eq_false_iff.mpr h1
             | exact h2
             | exact Bool.eq_false_iff.mpr h2
             | exact h3
             | exact Bool.eq_false_iff.mpr h3
             | exact h4
             | exact Bool.eq_false_iff.mpr h4
             | exact h5
             | exact Bool.eq_false_iff.mpr h5
             | exact h6
             | exact Bool.eq_false_iff.mpr h6
             | exact h7
             | exact Bool.eq_false_iff.mpr h7
             | exact h8
             | exact Bool.eq_false_iff.mpr h8
             | exact h9
             | exact Bool.eq_false_iff.mpr h9
             | exact h10
             | exact Bool.eq_false_iff.mpr h10
             | exact h11
             | exact Bool.eq_false_iff.mpr h11
          ·
           refine T.bool (T_al (bdGood_p000000011110000 m (onlyS m)) Try.func24 ?_) (by simp [goodS, h1, h2, h3, h4, h5, h6, h7, h8, h9, h10] <;> omega)
           simp only [All]
           and_intros
           all_goals first
            | exact T_only m
            | exact T_mS m (onlyS m) hf
            | exact T_mv m.vote
            | exact T_mc m.cert
            | exact T_upto _ _
            | exact T_mb m.batch
            | exact T_mg m
            | exact T_alE m.news (by decide)
            | exact T_alS m.sig (by decide)
            | (simp [h1, h2, h3, h4, h5, h6, h7, h8, h9, h10]; done)
            | exact h1
            | exact Bool.eq_false_iff.mpr h1
            | exact h2
            | exact Bool.eq_false_iff.mpr h2
            | exact h3
            | exact Bool.eq_false_iff.mpr h3
            | exact h4
            | exact Bool.eq_false_iff.mpr h4
            | exact h5
            | exact Bool.eq_false_iff.mpr h5
            | exact h6
            | exact Bool.eq_false_iff.mpr h6
            | exact h7
            | exact Bool.eq_false_iff.mpr h7
            | exact h8
            | exact Bool.eq_false_iff.mpr h8
            | exact h9
            | exact Bool.eq_false_iff.mpr h9
            | exact h10
            | exact Bool.eq_false_iff.mpr h10
         ·
          refine T.bool (T_al (bdGood_p000000011100000 m (onlyS m)) Try.func24 ?_) (by simp [goodS, h1, h2, h3, h4, h5, h6, h7, h8, h9] <;> omega)
          simp only [All]
          and_intros
          all_goals first
           | exact T_only m
           | exact T_mS m (onlyS m) hf
           | exact T_mv m.vote
           | exact T_mc m.cert
           | exact T_upto _ _
           | exact T_mb m.batch
           | exact T_mg m
           | exact T_alE m.news (by decide)
           | exact T_alS m.sig (by decide)
           | (simp [h1, h2, h3, h4, h5, h6, h7, h8, h9]; done)
           | exact h1
           | exact Bool.eq_false_iff.mpr h1
           | exact h2
           | exact Bool.eq_false_iff.mpr h2
           | exact h3
           | exact Bool.eq_false_iff.mpr h3
           | exact h4
           | exact Bool.eq_false_iff.mpr h4
           | exact h5
           | exact Bool.eq_false_iff.mpr h5
           | exact h6
           | exact Bool.eq_false_iff.mpr h6
           | exact h7
           | exact Bool.eq_false_iff.mpr h7
           | exact h8
           | exact Bool.eq_false_iff.mpr h8
           | exact h9
           | exact Bool.eq_false_iff.mpr h9
        ·
         refine T.bool (T_al (bdGood_p000000011000000 m (onlyS m)) Try.func24 ?_) (by simp [goodS, h1, h2, h3, h4, h5, h6, h7, h8] <;> omega)
         simp only [All]
         and_intros
         all_goals first
          | exact T_only m
          | exact T_mS m (onlyS m) hf
          | exact T_mv m.vote
          | exact T_mc m.cert
          | exact T_upto _ _
          | exact T_mb m.batch
          | exact T_mg m
          | exact T_alE m.news (by decide)
          | exact T_alS m.sig (by decide)
          | (simp [h1, h2, h3, h4, h5, h6, h7, h8]; done)
          | exact h1
          | exact Bool.eq_false_iff.mpr h1
          | exact h2
          | exact Bool.eq_false_iff.mpr h2
          | exact h3
          | exact Bool.eq_false_iff.mpr h3
          | exact h4
          | exact Bool.eq_false_iff.mpr h4
          | exact h5
          | exact Bool.eq_false_iff.mpr h5
          | exact h6
          | exact Bool.eq_false_iff.mpr h6
          | exact h7
          | exact Bool.eq_false_iff.mpr h7
          | exact h8
          | exact Bool.eq_false_iff.mpr h8
       ·
        refine T.bool (T_al (bdGood_p000000010000000 m (onlyS m)) Try.func24 ?_) (by simp [goodS, h1, h2, h3, h4, h5, h6, h7] <;> omega)
        simp only [All]
        and_intros
        all_goals first
         | exact T_only m
         | exact T_mS m (onlyS m) hf
         | exact T_mv m.vote
         | exact T_mc m.cert
         | exact T_upto _ _
         | exact T_mb m.batch
         | exact T_mg m
         | exact T_alE m.news (by decide)
         | exact T_alS m.sig (by decide)
         | (simp [h1, h2, h3, h4, h5, h6, h7]; done)
         | exact h1
         | exact Bool.eq_false_iff.mpr h1
         | exact h2
         | exact Bool.eq_false_iff.mpr h2
         | exact h3
         | exact Bool.eq_false_iff.mpr h3
         | exact h4
         | exact Bool.eq_false_iff.mpr h4
         | exact h5
         | exact Bool.eq_false_iff.mpr h5
         | exact h6
         | exact Bool.eq_false_iff.mpr h6
         | exact h7
         | exact Bool.eq_false_iff.mpr h7
      ·
       refine T.bool (T_al (bdGood_p000000000000000 m (onlyS m)) Try.func24 ?_) (by simp [goodS, h1, h2, h3, h4, h5, h6] <;> omega)
       simp only [All]
       and_intros
       all_goals first
        | exact T_only m
        | exact T_mS m (onlyS m) hf
        | exact T_mv m.vote
        | exact T_mc m.cert
        | exact T_upto _ _
        | exact T_mb m.batch
        | exact T_mg m
        | exact T_alE m.news (by decide)
        | exact T_alS m.sig (by decide)
        | (simp [h1, h2, h3, h4, h5, h6]; done)
        | exact h1
        | exact Bool.eq_false_iff.mpr h1
        | exact h2
        | exact Bool.eq_false_iff.mpr h2
        | exact h3
        | exact Bool.eq_false_iff.mpr h3
        | exact h4
        | exact Bool.eq_false_iff.mpr h4
        | exact h5
        | exact Bool.eq_false_iff.mpr h5
        | exact h6
        | exact Bool.eq_false_iff.mpr h6
end Go.Proofs.Ythifjamdfpjilaa
namespace Go.Proofs.Ythifjamdfpjilaa
open Go Sy Go.Proofs
def bodyB (m : SMsg) : List UInt8 :=
 if m.kind = 1 then numsB [m.epoch, m.slot] ++ batchB m.batch else
 if m.kind = 2 then voteB m.vote else
 if m.kind = 3 then numsB [m.cepoch, m.cleader, m.cview] ++ (numsB [(m.nheld : Int)] ++ heldsB m.held m.nheld) else
 if m.kind = 4 then numsB [m.epoch, m.leader, m.view] ++ (numsB [(m.nnews : Int)] ++ envsB m.news m.nnews) else
 if m.kind = 5 then numsB [m.epoch] ++ segB m.digest else
 if m.kind = 6 then numsB [m.epoch, m.slot] else
 if m.kind = 7 then batchB m.batch ++ certB m.cert else
 if m.kind = 8 then textB m.state ++ (numsB [(m.n : Int)] ++ signsB m.sig m.n) else []
def encB (m : SMsg) : List UInt8 := putZ m.kind ++ bodyB m
def baL (l : List UInt8) : ByteArray := ⟨l.toArray⟩
def look2 {α : Type} : List (Nat × Nat × α) → Nat → Nat → Option α
 | [], _, _ => none
 | p :: r, k, n => bif Nat.beq p.1 k && Nat.beq p.2.1 n then some p.2.2 else look2 r k n
def dbSeqF (base : Nat) (l : List (Nat × Nat × (List V → Heap → Nat → List Cl))) : Nat → List V → Heap → Nat → List Cl := fun k args h lo => match look2 l k ((lo - base) / 64) with
 | some f => f args h lo
 | none => []
def cVal (v : V) : List V → Heap → Nat → List Cl := fun _ _ _ => [{ val := v }]
def encDb (m : SMsg) (g : Bool) : List (Nat × Nat × (List V → Heap → Nat → List Cl)) := [
 (24, 4, cVal (.bool g)),
 (49, 13, cW (putZ m.kind)),
 (49, 24, cW (putZ m.kind ++ numsB [m.epoch, m.slot])), (50, 28, cW (putZ m.kind ++ numsB [m.epoch, m.slot] ++ batchB m.batch)),
 (51, 23, cW (putZ m.kind ++ voteB m.vote)),
 (49, 33, cW (putZ m.kind ++ numsB [m.cepoch, m.cleader, m.cview])), (52, 40, cW (putZ m.kind ++ numsB [m.cepoch, m.cleader, m.cview] ++ (numsB [(m.nheld : Int)] ++ heldsB m.held m.nheld))),
 (49, 32, cW (putZ m.kind ++ numsB [m.epoch, m.leader, m.view])), (54, 38, cW (putZ m.kind ++ numsB [m.epoch, m.leader, m.view] ++ (numsB [(m.nnews : Int)] ++ envsB m.news m.nnews))),
 (49, 30, cW (putZ m.kind ++ numsB [m.epoch])), (56, 34, cW (putZ m.kind ++ numsB [m.epoch] ++ segB m.digest)),
 (49, 34, cW (putZ m.kind ++ numsB [m.epoch, m.slot])),
 (50, 33, cW (putZ m.kind ++ batchB m.batch)), (57, 37, cW (putZ m.kind ++ batchB m.batch ++ certB m.cert)),
 (58, 35, cW (putZ m.kind ++ textB m.state)), (59, 41, cW (putZ m.kind ++ textB m.state ++ (numsB [(m.n : Int)] ++ signsB m.sig m.n)))]
noncomputable def bdEnc (m : SMsg) (g : Bool) : Bd := { f := Try.f21, args := [.agg m.c], kb := { db := dbSeqF 0 (encDb m g) } }
end Go.Proofs.Ythifjamdfpjilaa
