/-
  Contracts and laws that the claim's theorem leans on, joined out of the texts Ta8 Ta5D Ta5 Ta9D (own work of this seat): Contracts: which messages may be; Contracts: a message's bytes; Contracts: a message's bytes; Contracts: the reader of bytes.
-/
import Derived.Test.YtnmccoincblecaaGreatC05
import Derived.Test.YtnmccoincblecaaGreatC06
set_option linter.unusedVariables false
set_option linter.unusedSimpArgs false
set_option maxHeartbeats 1000000
namespace Go.Proofs.YtnmccoincblecaaGreat
open Go Sy Go.Proofs
theorem bdO2_p1 (m : SMsg) :
  along Tryz.prog (bdO2 m) [true] = (some (.agg [.int .i64 (SMsg.kind m), .int .i64 0, .int .i64 0, .int .i64 0, .int .i64 0, .bool false, rq 0 fun x => SReq.mk (0 : Int) (0 : Int) ByteArray.empty [], .int .i64 (SVote.kind (SMsg.vote m)), .int .i64 (SVote.epoch (SMsg.vote m)), .int .i64 (SVote.view (SMsg.vote m)), .int .i64 (SVote.slot (SMsg.vote m)), .seg .u8 32 (SVote.digest (SMsg.vote m)), .int .i64 0, .int .i64 0, .int .i64 0, hl 0 fun x => SHeld.mk (SBatch.mk false 0 fun x => SReq.mk (0 : Int) (0 : Int) ByteArray.empty []) (SCert.mk (SVote.mk (0 : Int) (0 : Int) (0 : Int) (0 : Int) []) 0 fun x => SSign.mk (0 : Int) []), nw 0 fun x => SEnv.mk (0 : Int) ByteArray.empty [], .seg .u8 32 z32, .int .i64 0, .int .i64 0, .int .i64 0, .int .i64 0, .seg .u8 32 z32, sg 0 fun x => SSign.mk (0 : Int) [], .str ByteArray.empty, sg 0 fun x => SSign.mk (0 : Int) []], [], [decide (SMsg.kind m = (2 : Int)) = true, q (SMsg.kind m), q1, q1, q1, q1, q false, q0, q (SVote.kind (SMsg.vote m)), q (SVote.epoch (SMsg.vote m)), q (SVote.view (SMsg.vote m)), q (SVote.slot (SMsg.vote m)), q (32 : Nat), q (SVote.digest (SMsg.vote m)), q1, q1, q1, q0, q0, q (32 : Nat), q z32, q1, q1, q1, q1, q (32 : Nat), q z32, q0, q ByteArray.empty, q0, q0, q0, q0]) : Option (V × Heap × List Prop)) := by kernel_rfl

theorem bdO3_p01 (m : SMsg) :
  along Tryz.prog (bdO3 m) [false, true] = (some (.agg [.int .i64 (SMsg.kind m), .int .i64 0, .int .i64 0, .int .i64 0, .int .i64 0, .bool false, rq 0 fun x => SReq.mk (0 : Int) (0 : Int) ByteArray.empty [], .int .i64 0, .int .i64 0, .int .i64 0, .int .i64 0, .seg .u8 32 z32, .int .i64 (SMsg.cepoch m), .int .i64 (SMsg.cleader m), .int .i64 (SMsg.cview m), hl (SMsg.nheld m) (SMsg.held m), nw 0 fun x => SEnv.mk (0 : Int) ByteArray.empty [], .seg .u8 32 z32, .int .i64 0, .int .i64 0, .int .i64 0, .int .i64 0, .seg .u8 32 z32, sg 0 fun x => SSign.mk (0 : Int) [], .str ByteArray.empty, sg 0 fun x => SSign.mk (0 : Int) []], [], [decide (SMsg.kind m = (2 : Int)) = false, decide (SMsg.kind m = (3 : Int)) = true, q (SMsg.kind m), q1, q1, q1, q1, q false, q0, q1, q1, q1, q1, q (32 : Nat), q z32, q (SMsg.cepoch m), q (SMsg.cleader m), q (SMsg.cview m), q (SMsg.nheld m), ∀ (k : Nat), k < SMsg.nheld m → SHeld.c (SMsg.held m k) = SHeld.c (SMsg.held (SMsg.mk (SMsg.kind m) (0 : Int) (0 : Int) (0 : Int) (0 : Int) (SBatch.mk false (0 : Nat) fun x => SReq.mk (0 : Int) (0 : Int) ByteArray.empty []) vote0 (SMsg.cepoch m) (SMsg.cleader m) (SMsg.cview m) (SMsg.nheld m) (SMsg.held m) (0 : Nat) (fun x => SEnv.mk (0 : Int) ByteArray.empty []) z32 (SCert.mk vote0 (0 : Nat) fun x => SSign.mk (0 : Int) []) ByteArray.empty (0 : Nat) fun x => SSign.mk (0 : Int) []) k), false = true → false = true, q0, q (32 : Nat), q z32, q1, q1, q1, q1, q (32 : Nat), q z32, q0, q ByteArray.empty, q0, q0, q0, q0]) : Option (V × Heap × List Prop)) := by kernel_rfl

theorem bdO4_p001 (m : SMsg) :
  along Tryz.prog (bdO4 m) [false, false, true] = (some (.agg [.int .i64 (SMsg.kind m), .int .i64 (SMsg.epoch m), .int .i64 (SMsg.leader m), .int .i64 (SMsg.view m), .int .i64 0, .bool false, rq 0 fun x => SReq.mk (0 : Int) (0 : Int) ByteArray.empty [], .int .i64 0, .int .i64 0, .int .i64 0, .int .i64 0, .seg .u8 32 z32, .int .i64 0, .int .i64 0, .int .i64 0, hl 0 fun x => SHeld.mk (SBatch.mk false 0 fun x => SReq.mk (0 : Int) (0 : Int) ByteArray.empty []) (SCert.mk (SVote.mk (0 : Int) (0 : Int) (0 : Int) (0 : Int) []) 0 fun x => SSign.mk (0 : Int) []), nw (SMsg.nnews m) (SMsg.news m), .seg .u8 32 z32, .int .i64 0, .int .i64 0, .int .i64 0, .int .i64 0, .seg .u8 32 z32, sg 0 fun x => SSign.mk (0 : Int) [], .str ByteArray.empty, sg 0 fun x => SSign.mk (0 : Int) []], [], [decide (SMsg.kind m = (2 : Int)) = false, decide (SMsg.kind m = (3 : Int)) = false, decide (SMsg.kind m = (4 : Int)) = true, q (SMsg.kind m), q (SMsg.epoch m), q (SMsg.leader m), q (SMsg.view m), q1, q false, q0, q1, q1, q1, q1, q (32 : Nat), q z32, q1, q1, q1, q0, q (SMsg.nnews m), ∀ (k : Nat), k < SMsg.nnews m → SEnv.c (SMsg.news m k) = SEnv.c (SMsg.news (SMsg.mk (SMsg.kind m) (SMsg.epoch m) (SMsg.leader m) (SMsg.view m) (0 : Int) (SBatch.mk false (0 : Nat) fun x => SReq.mk (0 : Int) (0 : Int) ByteArray.empty []) vote0 (0 : Int) (0 : Int) (0 : Int) (0 : Nat) (fun x => SHeld.mk (SBatch.mk false (0 : Nat) fun x => SReq.mk (0 : Int) (0 : Int) ByteArray.empty []) (SCert.mk (SVote.mk (0 : Int) (0 : Int) (0 : Int) (0 : Int) []) (0 : Nat) fun x => SSign.mk (0 : Int) [])) (SMsg.nnews m) (SMsg.news m) z32 (SCert.mk vote0 (0 : Nat) fun x => SSign.mk (0 : Int) []) ByteArray.empty (0 : Nat) fun x => SSign.mk (0 : Int) []) k), false = true → false = true, q (32 : Nat), q z32, q1, q1, q1, q1, q (32 : Nat), q z32, q0, q ByteArray.empty, q0, q0, q0, q0]) : Option (V × Heap × List Prop)) := by kernel_rfl

theorem bdO5_p0001 (m : SMsg) :
  along Tryz.prog (bdO5 m) [false, false, false, true] = (some (.agg [.int .i64 (SMsg.kind m), .int .i64 (SMsg.epoch m), .int .i64 0, .int .i64 0, .int .i64 0, .bool false, rq 0 fun x => SReq.mk (0 : Int) (0 : Int) ByteArray.empty [], .int .i64 0, .int .i64 0, .int .i64 0, .int .i64 0, .seg .u8 32 z32, .int .i64 0, .int .i64 0, .int .i64 0, hl 0 fun x => SHeld.mk (SBatch.mk false 0 fun x => SReq.mk (0 : Int) (0 : Int) ByteArray.empty []) (SCert.mk (SVote.mk (0 : Int) (0 : Int) (0 : Int) (0 : Int) []) 0 fun x => SSign.mk (0 : Int) []), nw 0 fun x => SEnv.mk (0 : Int) ByteArray.empty [], .seg .u8 32 (SMsg.digest m), .int .i64 0, .int .i64 0, .int .i64 0, .int .i64 0, .seg .u8 32 z32, sg 0 fun x => SSign.mk (0 : Int) [], .str ByteArray.empty, sg 0 fun x => SSign.mk (0 : Int) []], [], [decide (SMsg.kind m = (2 : Int)) = false, decide (SMsg.kind m = (3 : Int)) = false, decide (SMsg.kind m = (4 : Int)) = false, decide (SMsg.kind m = (5 : Int)) = true, q (SMsg.kind m), q (SMsg.epoch m), q1, q1, q1, q false, q0, q1, q1, q1, q1, q (32 : Nat), q z32, q1, q1, q1, q0, q0, q (32 : Nat), q (SMsg.digest m), q1, q1, q1, q1, q (32 : Nat), q z32, q0, q ByteArray.empty, q0, q0, q0, q0]) : Option (V × Heap × List Prop)) := by kernel_rfl

theorem bdO1_p00001 (m : SMsg) :
  along Tryz.prog (bdO1 m) [false, false, false, false, true] = (some (.agg [.int .i64 (SMsg.kind m), .int .i64 (SMsg.epoch m), .int .i64 0, .int .i64 0, .int .i64 (SMsg.slot m), .bool (SBatch.noop (SMsg.batch m)), rq (SBatch.n (SMsg.batch m)) (SBatch.req (SMsg.batch m)), .int .i64 0, .int .i64 0, .int .i64 0, .int .i64 0, .seg .u8 32 z32, .int .i64 0, .int .i64 0, .int .i64 0, hl 0 fun x => SHeld.mk (SBatch.mk false 0 fun x => SReq.mk (0 : Int) (0 : Int) ByteArray.empty []) (SCert.mk (SVote.mk (0 : Int) (0 : Int) (0 : Int) (0 : Int) []) 0 fun x => SSign.mk (0 : Int) []), nw 0 fun x => SEnv.mk (0 : Int) ByteArray.empty [], .seg .u8 32 z32, .int .i64 0, .int .i64 0, .int .i64 0, .int .i64 0, .seg .u8 32 z32, sg 0 fun x => SSign.mk (0 : Int) [], .str ByteArray.empty, sg 0 fun x => SSign.mk (0 : Int) []], [], [decide (SMsg.kind m = (2 : Int)) = false, decide (SMsg.kind m = (3 : Int)) = false, decide (SMsg.kind m = (4 : Int)) = false, decide (SMsg.kind m = (5 : Int)) = false, decide (SMsg.kind m = (1 : Int)) = true, q (SMsg.kind m), q (SMsg.epoch m), q1, q1, q (SMsg.slot m), q (SBatch.noop (SMsg.batch m)), q (SBatch.n (SMsg.batch m)), ∀ (k : Nat), k < SBatch.n (SMsg.batch m) → SReq.c (SBatch.req (SMsg.batch m) k) = SReq.c (SBatch.req (SMsg.batch m) k), false = true → false = true, q1, q1, q1, q1, q (32 : Nat), q z32, q1, q1, q1, q0, q0, q (32 : Nat), q z32, q1, q1, q1, q1, q (32 : Nat), q z32, q0, q ByteArray.empty, q0, q0, q0, q0]) : Option (V × Heap × List Prop)) := by kernel_rfl

theorem bdO6_p000001 (m : SMsg) :
  along Tryz.prog (bdO6 m) [false, false, false, false, false, true] = (some (.agg [.int .i64 (SMsg.kind m), .int .i64 (SMsg.epoch m), .int .i64 0, .int .i64 0, .int .i64 (SMsg.slot m), .bool false, rq 0 fun x => SReq.mk (0 : Int) (0 : Int) ByteArray.empty [], .int .i64 0, .int .i64 0, .int .i64 0, .int .i64 0, .seg .u8 32 z32, .int .i64 0, .int .i64 0, .int .i64 0, hl 0 fun x => SHeld.mk (SBatch.mk false 0 fun x => SReq.mk (0 : Int) (0 : Int) ByteArray.empty []) (SCert.mk (SVote.mk (0 : Int) (0 : Int) (0 : Int) (0 : Int) []) 0 fun x => SSign.mk (0 : Int) []), nw 0 fun x => SEnv.mk (0 : Int) ByteArray.empty [], .seg .u8 32 z32, .int .i64 0, .int .i64 0, .int .i64 0, .int .i64 0, .seg .u8 32 z32, sg 0 fun x => SSign.mk (0 : Int) [], .str ByteArray.empty, sg 0 fun x => SSign.mk (0 : Int) []], [], [decide (SMsg.kind m = (2 : Int)) = false, decide (SMsg.kind m = (3 : Int)) = false, decide (SMsg.kind m = (4 : Int)) = false, decide (SMsg.kind m = (5 : Int)) = false, decide (SMsg.kind m = (1 : Int)) = false, decide (SMsg.kind m = (6 : Int)) = true, q (SMsg.kind m), q (SMsg.epoch m), q1, q1, q (SMsg.slot m), q false, q0, q1, q1, q1, q1, q (32 : Nat), q z32, q1, q1, q1, q0, q0, q (32 : Nat), q z32, q1, q1, q1, q1, q (32 : Nat), q z32, q0, q ByteArray.empty, q0, q0, q0, q0]) : Option (V × Heap × List Prop)) := by kernel_rfl

theorem bdO7_p0000001 (m : SMsg) :
  along Tryz.prog (bdO7 m) [false, false, false, false, false, false, true] = (some (.agg [.int .i64 (SMsg.kind m), .int .i64 0, .int .i64 0, .int .i64 0, .int .i64 0, .bool (SBatch.noop (SMsg.batch m)), rq (SBatch.n (SMsg.batch m)) (SBatch.req (SMsg.batch m)), .int .i64 0, .int .i64 0, .int .i64 0, .int .i64 0, .seg .u8 32 z32, .int .i64 0, .int .i64 0, .int .i64 0, hl 0 fun x => SHeld.mk (SBatch.mk false 0 fun x => SReq.mk (0 : Int) (0 : Int) ByteArray.empty []) (SCert.mk (SVote.mk (0 : Int) (0 : Int) (0 : Int) (0 : Int) []) 0 fun x => SSign.mk (0 : Int) []), nw 0 fun x => SEnv.mk (0 : Int) ByteArray.empty [], .seg .u8 32 z32, .int .i64 (SVote.kind (SCert.vote (SMsg.cert m))), .int .i64 (SVote.epoch (SCert.vote (SMsg.cert m))), .int .i64 (SVote.view (SCert.vote (SMsg.cert m))), .int .i64 (SVote.slot (SCert.vote (SMsg.cert m))), .seg .u8 32 (SVote.digest (SCert.vote (SMsg.cert m))), sg (SCert.n (SMsg.cert m)) (SCert.sig (SMsg.cert m)), .str ByteArray.empty, sg 0 fun x => SSign.mk (0 : Int) []], [], [decide (SMsg.kind m = (2 : Int)) = false, decide (SMsg.kind m = (3 : Int)) = false, decide (SMsg.kind m = (4 : Int)) = false, decide (SMsg.kind m = (5 : Int)) = false, decide (SMsg.kind m = (1 : Int)) = false, decide (SMsg.kind m = (6 : Int)) = false, decide (SMsg.kind m = (7 : Int)) = true, q (SMsg.kind m), q1, q1, q1, q1, q (SBatch.noop (SMsg.batch m)), q (SBatch.n (SMsg.batch m)), ∀ (k : Nat), k < SBatch.n (SMsg.batch m) → SReq.c (SBatch.req (SMsg.batch m) k) = SReq.c (SBatch.req (SMsg.batch m) k), false = true → false = true, q1, q1, q1, q1, q (32 : Nat), q z32, q1, q1, q1, q0, q0, q (32 : Nat), q z32, q (SVote.kind (SCert.vote (SMsg.cert m))), q (SVote.epoch (SCert.vote (SMsg.cert m))), q (SVote.view (SCert.vote (SMsg.cert m))), q (SVote.slot (SCert.vote (SMsg.cert m))), q (32 : Nat), q (SVote.digest (SCert.vote (SMsg.cert m))), q (SCert.n (SMsg.cert m)), ∀ (k : Nat), k < SCert.n (SMsg.cert m) → SSign.c (SCert.sig (SMsg.cert m) k) = SSign.c (SCert.sig (SMsg.cert m) k), false = true → false = true, q ByteArray.empty, q0, q0, q0, q0]) : Option (V × Heap × List Prop)) := by kernel_rfl

theorem bdO8_p00000001 (m : SMsg) :
  along Tryz.prog (bdO8 m) [false, false, false, false, false, false, false, true] = (some (.agg [.int .i64 (SMsg.kind m), .int .i64 0, .int .i64 0, .int .i64 0, .int .i64 0, .bool false, rq 0 fun x => SReq.mk (0 : Int) (0 : Int) ByteArray.empty [], .int .i64 0, .int .i64 0, .int .i64 0, .int .i64 0, .seg .u8 32 z32, .int .i64 0, .int .i64 0, .int .i64 0, hl 0 fun x => SHeld.mk (SBatch.mk false 0 fun x => SReq.mk (0 : Int) (0 : Int) ByteArray.empty []) (SCert.mk (SVote.mk (0 : Int) (0 : Int) (0 : Int) (0 : Int) []) 0 fun x => SSign.mk (0 : Int) []), nw 0 fun x => SEnv.mk (0 : Int) ByteArray.empty [], .seg .u8 32 z32, .int .i64 0, .int .i64 0, .int .i64 0, .int .i64 0, .seg .u8 32 z32, sg 0 fun x => SSign.mk (0 : Int) [], .str (SMsg.state m), sg (SMsg.n m) (SMsg.sig m)], [], [decide (SMsg.kind m = (2 : Int)) = false, decide (SMsg.kind m = (3 : Int)) = false, decide (SMsg.kind m = (4 : Int)) = false, decide (SMsg.kind m = (5 : Int)) = false, decide (SMsg.kind m = (1 : Int)) = false, decide (SMsg.kind m = (6 : Int)) = false, decide (SMsg.kind m = (7 : Int)) = false, decide (SMsg.kind m = (8 : Int)) = true, q (SMsg.kind m), q1, q1, q1, q1, q false, q0, q1, q1, q1, q1, q (32 : Nat), q z32, q1, q1, q1, q0, q0, q (32 : Nat), q z32, q1, q1, q1, q1, q (32 : Nat), q z32, q0, q (SMsg.state m), q (SMsg.n m), ∀ (k : Nat), k < SMsg.n m → SSign.c (SMsg.sig m k) = SSign.c (SMsg.sig (SMsg.mk (SMsg.kind m) (0 : Int) (0 : Int) (0 : Int) (0 : Int) (SBatch.mk false (0 : Nat) fun x => SReq.mk (0 : Int) (0 : Int) ByteArray.empty []) vote0 (0 : Int) (0 : Int) (0 : Int) (0 : Nat) (fun x => SHeld.mk (SBatch.mk false (0 : Nat) fun x => SReq.mk (0 : Int) (0 : Int) ByteArray.empty []) (SCert.mk (SVote.mk (0 : Int) (0 : Int) (0 : Int) (0 : Int) []) (0 : Nat) fun x => SSign.mk (0 : Int) [])) (0 : Nat) (fun x => SEnv.mk (0 : Int) ByteArray.empty []) z32 (SCert.mk vote0 (0 : Nat) fun x => SSign.mk (0 : Int) []) (SMsg.state m) (SMsg.n m) (SMsg.sig m)) k), false = true → false = true, q0, q0, q0]) : Option (V × Heap × List Prop)) := by kernel_rfl

theorem bdO9_p00000000 (m : SMsg) :
  along Tryz.prog (bdO9 m) [false, false, false, false, false, false, false, false] = (some (.agg [.int .i64 (SMsg.kind m), .int .i64 0, .int .i64 0, .int .i64 0, .int .i64 0, .bool false, rq 0 fun x => SReq.mk (0 : Int) (0 : Int) ByteArray.empty [], .int .i64 0, .int .i64 0, .int .i64 0, .int .i64 0, .seg .u8 32 z32, .int .i64 0, .int .i64 0, .int .i64 0, hl 0 fun x => SHeld.mk (SBatch.mk false 0 fun x => SReq.mk (0 : Int) (0 : Int) ByteArray.empty []) (SCert.mk (SVote.mk (0 : Int) (0 : Int) (0 : Int) (0 : Int) []) 0 fun x => SSign.mk (0 : Int) []), nw 0 fun x => SEnv.mk (0 : Int) ByteArray.empty [], .seg .u8 32 z32, .int .i64 0, .int .i64 0, .int .i64 0, .int .i64 0, .seg .u8 32 z32, sg 0 fun x => SSign.mk (0 : Int) [], .str ByteArray.empty, sg 0 fun x => SSign.mk (0 : Int) []], [], [decide (SMsg.kind m = (2 : Int)) = false, decide (SMsg.kind m = (3 : Int)) = false, decide (SMsg.kind m = (4 : Int)) = false, decide (SMsg.kind m = (5 : Int)) = false, decide (SMsg.kind m = (1 : Int)) = false, decide (SMsg.kind m = (6 : Int)) = false, decide (SMsg.kind m = (7 : Int)) = false, decide (SMsg.kind m = (8 : Int)) = false, q (SMsg.kind m), q1, q1, q1, q1, q false, q0, q1, q1, q1, q1, q (32 : Nat), q z32, q1, q1, q1, q0, q0, q (32 : Nat), q z32, q1, q1, q1, q1, q (32 : Nat), q z32, q0, q ByteArray.empty, q0, q0, q0, q0]) : Option (V × Heap × List Prop)) := by kernel_rfl

noncomputable def bdGood_c (m : SMsg) (o : SMsg) : Nat → List Prop
 | 0 => [decide ((8 : Int) < SMsg.kind m) = false, T Tryz.prog 87 [.agg (SMsg.c m)] [] (.agg (SMsg.c o)) [], T Tryz.prog 86 [.agg (SMsg.c m), .agg (SMsg.c o)] [] (.bool (sameMsgS m o)) []]
 | 1 => [decide (SMsg.kind m = (2 : Int)) = true, T Tryz.prog 88 [.agg [.int .i64 (SVote.kind (SMsg.vote m)), .int .i64 (SVote.epoch (SMsg.vote m)), .int .i64 (SVote.view (SMsg.vote m)), .int .i64 (SVote.slot (SMsg.vote m)), .seg .u8 32 (SVote.digest (SMsg.vote m))]] [] (.bool (mayVoteS (SMsg.vote m))) []]
 | 2 => [(!mayVoteS (SMsg.vote m)) = false, decide (SMsg.kind m = (7 : Int)) = false, q false, T Tryz.prog 90 [.int .i64 (SMsg.epoch m), .int .i64 1048576] [] (.bool (uptoS (SMsg.epoch m) (1048576 : Int))) []]
 | 3 => [uptoS (SMsg.epoch m) (1048576 : Int) = true, T Tryz.prog 90 [.int .i64 (SMsg.slot m), .int .i64 1099511627776] [] (.bool (uptoS (SMsg.slot m) (1099511627776 : Int))) []]
 | 4 => [uptoS (SMsg.slot m) (1099511627776 : Int) = true, T Tryz.prog 90 [.int .i64 (SMsg.view m), .int .i64 1099511627776] [] (.bool (uptoS (SMsg.view m) (1099511627776 : Int))) []]
 | 5 => [uptoS (SMsg.view m) (1099511627776 : Int) = true, T Tryz.prog 90 [.int .i64 (SMsg.leader m), .int .i64 64] [] (.bool (uptoS (SMsg.leader m) (64 : Int))) []]
 | 6 => [uptoS (SMsg.leader m) (64 : Int) = true, T Tryz.prog 91 [.agg [.bool (SBatch.noop (SMsg.batch m)), rq (SBatch.n (SMsg.batch m)) (SBatch.req (SMsg.batch m))]] [] (.bool (mayBatchS (SMsg.batch m))) []]
 | 7 => [mayBatchS (SMsg.batch m) = true, T Tryz.prog 92 [.agg [.int .i64 (SMsg.cepoch m), .int .i64 (SMsg.cleader m), .int .i64 (SMsg.cview m), hl (SMsg.nheld m) (SMsg.held m)]] [] (.bool (mayChangeS m)) []]
 | 8 => [mayChangeS m = true, T Tryz.prog 93 [.ros 18 (SMsg.nnews m) (fun i => SEnv.c (SMsg.news m i)) false, .int .i64 64, .fn (.func 94) [] []] [] (.bool (allS (SMsg.nnews m) 64 fun i => mayEnvS (SMsg.news m i))) []]
 | 9 => [(allS (SMsg.nnews m) (64 : Nat) fun i => mayEnvS (SMsg.news m i)) = true, T Tryz.prog 95 [.ros 17 (SMsg.n m) (fun i => SSign.c (SMsg.sig m i)) false, .int .i64 64, .fn (.func 96) [] []] [] (.bool (allS (SMsg.n m) 64 fun i => maySignS (SMsg.sig m i))) []]
 | 10 => [decide (SMsg.kind m = (7 : Int)) = true, T Tryz.prog 89 [.agg [.int .i64 (SVote.kind (SCert.vote (SMsg.cert m))), .int .i64 (SVote.epoch (SCert.vote (SMsg.cert m))), .int .i64 (SVote.view (SCert.vote (SMsg.cert m))), .int .i64 (SVote.slot (SCert.vote (SMsg.cert m))), .seg .u8 32 (SVote.digest (SCert.vote (SMsg.cert m))), sg (SCert.n (SMsg.cert m)) (SCert.sig (SMsg.cert m))]] [] (.bool (mayCertS (SMsg.cert m))) []]
 | 11 => [(!mayCertS (SMsg.cert m)) = false, T Tryz.prog 90 [.int .i64 (SMsg.epoch m), .int .i64 1048576] [] (.bool (uptoS (SMsg.epoch m) (1048576 : Int))) []]
 | 12 => [uptoS (SMsg.epoch m) (1048576 : Int) = true, T Tryz.prog 90 [.int .i64 (SMsg.slot m), .int .i64 1099511627776] [] (.bool (uptoS (SMsg.slot m) (1099511627776 : Int))) []]
 | 13 => [uptoS (SMsg.slot m) (1099511627776 : Int) = true, T Tryz.prog 90 [.int .i64 (SMsg.view m), .int .i64 1099511627776] [] (.bool (uptoS (SMsg.view m) (1099511627776 : Int))) []]
 | 14 => [uptoS (SMsg.view m) (1099511627776 : Int) = true, T Tryz.prog 90 [.int .i64 (SMsg.leader m), .int .i64 64] [] (.bool (uptoS (SMsg.leader m) (64 : Int))) []]
 | 15 => [uptoS (SMsg.leader m) (64 : Int) = true, T Tryz.prog 91 [.agg [.bool (SBatch.noop (SMsg.batch m)), rq (SBatch.n (SMsg.batch m)) (SBatch.req (SMsg.batch m))]] [] (.bool (mayBatchS (SMsg.batch m))) []]
 | 16 => [mayBatchS (SMsg.batch m) = true, T Tryz.prog 92 [.agg [.int .i64 (SMsg.cepoch m), .int .i64 (SMsg.cleader m), .int .i64 (SMsg.cview m), hl (SMsg.nheld m) (SMsg.held m)]] [] (.bool (mayChangeS m)) []]
 | 17 => [mayChangeS m = true, T Tryz.prog 93 [.ros 18 (SMsg.nnews m) (fun i => SEnv.c (SMsg.news m i)) false, .int .i64 64, .fn (.func 94) [] []] [] (.bool (allS (SMsg.nnews m) 64 fun i => mayEnvS (SMsg.news m i))) []]
 | 18 => [(allS (SMsg.nnews m) (64 : Nat) fun i => mayEnvS (SMsg.news m i)) = true, T Tryz.prog 95 [.ros 17 (SMsg.n m) (fun i => SSign.c (SMsg.sig m i)) false, .int .i64 64, .fn (.func 96) [] []] [] (.bool (allS (SMsg.n m) 64 fun i => maySignS (SMsg.sig m i))) []]
 | 19 => [decide (SMsg.kind m = (7 : Int)) = false, q false, T Tryz.prog 90 [.int .i64 (SMsg.epoch m), .int .i64 1048576] [] (.bool (uptoS (SMsg.epoch m) (1048576 : Int))) []]
 | 20 => [uptoS (SMsg.epoch m) (1048576 : Int) = true, T Tryz.prog 90 [.int .i64 (SMsg.slot m), .int .i64 1099511627776] [] (.bool (uptoS (SMsg.slot m) (1099511627776 : Int))) []]
 | 21 => [uptoS (SMsg.slot m) (1099511627776 : Int) = true, T Tryz.prog 90 [.int .i64 (SMsg.view m), .int .i64 1099511627776] [] (.bool (uptoS (SMsg.view m) (1099511627776 : Int))) []]
 | 22 => [uptoS (SMsg.view m) (1099511627776 : Int) = true, T Tryz.prog 90 [.int .i64 (SMsg.leader m), .int .i64 64] [] (.bool (uptoS (SMsg.leader m) (64 : Int))) []]
 | 23 => [uptoS (SMsg.leader m) (64 : Int) = true, T Tryz.prog 91 [.agg [.bool (SBatch.noop (SMsg.batch m)), rq (SBatch.n (SMsg.batch m)) (SBatch.req (SMsg.batch m))]] [] (.bool (mayBatchS (SMsg.batch m))) []]
 | 24 => [mayBatchS (SMsg.batch m) = true, T Tryz.prog 92 [.agg [.int .i64 (SMsg.cepoch m), .int .i64 (SMsg.cleader m), .int .i64 (SMsg.cview m), hl (SMsg.nheld m) (SMsg.held m)]] [] (.bool (mayChangeS m)) []]
 | 25 => [mayChangeS m = true, T Tryz.prog 93 [.ros 18 (SMsg.nnews m) (fun i => SEnv.c (SMsg.news m i)) false, .int .i64 64, .fn (.func 94) [] []] [] (.bool (allS (SMsg.nnews m) 64 fun i => mayEnvS (SMsg.news m i))) []]
 | 26 => [(allS (SMsg.nnews m) (64 : Nat) fun i => mayEnvS (SMsg.news m i)) = true, T Tryz.prog 95 [.ros 17 (SMsg.n m) (fun i => SSign.c (SMsg.sig m i)) false, .int .i64 64, .fn (.func 96) [] []] [] (.bool (allS (SMsg.n m) 64 fun i => maySignS (SMsg.sig m i))) []]
 | _ => []
theorem bdGood_p111 (m : SMsg) (o : SMsg) :
 along Tryz.prog (bdGood m o) [true, true, true] = (some (.bool false, [], [decide (SMsg.kind m < (1 : Int)) = true, q2, q2]) : Option (V × Heap × List Prop)) := by kernel_rfl

theorem bdGood_p011 (m : SMsg) (o : SMsg) :
 along Tryz.prog (bdGood m o) [false, true, true] = (some (.bool false, [], [decide (SMsg.kind m < (1 : Int)) = false, decide ((8 : Int) < SMsg.kind m) = true, q2]) : Option (V × Heap × List Prop)) := by kernel_rfl

theorem bdGood_p001 (m : SMsg) (o : SMsg) :
 along Tryz.prog (bdGood m o) [false, false, true] = (some (.bool false, [], [decide (SMsg.kind m < (1 : Int)) = false] ++ (bdGood_c m o 0 ++ [(!sameMsgS m o) = true])) : Option (V × Heap × List Prop)) := by kernel_rfl

theorem bdGood_p000111 (m : SMsg) (o : SMsg) :
 along Tryz.prog (bdGood m o) [false, false, false, true, true, true] = (some (.bool false, [], [decide (SMsg.kind m < (1 : Int)) = false] ++ (bdGood_c m o 0 ++ ([(!sameMsgS m o) = false] ++ (bdGood_c m o 1 ++ [(!mayVoteS (SMsg.vote m)) = true, q2])))) : Option (V × Heap × List Prop)) := by kernel_rfl

theorem bdGood_p0000011 (m : SMsg) (o : SMsg) :
 along Tryz.prog (bdGood m o) [false, false, false, false, false, true, true] = (some (.bool false, [], [decide (SMsg.kind m < (1 : Int)) = false] ++ (bdGood_c m o 0 ++ ([(!sameMsgS m o) = false, decide (SMsg.kind m = (2 : Int)) = false, q false] ++ (bdGood_c m o 10 ++ [(!mayCertS (SMsg.cert m)) = true])))) : Option (V × Heap × List Prop)) := by kernel_rfl

theorem bdGood_p000100000000000 (m : SMsg) (o : SMsg) :
 along Tryz.prog (bdGood m o) [false, false, false, true, false, false, false, false, false, false, false, false, false, false, false] = (some (.bool false, [], [decide (SMsg.kind m < (1 : Int)) = false] ++ (bdGood_c m o 0 ++ ([(!sameMsgS m o) = false] ++ (bdGood_c m o 1 ++ (bdGood_c m o 2 ++ [uptoS (SMsg.epoch m) (1048576 : Int) = false, q false, q false, q false, q false, q false, q false, q false]))))) : Option (V × Heap × List Prop)) := by kernel_rfl

theorem bdGood_p000100010000000 (m : SMsg) (o : SMsg) :
 along Tryz.prog (bdGood m o) [false, false, false, true, false, false, false, true, false, false, false, false, false, false, false] = (some (.bool false, [], [decide (SMsg.kind m < (1 : Int)) = false] ++ (bdGood_c m o 0 ++ ([(!sameMsgS m o) = false] ++ (bdGood_c m o 1 ++ (bdGood_c m o 2 ++ (bdGood_c m o 3 ++ [uptoS (SMsg.slot m) (1099511627776 : Int) = false, q false, q false, q false, q false, q false, q false])))))) : Option (V × Heap × List Prop)) := by kernel_rfl

theorem bdGood_p000100011000000 (m : SMsg) (o : SMsg) :
 along Tryz.prog (bdGood m o) [false, false, false, true, false, false, false, true, true, false, false, false, false, false, false] = (some (.bool false, [], [decide (SMsg.kind m < (1 : Int)) = false] ++ (bdGood_c m o 0 ++ ([(!sameMsgS m o) = false] ++ (bdGood_c m o 1 ++ (bdGood_c m o 2 ++ (bdGood_c m o 3 ++ (bdGood_c m o 4 ++ [uptoS (SMsg.view m) (1099511627776 : Int) = false, q false, q false, q false, q false, q false]))))))) : Option (V × Heap × List Prop)) := by kernel_rfl

theorem bdGood_p000100011100000 (m : SMsg) (o : SMsg) :
 along Tryz.prog (bdGood m o) [false, false, false, true, false, false, false, true, true, true, false, false, false, false, false] = (some (.bool false, [], [decide (SMsg.kind m < (1 : Int)) = false] ++ (bdGood_c m o 0 ++ ([(!sameMsgS m o) = false] ++ (bdGood_c m o 1 ++ (bdGood_c m o 2 ++ (bdGood_c m o 3 ++ (bdGood_c m o 4 ++ (bdGood_c m o 5 ++ [uptoS (SMsg.leader m) (64 : Int) = false, q false, q false, q false, q false])))))))) : Option (V × Heap × List Prop)) := by kernel_rfl

theorem bdGood_p000100011110000 (m : SMsg) (o : SMsg) :
 along Tryz.prog (bdGood m o) [false, false, false, true, false, false, false, true, true, true, true, false, false, false, false] = (some (.bool false, [], [decide (SMsg.kind m < (1 : Int)) = false] ++ (bdGood_c m o 0 ++ ([(!sameMsgS m o) = false] ++ (bdGood_c m o 1 ++ (bdGood_c m o 2 ++ (bdGood_c m o 3 ++ (bdGood_c m o 4 ++ (bdGood_c m o 5 ++ (bdGood_c m o 6 ++ [mayBatchS (SMsg.batch m) = false, q false, q false, q false]))))))))) : Option (V × Heap × List Prop)) := by kernel_rfl

theorem bdGood_p000100011111000 (m : SMsg) (o : SMsg) :
 along Tryz.prog (bdGood m o) [false, false, false, true, false, false, false, true, true, true, true, true, false, false, false] = (some (.bool false, [], [decide (SMsg.kind m < (1 : Int)) = false] ++ (bdGood_c m o 0 ++ ([(!sameMsgS m o) = false] ++ (bdGood_c m o 1 ++ (bdGood_c m o 2 ++ (bdGood_c m o 3 ++ (bdGood_c m o 4 ++ (bdGood_c m o 5 ++ (bdGood_c m o 6 ++ (bdGood_c m o 7 ++ [mayChangeS m = false, q false, q false])))))))))) : Option (V × Heap × List Prop)) := by kernel_rfl

theorem bdGood_p000100011111100 (m : SMsg) (o : SMsg) :
 along Tryz.prog (bdGood m o) [false, false, false, true, false, false, false, true, true, true, true, true, true, false, false] = (some (.bool false, [], [decide (SMsg.kind m < (1 : Int)) = false] ++ (bdGood_c m o 0 ++ ([(!sameMsgS m o) = false] ++ (bdGood_c m o 1 ++ (bdGood_c m o 2 ++ (bdGood_c m o 3 ++ (bdGood_c m o 4 ++ (bdGood_c m o 5 ++ (bdGood_c m o 6 ++ (bdGood_c m o 7 ++ (bdGood_c m o 8 ++ [(allS (SMsg.nnews m) (64 : Nat) fun i => mayEnvS (SMsg.news m i)) = false, q false]))))))))))) : Option (V × Heap × List Prop)) := by kernel_rfl

theorem bdGood_p000100011111110 (m : SMsg) (o : SMsg) :
 along Tryz.prog (bdGood m o) [false, false, false, true, false, false, false, true, true, true, true, true, true, true, false] = (some (.bool false, [], [decide (SMsg.kind m < (1 : Int)) = false] ++ (bdGood_c m o 0 ++ ([(!sameMsgS m o) = false] ++ (bdGood_c m o 1 ++ (bdGood_c m o 2 ++ (bdGood_c m o 3 ++ (bdGood_c m o 4 ++ (bdGood_c m o 5 ++ (bdGood_c m o 6 ++ (bdGood_c m o 7 ++ (bdGood_c m o 8 ++ (bdGood_c m o 9 ++ [(allS (SMsg.n m) (64 : Nat) fun i => maySignS (SMsg.sig m i)) = false])))))))))))) : Option (V × Heap × List Prop)) := by kernel_rfl

theorem bdGood_p000100011111111 (m : SMsg) (o : SMsg) :
 along Tryz.prog (bdGood m o) [false, false, false, true, false, false, false, true, true, true, true, true, true, true, true] = (some (.bool (decide ((↑(ByteArray.size (SMsg.state m)) : Int) ≤ (4194304 : Int))), [], [decide (SMsg.kind m < (1 : Int)) = false] ++ (bdGood_c m o 0 ++ ([(!sameMsgS m o) = false] ++ (bdGood_c m o 1 ++ (bdGood_c m o 2 ++ (bdGood_c m o 3 ++ (bdGood_c m o 4 ++ (bdGood_c m o 5 ++ (bdGood_c m o 6 ++ (bdGood_c m o 7 ++ (bdGood_c m o 8 ++ (bdGood_c m o 9 ++ [(allS (SMsg.n m) (64 : Nat) fun i => maySignS (SMsg.sig m i)) = true])))))))))))) : Option (V × Heap × List Prop)) := by kernel_rfl

theorem bdGood_p000001000000000 (m : SMsg) (o : SMsg) :
 along Tryz.prog (bdGood m o) [false, false, false, false, false, true, false, false, false, false, false, false, false, false, false] = (some (.bool false, [], [decide (SMsg.kind m < (1 : Int)) = false] ++ (bdGood_c m o 0 ++ ([(!sameMsgS m o) = false, decide (SMsg.kind m = (2 : Int)) = false, q false] ++ (bdGood_c m o 10 ++ (bdGood_c m o 11 ++ [uptoS (SMsg.epoch m) (1048576 : Int) = false, q false, q false, q false, q false, q false, q false, q false]))))) : Option (V × Heap × List Prop)) := by kernel_rfl

theorem bdGood_p000001010000000 (m : SMsg) (o : SMsg) :
 along Tryz.prog (bdGood m o) [false, false, false, false, false, true, false, true, false, false, false, false, false, false, false] = (some (.bool false, [], [decide (SMsg.kind m < (1 : Int)) = false] ++ (bdGood_c m o 0 ++ ([(!sameMsgS m o) = false, decide (SMsg.kind m = (2 : Int)) = false, q false] ++ (bdGood_c m o 10 ++ (bdGood_c m o 11 ++ (bdGood_c m o 12 ++ [uptoS (SMsg.slot m) (1099511627776 : Int) = false, q false, q false, q false, q false, q false, q false])))))) : Option (V × Heap × List Prop)) := by kernel_rfl

theorem bdGood_p000001011000000 (m : SMsg) (o : SMsg) :
 along Tryz.prog (bdGood m o) [false, false, false, false, false, true, false, true, true, false, false, false, false, false, false] = (some (.bool false, [], [decide (SMsg.kind m < (1 : Int)) = false] ++ (bdGood_c m o 0 ++ ([(!sameMsgS m o) = false, decide (SMsg.kind m = (2 : Int)) = false, q false] ++ (bdGood_c m o 10 ++ (bdGood_c m o 11 ++ (bdGood_c m o 12 ++ (bdGood_c m o 13 ++ [uptoS (SMsg.view m) (1099511627776 : Int) = false, q false, q false, q false, q false, q false]))))))) : Option (V × Heap × List Prop)) := by kernel_rfl

theorem bdGood_p000001011100000 (m : SMsg) (o : SMsg) :
 along Tryz.prog (bdGood m o) [false, false, false, false, false, true, false, true, true, true, false, false, false, false, false] = (some (.bool false, [], [decide (SMsg.kind m < (1 : Int)) = false] ++ (bdGood_c m o 0 ++ ([(!sameMsgS m o) = false, decide (SMsg.kind m = (2 : Int)) = false, q false] ++ (bdGood_c m o 10 ++ (bdGood_c m o 11 ++ (bdGood_c m o 12 ++ (bdGood_c m o 13 ++ (bdGood_c m o 14 ++ [uptoS (SMsg.leader m) (64 : Int) = false, q false, q false, q false, q false])))))))) : Option (V × Heap × List Prop)) := by kernel_rfl

theorem bdGood_p000001011110000 (m : SMsg) (o : SMsg) :
 along Tryz.prog (bdGood m o) [false, false, false, false, false, true, false, true, true, true, true, false, false, false, false] = (some (.bool false, [], [decide (SMsg.kind m < (1 : Int)) = false] ++ (bdGood_c m o 0 ++ ([(!sameMsgS m o) = false, decide (SMsg.kind m = (2 : Int)) = false, q false] ++ (bdGood_c m o 10 ++ (bdGood_c m o 11 ++ (bdGood_c m o 12 ++ (bdGood_c m o 13 ++ (bdGood_c m o 14 ++ (bdGood_c m o 15 ++ [mayBatchS (SMsg.batch m) = false, q false, q false, q false]))))))))) : Option (V × Heap × List Prop)) := by kernel_rfl

theorem bdGood_p000001011111000 (m : SMsg) (o : SMsg) :
 along Tryz.prog (bdGood m o) [false, false, false, false, false, true, false, true, true, true, true, true, false, false, false] = (some (.bool false, [], [decide (SMsg.kind m < (1 : Int)) = false] ++ (bdGood_c m o 0 ++ ([(!sameMsgS m o) = false, decide (SMsg.kind m = (2 : Int)) = false, q false] ++ (bdGood_c m o 10 ++ (bdGood_c m o 11 ++ (bdGood_c m o 12 ++ (bdGood_c m o 13 ++ (bdGood_c m o 14 ++ (bdGood_c m o 15 ++ (bdGood_c m o 16 ++ [mayChangeS m = false, q false, q false])))))))))) : Option (V × Heap × List Prop)) := by kernel_rfl

theorem bdGood_p000001011111100 (m : SMsg) (o : SMsg) :
 along Tryz.prog (bdGood m o) [false, false, false, false, false, true, false, true, true, true, true, true, true, false, false] = (some (.bool false, [], [decide (SMsg.kind m < (1 : Int)) = false] ++ (bdGood_c m o 0 ++ ([(!sameMsgS m o) = false, decide (SMsg.kind m = (2 : Int)) = false, q false] ++ (bdGood_c m o 10 ++ (bdGood_c m o 11 ++ (bdGood_c m o 12 ++ (bdGood_c m o 13 ++ (bdGood_c m o 14 ++ (bdGood_c m o 15 ++ (bdGood_c m o 16 ++ (bdGood_c m o 17 ++ [(allS (SMsg.nnews m) (64 : Nat) fun i => mayEnvS (SMsg.news m i)) = false, q false]))))))))))) : Option (V × Heap × List Prop)) := by kernel_rfl

theorem bdGood_p000001011111110 (m : SMsg) (o : SMsg) :
 along Tryz.prog (bdGood m o) [false, false, false, false, false, true, false, true, true, true, true, true, true, true, false] = (some (.bool false, [], [decide (SMsg.kind m < (1 : Int)) = false] ++ (bdGood_c m o 0 ++ ([(!sameMsgS m o) = false, decide (SMsg.kind m = (2 : Int)) = false, q false] ++ (bdGood_c m o 10 ++ (bdGood_c m o 11 ++ (bdGood_c m o 12 ++ (bdGood_c m o 13 ++ (bdGood_c m o 14 ++ (bdGood_c m o 15 ++ (bdGood_c m o 16 ++ (bdGood_c m o 17 ++ (bdGood_c m o 18 ++ [(allS (SMsg.n m) (64 : Nat) fun i => maySignS (SMsg.sig m i)) = false])))))))))))) : Option (V × Heap × List Prop)) := by kernel_rfl

theorem bdGood_p000001011111111 (m : SMsg) (o : SMsg) :
 along Tryz.prog (bdGood m o) [false, false, false, false, false, true, false, true, true, true, true, true, true, true, true] = (some (.bool (decide ((↑(ByteArray.size (SMsg.state m)) : Int) ≤ (4194304 : Int))), [], [decide (SMsg.kind m < (1 : Int)) = false] ++ (bdGood_c m o 0 ++ ([(!sameMsgS m o) = false, decide (SMsg.kind m = (2 : Int)) = false, q false] ++ (bdGood_c m o 10 ++ (bdGood_c m o 11 ++ (bdGood_c m o 12 ++ (bdGood_c m o 13 ++ (bdGood_c m o 14 ++ (bdGood_c m o 15 ++ (bdGood_c m o 16 ++ (bdGood_c m o 17 ++ (bdGood_c m o 18 ++ [(allS (SMsg.n m) (64 : Nat) fun i => maySignS (SMsg.sig m i)) = true])))))))))))) : Option (V × Heap × List Prop)) := by kernel_rfl

theorem bdGood_p000000000000000 (m : SMsg) (o : SMsg) :
 along Tryz.prog (bdGood m o) [false, false, false, false, false, false, false, false, false, false, false, false, false, false, false] = (some (.bool false, [], [decide (SMsg.kind m < (1 : Int)) = false] ++ (bdGood_c m o 0 ++ ([(!sameMsgS m o) = false, decide (SMsg.kind m = (2 : Int)) = false, q false] ++ (bdGood_c m o 19 ++ [uptoS (SMsg.epoch m) (1048576 : Int) = false, q false, q false, q false, q false, q false, q false, q false])))) : Option (V × Heap × List Prop)) := by kernel_rfl

theorem bdGood_p000000010000000 (m : SMsg) (o : SMsg) :
 along Tryz.prog (bdGood m o) [false, false, false, false, false, false, false, true, false, false, false, false, false, false, false] = (some (.bool false, [], [decide (SMsg.kind m < (1 : Int)) = false] ++ (bdGood_c m o 0 ++ ([(!sameMsgS m o) = false, decide (SMsg.kind m = (2 : Int)) = false, q false] ++ (bdGood_c m o 19 ++ (bdGood_c m o 20 ++ [uptoS (SMsg.slot m) (1099511627776 : Int) = false, q false, q false, q false, q false, q false, q false]))))) : Option (V × Heap × List Prop)) := by kernel_rfl

theorem bdGood_p000000011000000 (m : SMsg) (o : SMsg) :
 along Tryz.prog (bdGood m o) [false, false, false, false, false, false, false, true, true, false, false, false, false, false, false] = (some (.bool false, [], [decide (SMsg.kind m < (1 : Int)) = false] ++ (bdGood_c m o 0 ++ ([(!sameMsgS m o) = false, decide (SMsg.kind m = (2 : Int)) = false, q false] ++ (bdGood_c m o 19 ++ (bdGood_c m o 20 ++ (bdGood_c m o 21 ++ [uptoS (SMsg.view m) (1099511627776 : Int) = false, q false, q false, q false, q false, q false])))))) : Option (V × Heap × List Prop)) := by kernel_rfl

theorem bdGood_p000000011100000 (m : SMsg) (o : SMsg) :
 along Tryz.prog (bdGood m o) [false, false, false, false, false, false, false, true, true, true, false, false, false, false, false] = (some (.bool false, [], [decide (SMsg.kind m < (1 : Int)) = false] ++ (bdGood_c m o 0 ++ ([(!sameMsgS m o) = false, decide (SMsg.kind m = (2 : Int)) = false, q false] ++ (bdGood_c m o 19 ++ (bdGood_c m o 20 ++ (bdGood_c m o 21 ++ (bdGood_c m o 22 ++ [uptoS (SMsg.leader m) (64 : Int) = false, q false, q false, q false, q false]))))))) : Option (V × Heap × List Prop)) := by kernel_rfl

theorem bdGood_p000000011110000 (m : SMsg) (o : SMsg) :
 along Tryz.prog (bdGood m o) [false, false, false, false, false, false, false, true, true, true, true, false, false, false, false] = (some (.bool false, [], [decide (SMsg.kind m < (1 : Int)) = false] ++ (bdGood_c m o 0 ++ ([(!sameMsgS m o) = false, decide (SMsg.kind m = (2 : Int)) = false, q false] ++ (bdGood_c m o 19 ++ (bdGood_c m o 20 ++ (bdGood_c m o 21 ++ (bdGood_c m o 22 ++ (bdGood_c m o 23 ++ [mayBatchS (SMsg.batch m) = false, q false, q false, q false])))))))) : Option (V × Heap × List Prop)) := by kernel_rfl

theorem bdGood_p000000011111000 (m : SMsg) (o : SMsg) :
 along Tryz.prog (bdGood m o) [false, false, false, false, false, false, false, true, true, true, true, true, false, false, false] = (some (.bool false, [], [decide (SMsg.kind m < (1 : Int)) = false] ++ (bdGood_c m o 0 ++ ([(!sameMsgS m o) = false, decide (SMsg.kind m = (2 : Int)) = false, q false] ++ (bdGood_c m o 19 ++ (bdGood_c m o 20 ++ (bdGood_c m o 21 ++ (bdGood_c m o 22 ++ (bdGood_c m o 23 ++ (bdGood_c m o 24 ++ [mayChangeS m = false, q false, q false]))))))))) : Option (V × Heap × List Prop)) := by kernel_rfl

theorem bdGood_p000000011111100 (m : SMsg) (o : SMsg) :
 along Tryz.prog (bdGood m o) [false, false, false, false, false, false, false, true, true, true, true, true, true, false, false] = (some (.bool false, [], [decide (SMsg.kind m < (1 : Int)) = false] ++ (bdGood_c m o 0 ++ ([(!sameMsgS m o) = false, decide (SMsg.kind m = (2 : Int)) = false, q false] ++ (bdGood_c m o 19 ++ (bdGood_c m o 20 ++ (bdGood_c m o 21 ++ (bdGood_c m o 22 ++ (bdGood_c m o 23 ++ (bdGood_c m o 24 ++ (bdGood_c m o 25 ++ [(allS (SMsg.nnews m) (64 : Nat) fun i => mayEnvS (SMsg.news m i)) = false, q false])))))))))) : Option (V × Heap × List Prop)) := by kernel_rfl

theorem bdGood_p000000011111110 (m : SMsg) (o : SMsg) :
 along Tryz.prog (bdGood m o) [false, false, false, false, false, false, false, true, true, true, true, true, true, true, false] = (some (.bool false, [], [decide (SMsg.kind m < (1 : Int)) = false] ++ (bdGood_c m o 0 ++ ([(!sameMsgS m o) = false, decide (SMsg.kind m = (2 : Int)) = false, q false] ++ (bdGood_c m o 19 ++ (bdGood_c m o 20 ++ (bdGood_c m o 21 ++ (bdGood_c m o 22 ++ (bdGood_c m o 23 ++ (bdGood_c m o 24 ++ (bdGood_c m o 25 ++ (bdGood_c m o 26 ++ [(allS (SMsg.n m) (64 : Nat) fun i => maySignS (SMsg.sig m i)) = false]))))))))))) : Option (V × Heap × List Prop)) := by kernel_rfl

theorem bdGood_p000000011111111 (m : SMsg) (o : SMsg) :
 along Tryz.prog (bdGood m o) [false, false, false, false, false, false, false, true, true, true, true, true, true, true, true] = (some (.bool (decide ((↑(ByteArray.size (SMsg.state m)) : Int) ≤ (4194304 : Int))), [], [decide (SMsg.kind m < (1 : Int)) = false] ++ (bdGood_c m o 0 ++ ([(!sameMsgS m o) = false, decide (SMsg.kind m = (2 : Int)) = false, q false] ++ (bdGood_c m o 19 ++ (bdGood_c m o 20 ++ (bdGood_c m o 21 ++ (bdGood_c m o 22 ++ (bdGood_c m o 23 ++ (bdGood_c m o 24 ++ (bdGood_c m o 25 ++ (bdGood_c m o 26 ++ [(allS (SMsg.n m) (64 : Nat) fun i => maySignS (SMsg.sig m i)) = true]))))))))))) : Option (V × Heap × List Prop)) := by kernel_rfl

theorem T_only (m : SMsg) : T Tryz.prog 87 [.agg m.c] [] (.agg (onlyS m).c) [] := by
 by_cases h1 : m.kind = 2
 ·refine T.val (T_al (bdO2_p1 m) Tryz.func87 ?_) (by simp only [onlyS, if_pos h1]; rfl)
  simp [All, All_append, bdGood_c, h1]
 ·
  by_cases h2 : m.kind = 3
  ·refine T.val (T_al (bdO3_p01 m) Tryz.func87 ?_) (by simp only [onlyS, if_neg h1, if_pos h2]; rfl)
   simp [All, All_append, bdGood_c, h1, h2]
  ·
   by_cases h3 : m.kind = 4
   ·refine T.val (T_al (bdO4_p001 m) Tryz.func87 ?_) (by simp only [onlyS, if_neg h1, if_neg h2, if_pos h3]; rfl)
    simp [All, All_append, bdGood_c, h1, h2, h3]
   ·
    by_cases h4 : m.kind = 5
    ·refine T.val (T_al (bdO5_p0001 m) Tryz.func87 ?_) (by simp only [onlyS, if_neg h1, if_neg h2, if_neg h3, if_pos h4]; rfl)
     simp [All, All_append, bdGood_c, h1, h2, h3, h4]
    ·
     by_cases h5 : m.kind = 1
     ·refine T.val (T_al (bdO1_p00001 m) Tryz.func87 ?_) (by simp only [onlyS, if_neg h1, if_neg h2, if_neg h3, if_neg h4, if_pos h5]; rfl)
      simp [All, All_append, bdGood_c, h1, h2, h3, h4, h5]
     ·
      by_cases h6 : m.kind = 6
      ·refine T.val (T_al (bdO6_p000001 m) Tryz.func87 ?_) (by simp only [onlyS, if_neg h1, if_neg h2, if_neg h3, if_neg h4, if_neg h5, if_pos h6]; rfl)
       simp [All, All_append, bdGood_c, h1, h2, h3, h4, h5, h6]
      ·
       by_cases h7 : m.kind = 7
       ·refine T.val (T_al (bdO7_p0000001 m) Tryz.func87 ?_) (by simp only [onlyS, if_neg h1, if_neg h2, if_neg h3, if_neg h4, if_neg h5, if_neg h6, if_pos h7]; rfl)
        simp [All, All_append, bdGood_c, h1, h2, h3, h4, h5, h6, h7]
       ·
        by_cases h8 : m.kind = 8
        ·refine T.val (T_al (bdO8_p00000001 m) Tryz.func87 ?_) (by simp only [onlyS, if_neg h1, if_neg h2, if_neg h3, if_neg h4, if_neg h5, if_neg h6, if_neg h7, if_pos h8]; rfl)
         simp [All, All_append, bdGood_c, h1, h2, h3, h4, h5, h6, h7, h8]
        ·
         refine T.val (T_al (bdO9_p00000000 m) Tryz.func87 ?_) (by simp only [onlyS, if_neg h1, if_neg h2, if_neg h3, if_neg h4, if_neg h5, if_neg h6, if_neg h7, if_neg h8]; rfl)
         simp [All, All_append, bdGood_c, h1, h2, h3, h4, h5, h6, h7, h8]
theorem T_good {m : SMsg} (hf : FitM m) : T Tryz.prog 52 [.agg m.c] [] (.bool (goodS m)) [] := by
 by_cases h1 : m.kind < 1
 ·
  refine T.bool (T_al (bdGood_p111 m (onlyS m)) Tryz.func52 ?_) (by simp [goodS, h1] <;> omega)
  simp only [All, All_append, bdGood_c]
  and_intros
  all_goals first
   | exact T_only m
   | exact T_mS m (onlyS m) hf
   | exact T_mv m.vote
   | exact T_mc m.cert
   | exact T_upto _ _
   | exact T_mb m.batch
   | exact T_mg m
   | exact T_alE m.news (by decide)
   | exact T_alS m.sig (by decide)
   | (simp [h1]; done)
   | exact h1
   | exact Bool.eq_false_iff.mpr h1
 ·
  by_cases h2 : 8 < m.kind
  ·
   refine T.bool (T_al (bdGood_p011 m (onlyS m)) Tryz.func52 ?_) (by simp [goodS, h1, h2] <;> omega)
   simp only [All, All_append, bdGood_c]
   and_intros
   all_goals first
    | exact T_only m
    | exact T_mS m (onlyS m) hf
    | exact T_mv m.vote
    | exact T_mc m.cert
    | exact T_upto _ _
    | exact T_mb m.batch
    | exact T_mg m
    | exact T_alE m.news (by decide)
    | exact T_alS m.sig (by decide)
    | (simp [h1, h2]; done)
    | exact h1
    | exact Bool.eq_false_iff.mpr h1
    | exact h2
    | exact Bool.eq_false_iff.mpr h2
  ·
   by_cases h3 : sameMsgS m (onlyS m) = false
   ·
    refine T.bool (T_al (bdGood_p001 m (onlyS m)) Tryz.func52 ?_) (by simp [goodS, h1, h2, h3] <;> omega)
    simp only [All, All_append, bdGood_c]
    and_intros
    all_goals first
     | exact T_only m
     | exact T_mS m (onlyS m) hf
     | exact T_mv m.vote
     | exact T_mc m.cert
     | exact T_upto _ _
     | exact T_mb m.batch
     | exact T_mg m
     | exact T_alE m.news (by decide)
     | exact T_alS m.sig (by decide)
     | (simp [h1, h2, h3]; done)
     | exact h1
     | exact Bool.eq_false_iff.mpr h1
     | exact h2
     | exact Bool.eq_false_iff.mpr h2
     | exact h3
     | exact Bool.eq_false_iff.mpr h3
   ·
    by_cases h4 : m.kind = 2
    ·
     by_cases h5 : mayVoteS m.vote = false
     ·
      refine T.bool (T_al (bdGood_p000111 m (onlyS m)) Tryz.func52 ?_) (by simp [goodS, h1, h2, h3, h4, h5] <;> omega)
      simp only [All, All_append, bdGood_c]
      and_intros
      all_goals first
       | exact T_only m
       | exact T_mS m (onlyS m) hf
       | exact T_mv m.vote
       | exact T_mc m.cert
       | exact T_upto _ _
       | exact T_mb m.batch
       | exact T_mg m
       | exact T_alE m.news (by decide)
       | exact T_alS m.sig (by decide)
       | (simp [h1, h2, h3, h4, h5]; done)
       | exact h1
       | exact Bool.eq_false_iff.mpr h1
       | exact h2
       | exact Bool.eq_false_iff.mpr h2
       | exact h3
       | exact Bool.eq_false_iff.mpr h3
       | exact h4
       | exact Bool.eq_false_iff.mpr h4
       | exact h5
       | exact Bool.eq_false_iff.mpr h5
     ·
      by_cases h6 : uptoS m.epoch 1048576 = true
      ·
       by_cases h7 : uptoS m.slot 1099511627776 = true
       ·
        by_cases h8 : uptoS m.view 1099511627776 = true
        ·
         by_cases h9 : uptoS m.leader 64 = true
         ·
          by_cases h10 : mayBatchS m.batch = true
          ·
           by_cases h11 : mayChangeS m = true
           ·
            by_cases h12 : (allS m.nnews 64 fun i => mayEnvS (m.news i)) = true
            ·
             by_cases h13 : (allS m.n 64 fun i => maySignS (m.sig i)) = true
             ·
              refine T.bool (T_al (bdGood_p000100011111111 m (onlyS m)) Tryz.func52 ?_) (by simp [goodS, h1, h2, h3, h4, h5, h6, h7, h8, h9, h10, h11, h12, h13] <;> omega)
              simp only [All, All_append, bdGood_c]
              and_intros
              all_goals first
               | exact T_only m
               | exact T_mS m (onlyS m) hf
               | exact T_mv m.vote
               | exact T_mc m.cert
               | exact T_upto _ _
               | exact T_mb m.batch
               | exact T_mg m
               | exact T_alE m.news (by decide)
               | exact T_alS m.sig (by decide)
               | (simp [h1, h2, h3, h4, h5, h6, h7, h8, h9, h10, h11, h12, h13]; done)
               | exact h1
               | exact Bool.eq_false_iff.mpr h1
               | exact h2
               | exact Bool.eq_false_iff.mpr h2
               | exact h3
               | exact Bool.eq_false_iff.mpr h3
               | exact h4
               | exact Bool.eq_false_iff.mpr h4
               | exact h5
               | exact Bool.eq_false_iff.mpr h5
               | exact h6
               | exact Bool.eq_false_iff.mpr h6
               | exact h7
               | exact Bool.eq_false_iff.mpr h7
               | exact h8
               | exact Bool.eq_false_iff.mpr h8
               | exact h9
               | exact Bool.eq_false_iff.mpr h9
               | exact h10
               | exact Bool.eq_false_iff.mpr h10
               | exact h11
               | exact Bool.eq_false_iff.mpr h11
               | exact h12
               | exact Bool.eq_false_iff.mpr h12
               | exact h13
               | exact Bool.eq_false_iff.mpr h13
             ·
              refine T.bool (T_al (bdGood_p000100011111110 m (onlyS m)) Tryz.func52 ?_) (by simp [goodS, h1, h2, h3, h4, h5, h6, h7, h8, h9, h10, h11, h12, h13] <;> omega)
              simp only [All, All_append, bdGood_c]
              and_intros
              all_goals first
               | exact T_only m
               | exact T_mS m (onlyS m) hf
               | exact T_mv m.vote
               | exact T_mc m.cert
               | exact T_upto _ _
               | exact T_mb m.batch
               | exact T_mg m
               | exact T_alE m.news (by decide)
               | exact T_alS m.sig (by decide)
               | (simp [h1, h2, h3, h4, h5, h6, h7, h8, h9, h10, h11, h12, h13]; done)
               | exact h1
               | exact Bool.eq_false_iff.mpr h1
               | exact h2
               | exact Bool.eq_false_iff.mpr h2
               | exact h3
               | exact Bool.eq_false_iff.mpr h3
               | exact h4
               | exact Bool.eq_false_iff.mpr h4
               | exact h5
               | exact Bool.eq_false_iff.mpr h5
               | exact h6
               | exact Bool.eq_false_iff.mpr h6
               | exact h7
               | exact Bool.eq_false_iff.mpr h7
               | exact h8
               | exact Bool.eq_false_iff.mpr h8
               | exact h9
               | exact Bool.eq_false_iff.mpr h9
               | exact h10
               | exact Bool.eq_false_iff.mpr h10
               | exact h11
               | exact Bool.eq_false_iff.mpr h11
               | exact h12
               | exact Bool.eq_false_iff.mpr h12
               | exact h13
               | exact Bool.eq_false_iff.mpr h13
            ·
             refine T.bool (T_al (bdGood_p000100011111100 m (onlyS m)) Tryz.func52 ?_) (by simp [goodS, h1, h2, h3, h4, h5, h6, h7, h8, h9, h10, h11, h12] <;> omega)
             simp only [All, All_append, bdGood_c]
             and_intros
             all_goals first
              | exact T_only m
              | exact T_mS m (onlyS m) hf
              | exact T_mv m.vote
              | exact T_mc m.cert
              | exact T_upto _ _
              | exact T_mb m.batch
              | exact T_mg m
              | exact T_alE m.news (by decide)
              | exact T_alS m.sig (by decide)
              | (simp [h1, h2, h3, h4, h5, h6, h7, h8, h9, h10, h11, h12]; done)
              | exact h1
              | exact Bool.eq_false_iff.mpr h1
              | exact h2
              | exact Bool.eq_false_iff.mpr h2
              | exact h3
              | exact Bool.eq_false_iff.mpr h3
              | exact h4
              | exact Bool.eq_false_iff.mpr h4
              | exact h5
              | exact Bool.eq_false_iff.mpr h5
              | exact h6
              | exact Bool.eq_false_iff.mpr h6
              | exact h7
              | exact Bool.eq_false_iff.mpr h7
              | exact h8
              | exact Bool.eq_false_iff.mpr h8
              | exact h9
              | exact Bool.eq_false_iff.mpr h9
              | exact h10
              | exact Bool.eq_false_iff.mpr h10
              | exact h11
              | exact Bool.eq_false_iff.mpr h11
              | exact h12
              | exact Bool.eq_false_iff.mpr h12
           ·
            refine T.bool (T_al (bdGood_p000100011111000 m (onlyS m)) Tryz.func52 ?_) (by simp [goodS, h1, h2, h3, h4, h5, h6, h7, h8, h9, h10, h11] <;> omega)
            simp only [All, All_append, bdGood_c]
            and_intros
            all_goals first
             | exact T_only m
             | exact T_mS m (onlyS m) hf
             | exact T_mv m.vote
             | exact T_mc m.cert
             | exact T_upto _ _
             | exact T_mb m.batch
             | exact T_mg m
             | exact T_alE m.news (by decide)
             | exact T_alS m.sig (by decide)
             | (simp [h1, h2, h3, h4, h5, h6, h7, h8, h9, h10, h11]; done)
             | exact h1
             | exact Bool.eq_false_iff.mpr h1
             | exact h2
             | exact Bool.eq_false_iff.mpr h2
             | exact h3
             | exact Bool.eq_false_iff.mpr h3
             | exact h4
             | exact Bool.eq_false_iff.mpr h4
             | exact h5
             | exact Bool.eq_false_iff.mpr h5
             | exact h6
             | exact Bool.eq_false_iff.mpr h6
             | exact h7
             | exact Bool.eq_false_iff.mpr h7
             | exact h8
             | exact Bool.eq_false_iff.mpr h8
             | exact h9
             | exact Bool.eq_false_iff.mpr h9
             | exact h10
             | exact Bool.eq_false_iff.mpr h10
             | exact h11
             | exact Bool.eq_false_iff.mpr h11
          ·
           refine T.bool (T_al (bdGood_p000100011110000 m (onlyS m)) Tryz.func52 ?_) (by simp [goodS, h1, h2, h3, h4, h5, h6, h7, h8, h9, h10] <;> omega)
           simp only [All, All_append, bdGood_c]
           and_intros
           all_goals first
            | exact T_only m
            | exact T_mS m (onlyS m) hf
            | exact T_mv m.vote
            | exact T_mc m.cert
            | exact T_upto _ _
            | exact T_mb m.batch
            | exact T_mg m
            | exact T_alE m.news (by decide)
            | exact T_alS m.sig (by decide)
            | (simp [h1, h2, h3, h4, h5, h6, h7, h8, h9, h10]; done)
            | exact h1
            | exact Bool.eq_false_iff.mpr h1
            | exact h2
            | exact Bool.eq_false_iff.mpr h2
            | exact h3
            | exact Bool.eq_false_iff.mpr h3
            | exact h4
            | exact Bool.eq_false_iff.mpr h4
            | exact h5
            | exact Bool.eq_false_iff.mpr h5
            | exact h6
            | exact Bool.eq_false_iff.mpr h6
            | exact h7
            | exact Bool.eq_false_iff.mpr h7
            | exact h8
            | exact Bool.eq_false_iff.mpr h8
            | exact h9
            | exact Bool.eq_false_iff.mpr h9
            | exact h10
            | exact Bool.eq_false_iff.mpr h10
         ·
          refine T.bool (T_al (bdGood_p000100011100000 m (onlyS m)) Tryz.func52 ?_) (by simp [goodS, h1, h2, h3, h4, h5, h6, h7, h8, h9] <;> omega)
          simp only [All, All_append, bdGood_c]
          and_intros
          all_goals first
           | exact T_only m
           | exact T_mS m (onlyS m) hf
           | exact T_mv m.vote
           | exact T_mc m.cert
           | exact T_upto _ _
           | exact T_mb m.batch
           | exact T_mg m
           | exact T_alE m.news (by decide)
           | exact T_alS m.sig (by decide)
           | (simp [h1, h2, h3, h4, h5, h6, h7, h8, h9]; done)
           | exact h1
           | exact Bool.eq_false_iff.mpr h1
           | exact h2
           | exact Bool.eq_false_iff.mpr h2
           | exact h3
           | exact Bool.eq_false_iff.mpr h3
           | exact h4
           | exact Bool.eq_false_iff.mpr h4
           | exact h5
           | exact Bool.eq_false_iff.mpr h5
           | exact h6
           | exact Bool.eq_false_iff.mpr h6
           | exact h7
           | exact Bool.eq_false_iff.mpr h7
           | exact h8
           | exact Bool.eq_false_iff.mpr h8
           | exact h9
           | exact Bool.eq_false_iff.mpr h9
        ·
         refine T.bool (T_al (bdGood_p000100011000000 m (onlyS m)) Tryz.func52 ?_) (by simp [goodS, h1, h2, h3, h4, h5, h6, h7, h8] <;> omega)
         simp only [All, All_append, bdGood_c]
         and_intros
         all_goals first
          | exact T_only m
          | exact T_mS m (onlyS m) hf
          | exact T_mv m.vote
          | exact T_mc m.cert
          | exact T_upto _ _
          | exact T_mb m.batch
          | exact T_mg m
          | exact T_alE m.news (by decide)
          | exact T_alS m.sig (by decide)
          | (simp [h1, h2, h3, h4, h5, h6, h7, h8]; done)
          | exact h1
          | exact Bool.eq_false_iff.mpr h1
          | exact h2
          | exact Bool.eq_false_iff.mpr h2
          | exact h3
          | exact Bool.eq_false_iff.mpr h3
          | exact h4
          | exact Bool.eq_false_iff.mpr h4
          | exact h5
          | exact Bool.eq_false_iff.mpr h5
          | exact h6
          | exact Bool.eq_false_iff.mpr h6
          | exact h7
          | exact Bool.eq_false_iff.mpr h7
          | exact h8
          | exact Bool.eq_false_iff.mpr h8
       ·
        refine T.bool (T_al (bdGood_p000100010000000 m (onlyS m)) Tryz.func52 ?_) (by simp [goodS, h1, h2, h3, h4, h5, h6, h7] <;> omega)
        simp only [All, All_append, bdGood_c]
        and_intros
        all_goals first
         | exact T_only m
         | exact T_mS m (onlyS m) hf
         | exact T_mv m.vote
         | exact T_mc m.cert
         | exact T_upto _ _
         | exact T_mb m.batch
         | exact T_mg m
         | exact T_alE m.news (by decide)
         | exact T_alS m.sig (by decide)
         | (simp [h1, h2, h3, h4, h5, h6, h7]; done)
         | exact h1
         | exact Bool.eq_false_iff.mpr h1
         | exact h2
         | exact Bool.eq_false_iff.mpr h2
         | exact h3
         | exact Bool.eq_false_iff.mpr h3
         | exact h4
         | exact Bool.eq_false_iff.mpr h4
         | exact h5
         | exact Bool.eq_false_iff.mpr h5
         | exact h6
         | exact Bool.eq_false_iff.mpr h6
         | exact h7
         | exact Bool.eq_false_iff.mpr h7
      ·
       refine T.bool (T_al (bdGood_p000100000000000 m (onlyS m)) Tryz.func52 ?_) (by simp [goodS, h1, h2, h3, h4, h5, h6] <;> omega)
       simp only [All, All_append, bdGood_c]
       and_intros
       all_goals first
        | exact T_only m
        | exact T_mS m (onlyS m) hf
        | exact T_mv m.vote
        | exact T_mc m.cert
        | exact T_upto _ _
        | exact T_mb m.batch
        | exact T_mg m
        | exact T_alE m.news (by decide)
        | exact T_alS m.sig (by decide)
        | (simp [h1, h2, h3, h4, h5, h6]; done)
        | exact h1
        | exact Bool.eq_false_iff.mpr h1
        | exact h2
        | exact Bool.eq_false_iff.mpr h2
        | exact h3
        | exact Bool.eq_false_iff.mpr h3
        | exact h4
        | exact Bool.eq_false_iff.mpr h4
        | exact h5
        | exact Bool.eq_false_iff.mpr h5
        | exact h6
        | exact Bool.eq_false_iff.mpr h6
    ·
     by_cases h5 : m.kind = 7
     ·
      by_cases h6 : mayCertS m.cert = false
      ·
       refine T.bool (T_al (bdGood_p0000011 m (onlyS m)) Tryz.func52 ?_) (by simp [goodS, h1, h2, h3, h4, h5, h6] <;> omega)
       simp only [All, All_append, bdGood_c]
       and_intros
       all_goals first
        | exact T_only m
        | exact T_mS m (onlyS m) hf
        | exact T_mv m.vote
        | exact T_mc m.cert
        | exact T_upto _ _
        | exact T_mb m.batch
        | exact T_mg m
        | exact T_alE m.news (by decide)
        | exact T_alS m.sig (by decide)
        | (simp [h1, h2, h3, h4, h5, h6]; done)
        | exact h1
        | exact Bool.eq_false_iff.mpr h1
        | exact h2
        | exact Bool.eq_false_iff.mpr h2
        | exact h3
        | exact Bool.eq_false_iff.mpr h3
        | exact h4
        | exact Bool.eq_false_iff.mpr h4
        | exact h5
        | exact Bool.eq_false_iff.mpr h5
        | exact h6
        | exact Bool.eq_false_iff.mpr h6
      ·
       by_cases h7 : uptoS m.epoch 1048576 = true
       ·
        by_cases h8 : uptoS m.slot 1099511627776 = true
        ·
         by_cases h9 : uptoS m.view 1099511627776 = true
         ·
          by_cases h10 : uptoS m.leader 64 = true
          ·
           by_cases h11 : mayBatchS m.batch = true
           ·
            by_cases h12 : mayChangeS m = true
            ·
             by_cases h13 : (allS m.nnews 64 fun i => mayEnvS (m.news i)) = true
             ·
              by_cases h14 : (allS m.n 64 fun i => maySignS (m.sig i)) = true
              ·
               refine T.bool (T_al (bdGood_p000001011111111 m (onlyS m)) Tryz.func52 ?_) (by simp [goodS, h1, h2, h3, h4, h5, h6, h7, h8, h9, h10, h11, h12, h13, h14] <;> omega)
               simp only [All, All_append, bdGood_c]
               and_intros
               all_goals first
                | exact T_only m
                | exact T_mS m (onlyS m) hf
                | exact T_mv m.vote
                | exact T_mc m.cert
                | exact T_upto _ _
                | exact T_mb m.batch
                | exact T_mg m
                | exact T_alE m.news (by decide)
                | exact T_alS m.sig (by decide)
                | (simp [h1, h2, h3, h4, h5, h6, h7, h8, h9, h10, h11, h12, h13, h14]; done)
                | exact h1
                | exact Bool.eq_false_iff.mpr h1
                | exact h2
                | exact Bool.eq_false_iff.mpr h2
                | exact h3
                | exact Bool.eq_false_iff.mpr h3
                | exact h4
                | exact Bool.eq_false_iff.mpr h4
                | exact h5
                | exact Bool.eq_false_iff.mpr h5
                | exact h6
                | exact Bool.eq_false_iff.mpr h6
                | exact h7
                | exact Bool.eq_false_iff.mpr h7
                | exact h8
                | exact Bool.eq_false_iff.mpr h8
                | exact h9
                | exact Bool.eq_false_iff.mpr h9
                | exact h10
                | exact Bool.eq_false_iff.mpr h10
                | exact h11
                | exact Bool.eq_false_iff.mpr h11
                | exact h12
                | exact Bool.eq_false_iff.mpr h12
                | exact h13
                | exact Bool.eq_false_iff.mpr h13
                | exact h14
                | exact Bool.eq_false_iff.mpr h14
              ·
               refine T.bool (T_al (bdGood_p000001011111110 m (onlyS m)) Tryz.func52 ?_) (by simp [goodS, h1, h2, h3, h4, h5, h6, h7, h8, h9, h10, h11, h12, h13, h14] <;> omega)
               simp only [All, All_append, bdGood_c]
               and_intros
               all_goals first
                | exact T_only m
                | exact T_mS m (onlyS m) hf
                | exact T_mv m.vote
                | exact T_mc m.cert
                | exact T_upto _ _
                | exact T_mb m.batch
                | exact T_mg m
                | exact T_alE m.news (by decide)
                | exact T_alS m.sig (by decide)
                | (simp [h1, h2, h3, h4, h5, h6, h7, h8, h9, h10, h11, h12, h13, h14]; done)
                | exact h1
                | exact Bool.eq_false_iff.mpr h1
                | exact h2
                | exact Bool.eq_false_iff.mpr h2
                | exact h3
                | exact Bool.eq_false_iff.mpr h3
                | exact h4
                | exact Bool.eq_false_iff.mpr h4
                | exact h5
                | exact Bool.eq_false_iff.mpr h5
                | exact h6
                | exact Bool.eq_false_iff.mpr h6
                | exact h7
                | exact Bool.eq_false_iff.mpr h7
                | exact h8
                | exact Bool.eq_false_iff.mpr h8
                | exact h9
                | exact Bool.eq_false_iff.mpr h9
                | exact h10
                | exact Bool.eq_false_iff.mpr h10
                | exact h11
                | exact Bool.eq_false_iff.mpr h11
                | exact h12
                | exact Bool.eq_false_iff.mpr h12
                | exact h13
                | exact Bool.eq_false_iff.mpr h13
                | exact h14
                | exact Bool.eq_false_iff.mpr h14
             ·
              refine T.bool (T_al (bdGood_p000001011111100 m (onlyS m)) Tryz.func52 ?_) (by simp [goodS, h1, h2, h3, h4, h5, h6, h7, h8, h9, h10, h11, h12, h13] <;> omega)
              simp only [All, All_append, bdGood_c]
              and_intros
              all_goals first
               | exact T_only m
               | exact T_mS m (onlyS m) hf
               | exact T_mv m.vote
               | exact T_mc m.cert
               | exact T_upto _ _
               | exact T_mb m.batch
               | exact T_mg m
               | exact T_alE m.news (by decide)
               | exact T_alS m.sig (by decide)
               | (simp [h1, h2, h3, h4, h5, h6, h7, h8, h9, h10, h11, h12, h13]; done)
               | exact h1
               | exact Bool.eq_false_iff.mpr h1
               | exact h2
               | exact Bool.eq_false_iff.mpr h2
               | exact h3
               | exact Bool.eq_false_iff.mpr h3
               | exact h4
               | exact Bool.eq_false_iff.mpr h4
               | exact h5
               | exact Bool.eq_false_iff.mpr h5
               | exact h6
               | exact Bool.eq_false_iff.mpr h6
               | exact h7
               | exact Bool.eq_false_iff.mpr h7
               | exact h8
               | exact Bool.eq_false_iff.mpr h8
               | exact h9
               | exact Bool.eq_false_iff.mpr h9
               | exact h10
               | exact Bool.eq_false_iff.mpr h10
               | exact h11
               | exact Bool.eq_false_iff.mpr h11
               | exact h12
               | exact Bool.eq_false_iff.mpr h12
               | exact h13
               | exact Bool.eq_false_iff.mpr h13
            ·
             refine T.bool (T_al (bdGood_p000001011111000 m (onlyS m)) Tryz.func52 ?_) (by simp [goodS, h1, h2, h3, h4, h5, h6, h7, h8, h9, h10, h11, h12] <;> omega)
             simp only [All, All_append, bdGood_c]
             and_intros
             all_goals first
              | exact T_only m
              | exact T_mS m (onlyS m) hf
              | exact T_mv m.vote
              | exact T_mc m.cert
              | exact T_upto _ _
              | exact T_mb m.batch
              | exact T_mg m
              | exact T_alE m.news (by decide)
              | exact T_alS m.sig (by decide)
              | (simp [h1, h2, h3, h4, h5, h6, h7, h8, h9, h10, h11, h12]; done)
              | exact h1
              | exact Bool.eq_false_iff.mpr h1
              | exact h2
              | exact Bool.eq_false_iff.mpr h2
              | exact h3
              | exact Bool.eq_false_iff.mpr h3
              | exact h4
              | exact Bool.eq_false_iff.mpr h4
              | exact h5
              | exact Bool.eq_false_iff.mpr h5
              | exact h6
              | exact Bool.eq_false_iff.mpr h6
              | exact h7
              | exact Bool.eq_false_iff.mpr h7
              | exact h8
              | exact Bool.eq_false_iff.mpr h8
              | exact h9
              | exact Bool.eq_false_iff.mpr h9
              | exact h10
              | exact Bool.eq_false_iff.mpr h10
              | exact h11
              | exact Bool.eq_false_iff.mpr h11
              | exact h12
              | exact Bool.eq_false_iff.mpr h12
           ·
            refine T.bool (T_al (bdGood_p000001011110000 m (onlyS m)) Tryz.func52 ?_) (by simp [goodS, h1, h2, h3, h4, h5, h6, h7, h8, h9, h10, h11] <;> omega)
            simp only [All, All_append, bdGood_c]
            and_intros
            all_goals first
             | exact T_only m
             | exact T_mS m (onlyS m) hf
             | exact T_mv m.vote
             | exact T_mc m.cert
             | exact T_upto _ _
             | exact T_mb m.batch
             | exact T_mg m
             | exact T_alE m.news (by decide)
             | exact T_alS m.sig (by decide)
             | (simp [h1, h2, h3, h4, h5, h6, h7, h8, h9, h10, h11]; done)
             | exact h1
             | exact Bool.eq_false_iff.mpr h1
             | exact h2
             | exact Bool.eq_false_iff.mpr h2
             | exact h3
             | exact Bool.eq_false_iff.mpr h3
             | exact h4
             | exact Bool.eq_false_iff.mpr h4
             | exact h5
             | exact Bool.eq_false_iff.mpr h5
             | exact h6
             | exact Bool.eq_false_iff.mpr h6
             | exact h7
             | exact Bool.eq_false_iff.mpr h7
             | exact h8
             | exact Bool.eq_false_iff.mpr h8
             | exact h9
             | exact Bool.eq_false_iff.mpr h9
             | exact h10
             | exact Bool.eq_false_iff.mpr h10
             | exact h11
             | exact Bool.eq_false_iff.mpr h11
          ·
           refine T.bool (T_al (bdGood_p000001011100000 m (onlyS m)) Tryz.func52 ?_) (by simp [goodS, h1, h2, h3, h4, h5, h6, h7, h8, h9, h10] <;> omega)
           simp only [All, All_append, bdGood_c]
           and_intros
           all_goals first
            | exact T_only m
            | exact T_mS m (onlyS m) hf
            | exact T_mv m.vote
            | exact T_mc m.cert
            | exact T_upto _ _
            | exact T_mb m.batch
            | exact T_mg m
            | exact T_alE m.news (by decide)
            | exact T_alS m.sig (by decide)
            | (simp [h1, h2, h3, h4, h5, h6, h7, h8, h9, h10]; done)
            | exact h1
            | exact Bool.eq_false_iff.mpr h1
            | exact h2
            | exact Bool.eq_false_iff.mpr h2
            | exact h3
            | exact Bool.eq_false_iff.mpr h3
            | exact h4
            | exact Bool.eq_false_iff.mpr h4
            | exact h5
            | exact Bool.eq_false_iff.mpr h5
            | exact h6
            | exact Bool.eq_false_iff.mpr h6
            | exact h7
            | exact Bool.eq_false_iff.mpr h7
            | exact h8
            | exact Bool.eq_false_iff.mpr h8
            | exact h9
            | exact Bool.eq_false_iff.mpr h9
            | exact h10
            | exact Bool.eq_false_iff.mpr h10
         ·
          refine T.bool (T_al (bdGood_p000001011000000 m (onlyS m)) Tryz.func52 ?_) (by simp [goodS, h1, h2, h3, h4, h5, h6, h7, h8, h9] <;> omega)
          simp only [All, All_append, bdGood_c]
          and_intros
          all_goals first
           | exact T_only m
           | exact T_mS m (onlyS m) hf
           | exact T_mv m.vote
           | exact T_mc m.cert
           | exact T_upto _ _
           | exact T_mb m.batch
           | exact T_mg m
           | exact T_alE m.news (by decide)
           | exact T_alS m.sig (by decide)
           | (simp [h1, h2, h3, h4, h5, h6, h7, h8, h9]; done)
           | exact h1
           | exact Bool.eq_false_iff.mpr h1
           | exact h2
           | exact Bool.eq_false_iff.mpr h2
           | exact h3
           | exact Bool.eq_false_iff.mpr h3
           | exact h4
           | exact Bool.eq_false_iff.mpr h4
           | exact h5
           | exact Bool.eq_false_iff.mpr h5
           | exact h6
           | exact Bool.eq_false_iff.mpr h6
           | exact h7
           | exact Bool.eq_false_iff.mpr h7
           | exact h8
           | exact Bool.eq_false_iff.mpr h8
           | exact h9
           | exact Bool.eq_false_iff.mpr h9
        ·
         refine T.bool (T_al (bdGood_p000001010000000 m (onlyS m)) Tryz.func52 ?_) (by simp [goodS, h1, h2, h3, h4, h5, h6, h7, h8] <;> omega)
         simp only [All, All_append, bdGood_c]
         and_intros
         all_goals first
          | exact T_only m
          | exact T_mS m (onlyS m) hf
          | exact T_mv m.vote
          | exact T_mc m.cert
          | exact T_upto _ _
          | exact T_mb m.batch
          | exact T_mg m
          | exact T_alE m.news (by decide)
          | exact T_alS m.sig (by decide)
          | (simp [h1, h2, h3, h4, h5, h6, h7, h8]; done)
          | exact h1
          | exact Bool.eq_false_iff.mpr h1
          | exact h2
          | exact Bool.eq_false_iff.mpr h2
          | exact h3
          | exact Bool.eq_false_iff.mpr h3
          | exact h4
          | exact Bool.eq_false_iff.mpr h4
          | exact h5
          | exact Bool.eq_false_iff.mpr h5
          | exact h6
          | exact Bool.eq_false_iff.mpr h6
          | exact h7
          | exact Bool.eq_false_iff.mpr h7
          | exact h8
          | exact Bool.eq_false_iff.mpr h8
       ·
        refine T.bool (T_al (bdGood_p000001000000000 m (onlyS m)) Tryz.func52 ?_) (by simp [goodS, h1, h2, h3, h4, h5, h6, h7] <;> omega)
        simp only [All, All_append, bdGood_c]
        and_intros
        all_goals first
         | exact T_only m
         | exact T_mS m (onlyS m) hf
         | exact T_mv m.vote
         | exact T_mc m.cert
         | exact T_upto _ _
         | exact T_mb m.batch
         | exact T_mg m
         | exact T_alE m.news (by decide)
         | exact T_alS m.sig (by decide)
         | (simp [h1, h2, h3, h4, h5, h6, h7]; done)
         | exact h1
         | exact Bool.eq_false_iff.mpr h1
         | exact h2
         | exact Bool.eq_false_iff.mpr h2
         | exact h3
         | exact Bool.eq_false_iff.mpr h3
         | exact h4
         | exact Bool.eq_false_iff.mpr h4
         | exact h5
         | exact Bool.eq_false_iff.mpr h5
         | exact h6
         | exact Bool.eq_false_iff.mpr h6
         | exact h7
         | exact Bool.eq_false_iff.mpr h7
     ·
      by_cases h6 : uptoS m.epoch 1048576 = true
      ·
       by_cases h7 : uptoS m.slot 1099511627776 = true
       ·
        by_cases h8 : uptoS m.view 1099511627776 = true
        ·
         by_cases h9 : uptoS m.leader 64 = true
         ·
          by_cases h10 : mayBatchS m.batch = true
          ·
           by_cases h11 : mayChangeS m = true
           ·
            by_cases h12 : (allS m.nnews 64 fun i => mayEnvS (m.news i)) = true
            ·
             by_cases h13 : (allS m.n 64 fun i => maySignS (m.sig i)) = true
             ·
              refine T.bool (T_al (bdGood_p000000011111111 m (onlyS m)) Tryz.func52 ?_) (by
  have e1 : 1 ≤ m.kind := by omega
  have e2 : m.kind ≤ 8 := by omega
  simp [goodS, e1, e2, h1, h2, h3, h4, h5, h6, h7, h8, h9, h10, h11, h12, h13] <;> omega)
              simp only [All, All_append, bdGood_c]
              and_intros
              all_goals first
               | exact T_only m
               | exact T_mS m (onlyS m) hf
               | exact T_mv m.vote
               | exact T_mc m.cert
               | exact T_upto _ _
               | exact T_mb m.batch
               | exact T_mg m
               | exact T_alE m.news (by decide)
               | exact T_alS m.sig (by decide)
               | (simp [h1, h2, h3, h4, h5, h6, h7, h8, h9, h10, h11, h12, h13]; done)
               | exact h1
               | exact Bool.eq_false_iff.mpr h1
               | exact h2
               | exact Bool.eq_false_iff.mpr h2
               | exact h3
               | exact Bool.eq_false_iff.mpr h3
               | exact h4
               | exact Bool.eq_false_iff.mpr h4
               | exact h5
               | exact Bool.eq_false_iff.mpr h5
               | exact h6
               | exact Bool.eq_false_iff.mpr h6
               | exact h7
               | exact Bool.eq_false_iff.mpr h7
               | exact h8
               | exact Bool.eq_false_iff.mpr h8
               | exact h9
               | exact Bool.eq_false_iff.mpr h9
               | exact h10
               | exact Bool.eq_false_iff.mpr h10
               | exact h11
               | exact Bool.eq_false_iff.mpr h11
               | exact h12
               | exact Bool.eq_false_iff.mpr h12
               | exact h13
               | exact Bool.eq_false_iff.mpr h13
             ·
              refine T.bool (T_al (bdGood_p000000011111110 m (onlyS m)) Tryz.func52 ?_) (by simp [goodS, h1, h2, h3, h4, h5, h6, h7, h8, h9, h10, h11, h12, h13] <;> omega)
              simp only [All, All_append, bdGood_c]
              and_intros
              all_goals first
               | exact T_only m
               | exact T_mS m (onlyS m) hf
               | exact T_mv m.vote
               | exact T_mc m.cert
               | exact T_upto _ _
               | exact T_mb m.batch
               | exact T_mg m
               | exact T_alE m.news (by decide)
               | exact T_alS m.sig (by decide)
               | (simp [h1, h2, h3, h4, h5, h6, h7, h8, h9, h10, h11, h12, h13]; done)
               | exact h1
               | exact Bool.eq_false_iff.mpr h1
               | exact h2
               | exact Bool.eq_false_iff.mpr h2
               | exact h3
               | exact Bool.eq_false_iff.mpr h3
               | exact h4
               | exact Bool.eq_false_iff.mpr h4
               | exact h5
               | exact Bool.eq_false_iff.mpr h5
               | exact h6
               | exact Bool.eq_false_iff.mpr h6
               | exact h7
               | exact Bool.eq_false_iff.mpr h7
               | exact h8
               | exact Bool.eq_false_iff.mpr h8
               | exact h9
               | exact Bool.eq_false_iff.mpr h9
               | exact h10
               | exact Bool.eq_false_iff.mpr h10
               | exact h11
               | exact Bool.eq_false_iff.mpr h11
               | exact h12
               | exact Bool.eq_false_iff.mpr h12
               | exact h13
               | exact Bool.eq_false_iff.mpr h13
            ·
             refine T.bool (T_al (bdGood_p000000011111100 m (onlyS m)) Tryz.func52 ?_) (by simp [goodS, h1, h2, h3, h4, h5, h6, h7, h8, h9, h10, h11, h12] <;> omega)
             simp only [All, All_append, bdGood_c]
             and_intros
             all_goals first
              | exact T_only m
              | exact T_mS m (onlyS m) hf
              | exact T_mv m.vote
              | exact T_mc m.cert
              | exact T_upto _ _
              | exact T_mb m.batch
              | exact T_mg m
              | exact T_alE m.news (by decide)
              | exact T_alS m.sig (by decide)
              | (simp [h1, h2, h3, h4, h5, h6, h7, h8, h9, h10, h11, h12]; done)
              | exact h1
              | exact Bool.eq_false_iff.mpr h1
              | exact h2
              | exact Bool.eq_false_iff.mpr h2
              | exact h3
              | exact Bool.eq_false_iff.mpr h3
              | exact h4
              | exact Bool.eq_false_iff.mpr h4
              | exact h5
              | exact Bool.eq_false_iff.mpr h5
              | exact h6
              | exact Bool.eq_false_iff.mpr h6
              | exact h7
              | exact Bool.eq_false_iff.mpr h7
              | exact h8
              | exact Bool.eq_false_iff.mpr h8
              | exact h9
              | exact Bool.eq_false_iff.mpr h9
              | exact h10
              | exact Bool.eq_false_iff.mpr h10
              | exact h11
              | exact Bool.eq_false_iff.mpr h11
              | exact h12
              | exact Bool.eq_false_iff.mpr h12
           ·
            refine T.bool (T_al (bdGood_p000000011111000 m (onlyS m)) Tryz.func52 ?_) (by simp [goodS, h1, h2, h3, h4, h5, h6, h7, h8, h9, h10, h11] <;> omega)
            simp only [All, All_append, bdGood_c]
            and_intros
            all_goals first
             | exact T_only m
             | exact T_mS m (onlyS m) hf
             | exact T_mv m.vote
             | exact T_mc m.cert
             | exact T_upto _ _
             | exact T_mb m.batch
             | exact T_mg m
             | exact T_alE m.news (by decide)
             | exact T_alS m.sig (by decide)
             | (simp [h1, h2, h3, h4, h5, h6, h7, h8, h9, h10, h11]; done)
             | exact h1
             | exact Bool.eq_false_iff.mpr h1
             | exact h2
             | exact Bool.eq_false_iff.mpr h2
             | exact h3
             | exact Bool.eq_false_iff.mpr h3
             | exact h4
             | exact Bool.eq_false_iff.mpr h4
             | exact h5
             | exact Bool.eq_false_iff.mpr h5
             | exact h6
             | exact Bool.eq_false_iff.mpr h6
             | exact h7
             | exact Bool.eq_false_iff.mpr h7
             | exact h8
             | exact Bool.eq_false_iff.mpr h8
             | exact h9
             | exact Bool.eq_false_iff.mpr h9
             | exact h10
             | exact Bool.eq_false_iff.mpr h10
             | exact h11
             | exact Bool.eq_false_iff.mpr h11
          ·
           refine T.bool (T_al (bdGood_p000000011110000 m (onlyS m)) Tryz.func52 ?_) (by simp [goodS, h1, h2, h3, h4, h5, h6, h7, h8, h9, h10] <;> omega)
           simp only [All, All_append, bdGood_c]
           and_intros
           all_goals first
            | exact T_only m
            | exact T_mS m (onlyS m) hf
            | exact T_mv m.vote
            | exact T_mc m.cert
            | exact T_upto _ _
            | exact T_mb m.batch
            | exact T_mg m
            | exact T_alE m.news (by decide)
            | exact T_alS m.sig (by decide)
            | (simp [h1, h2, h3, h4, h5, h6, h7, h8, h9, h10]; done)
            | exact h1
            | exact Bool.eq_false_iff.mpr h1
            | exact h2
            | exact Bool.eq_false_iff.mpr h2
            | exact h3
            | exact Bool.eq_false_iff.mpr h3
            | exact h4
            | exact Bool.eq_false_iff.mpr h4
            | exact h5
            | exact Bool.eq_false_iff.mpr h5
            | exact h6
            | exact Bool.eq_false_iff.mpr h6
            | exact h7
            | exact Bool.eq_false_iff.mpr h7
            | exact h8
            | exact Bool.eq_false_iff.mpr h8
            | exact h9
            | exact Bool.eq_false_iff.mpr h9
            | exact h10
            | exact Bool.eq_false_iff.mpr h10
         ·
          refine T.bool (T_al (bdGood_p000000011100000 m (onlyS m)) Tryz.func52 ?_) (by simp [goodS, h1, h2, h3, h4, h5, h6, h7, h8, h9] <;> omega)
          simp only [All, All_append, bdGood_c]
          and_intros
          all_goals first
           | exact T_only m
           | exact T_mS m (onlyS m) hf
           | exact T_mv m.vote
           | exact T_mc m.cert
           | exact T_upto _ _
           | exact T_mb m.batch
           | exact T_mg m
           | exact T_alE m.news (by decide)
           | exact T_alS m.sig (by decide)
           | (simp [h1, h2, h3, h4, h5, h6, h7, h8, h9]; done)
           | exact h1
           | exact Bool.eq_false_iff.mpr h1
           | exact h2
           | exact Bool.eq_false_iff.mpr h2
           | exact h3
           | exact Bool.eq_false_iff.mpr h3
           | exact h4
           | exact Bool.eq_false_iff.mpr h4
           | exact h5
           | exact Bool.eq_false_iff.mpr h5
           | exact h6
           | exact Bool.eq_false_iff.mpr h6
           | exact h7
           | exact Bool.eq_false_iff.mpr h7
           | exact h8
           | exact Bool.eq_false_iff.mpr h8
           | exact h9
           | exact Bool.eq_false_iff.mpr h9
        ·
         refine T.bool (T_al (bdGood_p000000011000000 m (onlyS m)) Tryz.func52 ?_) (by simp [goodS, h1, h2, h3, h4, h5, h6, h7, h8] <;> omega)
         simp only [All, All_append, bdGood_c]
         and_intros
         all_goals first
          | exact T_only m
          | exact T_mS m (onlyS m) hf
          | exact T_mv m.vote
          | exact T_mc m.cert
          | exact T_upto _ _
          | exact T_mb m.batch
          | exact T_mg m
          | exact T_alE m.news (by decide)
          | exact T_alS m.sig (by decide)
          | (simp [h1, h2, h3, h4, h5, h6, h7, h8]; done)
          | exact h1
          | exact Bool.eq_false_iff.mpr h1
          | exact h2
          | exact Bool.eq_false_iff.mpr h2
          | exact h3
          | exact Bool.eq_false_iff.mpr h3
          | exact h4
          | exact Bool.eq_false_iff.mpr h4
          | exact h5
          | exact Bool.eq_false_iff.mpr h5
          | exact h6
          | exact Bool.eq_false_iff.mpr h6
          | exact h7
          | exact Bool.eq_false_iff.mpr h7
          | exact h8
          | exact Bool.eq_false_iff.mpr h8
       ·
        refine T.bool (T_al (bdGood_p000000010000000 m (onlyS m)) Tryz.func52 ?_) (by simp [goodS, h1, h2, h3, h4, h5, h6, h7] <;> omega)
        simp only [All, All_append, bdGood_c]
        and_intros
        all_goals first
         | exact T_only m
         | exact T_mS m (onlyS m) hf
         | exact T_mv m.vote
         | exact T_mc m.cert
         | exact T_upto _ _
         | exact T_mb m.batch
         | exact T_mg m
         | exact T_alE m.news (by decide)
         | exact T_alS m.sig (by decide)
         | (simp [h1, h2, h3, h4, h5, h6, h7]; done)
         | exact h1
         | exact Bool.eq_false_iff.mpr h1
         | exact h2
         | exact Bool.eq_false_iff.mpr h2
         | exact h3
         | exact Bool.eq_false_iff.mpr h3
         | exact h4
         | exact Bool.eq_false_iff.mpr h4
         | exact h5
         | exact Bool.eq_false_iff.mpr h5
         | exact h6
         | exact Bool.eq_false_iff.mpr h6
         | exact h7
         | exact Bool.eq_false_iff.mpr h7
      ·
       refine T.bool (T_al (bdGood_p000000000000000 m (onlyS m)) Tryz.func52 ?_) (by simp [goodS, h1, h2, h3, h4, h5, h6] <;> omega)
       simp only [All, All_append, bdGood_c]
       and_intros
       all_goals first
        | exact T_only m
        | exact T_mS m (onlyS m) hf
        | exact T_mv m.vote
        | exact T_mc m.cert
        | exact T_upto _ _
        | exact T_mb m.batch
        | exact T_mg m
        | exact T_alE m.news (by decide)
        | exact T_alS m.sig (by decide)
        | (simp [h1, h2, h3, h4, h5, h6]; done)
        | exact h1
        | exact Bool.eq_false_iff.mpr h1
        | exact h2
        | exact Bool.eq_false_iff.mpr h2
        | exact h3
        | exact Bool.eq_false_iff.mpr h3
        | exact h4
        | exact Bool.eq_false_iff.mpr h4
        | exact h5
        | exact Bool.eq_false_iff.mpr h5
        | exact h6
        | exact Bool.eq_false_iff.mpr h6
end Go.Proofs.YtnmccoincblecaaGreat
namespace Go.Proofs.YtnmccoincblecaaGreat
open Go Sy Go.Proofs
def bodyB (m : SMsg) : List UInt8 :=
 if m.kind = 1 then numsB [m.epoch, m.slot] ++ batchB m.batch else
 if m.kind = 2 then voteB m.vote else
 if m.kind = 3 then numsB [m.cepoch, m.cleader, m.cview] ++ (numsB [(m.nheld : Int)] ++ heldsB m.held m.nheld) else
 if m.kind = 4 then numsB [m.epoch, m.leader, m.view] ++ (numsB [(m.nnews : Int)] ++ envsB m.news m.nnews) else
 if m.kind = 5 then numsB [m.epoch] ++ segB m.digest else
 if m.kind = 6 then numsB [m.epoch, m.slot] else
 if m.kind = 7 then batchB m.batch ++ certB m.cert else
 if m.kind = 8 then textB m.state ++ (numsB [(m.n : Int)] ++ signsB m.sig m.n) else []
def encB (m : SMsg) : List UInt8 := putZ m.kind ++ bodyB m
def baL (l : List UInt8) : ByteArray := ⟨l.toArray⟩
def look2 {α : Type} : List (Nat × Nat × α) → Nat → Nat → Option α
 | [], _, _ => none
 | p :: r, k, n => bif Nat.beq p.1 k && Nat.beq p.2.1 n then some p.2.2 else look2 r k n
def dbSeqF (base : Nat) (l : List (Nat × Nat × (List V → Heap → Nat → List Cl))) : Nat → List V → Heap → Nat → List Cl := fun k args h lo => match look2 l k ((lo - base) / 64) with
 | some f => f args h lo
 | none => []
def encDb (m : SMsg) (g : Bool) : List (Nat × Nat × (List V → Heap → Nat → List Cl)) := [
 (52, 4, cVal (.bool g)),
 (53, 13, cW (putZ m.kind)),
 (53, 24, cW (putZ m.kind ++ numsB [m.epoch, m.slot])), (54, 28, cW (putZ m.kind ++ numsB [m.epoch, m.slot] ++ batchB m.batch)),
 (55, 23, cW (putZ m.kind ++ voteB m.vote)),
 (53, 33, cW (putZ m.kind ++ numsB [m.cepoch, m.cleader, m.cview])), (56, 40, cW (putZ m.kind ++ numsB [m.cepoch, m.cleader, m.cview] ++ (numsB [(m.nheld : Int)] ++ heldsB m.held m.nheld))),
 (53, 32, cW (putZ m.kind ++ numsB [m.epoch, m.leader, m.view])), (58, 38, cW (putZ m.kind ++ numsB [m.epoch, m.leader, m.view] ++ (numsB [(m.nnews : Int)] ++ envsB m.news m.nnews))),
 (53, 30, cW (putZ m.kind ++ numsB [m.epoch])), (60, 34, cW (putZ m.kind ++ numsB [m.epoch] ++ segB m.digest)),
 (53, 34, cW (putZ m.kind ++ numsB [m.epoch, m.slot])),
 (54, 33, cW (putZ m.kind ++ batchB m.batch)), (61, 37, cW (putZ m.kind ++ batchB m.batch ++ certB m.cert)),
 (62, 35, cW (putZ m.kind ++ textB m.state)), (63, 41, cW (putZ m.kind ++ textB m.state ++ (numsB [(m.n : Int)] ++ signsB m.sig m.n)))]
noncomputable def bdEnc (m : SMsg) (g : Bool) : Bd := { f := Tryz.f19, args := [.agg m.c], kb := { db := dbSeqF 0 (encDb m g) } }
end Go.Proofs.YtnmccoincblecaaGreat
namespace Go.Proofs.YtnmccoincblecaaGreat
open Go Sy Go.Proofs
noncomputable def bdEnc_c (m : SMsg) (g : Bool) : Nat → List Prop
 | 0 => [(!g) = false, T Tryz.prog 53 [.ptr (.o 448) 0 0 0 0, .sl (.o 768) 1 0 0 0 1 (some 1)] [(.o 448, .flat [.snil]), (.o 768, .rows 1 1 (getL [[.int .i64 (SMsg.kind m)]]) false)] (.tup []) [(.o 448, .flat [sb (.o 832) (putZ (SMsg.kind m))]), (.o 832, bs (putZ (SMsg.kind m))), (.o 768, .rows 1 1 (getL [[.int .i64 (SMsg.kind m)]]) false)]]
 | 1 => [decide (SMsg.kind m = (1 : Int)) = true, T Tryz.prog 53 [.ptr (.o 448) 0 0 0 0, .sl (.o 1472) 1 0 0 0 2 (some 2)] [(.o 448, .flat [sb (.o 832) (putZ (SMsg.kind m))]), (.o 832, bs (putZ (SMsg.kind m))), (.o 1472, .rows 1 2 (getL [[.int .i64 (SMsg.epoch m)], [.int .i64 (SMsg.slot m)]]) false)] (.tup []) [(.o 448, .flat [sb (.o 1536) (putZ (SMsg.kind m) ++ numsB [SMsg.epoch m, SMsg.slot m])]), (.o 1536, bs (putZ (SMsg.kind m) ++ numsB [SMsg.epoch m, SMsg.slot m])), (.o 1472, .rows 1 2 (getL [[.int .i64 (SMsg.epoch m)], [.int .i64 (SMsg.slot m)]]) false)], T Tryz.prog 54 [.ptr (.o 448) 0 0 0 0, .agg [.bool (SBatch.noop (SMsg.batch m)), rq (SBatch.n (SMsg.batch m)) (SBatch.req (SMsg.batch m))]] [(.o 448, .flat [sb (.o 1536) (putZ (SMsg.kind m) ++ numsB [SMsg.epoch m, SMsg.slot m])]), (.o 1536, bs (putZ (SMsg.kind m) ++ numsB [SMsg.epoch m, SMsg.slot m]))] (.tup []) [(.o 448, .flat [sb (.o 1792) (putZ (SMsg.kind m) ++ numsB [SMsg.epoch m, SMsg.slot m] ++ batchB (SMsg.batch m))]), (.o 1792, bs (putZ (SMsg.kind m) ++ numsB [SMsg.epoch m, SMsg.slot m] ++ batchB (SMsg.batch m)))]]
 | 2 => [decide (SMsg.kind m = (2 : Int)) = true, T Tryz.prog 55 [.ptr (.o 448) 0 0 0 0, .agg [.int .i64 (SVote.kind (SMsg.vote m)), .int .i64 (SVote.epoch (SMsg.vote m)), .int .i64 (SVote.view (SMsg.vote m)), .int .i64 (SVote.slot (SMsg.vote m)), .seg .u8 32 (SVote.digest (SMsg.vote m))]] [(.o 448, .flat [sb (.o 832) (putZ (SMsg.kind m))]), (.o 832, bs (putZ (SMsg.kind m)))] (.tup []) [(.o 448, .flat [sb (.o 1472) (putZ (SMsg.kind m) ++ voteB (SMsg.vote m))]), (.o 1472, bs (putZ (SMsg.kind m) ++ voteB (SMsg.vote m)))]]
 | 3 => [decide (SMsg.kind m = (3 : Int)) = true, T Tryz.prog 53 [.ptr (.o 448) 0 0 0 0, .sl (.o 2048) 1 0 0 0 3 (some 3)] [(.o 448, .flat [sb (.o 832) (putZ (SMsg.kind m))]), (.o 832, bs (putZ (SMsg.kind m))), (.o 2048, .rows 1 3 (getL [[.int .i64 (SMsg.cepoch m)], [.int .i64 (SMsg.cleader m)], [.int .i64 (SMsg.cview m)]]) false)] (.tup []) [(.o 448, .flat [sb (.o 2112) (putZ (SMsg.kind m) ++ numsB [SMsg.cepoch m, SMsg.cleader m, SMsg.cview m])]), (.o 2112, bs (putZ (SMsg.kind m) ++ numsB [SMsg.cepoch m, SMsg.cleader m, SMsg.cview m])), (.o 2048, .rows 1 3 (getL [[.int .i64 (SMsg.cepoch m)], [.int .i64 (SMsg.cleader m)], [.int .i64 (SMsg.cview m)]]) false)], T Tryz.prog 56 [.ptr (.o 448) 0 0 0 0, .ros 39 (SMsg.nheld m) (fun i => SHeld.c (SMsg.held m i)) false, .fn (.func 57) [.ptr (.o 448) 0 0 0 0] []] [(.o 448, .flat [sb (.o 2112) (putZ (SMsg.kind m) ++ numsB [SMsg.cepoch m, SMsg.cleader m, SMsg.cview m])]), (.o 2112, bs (putZ (SMsg.kind m) ++ numsB [SMsg.cepoch m, SMsg.cleader m, SMsg.cview m]))] (.tup []) [(.o 448, .flat [sb (.o 2560) (putZ (SMsg.kind m) ++ numsB [SMsg.cepoch m, SMsg.cleader m, SMsg.cview m] ++ (numsB [(↑(SMsg.nheld m) : Int)] ++ heldsB (SMsg.held m) (SMsg.nheld m)))]), (.o 2560, bs (putZ (SMsg.kind m) ++ numsB [SMsg.cepoch m, SMsg.cleader m, SMsg.cview m] ++ (numsB [(↑(SMsg.nheld m) : Int)] ++ heldsB (SMsg.held m) (SMsg.nheld m))))]]
 | 4 => [decide (SMsg.kind m = (4 : Int)) = true, T Tryz.prog 53 [.ptr (.o 448) 0 0 0 0, .sl (.o 1984) 1 0 0 0 3 (some 3)] [(.o 448, .flat [sb (.o 832) (putZ (SMsg.kind m))]), (.o 832, bs (putZ (SMsg.kind m))), (.o 1984, .rows 1 3 (getL [[.int .i64 (SMsg.epoch m)], [.int .i64 (SMsg.leader m)], [.int .i64 (SMsg.view m)]]) false)] (.tup []) [(.o 448, .flat [sb (.o 2048) (putZ (SMsg.kind m) ++ numsB [SMsg.epoch m, SMsg.leader m, SMsg.view m])]), (.o 2048, bs (putZ (SMsg.kind m) ++ numsB [SMsg.epoch m, SMsg.leader m, SMsg.view m])), (.o 1984, .rows 1 3 (getL [[.int .i64 (SMsg.epoch m)], [.int .i64 (SMsg.leader m)], [.int .i64 (SMsg.view m)]]) false)], T Tryz.prog 58 [.ptr (.o 448) 0 0 0 0, .ros 18 (SMsg.nnews m) (fun i => SEnv.c (SMsg.news m i)) false, .fn (.func 59) [.ptr (.o 448) 0 0 0 0] []] [(.o 448, .flat [sb (.o 2048) (putZ (SMsg.kind m) ++ numsB [SMsg.epoch m, SMsg.leader m, SMsg.view m])]), (.o 2048, bs (putZ (SMsg.kind m) ++ numsB [SMsg.epoch m, SMsg.leader m, SMsg.view m]))] (.tup []) [(.o 448, .flat [sb (.o 2432) (putZ (SMsg.kind m) ++ numsB [SMsg.epoch m, SMsg.leader m, SMsg.view m] ++ (numsB [(↑(SMsg.nnews m) : Int)] ++ envsB (SMsg.news m) (SMsg.nnews m)))]), (.o 2432, bs (putZ (SMsg.kind m) ++ numsB [SMsg.epoch m, SMsg.leader m, SMsg.view m] ++ (numsB [(↑(SMsg.nnews m) : Int)] ++ envsB (SMsg.news m) (SMsg.nnews m))))]]
 | 5 => [decide (SMsg.kind m = (5 : Int)) = true, T Tryz.prog 53 [.ptr (.o 448) 0 0 0 0, .sl (.o 1856) 1 0 0 0 1 (some 1)] [(.o 448, .flat [sb (.o 832) (putZ (SMsg.kind m))]), (.o 832, bs (putZ (SMsg.kind m))), (.o 1856, .rows 1 1 (getL [[.int .i64 (SMsg.epoch m)]]) false)] (.tup []) [(.o 448, .flat [sb (.o 1920) (putZ (SMsg.kind m) ++ numsB [SMsg.epoch m])]), (.o 1920, bs (putZ (SMsg.kind m) ++ numsB [SMsg.epoch m])), (.o 1856, .rows 1 1 (getL [[.int .i64 (SMsg.epoch m)]]) false)], T Tryz.prog 60 [.ptr (.o 448) 0 0 0 0, .agg [.seg .u8 32 (SMsg.digest m)]] [(.o 448, .flat [sb (.o 1920) (putZ (SMsg.kind m) ++ numsB [SMsg.epoch m])]), (.o 1920, bs (putZ (SMsg.kind m) ++ numsB [SMsg.epoch m]))] (.tup []) [(.o 448, .flat [sb (.o 2176) (putZ (SMsg.kind m) ++ numsB [SMsg.epoch m] ++ segB (SMsg.digest m))]), (.o 2176, bs (putZ (SMsg.kind m) ++ numsB [SMsg.epoch m] ++ segB (SMsg.digest m)))]]
 | 6 => [decide (SMsg.kind m = (6 : Int)) = true, T Tryz.prog 53 [.ptr (.o 448) 0 0 0 0, .sl (.o 2112) 1 0 0 0 2 (some 2)] [(.o 448, .flat [sb (.o 832) (putZ (SMsg.kind m))]), (.o 832, bs (putZ (SMsg.kind m))), (.o 2112, .rows 1 2 (getL [[.int .i64 (SMsg.epoch m)], [.int .i64 (SMsg.slot m)]]) false)] (.tup []) [(.o 448, .flat [sb (.o 2176) (putZ (SMsg.kind m) ++ numsB [SMsg.epoch m, SMsg.slot m])]), (.o 2176, bs (putZ (SMsg.kind m) ++ numsB [SMsg.epoch m, SMsg.slot m])), (.o 2112, .rows 1 2 (getL [[.int .i64 (SMsg.epoch m)], [.int .i64 (SMsg.slot m)]]) false)]]
 | 7 => [decide (SMsg.kind m = (7 : Int)) = true, T Tryz.prog 54 [.ptr (.o 448) 0 0 0 0, .agg [.bool (SBatch.noop (SMsg.batch m)), rq (SBatch.n (SMsg.batch m)) (SBatch.req (SMsg.batch m))]] [(.o 448, .flat [sb (.o 832) (putZ (SMsg.kind m))]), (.o 832, bs (putZ (SMsg.kind m)))] (.tup []) [(.o 448, .flat [sb (.o 2112) (putZ (SMsg.kind m) ++ batchB (SMsg.batch m))]), (.o 2112, bs (putZ (SMsg.kind m) ++ batchB (SMsg.batch m)))], T Tryz.prog 61 [.ptr (.o 448) 0 0 0 0, .agg [.int .i64 (SVote.kind (SCert.vote (SMsg.cert m))), .int .i64 (SVote.epoch (SCert.vote (SMsg.cert m))), .int .i64 (SVote.view (SCert.vote (SMsg.cert m))), .int .i64 (SVote.slot (SCert.vote (SMsg.cert m))), .seg .u8 32 (SVote.digest (SCert.vote (SMsg.cert m))), sg (SCert.n (SMsg.cert m)) (SCert.sig (SMsg.cert m))]] [(.o 448, .flat [sb (.o 2112) (putZ (SMsg.kind m) ++ batchB (SMsg.batch m))]), (.o 2112, bs (putZ (SMsg.kind m) ++ batchB (SMsg.batch m)))] (.tup []) [(.o 448, .flat [sb (.o 2368) (putZ (SMsg.kind m) ++ batchB (SMsg.batch m) ++ certB (SMsg.cert m))]), (.o 2368, bs (putZ (SMsg.kind m) ++ batchB (SMsg.batch m) ++ certB (SMsg.cert m)))]]
 | 8 => [decide (SMsg.kind m = (7 : Int)) = false, decide (SMsg.kind m = (8 : Int)) = true, T Tryz.prog 62 [.ptr (.o 448) 0 0 0 0, .str (SMsg.state m)] [(.o 448, .flat [sb (.o 832) (putZ (SMsg.kind m))]), (.o 832, bs (putZ (SMsg.kind m)))] (.tup []) [(.o 448, .flat [sb (.o 2240) (putZ (SMsg.kind m) ++ textB (SMsg.state m))]), (.o 2240, bs (putZ (SMsg.kind m) ++ textB (SMsg.state m)))], T Tryz.prog 63 [.ptr (.o 448) 0 0 0 0, .ros 17 (SMsg.n m) (fun i => SSign.c (SMsg.sig m i)) false, .fn (.func 64) [.ptr (.o 448) 0 0 0 0] []] [(.o 448, .flat [sb (.o 2240) (putZ (SMsg.kind m) ++ textB (SMsg.state m))]), (.o 2240, bs (putZ (SMsg.kind m) ++ textB (SMsg.state m)))] (.tup []) [(.o 448, .flat [sb (.o 2624) (putZ (SMsg.kind m) ++ textB (SMsg.state m) ++ (numsB [(↑(SMsg.n m) : Int)] ++ signsB (SMsg.sig m) (SMsg.n m)))]), (.o 2624, bs (putZ (SMsg.kind m) ++ textB (SMsg.state m) ++ (numsB [(↑(SMsg.n m) : Int)] ++ signsB (SMsg.sig m) (SMsg.n m))))]]
 | _ => []
theorem bdEnc_p1 (m : SMsg) (g : Bool) :
 along Tryz.prog (bdEnc m g) [true] = (some (.tup [.str (ByteArray.mk (Array.mk [])), .int .i64 130], [], [T Tryz.prog 52 [.agg (SMsg.c m)] [] (.bool g) [], (!g) = true]) : Option (V × Heap × List Prop)) := by kernel_rfl
theorem bdEnc_p011 (m : SMsg) (g : Bool) :
 along Tryz.prog (bdEnc m g) [false, true, true] = (some (.tup [.str (ByteArray.mk (Array.mk [])), .int .i64 3], [], [T Tryz.prog 52 [.agg (SMsg.c m)] [] (.bool g) []] ++ (bdEnc_c m g 0 ++ (bdEnc_c m g 1 ++ ([decide ((4194304 : Int) < (↑(List.length (putZ (SMsg.kind m) ++ numsB [SMsg.epoch m, SMsg.slot m] ++ batchB (SMsg.batch m))) : Int)) = true])))) : Option (V × Heap × List Prop)) := by kernel_rfl
theorem bdEnc_p010 (m : SMsg) (g : Bool) :
 along Tryz.prog (bdEnc m g) [false, true, false] = (some (.tup [.str (bytesF (List.length (putZ (SMsg.kind m) ++ numsB [SMsg.epoch m, SMsg.slot m] ++ batchB (SMsg.batch m))) fun k => bl (putZ (SMsg.kind m) ++ numsB [SMsg.epoch m, SMsg.slot m] ++ batchB (SMsg.batch m)) (0 + k)), .int .i64 0], [], [T Tryz.prog 52 [.agg (SMsg.c m)] [] (.bool g) []] ++ (bdEnc_c m g 0 ++ (bdEnc_c m g 1 ++ ([decide ((4194304 : Int) < (↑(List.length (putZ (SMsg.kind m) ++ numsB [SMsg.epoch m, SMsg.slot m] ++ batchB (SMsg.batch m))) : Int)) = false, ∀ (k : Nat), k < List.length (putZ (SMsg.kind m) ++ numsB [SMsg.epoch m, SMsg.slot m] ++ batchB (SMsg.batch m)) → true = true, (0 : Nat) + List.length (putZ (SMsg.kind m) ++ numsB [SMsg.epoch m, SMsg.slot m] ++ batchB (SMsg.batch m)) ≤ List.length (putZ (SMsg.kind m) ++ numsB [SMsg.epoch m, SMsg.slot m] ++ batchB (SMsg.batch m)), ∀ (k : Nat), k < List.length (putZ (SMsg.kind m) ++ numsB [SMsg.epoch m, SMsg.slot m] ++ batchB (SMsg.batch m)) → true = true])))) : Option (V × Heap × List Prop)) := by kernel_rfl
theorem bdEnc_p0011 (m : SMsg) (g : Bool) :
 along Tryz.prog (bdEnc m g) [false, false, true, true] = (some (.tup [.str (ByteArray.mk (Array.mk [])), .int .i64 3], [], [T Tryz.prog 52 [.agg (SMsg.c m)] [] (.bool g) []] ++ (bdEnc_c m g 0 ++ ([decide (SMsg.kind m = (1 : Int)) = false] ++ (bdEnc_c m g 2 ++ ([decide ((4194304 : Int) < (↑(List.length (putZ (SMsg.kind m) ++ voteB (SMsg.vote m))) : Int)) = true]))))) : Option (V × Heap × List Prop)) := by kernel_rfl
theorem bdEnc_p0010 (m : SMsg) (g : Bool) :
 along Tryz.prog (bdEnc m g) [false, false, true, false] = (some (.tup [.str (bytesF (List.length (putZ (SMsg.kind m) ++ voteB (SMsg.vote m))) fun k => bl (putZ (SMsg.kind m) ++ voteB (SMsg.vote m)) (0 + k)), .int .i64 0], [], [T Tryz.prog 52 [.agg (SMsg.c m)] [] (.bool g) []] ++ (bdEnc_c m g 0 ++ ([decide (SMsg.kind m = (1 : Int)) = false] ++ (bdEnc_c m g 2 ++ ([decide ((4194304 : Int) < (↑(List.length (putZ (SMsg.kind m) ++ voteB (SMsg.vote m))) : Int)) = false, ∀ (k : Nat), k < List.length (putZ (SMsg.kind m) ++ voteB (SMsg.vote m)) → true = true, (0 : Nat) + List.length (putZ (SMsg.kind m) ++ voteB (SMsg.vote m)) ≤ List.length (putZ (SMsg.kind m) ++ voteB (SMsg.vote m)), ∀ (k : Nat), k < List.length (putZ (SMsg.kind m) ++ voteB (SMsg.vote m)) → true = true]))))) : Option (V × Heap × List Prop)) := by kernel_rfl
theorem bdEnc_p00011 (m : SMsg) (g : Bool) :
 along Tryz.prog (bdEnc m g) [false, false, false, true, true] = (some (.tup [.str (ByteArray.mk (Array.mk [])), .int .i64 3], [], [T Tryz.prog 52 [.agg (SMsg.c m)] [] (.bool g) []] ++ (bdEnc_c m g 0 ++ ([decide (SMsg.kind m = (1 : Int)) = false, decide (SMsg.kind m = (2 : Int)) = false] ++ (bdEnc_c m g 3 ++ ([decide ((4194304 : Int) < (↑(List.length (putZ (SMsg.kind m) ++ numsB [SMsg.cepoch m, SMsg.cleader m, SMsg.cview m] ++ (numsB [(↑(SMsg.nheld m) : Int)] ++ heldsB (SMsg.held m) (SMsg.nheld m)))) : Int)) = true]))))) : Option (V × Heap × List Prop)) := by kernel_rfl
theorem bdEnc_p00010 (m : SMsg) (g : Bool) :
 along Tryz.prog (bdEnc m g) [false, false, false, true, false] = (some (.tup [.str (bytesF (List.length (putZ (SMsg.kind m) ++ numsB [SMsg.cepoch m, SMsg.cleader m, SMsg.cview m] ++ (numsB [(↑(SMsg.nheld m) : Int)] ++ heldsB (SMsg.held m) (SMsg.nheld m)))) fun k => bl (putZ (SMsg.kind m) ++ numsB [SMsg.cepoch m, SMsg.cleader m, SMsg.cview m] ++ (numsB [(↑(SMsg.nheld m) : Int)] ++ heldsB (SMsg.held m) (SMsg.nheld m))) (0 + k)), .int .i64 0], [], [T Tryz.prog 52 [.agg (SMsg.c m)] [] (.bool g) []] ++ (bdEnc_c m g 0 ++ ([decide (SMsg.kind m = (1 : Int)) = false, decide (SMsg.kind m = (2 : Int)) = false] ++ (bdEnc_c m g 3 ++ ([decide ((4194304 : Int) < (↑(List.length (putZ (SMsg.kind m) ++ numsB [SMsg.cepoch m, SMsg.cleader m, SMsg.cview m] ++ (numsB [(↑(SMsg.nheld m) : Int)] ++ heldsB (SMsg.held m) (SMsg.nheld m)))) : Int)) = false, ∀ (k : Nat), k < List.length (putZ (SMsg.kind m) ++ numsB [SMsg.cepoch m, SMsg.cleader m, SMsg.cview m] ++ (numsB [(↑(SMsg.nheld m) : Int)] ++ heldsB (SMsg.held m) (SMsg.nheld m))) → true = true, (0 : Nat) + List.length (putZ (SMsg.kind m) ++ numsB [SMsg.cepoch m, SMsg.cleader m, SMsg.cview m] ++ (numsB [(↑(SMsg.nheld m) : Int)] ++ heldsB (SMsg.held m) (SMsg.nheld m))) ≤ List.length (putZ (SMsg.kind m) ++ numsB [SMsg.cepoch m, SMsg.cleader m, SMsg.cview m] ++ (numsB [(↑(SMsg.nheld m) : Int)] ++ heldsB (SMsg.held m) (SMsg.nheld m))), ∀ (k : Nat), k < List.length (putZ (SMsg.kind m) ++ numsB [SMsg.cepoch m, SMsg.cleader m, SMsg.cview m] ++ (numsB [(↑(SMsg.nheld m) : Int)] ++ heldsB (SMsg.held m) (SMsg.nheld m))) → true = true]))))) : Option (V × Heap × List Prop)) := by kernel_rfl
theorem bdEnc_p000011 (m : SMsg) (g : Bool) :
 along Tryz.prog (bdEnc m g) [false, false, false, false, true, true] = (some (.tup [.str (ByteArray.mk (Array.mk [])), .int .i64 3], [], [T Tryz.prog 52 [.agg (SMsg.c m)] [] (.bool g) []] ++ (bdEnc_c m g 0 ++ ([decide (SMsg.kind m = (1 : Int)) = false, decide (SMsg.kind m = (2 : Int)) = false, decide (SMsg.kind m = (3 : Int)) = false] ++ (bdEnc_c m g 4 ++ ([decide ((4194304 : Int) < (↑(List.length (putZ (SMsg.kind m) ++ numsB [SMsg.epoch m, SMsg.leader m, SMsg.view m] ++ (numsB [(↑(SMsg.nnews m) : Int)] ++ envsB (SMsg.news m) (SMsg.nnews m)))) : Int)) = true]))))) : Option (V × Heap × List Prop)) := by kernel_rfl
theorem bdEnc_p000010 (m : SMsg) (g : Bool) :
 along Tryz.prog (bdEnc m g) [false, false, false, false, true, false] = (some (.tup [.str (bytesF (List.length (putZ (SMsg.kind m) ++ numsB [SMsg.epoch m, SMsg.leader m, SMsg.view m] ++ (numsB [(↑(SMsg.nnews m) : Int)] ++ envsB (SMsg.news m) (SMsg.nnews m)))) fun k => bl (putZ (SMsg.kind m) ++ numsB [SMsg.epoch m, SMsg.leader m, SMsg.view m] ++ (numsB [(↑(SMsg.nnews m) : Int)] ++ envsB (SMsg.news m) (SMsg.nnews m))) (0 + k)), .int .i64 0], [], [T Tryz.prog 52 [.agg (SMsg.c m)] [] (.bool g) []] ++ (bdEnc_c m g 0 ++ ([decide (SMsg.kind m = (1 : Int)) = false, decide (SMsg.kind m = (2 : Int)) = false, decide (SMsg.kind m = (3 : Int)) = false] ++ (bdEnc_c m g 4 ++ ([decide ((4194304 : Int) < (↑(List.length (putZ (SMsg.kind m) ++ numsB [SMsg.epoch m, SMsg.leader m, SMsg.view m] ++ (numsB [(↑(SMsg.nnews m) : Int)] ++ envsB (SMsg.news m) (SMsg.nnews m)))) : Int)) = false, ∀ (k : Nat), k < List.length (putZ (SMsg.kind m) ++ numsB [SMsg.epoch m, SMsg.leader m, SMsg.view m] ++ (numsB [(↑(SMsg.nnews m) : Int)] ++ envsB (SMsg.news m) (SMsg.nnews m))) → true = true, (0 : Nat) + List.length (putZ (SMsg.kind m) ++ numsB [SMsg.epoch m, SMsg.leader m, SMsg.view m] ++ (numsB [(↑(SMsg.nnews m) : Int)] ++ envsB (SMsg.news m) (SMsg.nnews m))) ≤ List.length (putZ (SMsg.kind m) ++ numsB [SMsg.epoch m, SMsg.leader m, SMsg.view m] ++ (numsB [(↑(SMsg.nnews m) : Int)] ++ envsB (SMsg.news m) (SMsg.nnews m))), ∀ (k : Nat), k < List.length (putZ (SMsg.kind m) ++ numsB [SMsg.epoch m, SMsg.leader m, SMsg.view m] ++ (numsB [(↑(SMsg.nnews m) : Int)] ++ envsB (SMsg.news m) (SMsg.nnews m))) → true = true]))))) : Option (V × Heap × List Prop)) := by kernel_rfl
theorem bdEnc_p0000011 (m : SMsg) (g : Bool) :
 along Tryz.prog (bdEnc m g) [false, false, false, false, false, true, true] = (some (.tup [.str (ByteArray.mk (Array.mk [])), .int .i64 3], [], [T Tryz.prog 52 [.agg (SMsg.c m)] [] (.bool g) []] ++ (bdEnc_c m g 0 ++ ([decide (SMsg.kind m = (1 : Int)) = false, decide (SMsg.kind m = (2 : Int)) = false, decide (SMsg.kind m = (3 : Int)) = false, decide (SMsg.kind m = (4 : Int)) = false] ++ (bdEnc_c m g 5 ++ ([decide ((4194304 : Int) < (↑(List.length (putZ (SMsg.kind m) ++ numsB [SMsg.epoch m] ++ segB (SMsg.digest m))) : Int)) = true]))))) : Option (V × Heap × List Prop)) := by kernel_rfl
theorem bdEnc_p0000010 (m : SMsg) (g : Bool) :
 along Tryz.prog (bdEnc m g) [false, false, false, false, false, true, false] = (some (.tup [.str (bytesF (List.length (putZ (SMsg.kind m) ++ numsB [SMsg.epoch m] ++ segB (SMsg.digest m))) fun k => bl (putZ (SMsg.kind m) ++ numsB [SMsg.epoch m] ++ segB (SMsg.digest m)) (0 + k)), .int .i64 0], [], [T Tryz.prog 52 [.agg (SMsg.c m)] [] (.bool g) []] ++ (bdEnc_c m g 0 ++ ([decide (SMsg.kind m = (1 : Int)) = false, decide (SMsg.kind m = (2 : Int)) = false, decide (SMsg.kind m = (3 : Int)) = false, decide (SMsg.kind m = (4 : Int)) = false] ++ (bdEnc_c m g 5 ++ ([decide ((4194304 : Int) < (↑(List.length (putZ (SMsg.kind m) ++ numsB [SMsg.epoch m] ++ segB (SMsg.digest m))) : Int)) = false, ∀ (k : Nat), k < List.length (putZ (SMsg.kind m) ++ numsB [SMsg.epoch m] ++ segB (SMsg.digest m)) → true = true, (0 : Nat) + List.length (putZ (SMsg.kind m) ++ numsB [SMsg.epoch m] ++ segB (SMsg.digest m)) ≤ List.length (putZ (SMsg.kind m) ++ numsB [SMsg.epoch m] ++ segB (SMsg.digest m)), ∀ (k : Nat), k < List.length (putZ (SMsg.kind m) ++ numsB [SMsg.epoch m] ++ segB (SMsg.digest m)) → true = true]))))) : Option (V × Heap × List Prop)) := by kernel_rfl
theorem bdEnc_p00000011 (m : SMsg) (g : Bool) :
 along Tryz.prog (bdEnc m g) [false, false, false, false, false, false, true, true] = (some (.tup [.str (ByteArray.mk (Array.mk [])), .int .i64 3], [], [T Tryz.prog 52 [.agg (SMsg.c m)] [] (.bool g) []] ++ (bdEnc_c m g 0 ++ ([decide (SMsg.kind m = (1 : Int)) = false, decide (SMsg.kind m = (2 : Int)) = false, decide (SMsg.kind m = (3 : Int)) = false, decide (SMsg.kind m = (4 : Int)) = false, decide (SMsg.kind m = (5 : Int)) = false] ++ (bdEnc_c m g 6 ++ ([decide ((4194304 : Int) < (↑(List.length (putZ (SMsg.kind m) ++ numsB [SMsg.epoch m, SMsg.slot m])) : Int)) = true]))))) : Option (V × Heap × List Prop)) := by kernel_rfl
theorem bdEnc_p00000010 (m : SMsg) (g : Bool) :
 along Tryz.prog (bdEnc m g) [false, false, false, false, false, false, true, false] = (some (.tup [.str (bytesF (List.length (putZ (SMsg.kind m) ++ numsB [SMsg.epoch m, SMsg.slot m])) fun k => bl (putZ (SMsg.kind m) ++ numsB [SMsg.epoch m, SMsg.slot m]) (0 + k)), .int .i64 0], [], [T Tryz.prog 52 [.agg (SMsg.c m)] [] (.bool g) []] ++ (bdEnc_c m g 0 ++ ([decide (SMsg.kind m = (1 : Int)) = false, decide (SMsg.kind m = (2 : Int)) = false, decide (SMsg.kind m = (3 : Int)) = false, decide (SMsg.kind m = (4 : Int)) = false, decide (SMsg.kind m = (5 : Int)) = false] ++ (bdEnc_c m g 6 ++ ([decide ((4194304 : Int) < (↑(List.length (putZ (SMsg.kind m) ++ numsB [SMsg.epoch m, SMsg.slot m])) : Int)) = false, ∀ (k : Nat), k < List.length (putZ (SMsg.kind m) ++ numsB [SMsg.epoch m, SMsg.slot m]) → true = true, (0 : Nat) + List.length (putZ (SMsg.kind m) ++ numsB [SMsg.epoch m, SMsg.slot m]) ≤ List.length (putZ (SMsg.kind m) ++ numsB [SMsg.epoch m, SMsg.slot m]), ∀ (k : Nat), k < List.length (putZ (SMsg.kind m) ++ numsB [SMsg.epoch m, SMsg.slot m]) → true = true]))))) : Option (V × Heap × List Prop)) := by kernel_rfl
theorem bdEnc_p000000011 (m : SMsg) (g : Bool) :
 along Tryz.prog (bdEnc m g) [false, false, false, false, false, false, false, true, true] = (some (.tup [.str (ByteArray.mk (Array.mk [])), .int .i64 3], [], [T Tryz.prog 52 [.agg (SMsg.c m)] [] (.bool g) []] ++ (bdEnc_c m g 0 ++ ([decide (SMsg.kind m = (1 : Int)) = false, decide (SMsg.kind m = (2 : Int)) = false, decide (SMsg.kind m = (3 : Int)) = false, decide (SMsg.kind m = (4 : Int)) = false, decide (SMsg.kind m = (5 : Int)) = false, decide (SMsg.kind m = (6 : Int)) = false] ++ (bdEnc_c m g 7 ++ ([decide ((4194304 : Int) < (↑(List.length (putZ (SMsg.kind m) ++ batchB (SMsg.batch m) ++ certB (SMsg.cert m))) : Int)) = true]))))) : Option (V × Heap × List Prop)) := by kernel_rfl
theorem bdEnc_p000000010 (m : SMsg) (g : Bool) :
 along Tryz.prog (bdEnc m g) [false, false, false, false, false, false, false, true, false] = (some (.tup [.str (bytesF (List.length (putZ (SMsg.kind m) ++ batchB (SMsg.batch m) ++ certB (SMsg.cert m))) fun k => bl (putZ (SMsg.kind m) ++ batchB (SMsg.batch m) ++ certB (SMsg.cert m)) (0 + k)), .int .i64 0], [], [T Tryz.prog 52 [.agg (SMsg.c m)] [] (.bool g) []] ++ (bdEnc_c m g 0 ++ ([decide (SMsg.kind m = (1 : Int)) = false, decide (SMsg.kind m = (2 : Int)) = false, decide (SMsg.kind m = (3 : Int)) = false, decide (SMsg.kind m = (4 : Int)) = false, decide (SMsg.kind m = (5 : Int)) = false, decide (SMsg.kind m = (6 : Int)) = false] ++ (bdEnc_c m g 7 ++ ([decide ((4194304 : Int) < (↑(List.length (putZ (SMsg.kind m) ++ batchB (SMsg.batch m) ++ certB (SMsg.cert m))) : Int)) = false, ∀ (k : Nat), k < List.length (putZ (SMsg.kind m) ++ batchB (SMsg.batch m) ++ certB (SMsg.cert m)) → true = true, (0 : Nat) + List.length (putZ (SMsg.kind m) ++ batchB (SMsg.batch m) ++ certB (SMsg.cert m)) ≤ List.length (putZ (SMsg.kind m) ++ batchB (SMsg.batch m) ++ certB (SMsg.cert m)), ∀ (k : Nat), k < List.length (putZ (SMsg.kind m) ++ batchB (SMsg.batch m) ++ certB (SMsg.cert m)) → true = true]))))) : Option (V × Heap × List Prop)) := by kernel_rfl
theorem bdEnc_p0000000011 (m : SMsg) (g : Bool) :
 along Tryz.prog (bdEnc m g) [false, false, false, false, false, false, false, false, true, true] = (some (.tup [.str (ByteArray.mk (Array.mk [])), .int .i64 3], [], [T Tryz.prog 52 [.agg (SMsg.c m)] [] (.bool g) []] ++ (bdEnc_c m g 0 ++ ([decide (SMsg.kind m = (1 : Int)) = false, decide (SMsg.kind m = (2 : Int)) = false, decide (SMsg.kind m = (3 : Int)) = false, decide (SMsg.kind m = (4 : Int)) = false, decide (SMsg.kind m = (5 : Int)) = false, decide (SMsg.kind m = (6 : Int)) = false] ++ (bdEnc_c m g 8 ++ ([decide ((4194304 : Int) < (↑(List.length (putZ (SMsg.kind m) ++ textB (SMsg.state m) ++ (numsB [(↑(SMsg.n m) : Int)] ++ signsB (SMsg.sig m) (SMsg.n m)))) : Int)) = true]))))) : Option (V × Heap × List Prop)) := by kernel_rfl
theorem bdEnc_p0000000010 (m : SMsg) (g : Bool) :
 along Tryz.prog (bdEnc m g) [false, false, false, false, false, false, false, false, true, false] = (some (.tup [.str (bytesF (List.length (putZ (SMsg.kind m) ++ textB (SMsg.state m) ++ (numsB [(↑(SMsg.n m) : Int)] ++ signsB (SMsg.sig m) (SMsg.n m)))) fun k => bl (putZ (SMsg.kind m) ++ textB (SMsg.state m) ++ (numsB [(↑(SMsg.n m) : Int)] ++ signsB (SMsg.sig m) (SMsg.n m))) (0 + k)), .int .i64 0], [], [T Tryz.prog 52 [.agg (SMsg.c m)] [] (.bool g) []] ++ (bdEnc_c m g 0 ++ ([decide (SMsg.kind m = (1 : Int)) = false, decide (SMsg.kind m = (2 : Int)) = false, decide (SMsg.kind m = (3 : Int)) = false, decide (SMsg.kind m = (4 : Int)) = false, decide (SMsg.kind m = (5 : Int)) = false, decide (SMsg.kind m = (6 : Int)) = false] ++ (bdEnc_c m g 8 ++ ([decide ((4194304 : Int) < (↑(List.length (putZ (SMsg.kind m) ++ textB (SMsg.state m) ++ (numsB [(↑(SMsg.n m) : Int)] ++ signsB (SMsg.sig m) (SMsg.n m)))) : Int)) = false, ∀ (k : Nat), k < List.length (putZ (SMsg.kind m) ++ textB (SMsg.state m) ++ (numsB [(↑(SMsg.n m) : Int)] ++ signsB (SMsg.sig m) (SMsg.n m))) → true = true, (0 : Nat) + List.length (putZ (SMsg.kind m) ++ textB (SMsg.state m) ++ (numsB [(↑(SMsg.n m) : Int)] ++ signsB (SMsg.sig m) (SMsg.n m))) ≤ List.length (putZ (SMsg.kind m) ++ textB (SMsg.state m) ++ (numsB [(↑(SMsg.n m) : Int)] ++ signsB (SMsg.sig m) (SMsg.n m))), ∀ (k : Nat), k < List.length (putZ (SMsg.kind m) ++ textB (SMsg.state m) ++ (numsB [(↑(SMsg.n m) : Int)] ++ signsB (SMsg.sig m) (SMsg.n m))) → true = true]))))) : Option (V × Heap × List Prop)) := by kernel_rfl
theorem bytesF_bl (l : List UInt8) : bytesF l.length (fun k => bl l (0 + k)) = baL l := by
 unfold bytesF baL
 congr 2
 apply List.ext_getElem?
 intro i
 rcases Nat.lt_or_ge i l.length with h | h
 ·simp [h, bl, intOf, List.getD_eq_getElem?_getD]
 ·rw [List.getElem?_eq_none (by simpa using h), List.getElem?_eq_none h]
theorem numsB2_len {a b : Int} (ha : num63 a) (hb : num63 b) : (numsB [a, b]).length ≤ 18 := by
 have h1 := putZ_len ha
 have h2 := putZ_len hb
 simp only [numsB, List.length_append, List.length_nil]; omega
theorem numsB3_len {a b c : Int} (ha : num63 a) (hb : num63 b) (hc : num63 c) : (numsB [a, b, c]).length ≤ 27 := by
 have h1 := putZ_len ha
 have h2 := putZ_len hb
 have h3 := putZ_len hc
 simp only [numsB, List.length_append, List.length_nil]; omega
/-- What a message that may be has. -/
structure EncOk (m : SMsg) : Prop where
 kind : 1 ≤ m.kind ∧ m.kind ≤ 8
 epoch : num63 m.epoch
 leader : num63 m.leader
 view : num63 m.view
 slot : num63 m.slot
 cepoch : num63 m.cepoch
 cleader : num63 m.cleader
 cview : num63 m.cview
 batch : BatchOk m.batch
 vote : m.kind = 2 → VoteOk m.vote
 nheld : m.nheld ≤ 100
 held : ∀ k, k < m.nheld → HeldOk (m.held k)
 nnews : m.nnews ≤ 1000
 news : ∀ k, k < m.nnews → EnvOk (m.news k)
 digest : SegOk 32 m.digest
 cert : m.kind = 7 → CertOk m.cert
 state : m.state.size ≤ 10000000
 n : m.n ≤ 1000
 sig : ∀ k, k < m.n → SignOk (m.sig k)
def encV (m : SMsg) (g : Bool) : V := if g = true then (if 4194304 < (encB m).length then .tup [.str (ByteArray.mk (Array.mk [])), .int .i64 3] else .tup [.str (baL (encB m)), .int .i64 0]) else .tup [.str (ByteArray.mk (Array.mk [])), .int .i64 130]
theorem T_enc1 {m : SMsg} (hg : T Tryz.prog 52 [.agg m.c] [] (.bool true) []) (h : EncOk m) (hk : m.kind = 1) : T Tryz.prog 19 [.agg m.c] [] (encV m true) [] := by
 have e : encB m = putZ m.kind ++ numsB [m.epoch, m.slot] ++ batchB m.batch := by simp [encB, bodyB, hk]
 have h0 : num63 m.kind := by rw [hk]; exact ⟨by decide, by decide⟩
 have h9 := putZ_len h0
 have hs := h.state
 have hl0 := numsB2_len h.epoch h.slot
 by_cases hl : 4194304 < (encB m).length
 ·refine T.val (T_al (bdEnc_p011 m true) Tryz.func19 ?_) (by simp [encV, hl])
  rw [e] at hl
  simp only [All, All_append, bdEnc_c]
  and_intros
  all_goals first
   | exact hg
   | exact T_nu0 h0 (by decide)
   | exact T_nu2 (by first | omega | (simp only [List.length_append]; omega)) h.epoch h.slot (by decide)
   | exact T_wb (by first | omega | (simp only [List.length_append]; omega)) h.batch (by decide)
   | (rw [decide_eq_true_eq]; omega)
   | (simp [hk]; done)
 ·refine T.val (T_al (bdEnc_p010 m true) Tryz.func19 ?_) (by rw [bytesF_bl, ← e]; simp [encV, hl])
  rw [e] at hl
  simp only [All, All_append, bdEnc_c]
  and_intros
  all_goals first
   | exact hg
   | exact T_nu0 h0 (by decide)
   | exact T_nu2 (by first | omega | (simp only [List.length_append]; omega)) h.epoch h.slot (by decide)
   | exact T_wb (by first | omega | (simp only [List.length_append]; omega)) h.batch (by decide)
   | (rw [decide_eq_false_iff_not]; omega)
   | (simp [hk]; done)
theorem T_enc2 {m : SMsg} (hg : T Tryz.prog 52 [.agg m.c] [] (.bool true) []) (h : EncOk m) (hk : m.kind = 2) : T Tryz.prog 19 [.agg m.c] [] (encV m true) [] := by
 have e : encB m = putZ m.kind ++ voteB m.vote := by simp [encB, bodyB, hk]
 have h0 : num63 m.kind := by rw [hk]; exact ⟨by decide, by decide⟩
 have h9 := putZ_len h0
 have hs := h.state
 by_cases hl : 4194304 < (encB m).length
 ·refine T.val (T_al (bdEnc_p0011 m true) Tryz.func19 ?_) (by simp [encV, hl])
  rw [e] at hl
  simp only [All, All_append, bdEnc_c]
  and_intros
  all_goals first
   | exact hg
   | exact T_nu0 h0 (by decide)
   | exact T_vot (by first | omega | (simp only [List.length_append]; omega)) (h.vote hk) (by decide)
   | (rw [decide_eq_true_eq]; omega)
   | (simp [hk]; done)
 ·refine T.val (T_al (bdEnc_p0010 m true) Tryz.func19 ?_) (by rw [bytesF_bl, ← e]; simp [encV, hl])
  rw [e] at hl
  simp only [All, All_append, bdEnc_c]
  and_intros
  all_goals first
   | exact hg
   | exact T_nu0 h0 (by decide)
   | exact T_vot (by first | omega | (simp only [List.length_append]; omega)) (h.vote hk) (by decide)
   | (rw [decide_eq_false_iff_not]; omega)
   | (simp [hk]; done)
theorem T_enc3 {m : SMsg} (hg : T Tryz.prog 52 [.agg m.c] [] (.bool true) []) (h : EncOk m) (hk : m.kind = 3) : T Tryz.prog 19 [.agg m.c] [] (encV m true) [] := by
 have e : encB m = putZ m.kind ++ numsB [m.cepoch, m.cleader, m.cview] ++ (numsB [(m.nheld : Int)] ++ heldsB m.held m.nheld) := by simp [encB, bodyB, hk]
 have h0 : num63 m.kind := by rw [hk]; exact ⟨by decide, by decide⟩
 have h9 := putZ_len h0
 have hs := h.state
 have hl0 := numsB3_len h.cepoch h.cleader h.cview
 by_cases hl : 4194304 < (encB m).length
 ·refine T.val (T_al (bdEnc_p00011 m true) Tryz.func19 ?_) (by simp [encV, hl])
  rw [e] at hl
  simp only [All, All_append, bdEnc_c]
  and_intros
  all_goals first
   | exact hg
   | exact T_nu0 h0 (by decide)
   | exact T_nu3 (by first | omega | (simp only [List.length_append]; omega)) h.cepoch h.cleader h.cview (by decide)
   | exact T_pHl (by first | omega | (simp only [List.length_append]; omega)) h.nheld h.held (by decide)
   | (rw [decide_eq_true_eq]; omega)
   | (simp [hk]; done)
 ·refine T.val (T_al (bdEnc_p00010 m true) Tryz.func19 ?_) (by rw [bytesF_bl, ← e]; simp [encV, hl])
  rw [e] at hl
  simp only [All, All_append, bdEnc_c]
  and_intros
  all_goals first
   | exact hg
   | exact T_nu0 h0 (by decide)
   | exact T_nu3 (by first | omega | (simp only [List.length_append]; omega)) h.cepoch h.cleader h.cview (by decide)
   | exact T_pHl (by first | omega | (simp only [List.length_append]; omega)) h.nheld h.held (by decide)
   | (rw [decide_eq_false_iff_not]; omega)
   | (simp [hk]; done)
theorem T_enc4 {m : SMsg} (hg : T Tryz.prog 52 [.agg m.c] [] (.bool true) []) (h : EncOk m) (hk : m.kind = 4) : T Tryz.prog 19 [.agg m.c] [] (encV m true) [] := by
 have e : encB m = putZ m.kind ++ numsB [m.epoch, m.leader, m.view] ++ (numsB [(m.nnews : Int)] ++ envsB m.news m.nnews) := by simp [encB, bodyB, hk]
 have h0 : num63 m.kind := by rw [hk]; exact ⟨by decide, by decide⟩
 have h9 := putZ_len h0
 have hs := h.state
 have hl0 := numsB3_len h.epoch h.leader h.view
 by_cases hl : 4194304 < (encB m).length
 ·refine T.val (T_al (bdEnc_p000011 m true) Tryz.func19 ?_) (by simp [encV, hl])
  rw [e] at hl
  simp only [All, All_append, bdEnc_c]
  and_intros
  all_goals first
   | exact hg
   | exact T_nu0 h0 (by decide)
   | exact T_nu3 (by first | omega | (simp only [List.length_append]; omega)) h.epoch h.leader h.view (by decide)
   | exact T_pNw (by first | omega | (simp only [List.length_append]; omega)) h.nnews h.news (by decide)
   | (rw [decide_eq_true_eq]; omega)
   | (simp [hk]; done)
 ·refine T.val (T_al (bdEnc_p000010 m true) Tryz.func19 ?_) (by rw [bytesF_bl, ← e]; simp [encV, hl])
  rw [e] at hl
  simp only [All, All_append, bdEnc_c]
  and_intros
  all_goals first
   | exact hg
   | exact T_nu0 h0 (by decide)
   | exact T_nu3 (by first | omega | (simp only [List.length_append]; omega)) h.epoch h.leader h.view (by decide)
   | exact T_pNw (by first | omega | (simp only [List.length_append]; omega)) h.nnews h.news (by decide)
   | (rw [decide_eq_false_iff_not]; omega)
   | (simp [hk]; done)
theorem T_enc5 {m : SMsg} (hg : T Tryz.prog 52 [.agg m.c] [] (.bool true) []) (h : EncOk m) (hk : m.kind = 5) : T Tryz.prog 19 [.agg m.c] [] (encV m true) [] := by
 have e : encB m = putZ m.kind ++ numsB [m.epoch] ++ segB m.digest := by simp [encB, bodyB, hk]
 have h0 : num63 m.kind := by rw [hk]; exact ⟨by decide, by decide⟩
 have h9 := putZ_len h0
 have hs := h.state
 have hl0 := numsB1_len h.epoch
 by_cases hl : 4194304 < (encB m).length
 ·refine T.val (T_al (bdEnc_p0000011 m true) Tryz.func19 ?_) (by simp [encV, hl])
  rw [e] at hl
  simp only [All, All_append, bdEnc_c]
  and_intros
  all_goals first
   | exact hg
   | exact T_nu0 h0 (by decide)
   | exact T_nu1 (by first | omega | (simp only [List.length_append]; omega)) h.epoch (by decide)
   | exact T_dig (by first | omega | (simp only [List.length_append]; omega)) h.digest (by decide)
   | (rw [decide_eq_true_eq]; omega)
   | (simp [hk]; done)
 ·refine T.val (T_al (bdEnc_p0000010 m true) Tryz.func19 ?_) (by rw [bytesF_bl, ← e]; simp [encV, hl])
  rw [e] at hl
  simp only [All, All_append, bdEnc_c]
  and_intros
  all_goals first
   | exact hg
   | exact T_nu0 h0 (by decide)
   | exact T_nu1 (by first | omega | (simp only [List.length_append]; omega)) h.epoch (by decide)
   | exact T_dig (by first | omega | (simp only [List.length_append]; omega)) h.digest (by decide)
   | (rw [decide_eq_false_iff_not]; omega)
   | (simp [hk]; done)
theorem T_enc6 {m : SMsg} (hg : T Tryz.prog 52 [.agg m.c] [] (.bool true) []) (h : EncOk m) (hk : m.kind = 6) : T Tryz.prog 19 [.agg m.c] [] (encV m true) [] := by
 have e : encB m = putZ m.kind ++ numsB [m.epoch, m.slot] := by simp [encB, bodyB, hk]
 have h0 : num63 m.kind := by rw [hk]; exact ⟨by decide, by decide⟩
 have h9 := putZ_len h0
 have hs := h.state
 by_cases hl : 4194304 < (encB m).length
 ·refine T.val (T_al (bdEnc_p00000011 m true) Tryz.func19 ?_) (by simp [encV, hl])
  rw [e] at hl
  simp only [All, All_append, bdEnc_c]
  and_intros
  all_goals first
   | exact hg
   | exact T_nu0 h0 (by decide)
   | exact T_nu2 (by first | omega | (simp only [List.length_append]; omega)) h.epoch h.slot (by decide)
   | (rw [decide_eq_true_eq]; omega)
   | (simp [hk]; done)
 ·refine T.val (T_al (bdEnc_p00000010 m true) Tryz.func19 ?_) (by rw [bytesF_bl, ← e]; simp [encV, hl])
  rw [e] at hl
  simp only [All, All_append, bdEnc_c]
  and_intros
  all_goals first
   | exact hg
   | exact T_nu0 h0 (by decide)
   | exact T_nu2 (by first | omega | (simp only [List.length_append]; omega)) h.epoch h.slot (by decide)
   | (rw [decide_eq_false_iff_not]; omega)
   | (simp [hk]; done)
theorem T_enc7 {m : SMsg} (hg : T Tryz.prog 52 [.agg m.c] [] (.bool true) []) (h : EncOk m) (hk : m.kind = 7) : T Tryz.prog 19 [.agg m.c] [] (encV m true) [] := by
 have e : encB m = putZ m.kind ++ batchB m.batch ++ certB m.cert := by simp [encB, bodyB, hk]
 have h0 : num63 m.kind := by rw [hk]; exact ⟨by decide, by decide⟩
 have h9 := putZ_len h0
 have hs := h.state
 have hl0 := batchB_len h.batch
 by_cases hl : 4194304 < (encB m).length
 ·refine T.val (T_al (bdEnc_p000000011 m true) Tryz.func19 ?_) (by simp [encV, hl])
  rw [e] at hl
  simp only [All, All_append, bdEnc_c]
  and_intros
  all_goals first
   | exact hg
   | exact T_nu0 h0 (by decide)
   | exact T_wb (by first | omega | (simp only [List.length_append]; omega)) h.batch (by decide)
   | exact T_crt (by first | omega | (simp only [List.length_append]; omega)) (h.cert hk) (by decide)
   | (rw [decide_eq_true_eq]; omega)
   | (simp [hk]; done)
 ·refine T.val (T_al (bdEnc_p000000010 m true) Tryz.func19 ?_) (by rw [bytesF_bl, ← e]; simp [encV, hl])
  rw [e] at hl
  simp only [All, All_append, bdEnc_c]
  and_intros
  all_goals first
   | exact hg
   | exact T_nu0 h0 (by decide)
   | exact T_wb (by first | omega | (simp only [List.length_append]; omega)) h.batch (by decide)
   | exact T_crt (by first | omega | (simp only [List.length_append]; omega)) (h.cert hk) (by decide)
   | (rw [decide_eq_false_iff_not]; omega)
   | (simp [hk]; done)
theorem T_enc8 {m : SMsg} (hg : T Tryz.prog 52 [.agg m.c] [] (.bool true) []) (h : EncOk m) (hk : m.kind = 8) : T Tryz.prog 19 [.agg m.c] [] (encV m true) [] := by
 have e : encB m = putZ m.kind ++ textB m.state ++ (numsB [(m.n : Int)] ++ signsB m.sig m.n) := by simp [encB, bodyB, hk]
 have h0 : num63 m.kind := by rw [hk]; exact ⟨by decide, by decide⟩
 have h9 := putZ_len h0
 have hs := h.state
 have hl0 := textB_len (s := m.state) (by have := h.state; omega)
 by_cases hl : 4194304 < (encB m).length
 ·refine T.val (T_al (bdEnc_p0000000011 m true) Tryz.func19 ?_) (by simp [encV, hl])
  rw [e] at hl
  simp only [All, All_append, bdEnc_c]
  and_intros
  all_goals first
   | exact hg
   | exact T_nu0 h0 (by decide)
   | exact T_wt (by first | omega | (simp only [List.length_append]; omega)) (by have := h.state; omega) (by decide)
   | exact T_pSg (by first | omega | (simp only [List.length_append]; omega)) h.n h.sig (by decide)
   | (rw [decide_eq_true_eq]; omega)
   | (simp [hk]; done)
 ·refine T.val (T_al (bdEnc_p0000000010 m true) Tryz.func19 ?_) (by rw [bytesF_bl, ← e]; simp [encV, hl])
  rw [e] at hl
  simp only [All, All_append, bdEnc_c]
  and_intros
  all_goals first
   | exact hg
   | exact T_nu0 h0 (by decide)
   | exact T_wt (by first | omega | (simp only [List.length_append]; omega)) (by have := h.state; omega) (by decide)
   | exact T_pSg (by first | omega | (simp only [List.length_append]; omega)) h.n h.sig (by decide)
   | (rw [decide_eq_false_iff_not]; omega)
   | (simp [hk]; done)
theorem T_enc {m : SMsg} {g : Bool} (hg : T Tryz.prog 52 [.agg m.c] [] (.bool g) []) (h : g = true → EncOk m) : T Tryz.prog 19 [.agg m.c] [] (encV m g) [] := by
 cases g with
 | false => exact T_al (bdEnc_p1 m false) Tryz.func19 ⟨hg, rfl, trivial⟩
 | true =>
  have h := h rfl
  have hk := h.kind
  have : m.kind = 1 ∨ m.kind = 2 ∨ m.kind = 3 ∨ m.kind = 4 ∨ m.kind = 5 ∨ m.kind = 6 ∨ m.kind = 7 ∨ m.kind = 8 := by omega
  rcases this with h1 | h1 | h1 | h1 | h1 | h1 | h1 | h1
  ·exact T_enc1 hg h h1
  ·exact T_enc2 hg h h1
  ·exact T_enc3 hg h h1
  ·exact T_enc4 hg h h1
  ·exact T_enc5 hg h h1
  ·exact T_enc6 hg h h1
  ·exact T_enc7 hg h h1
  ·exact T_enc8 hg h h1
end Go.Proofs.YtnmccoincblecaaGreat
namespace Go.Proofs.YtnmccoincblecaaGreat
open Go Sy Go.Proofs
/-- What is left, the first error, whether a vote was none. -/
structure RS where
 l : List UInt8 := []
 e : Int := 0
 bad : Bool := false
def rdB (s : RS) : B := .flat [.ros 1 s.l.length (bl s.l) false, .int .i64 s.e, .bool true]
def beN (xs : List UInt8) : Nat := xs.foldl (fun a x => a * 256 + x.toNat) 0
def kOf (l : List UInt8) : Nat := (l.getD 0 0).toNat
def nE (l : List UInt8) : Int := if l.length = 0 then 10 else if 8 < kOf l then 11 else if l.length ≤ kOf l then 10 else if 0 < kOf l ∧ (l.getD 1 0).toNat = 0 then 11 else if kOf l = 8 ∧ 127 < (l.getD 1 0).toNat then 11 else 0
def nV (l : List UInt8) : Int := if nE l = 0 then (beN ((l.drop 1).take (kOf l)) : Nat) else 0
def nS (l : List UInt8) : Int := if nE l = 0 then (kOf l + 1 : Nat) else 0
def RS.fail (s : RS) (e : Int) : RS := { l := [], e := e, bad := s.bad }
def RS.drop (s : RS) (n : Nat) : RS := { l := s.l.drop n, e := s.e, bad := s.bad }
def nE1 (most : Int) (l : List UInt8) : Int := if nE l = 0 ∧ most < nV l then 3 else nE l
def numR (most : Int) (s : RS) : Int × RS := if s.e ≠ 0 then (0, s) else if nE1 most s.l ≠ 0 then (0, s.fail (nE1 most s.l)) else (nV s.l, s.drop (nS s.l).toNat)
def tE (most : Int) (l : List UInt8) : Int := if nE l ≠ 0 then nE l else if most < nV l then 3 else if (l.length : Int) - nS l < nV l then 10 else 0
def textR (most : Int) (s : RS) : ByteArray × RS := if s.e ≠ 0 then (baL [], s) else if tE most s.l ≠ 0 then (baL [], s.fail (tE most s.l)) else (baL ((s.l.drop (nS s.l).toNat).take (nV s.l).toNat), (s.drop (nS s.l).toNat).drop (nV s.l).toNat)
def rawR (n : Int) (s : RS) : List UInt8 × RS := if s.e ≠ 0 then ([], s) else if n < 0 then ([], s.fail 2) else if (s.l.length : Int) < n then ([], s.fail 10) else (s.l.take n.toNat, s.drop n.toNat)
def doneR (s : RS) : Int := if s.e ≠ 0 then s.e else if 0 < s.l.length then 12 else 0
def roB (l : List UInt8) : V := .ros 1 l.length (bl l) false
def p0 : V := .ptr (.o 0) 0 0 0 0
def kRd (s : RS) (l : List (Nat × V)) : Exit → St → Option W := fun _ st => some ⟨[], setsOf l, [(.o 0, .set (rdB s))], none, st.next⟩
def n0 : St → List Nm := fun _ => [.o 0]
def dbF (l : List (Nat × (List V → Heap → Nat → List Cl))) : Nat → List V → Heap → Nat → List Cl := fun k args h lo => match lookS l k with
 | some f => f args h lo
 | none => []
def cRd (v : V) (s : RS) : List V → Heap → Nat → List Cl := fun args _ _ => match args with
 | .ptr a _ _ _ _ :: _ => [{ pre := [a], val := v, post := [(a, rdB s)] }]
 | _ => []
def kRead (l : List UInt8) : Exit → St → Option W := fun _ st => match getV st.tmps 2 with
 | .ptr a _ _ _ _ => some ⟨[(.o 63, a)], [(2, .set (.ptr (.o 63) 0 0 0 0))], [(.o 63, .set (rdB { l := l }))], none, st.next⟩
 | _ => none
noncomputable def bdRead (l : List UInt8) : Bd := { f := Tryz.f24, args := [roB l], kb := kb0, k := kRead l, names := fun _ => [.o 63] }
noncomputable def bdStop (s : RS) : Bd := { f := Tryz.f73, args := [p0], pre := [(.o 0, rdB s)], base := 1, kb := kb0, names := n0 }
noncomputable def bdErr (s : RS) : Bd := { f := Tryz.f78, args := [p0], pre := [(.o 0, rdB s)], base := 1, kb := kb0, names := n0 }
noncomputable def bdLeft (s : RS) : Bd := { f := Tryz.f77, args := [p0], pre := [(.o 0, rdB s)], base := 1, kb := kb0, names := n0 }
noncomputable def bdDone (s : RS) : Bd := { f := Tryz.f28, args := [p0], pre := [(.o 0, rdB s)], base := 1, kb := { db := dbF [(78, cRd (.int .i64 s.e) s), (77, cRd (.int .i64 (s.l.length : Nat)) s)] }, names := n0 }
noncomputable def bdFail (s : RS) (e : Int) : Bd := { f := Tryz.f75, args := [p0, .int .i64 e], pre := [(.o 0, rdB s)], base := 1, kb := kb0, names := n0, k := kRd (s.fail e) [] }
noncomputable def bdTake (s : RS) (n : Nat) : Bd := { f := Tryz.f76, args := [p0, .int .i64 n], pre := [(.o 0, rdB s)], base := 1, kb := kb0, names := n0, k := kRd (s.drop n) [(4, .ros 1 n (bl (s.l.take n)) false)] }
def nbI (l : List UInt8) (s : RS) (k : Nat) : St := ⟨mkT 76 [(2, .int .i64 (beN ((l.drop 1).take k) : Nat)), (3, .int .i64 0), (4, .int .i64 0), (5, .int .i64 (kOf l : Nat)), (61, .ros 1 (kOf l) (bl (l.drop 1)) false), (62, .int .i64 (kOf l : Nat)), (63, .int .i64 k)], [(.o 0, rdB s)], 1, []⟩
noncomputable def bdNumber (s : RS) : Bd := { f := Tryz.f74, args := [p0], pre := [(.o 0, rdB s)], base := 1, kb := { db := fun _ _ _ _ => [], lp := fun _ _ => [(True, .loop (kOf s.l + 1) (wTo (nbI s.l s 0)) (.exit 1) (nbI s.l s (kOf s.l)))] }, names := n0 }
noncomputable def pcNumber (s : RS) (k : Nat) : Pc := { c := cB (cB (cR (cL (cR (cR (cR (cR (bodyOf Tryz.f74)))))))), st := nbI s.l s k, p := 1, kb := kb0, k := fun e _ => match e with
 | .normal => some (wTo (nbI s.l s (k + 1)))
 | _ => some (wTo (nbI s.l s (kOf s.l))) }
def numberV (l : List UInt8) : V := .tup [.int .i64 (nV l), .int .i64 (nS l), .int .i64 (nE l)]
def stopV (s : RS) : V := .bool (!decide (s.e = 0))
noncomputable def bdNum (most : Int) (s : RS) : Bd := { f := Tryz.f25, args := [p0, .int .i64 most], pre := [(.o 0, rdB s)], base := 1, kb := { db := dbF [(73, cRd (stopV s) s), (74, cRd (numberV s.l) s), (75, cRd (.tup []) (s.fail (nE1 most s.l))), (76, cRd (.ros 1 (nS s.l).toNat (bl (s.l.take (nS s.l).toNat)) false) (s.drop (nS s.l).toNat))] }, names := n0 }
def dbG (l : List (Nat × (List V → Heap → Nat → List Cl))) (g : List (Nat × (List V → Heap → Nat → List Cl))) : Nat → List V → Heap → Nat → List Cl := fun k args h lo => match lookS l k with
 | some f => f args h lo
 | none => match lookS g (lo / 64) with
  | some f => f args h lo
  | none => []
noncomputable def bdTextR (most : Int) (s : RS) : Bd := { f := Tryz.f26, args := [p0, .int .i64 most], pre := [(.o 0, rdB s)], base := 1, kb := { db := dbG [(73, cRd (stopV s) s), (74, cRd (numberV s.l) s), (77, cRd (.int .i64 (s.l.length : Nat)) s), (75, cRd (.tup []) (s.fail (tE most s.l)))] [(36, cRd (.ros 1 (nS s.l).toNat (bl (s.l.take (nS s.l).toNat)) false) (s.drop (nS s.l).toNat)), (41, cRd (.ros 1 (nV s.l).toNat (bl ((s.l.drop (nS s.l).toNat).take (nV s.l).toNat)) false) ((s.drop (nS s.l).toNat).drop (nV s.l).toNat))] }, names := n0 }
noncomputable def bdRawR (n : Int) (s : RS) : Bd := { f := Tryz.f27, args := [p0, .int .i64 n], pre := [(.o 0, rdB s)], base := 1, kb := { db := dbF [(73, cRd (stopV s) s), (77, cRd (.int .i64 (s.l.length : Nat)) s), (75, cRd (.tup []) (rawR n s).2), (76, cRd (.ros 1 n.toNat (bl (s.l.take n.toNat)) false) (s.drop n.toNat))] }, names := n0, k := kRd (rawR n s).2 [(4, roB (rawR n s).1)] }
end Go.Proofs.YtnmccoincblecaaGreat
