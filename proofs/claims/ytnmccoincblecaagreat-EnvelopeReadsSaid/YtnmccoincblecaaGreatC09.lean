/-
  Contracts and laws that the claim's theorem leans on, joined out of the texts Tb3 Tb4D Tb4 Te0 Te1 Te2 Te3 Te4 Qa0 SyFrz Qa1D (own work of this seat): Contracts: certs, what was held and a message's fields are read; Contracts: a message is read; Contracts: a message is read; The plain law: what is put is read again, what is read was put. Numbers, texts, raw bytes; The plain law: texts, raw bytes, requests, batches, signs, envelopes, votes, lists; The plain law: signs, envelopes, votes, batches, certs, what was held; The plain law of messages: what was put is read, what is read was put; What a message that may be has; its bytes, or why not; The plain law: an envelope that is put is read again; Blocks that a call takes for good: they are only looked at from then on; Contracts: a number behind bytes that stay; the body that a request's tag is of; an envelope's bytes.
-/
import Derived.Test.YtnmccoincblecaaGreatC04
import Derived.Test.YtnmccoincblecaaGreatC08
set_option linter.unusedVariables false
set_option linter.unusedSimpArgs false
set_option maxHeartbeats 1000000
namespace Go.Proofs.YtnmccoincblecaaGreat
open Go Sy Go.Proofs
theorem bdCtR_p (s : RS) (s1 : RS) (s2 : RS) (v : SVote) (n : Nat) (g : Nat → SSign) :
  along Tryz.prog (bdCtR s s1 s2 v n g) [] = (some (.agg [.int .i64 (SVote.kind v), .int .i64 (SVote.epoch v), .int .i64 (SVote.view v), .int .i64 (SVote.slot v), .seg .u8 32 (SVote.digest v), sg n g], [(.o 0, .flat [.ptr (.o 1) 0 0 0 0, .bool (RS.bad s2)]), (.o 1, rdB s2)], [T Tryz.prog 108 [.ptr (.o 0) 0 0 0 0] [(.o 0, .flat [.ptr (.o 1) 0 0 0 0, .bool (RS.bad s)]), (.o 1, rdB s)] (.agg (SVote.c v)) [(.o 0, .flat [.ptr (.o 1) 0 0 0 0, .bool (RS.bad s1)]), (.o 1, rdB s1)], T Tryz.prog 115 [.ptr (.o 0) 0 0 0 0, .int .i64 64, .fn (.func 116) [.ptr (.o 0) 0 0 0 0] []] [(.o 0, .flat [.ptr (.o 1) 0 0 0 0, .bool (RS.bad s1)]), (.o 1, rdB s1)] (sg n g) [(.o 0, .flat [.ptr (.o 1) 0 0 0 0, .bool (RS.bad s2)]), (.o 1, rdB s2)], q0, q0, q0, q (RS.bad s2), q (List.length (RS.l s2)), ∀ (k : Nat), k < List.length (RS.l s2) → bl (RS.l s2) k = bl (RS.l s2) k, false = true → false = true, q (RS.e s2), q2, q (SVote.kind v), q (SVote.epoch v), q (SVote.view v), q (SVote.slot v), q (32 : Nat), q (SVote.digest v), q n, ∀ (k : Nat), k < n → SSign.c (g k) = SSign.c (g k), false = true → false = true, q0, q0, q0]) : Option (V × Heap × List Prop)) := by kernel_rfl

theorem bdHdR_p (s : RS) (s1 : RS) (s2 : RS) (b : SBatch) (c : SCert) :
  along Tryz.prog (bdHdR s s1 s2 b c) [] = (some (.agg [.bool (SBatch.noop b), rq (SBatch.n b) (SBatch.req b), .int .i64 (SVote.kind (SCert.vote c)), .int .i64 (SVote.epoch (SCert.vote c)), .int .i64 (SVote.view (SCert.vote c)), .int .i64 (SVote.slot (SCert.vote c)), .seg .u8 32 (SVote.digest (SCert.vote c)), sg (SCert.n c) (SCert.sig c)], [(.o 0, .flat [.ptr (.o 1) 0 0 0 0, .bool (RS.bad s2)]), (.o 1, rdB s2)], [T Tryz.prog 107 [.ptr (.o 1) 0 0 0 0] [(.o 1, rdB s)] (.agg (SBatch.c b)) [(.o 1, rdB s1)], T Tryz.prog 114 [.ptr (.o 0) 0 0 0 0] [(.o 0, .flat [.ptr (.o 1) 0 0 0 0, .bool (RS.bad s)]), (.o 1, rdB s1)] (.agg (SCert.c c)) [(.o 0, .flat [.ptr (.o 1) 0 0 0 0, .bool (RS.bad s2)]), (.o 1, rdB s2)], q0, q0, q0, q (RS.bad s2), q (List.length (RS.l s2)), ∀ (k : Nat), k < List.length (RS.l s2) → bl (RS.l s2) k = bl (RS.l s2) k, false = true → false = true, q (RS.e s2), q2, q (SBatch.noop b), q (SBatch.n b), ∀ (k : Nat), k < SBatch.n b → SReq.c (SBatch.req b k) = SReq.c (SBatch.req b k), false = true → false = true, q (SVote.kind (SCert.vote c)), q (SVote.epoch (SCert.vote c)), q (SVote.view (SCert.vote c)), q (SVote.slot (SCert.vote c)), q (32 : Nat), q (SVote.digest (SCert.vote c)), q (SCert.n c), ∀ (k : Nat), k < SCert.n c → SSign.c (SCert.sig c k) = SSign.c (SCert.sig c k), false = true → false = true, q0, q0, q0]) : Option (V × Heap × List Prop)) := by kernel_rfl

theorem bdF1_p1 (m : SMsg) (s : RS) (t1 : RS) (t2 : RS) (t3 : RS) (x0 : Int) (x1 : Int) (x2 : SBatch) :
  along Tryz.prog (bdF1 m s t1 t2 t3 x0 x1 x2) [true] = (some (.tup [], [(.o 0, .flat [.ptr (.o 1) 0 0 0 0, .bool (RS.bad t3)]), (.o 1, rdB t3), (.o 2, .flat (SMsg.c (SMsg.mk (SMsg.kind m) x0 (SMsg.leader m) (SMsg.view m) x1 x2 (SMsg.vote m) (SMsg.cepoch m) (SMsg.cleader m) (SMsg.cview m) (SMsg.nheld m) (SMsg.held m) (SMsg.nnews m) (SMsg.news m) (SMsg.digest m) (SMsg.cert m) (SMsg.state m) (SMsg.n m) (SMsg.sig m))))], [decide (SMsg.kind m = (1 : Int)) = true, T Tryz.prog 25 [.ptr (.o 1) 0 0 0 0, .int .i64 1048576] [(.o 1, rdB s)] (.int .i64 x0) [(.o 1, rdB t1)], T Tryz.prog 25 [.ptr (.o 1) 0 0 0 0, .int .i64 1099511627776] [(.o 1, rdB t1)] (.int .i64 x1) [(.o 1, rdB t2)], T Tryz.prog 107 [.ptr (.o 1) 0 0 0 0] [(.o 1, rdB t2)] (.agg (SBatch.c x2)) [(.o 1, rdB t3)], q0, q0, q0, RS.bad s = RS.bad t3, q (List.length (RS.l t3)), ∀ (k : Nat), k < List.length (RS.l t3) → bl (RS.l t3) k = bl (RS.l t3) k, false = true → false = true, q (RS.e t3), q2, q (SMsg.kind m), q x0, q (SMsg.leader m), q (SMsg.view m), q x1, q (SBatch.noop x2), q (SBatch.n x2), ∀ (k : Nat), k < SBatch.n x2 → SReq.c (SBatch.req x2 k) = SReq.c (SBatch.req x2 k), false = true → false = true, q (SVote.kind (SMsg.vote m)), q (SVote.epoch (SMsg.vote m)), q (SVote.view (SMsg.vote m)), q (SVote.slot (SMsg.vote m)), q (32 : Nat), q (SVote.digest (SMsg.vote m)), q (SMsg.cepoch m), q (SMsg.cleader m), q (SMsg.cview m), q (SMsg.nheld m), ∀ (k : Nat), k < SMsg.nheld m → SHeld.c (SMsg.held m k) = SHeld.c (SMsg.held (SMsg.mk (SMsg.kind m) x0 (SMsg.leader m) (SMsg.view m) x1 x2 (SMsg.vote m) (SMsg.cepoch m) (SMsg.cleader m) (SMsg.cview m) (SMsg.nheld m) (SMsg.held m) (SMsg.nnews m) (SMsg.news m) (SMsg.digest m) (SMsg.cert m) (SMsg.state m) (SMsg.n m) (SMsg.sig m)) k), false = true → false = true, q (SMsg.nnews m), ∀ (k : Nat), k < SMsg.nnews m → SEnv.c (SMsg.news m k) = SEnv.c (SMsg.news (SMsg.mk (SMsg.kind m) x0 (SMsg.leader m) (SMsg.view m) x1 x2 (SMsg.vote m) (SMsg.cepoch m) (SMsg.cleader m) (SMsg.cview m) (SMsg.nheld m) (SMsg.held m) (SMsg.nnews m) (SMsg.news m) (SMsg.digest m) (SMsg.cert m) (SMsg.state m) (SMsg.n m) (SMsg.sig m)) k), false = true → false = true, q (32 : Nat), q (SMsg.digest m), q (SVote.kind (SCert.vote (SMsg.cert m))), q (SVote.epoch (SCert.vote (SMsg.cert m))), q (SVote.view (SCert.vote (SMsg.cert m))), q (SVote.slot (SCert.vote (SMsg.cert m))), q (32 : Nat), q (SVote.digest (SCert.vote (SMsg.cert m))), q (SCert.n (SMsg.cert m)), ∀ (k : Nat), k < SCert.n (SMsg.cert m) → SSign.c (SCert.sig (SMsg.cert m) k) = SSign.c (SCert.sig (SMsg.cert m) k), false = true → false = true, q (SMsg.state m), q (SMsg.n m), ∀ (k : Nat), k < SMsg.n m → SSign.c (SMsg.sig m k) = SSign.c (SMsg.sig (SMsg.mk (SMsg.kind m) x0 (SMsg.leader m) (SMsg.view m) x1 x2 (SMsg.vote m) (SMsg.cepoch m) (SMsg.cleader m) (SMsg.cview m) (SMsg.nheld m) (SMsg.held m) (SMsg.nnews m) (SMsg.news m) (SMsg.digest m) (SMsg.cert m) (SMsg.state m) (SMsg.n m) (SMsg.sig m)) k), false = true → false = true]) : Option (V × Heap × List Prop)) := by kernel_rfl

theorem bdF2_p01 (m : SMsg) (s : RS) (t1 : RS) (x0 : SVote) :
  along Tryz.prog (bdF2 m s t1 x0) [false, true] = (some (.tup [], [(.o 0, .flat [.ptr (.o 1) 0 0 0 0, .bool (RS.bad t1)]), (.o 1, rdB t1), (.o 2, .flat (SMsg.c (SMsg.mk (SMsg.kind m) (SMsg.epoch m) (SMsg.leader m) (SMsg.view m) (SMsg.slot m) (SMsg.batch m) x0 (SMsg.cepoch m) (SMsg.cleader m) (SMsg.cview m) (SMsg.nheld m) (SMsg.held m) (SMsg.nnews m) (SMsg.news m) (SMsg.digest m) (SMsg.cert m) (SMsg.state m) (SMsg.n m) (SMsg.sig m))))], [decide (SMsg.kind m = (1 : Int)) = false, decide (SMsg.kind m = (2 : Int)) = true, T Tryz.prog 108 [.ptr (.o 0) 0 0 0 0] [(.o 0, .flat [.ptr (.o 1) 0 0 0 0, .bool (RS.bad s)]), (.o 1, rdB s)] (.agg (SVote.c x0)) [(.o 0, .flat [.ptr (.o 1) 0 0 0 0, .bool (RS.bad t1)]), (.o 1, rdB t1)], q0, q0, q0, q (RS.bad t1), q (List.length (RS.l t1)), ∀ (k : Nat), k < List.length (RS.l t1) → bl (RS.l t1) k = bl (RS.l t1) k, false = true → false = true, q (RS.e t1), q2, q (SMsg.kind m), q (SMsg.epoch m), q (SMsg.leader m), q (SMsg.view m), q (SMsg.slot m), q (SBatch.noop (SMsg.batch m)), q (SBatch.n (SMsg.batch m)), ∀ (k : Nat), k < SBatch.n (SMsg.batch m) → SReq.c (SBatch.req (SMsg.batch m) k) = SReq.c (SBatch.req (SMsg.batch m) k), false = true → false = true, q (SVote.kind x0), q (SVote.epoch x0), q (SVote.view x0), q (SVote.slot x0), q (32 : Nat), q (SVote.digest x0), q (SMsg.cepoch m), q (SMsg.cleader m), q (SMsg.cview m), q (SMsg.nheld m), ∀ (k : Nat), k < SMsg.nheld m → SHeld.c (SMsg.held m k) = SHeld.c (SMsg.held (SMsg.mk (SMsg.kind m) (SMsg.epoch m) (SMsg.leader m) (SMsg.view m) (SMsg.slot m) (SMsg.batch m) x0 (SMsg.cepoch m) (SMsg.cleader m) (SMsg.cview m) (SMsg.nheld m) (SMsg.held m) (SMsg.nnews m) (SMsg.news m) (SMsg.digest m) (SMsg.cert m) (SMsg.state m) (SMsg.n m) (SMsg.sig m)) k), false = true → false = true, q (SMsg.nnews m), ∀ (k : Nat), k < SMsg.nnews m → SEnv.c (SMsg.news m k) = SEnv.c (SMsg.news (SMsg.mk (SMsg.kind m) (SMsg.epoch m) (SMsg.leader m) (SMsg.view m) (SMsg.slot m) (SMsg.batch m) x0 (SMsg.cepoch m) (SMsg.cleader m) (SMsg.cview m) (SMsg.nheld m) (SMsg.held m) (SMsg.nnews m) (SMsg.news m) (SMsg.digest m) (SMsg.cert m) (SMsg.state m) (SMsg.n m) (SMsg.sig m)) k), false = true → false = true, q (32 : Nat), q (SMsg.digest m), q (SVote.kind (SCert.vote (SMsg.cert m))), q (SVote.epoch (SCert.vote (SMsg.cert m))), q (SVote.view (SCert.vote (SMsg.cert m))), q (SVote.slot (SCert.vote (SMsg.cert m))), q (32 : Nat), q (SVote.digest (SCert.vote (SMsg.cert m))), q (SCert.n (SMsg.cert m)), ∀ (k : Nat), k < SCert.n (SMsg.cert m) → SSign.c (SCert.sig (SMsg.cert m) k) = SSign.c (SCert.sig (SMsg.cert m) k), false = true → false = true, q (SMsg.state m), q (SMsg.n m), ∀ (k : Nat), k < SMsg.n m → SSign.c (SMsg.sig m k) = SSign.c (SMsg.sig (SMsg.mk (SMsg.kind m) (SMsg.epoch m) (SMsg.leader m) (SMsg.view m) (SMsg.slot m) (SMsg.batch m) x0 (SMsg.cepoch m) (SMsg.cleader m) (SMsg.cview m) (SMsg.nheld m) (SMsg.held m) (SMsg.nnews m) (SMsg.news m) (SMsg.digest m) (SMsg.cert m) (SMsg.state m) (SMsg.n m) (SMsg.sig m)) k), false = true → false = true]) : Option (V × Heap × List Prop)) := by kernel_rfl

theorem bdF3_p001 (m : SMsg) (s : RS) (t1 : RS) (t2 : RS) (t3 : RS) (t4 : RS) (n : Nat) (x0 : Int) (x1 : Int) (x2 : Int) (x3 : Nat → SHeld) :
  along Tryz.prog (bdF3 m s t1 t2 t3 t4 n x0 x1 x2 x3) [false, false, true] = (some (.tup [], [(.o 0, .flat [.ptr (.o 1) 0 0 0 0, .bool (RS.bad t4)]), (.o 1, rdB t4), (.o 2, .flat (SMsg.c (SMsg.mk (SMsg.kind m) (SMsg.epoch m) (SMsg.leader m) (SMsg.view m) (SMsg.slot m) (SMsg.batch m) (SMsg.vote m) x0 x1 x2 n x3 (SMsg.nnews m) (SMsg.news m) (SMsg.digest m) (SMsg.cert m) (SMsg.state m) (SMsg.n m) (SMsg.sig m))))], [decide (SMsg.kind m = (1 : Int)) = false, decide (SMsg.kind m = (2 : Int)) = false, decide (SMsg.kind m = (3 : Int)) = true, T Tryz.prog 25 [.ptr (.o 1) 0 0 0 0, .int .i64 1048576] [(.o 1, rdB s)] (.int .i64 x0) [(.o 1, rdB t1)], T Tryz.prog 25 [.ptr (.o 1) 0 0 0 0, .int .i64 64] [(.o 1, rdB t1)] (.int .i64 x1) [(.o 1, rdB t2)], T Tryz.prog 25 [.ptr (.o 1) 0 0 0 0, .int .i64 1099511627776] [(.o 1, rdB t2)] (.int .i64 x2) [(.o 1, rdB t3)], T Tryz.prog 109 [.ptr (.o 0) 0 0 0 0, .int .i64 4, .fn (.func 110) [.ptr (.o 0) 0 0 0 0] []] [(.o 0, .flat [.ptr (.o 1) 0 0 0 0, .bool (RS.bad s)]), (.o 1, rdB t3)] (hl n x3) [(.o 0, .flat [.ptr (.o 1) 0 0 0 0, .bool (RS.bad t4)]), (.o 1, rdB t4)], q0, q0, q0, q (RS.bad t4), q (List.length (RS.l t4)), ∀ (k : Nat), k < List.length (RS.l t4) → bl (RS.l t4) k = bl (RS.l t4) k, false = true → false = true, q (RS.e t4), q2, q (SMsg.kind m), q (SMsg.epoch m), q (SMsg.leader m), q (SMsg.view m), q (SMsg.slot m), q (SBatch.noop (SMsg.batch m)), q (SBatch.n (SMsg.batch m)), ∀ (k : Nat), k < SBatch.n (SMsg.batch m) → SReq.c (SBatch.req (SMsg.batch m) k) = SReq.c (SBatch.req (SMsg.batch m) k), false = true → false = true, q (SVote.kind (SMsg.vote m)), q (SVote.epoch (SMsg.vote m)), q (SVote.view (SMsg.vote m)), q (SVote.slot (SMsg.vote m)), q (32 : Nat), q (SVote.digest (SMsg.vote m)), q x0, q x1, q x2, q n, ∀ (k : Nat), k < n → SHeld.c (x3 k) = SHeld.c (SMsg.held (SMsg.mk (SMsg.kind m) (SMsg.epoch m) (SMsg.leader m) (SMsg.view m) (SMsg.slot m) (SMsg.batch m) (SMsg.vote m) x0 x1 x2 n x3 (SMsg.nnews m) (SMsg.news m) (SMsg.digest m) (SMsg.cert m) (SMsg.state m) (SMsg.n m) (SMsg.sig m)) k), false = true → false = true, q (SMsg.nnews m), ∀ (k : Nat), k < SMsg.nnews m → SEnv.c (SMsg.news m k) = SEnv.c (SMsg.news (SMsg.mk (SMsg.kind m) (SMsg.epoch m) (SMsg.leader m) (SMsg.view m) (SMsg.slot m) (SMsg.batch m) (SMsg.vote m) x0 x1 x2 n x3 (SMsg.nnews m) (SMsg.news m) (SMsg.digest m) (SMsg.cert m) (SMsg.state m) (SMsg.n m) (SMsg.sig m)) k), false = true → false = true, q (32 : Nat), q (SMsg.digest m), q (SVote.kind (SCert.vote (SMsg.cert m))), q (SVote.epoch (SCert.vote (SMsg.cert m))), q (SVote.view (SCert.vote (SMsg.cert m))), q (SVote.slot (SCert.vote (SMsg.cert m))), q (32 : Nat), q (SVote.digest (SCert.vote (SMsg.cert m))), q (SCert.n (SMsg.cert m)), ∀ (k : Nat), k < SCert.n (SMsg.cert m) → SSign.c (SCert.sig (SMsg.cert m) k) = SSign.c (SCert.sig (SMsg.cert m) k), false = true → false = true, q (SMsg.state m), q (SMsg.n m), ∀ (k : Nat), k < SMsg.n m → SSign.c (SMsg.sig m k) = SSign.c (SMsg.sig (SMsg.mk (SMsg.kind m) (SMsg.epoch m) (SMsg.leader m) (SMsg.view m) (SMsg.slot m) (SMsg.batch m) (SMsg.vote m) x0 x1 x2 n x3 (SMsg.nnews m) (SMsg.news m) (SMsg.digest m) (SMsg.cert m) (SMsg.state m) (SMsg.n m) (SMsg.sig m)) k), false = true → false = true]) : Option (V × Heap × List Prop)) := by kernel_rfl

theorem bdF4_p0001 (m : SMsg) (s : RS) (t1 : RS) (t2 : RS) (t3 : RS) (t4 : RS) (n : Nat) (x0 : Int) (x1 : Int) (x2 : Int) (x3 : Nat → SEnv) :
  along Tryz.prog (bdF4 m s t1 t2 t3 t4 n x0 x1 x2 x3) [false, false, false, true] = (some (.tup [], [(.o 0, .flat [.ptr (.o 1) 0 0 0 0, .bool (RS.bad t4)]), (.o 1, rdB t4), (.o 2, .flat (SMsg.c (SMsg.mk (SMsg.kind m) x0 x1 x2 (SMsg.slot m) (SMsg.batch m) (SMsg.vote m) (SMsg.cepoch m) (SMsg.cleader m) (SMsg.cview m) (SMsg.nheld m) (SMsg.held m) n x3 (SMsg.digest m) (SMsg.cert m) (SMsg.state m) (SMsg.n m) (SMsg.sig m))))], [decide (SMsg.kind m = (1 : Int)) = false, decide (SMsg.kind m = (2 : Int)) = false, decide (SMsg.kind m = (3 : Int)) = false, decide (SMsg.kind m = (4 : Int)) = true, T Tryz.prog 25 [.ptr (.o 1) 0 0 0 0, .int .i64 1048576] [(.o 1, rdB s)] (.int .i64 x0) [(.o 1, rdB t1)], T Tryz.prog 25 [.ptr (.o 1) 0 0 0 0, .int .i64 64] [(.o 1, rdB t1)] (.int .i64 x1) [(.o 1, rdB t2)], T Tryz.prog 25 [.ptr (.o 1) 0 0 0 0, .int .i64 1099511627776] [(.o 1, rdB t2)] (.int .i64 x2) [(.o 1, rdB t3)], T Tryz.prog 111 [.ptr (.o 0) 0 0 0 0, .int .i64 64, .fn (.func 112) [.ptr (.o 0) 0 0 0 0] []] [(.o 0, .flat [.ptr (.o 1) 0 0 0 0, .bool (RS.bad s)]), (.o 1, rdB t3)] (nw n x3) [(.o 0, .flat [.ptr (.o 1) 0 0 0 0, .bool (RS.bad t4)]), (.o 1, rdB t4)], q0, q0, q0, q (RS.bad t4), q (List.length (RS.l t4)), ∀ (k : Nat), k < List.length (RS.l t4) → bl (RS.l t4) k = bl (RS.l t4) k, false = true → false = true, q (RS.e t4), q2, q (SMsg.kind m), q x0, q x1, q x2, q (SMsg.slot m), q (SBatch.noop (SMsg.batch m)), q (SBatch.n (SMsg.batch m)), ∀ (k : Nat), k < SBatch.n (SMsg.batch m) → SReq.c (SBatch.req (SMsg.batch m) k) = SReq.c (SBatch.req (SMsg.batch m) k), false = true → false = true, q (SVote.kind (SMsg.vote m)), q (SVote.epoch (SMsg.vote m)), q (SVote.view (SMsg.vote m)), q (SVote.slot (SMsg.vote m)), q (32 : Nat), q (SVote.digest (SMsg.vote m)), q (SMsg.cepoch m), q (SMsg.cleader m), q (SMsg.cview m), q (SMsg.nheld m), ∀ (k : Nat), k < SMsg.nheld m → SHeld.c (SMsg.held m k) = SHeld.c (SMsg.held (SMsg.mk (SMsg.kind m) x0 x1 x2 (SMsg.slot m) (SMsg.batch m) (SMsg.vote m) (SMsg.cepoch m) (SMsg.cleader m) (SMsg.cview m) (SMsg.nheld m) (SMsg.held m) n x3 (SMsg.digest m) (SMsg.cert m) (SMsg.state m) (SMsg.n m) (SMsg.sig m)) k), false = true → false = true, q n, ∀ (k : Nat), k < n → SEnv.c (x3 k) = SEnv.c (SMsg.news (SMsg.mk (SMsg.kind m) x0 x1 x2 (SMsg.slot m) (SMsg.batch m) (SMsg.vote m) (SMsg.cepoch m) (SMsg.cleader m) (SMsg.cview m) (SMsg.nheld m) (SMsg.held m) n x3 (SMsg.digest m) (SMsg.cert m) (SMsg.state m) (SMsg.n m) (SMsg.sig m)) k), false = true → false = true, q (32 : Nat), q (SMsg.digest m), q (SVote.kind (SCert.vote (SMsg.cert m))), q (SVote.epoch (SCert.vote (SMsg.cert m))), q (SVote.view (SCert.vote (SMsg.cert m))), q (SVote.slot (SCert.vote (SMsg.cert m))), q (32 : Nat), q (SVote.digest (SCert.vote (SMsg.cert m))), q (SCert.n (SMsg.cert m)), ∀ (k : Nat), k < SCert.n (SMsg.cert m) → SSign.c (SCert.sig (SMsg.cert m) k) = SSign.c (SCert.sig (SMsg.cert m) k), false = true → false = true, q (SMsg.state m), q (SMsg.n m), ∀ (k : Nat), k < SMsg.n m → SSign.c (SMsg.sig m k) = SSign.c (SMsg.sig (SMsg.mk (SMsg.kind m) x0 x1 x2 (SMsg.slot m) (SMsg.batch m) (SMsg.vote m) (SMsg.cepoch m) (SMsg.cleader m) (SMsg.cview m) (SMsg.nheld m) (SMsg.held m) n x3 (SMsg.digest m) (SMsg.cert m) (SMsg.state m) (SMsg.n m) (SMsg.sig m)) k), false = true → false = true]) : Option (V × Heap × List Prop)) := by kernel_rfl

theorem bdF5_p00001 (m : SMsg) (s : RS) (t1 : RS) (t2 : RS) (x0 : Int) (x1 : List Int) :
  along Tryz.prog (bdF5 m s t1 t2 x0 x1) [false, false, false, false, true] = (some (.tup [], [(.o 0, .flat [.ptr (.o 1) 0 0 0 0, .bool (RS.bad t2)]), (.o 1, rdB t2), (.o 2, .flat (SMsg.c (SMsg.mk (SMsg.kind m) x0 (SMsg.leader m) (SMsg.view m) (SMsg.slot m) (SMsg.batch m) (SMsg.vote m) (SMsg.cepoch m) (SMsg.cleader m) (SMsg.cview m) (SMsg.nheld m) (SMsg.held m) (SMsg.nnews m) (SMsg.news m) x1 (SMsg.cert m) (SMsg.state m) (SMsg.n m) (SMsg.sig m))))], [decide (SMsg.kind m = (1 : Int)) = false, decide (SMsg.kind m = (2 : Int)) = false, decide (SMsg.kind m = (3 : Int)) = false, decide (SMsg.kind m = (4 : Int)) = false, decide (SMsg.kind m = (5 : Int)) = true, T Tryz.prog 25 [.ptr (.o 1) 0 0 0 0, .int .i64 1048576] [(.o 1, rdB s)] (.int .i64 x0) [(.o 1, rdB t1)], T Tryz.prog 113 [.ptr (.o 0) 0 0 0 0] [(.o 0, .flat [.ptr (.o 1) 0 0 0 0, .bool (RS.bad s)]), (.o 1, rdB t1)] (.agg [.seg .u8 32 x1]) [(.o 0, .flat [.ptr (.o 1) 0 0 0 0, .bool (RS.bad t2)]), (.o 1, rdB t2)], q0, q0, q0, q (RS.bad t2), q (List.length (RS.l t2)), ∀ (k : Nat), k < List.length (RS.l t2) → bl (RS.l t2) k = bl (RS.l t2) k, false = true → false = true, q (RS.e t2), q2, q (SMsg.kind m), q x0, q (SMsg.leader m), q (SMsg.view m), q (SMsg.slot m), q (SBatch.noop (SMsg.batch m)), q (SBatch.n (SMsg.batch m)), ∀ (k : Nat), k < SBatch.n (SMsg.batch m) → SReq.c (SBatch.req (SMsg.batch m) k) = SReq.c (SBatch.req (SMsg.batch m) k), false = true → false = true, q (SVote.kind (SMsg.vote m)), q (SVote.epoch (SMsg.vote m)), q (SVote.view (SMsg.vote m)), q (SVote.slot (SMsg.vote m)), q (32 : Nat), q (SVote.digest (SMsg.vote m)), q (SMsg.cepoch m), q (SMsg.cleader m), q (SMsg.cview m), q (SMsg.nheld m), ∀ (k : Nat), k < SMsg.nheld m → SHeld.c (SMsg.held m k) = SHeld.c (SMsg.held (SMsg.mk (SMsg.kind m) x0 (SMsg.leader m) (SMsg.view m) (SMsg.slot m) (SMsg.batch m) (SMsg.vote m) (SMsg.cepoch m) (SMsg.cleader m) (SMsg.cview m) (SMsg.nheld m) (SMsg.held m) (SMsg.nnews m) (SMsg.news m) x1 (SMsg.cert m) (SMsg.state m) (SMsg.n m) (SMsg.sig m)) k), false = true → false = true, q (SMsg.nnews m), ∀ (k : Nat), k < SMsg.nnews m → SEnv.c (SMsg.news m k) = SEnv.c (SMsg.news (SMsg.mk (SMsg.kind m) x0 (SMsg.leader m) (SMsg.view m) (SMsg.slot m) (SMsg.batch m) (SMsg.vote m) (SMsg.cepoch m) (SMsg.cleader m) (SMsg.cview m) (SMsg.nheld m) (SMsg.held m) (SMsg.nnews m) (SMsg.news m) x1 (SMsg.cert m) (SMsg.state m) (SMsg.n m) (SMsg.sig m)) k), false = true → false = true, q (32 : Nat), q x1, q (SVote.kind (SCert.vote (SMsg.cert m))), q (SVote.epoch (SCert.vote (SMsg.cert m))), q (SVote.view (SCert.vote (SMsg.cert m))), q (SVote.slot (SCert.vote (SMsg.cert m))), q (32 : Nat), q (SVote.digest (SCert.vote (SMsg.cert m))), q (SCert.n (SMsg.cert m)), ∀ (k : Nat), k < SCert.n (SMsg.cert m) → SSign.c (SCert.sig (SMsg.cert m) k) = SSign.c (SCert.sig (SMsg.cert m) k), false = true → false = true, q (SMsg.state m), q (SMsg.n m), ∀ (k : Nat), k < SMsg.n m → SSign.c (SMsg.sig m k) = SSign.c (SMsg.sig (SMsg.mk (SMsg.kind m) x0 (SMsg.leader m) (SMsg.view m) (SMsg.slot m) (SMsg.batch m) (SMsg.vote m) (SMsg.cepoch m) (SMsg.cleader m) (SMsg.cview m) (SMsg.nheld m) (SMsg.held m) (SMsg.nnews m) (SMsg.news m) x1 (SMsg.cert m) (SMsg.state m) (SMsg.n m) (SMsg.sig m)) k), false = true → false = true]) : Option (V × Heap × List Prop)) := by kernel_rfl

theorem bdF6_p000001 (m : SMsg) (s : RS) (t1 : RS) (t2 : RS) (x0 : Int) (x1 : Int) :
  along Tryz.prog (bdF6 m s t1 t2 x0 x1) [false, false, false, false, false, true] = (some (.tup [], [(.o 0, .flat [.ptr (.o 1) 0 0 0 0, .bool (RS.bad t2)]), (.o 1, rdB t2), (.o 2, .flat (SMsg.c (SMsg.mk (SMsg.kind m) x0 (SMsg.leader m) (SMsg.view m) x1 (SMsg.batch m) (SMsg.vote m) (SMsg.cepoch m) (SMsg.cleader m) (SMsg.cview m) (SMsg.nheld m) (SMsg.held m) (SMsg.nnews m) (SMsg.news m) (SMsg.digest m) (SMsg.cert m) (SMsg.state m) (SMsg.n m) (SMsg.sig m))))], [decide (SMsg.kind m = (1 : Int)) = false, decide (SMsg.kind m = (2 : Int)) = false, decide (SMsg.kind m = (3 : Int)) = false, decide (SMsg.kind m = (4 : Int)) = false, decide (SMsg.kind m = (5 : Int)) = false, decide (SMsg.kind m = (6 : Int)) = true, T Tryz.prog 25 [.ptr (.o 1) 0 0 0 0, .int .i64 1048576] [(.o 1, rdB s)] (.int .i64 x0) [(.o 1, rdB t1)], T Tryz.prog 25 [.ptr (.o 1) 0 0 0 0, .int .i64 1099511627776] [(.o 1, rdB t1)] (.int .i64 x1) [(.o 1, rdB t2)], q0, q0, q0, RS.bad s = RS.bad t2, q (List.length (RS.l t2)), ∀ (k : Nat), k < List.length (RS.l t2) → bl (RS.l t2) k = bl (RS.l t2) k, false = true → false = true, q (RS.e t2), q2, q (SMsg.kind m), q x0, q (SMsg.leader m), q (SMsg.view m), q x1, q (SBatch.noop (SMsg.batch m)), q (SBatch.n (SMsg.batch m)), ∀ (k : Nat), k < SBatch.n (SMsg.batch m) → SReq.c (SBatch.req (SMsg.batch m) k) = SReq.c (SBatch.req (SMsg.batch m) k), false = true → false = true, q (SVote.kind (SMsg.vote m)), q (SVote.epoch (SMsg.vote m)), q (SVote.view (SMsg.vote m)), q (SVote.slot (SMsg.vote m)), q (32 : Nat), q (SVote.digest (SMsg.vote m)), q (SMsg.cepoch m), q (SMsg.cleader m), q (SMsg.cview m), q (SMsg.nheld m), ∀ (k : Nat), k < SMsg.nheld m → SHeld.c (SMsg.held m k) = SHeld.c (SMsg.held (SMsg.mk (SMsg.kind m) x0 (SMsg.leader m) (SMsg.view m) x1 (SMsg.batch m) (SMsg.vote m) (SMsg.cepoch m) (SMsg.cleader m) (SMsg.cview m) (SMsg.nheld m) (SMsg.held m) (SMsg.nnews m) (SMsg.news m) (SMsg.digest m) (SMsg.cert m) (SMsg.state m) (SMsg.n m) (SMsg.sig m)) k), false = true → false = true, q (SMsg.nnews m), ∀ (k : Nat), k < SMsg.nnews m → SEnv.c (SMsg.news m k) = SEnv.c (SMsg.news (SMsg.mk (SMsg.kind m) x0 (SMsg.leader m) (SMsg.view m) x1 (SMsg.batch m) (SMsg.vote m) (SMsg.cepoch m) (SMsg.cleader m) (SMsg.cview m) (SMsg.nheld m) (SMsg.held m) (SMsg.nnews m) (SMsg.news m) (SMsg.digest m) (SMsg.cert m) (SMsg.state m) (SMsg.n m) (SMsg.sig m)) k), false = true → false = true, q (32 : Nat), q (SMsg.digest m), q (SVote.kind (SCert.vote (SMsg.cert m))), q (SVote.epoch (SCert.vote (SMsg.cert m))), q (SVote.view (SCert.vote (SMsg.cert m))), q (SVote.slot (SCert.vote (SMsg.cert m))), q (32 : Nat), q (SVote.digest (SCert.vote (SMsg.cert m))), q (SCert.n (SMsg.cert m)), ∀ (k : Nat), k < SCert.n (SMsg.cert m) → SSign.c (SCert.sig (SMsg.cert m) k) = SSign.c (SCert.sig (SMsg.cert m) k), false = true → false = true, q (SMsg.state m), q (SMsg.n m), ∀ (k : Nat), k < SMsg.n m → SSign.c (SMsg.sig m k) = SSign.c (SMsg.sig (SMsg.mk (SMsg.kind m) x0 (SMsg.leader m) (SMsg.view m) x1 (SMsg.batch m) (SMsg.vote m) (SMsg.cepoch m) (SMsg.cleader m) (SMsg.cview m) (SMsg.nheld m) (SMsg.held m) (SMsg.nnews m) (SMsg.news m) (SMsg.digest m) (SMsg.cert m) (SMsg.state m) (SMsg.n m) (SMsg.sig m)) k), false = true → false = true]) : Option (V × Heap × List Prop)) := by kernel_rfl

theorem bdF7_p0000001 (m : SMsg) (s : RS) (t1 : RS) (t2 : RS) (x0 : SBatch) (x1 : SCert) :
  along Tryz.prog (bdF7 m s t1 t2 x0 x1) [false, false, false, false, false, false, true] = (some (.tup [], [(.o 0, .flat [.ptr (.o 1) 0 0 0 0, .bool (RS.bad t2)]), (.o 1, rdB t2), (.o 2, .flat (SMsg.c (SMsg.mk (SMsg.kind m) (SMsg.epoch m) (SMsg.leader m) (SMsg.view m) (SMsg.slot m) x0 (SMsg.vote m) (SMsg.cepoch m) (SMsg.cleader m) (SMsg.cview m) (SMsg.nheld m) (SMsg.held m) (SMsg.nnews m) (SMsg.news m) (SMsg.digest m) x1 (SMsg.state m) (SMsg.n m) (SMsg.sig m))))], [decide (SMsg.kind m = (1 : Int)) = false, decide (SMsg.kind m = (2 : Int)) = false, decide (SMsg.kind m = (3 : Int)) = false, decide (SMsg.kind m = (4 : Int)) = false, decide (SMsg.kind m = (5 : Int)) = false, decide (SMsg.kind m = (6 : Int)) = false, decide (SMsg.kind m = (7 : Int)) = true, T Tryz.prog 107 [.ptr (.o 1) 0 0 0 0] [(.o 1, rdB s)] (.agg (SBatch.c x0)) [(.o 1, rdB t1)], T Tryz.prog 114 [.ptr (.o 0) 0 0 0 0] [(.o 0, .flat [.ptr (.o 1) 0 0 0 0, .bool (RS.bad s)]), (.o 1, rdB t1)] (.agg (SCert.c x1)) [(.o 0, .flat [.ptr (.o 1) 0 0 0 0, .bool (RS.bad t2)]), (.o 1, rdB t2)], q0, q0, q0, q (RS.bad t2), q (List.length (RS.l t2)), ∀ (k : Nat), k < List.length (RS.l t2) → bl (RS.l t2) k = bl (RS.l t2) k, false = true → false = true, q (RS.e t2), q2, q (SMsg.kind m), q (SMsg.epoch m), q (SMsg.leader m), q (SMsg.view m), q (SMsg.slot m), q (SBatch.noop x0), q (SBatch.n x0), ∀ (k : Nat), k < SBatch.n x0 → SReq.c (SBatch.req x0 k) = SReq.c (SBatch.req x0 k), false = true → false = true, q (SVote.kind (SMsg.vote m)), q (SVote.epoch (SMsg.vote m)), q (SVote.view (SMsg.vote m)), q (SVote.slot (SMsg.vote m)), q (32 : Nat), q (SVote.digest (SMsg.vote m)), q (SMsg.cepoch m), q (SMsg.cleader m), q (SMsg.cview m), q (SMsg.nheld m), ∀ (k : Nat), k < SMsg.nheld m → SHeld.c (SMsg.held m k) = SHeld.c (SMsg.held (SMsg.mk (SMsg.kind m) (SMsg.epoch m) (SMsg.leader m) (SMsg.view m) (SMsg.slot m) x0 (SMsg.vote m) (SMsg.cepoch m) (SMsg.cleader m) (SMsg.cview m) (SMsg.nheld m) (SMsg.held m) (SMsg.nnews m) (SMsg.news m) (SMsg.digest m) x1 (SMsg.state m) (SMsg.n m) (SMsg.sig m)) k), false = true → false = true, q (SMsg.nnews m), ∀ (k : Nat), k < SMsg.nnews m → SEnv.c (SMsg.news m k) = SEnv.c (SMsg.news (SMsg.mk (SMsg.kind m) (SMsg.epoch m) (SMsg.leader m) (SMsg.view m) (SMsg.slot m) x0 (SMsg.vote m) (SMsg.cepoch m) (SMsg.cleader m) (SMsg.cview m) (SMsg.nheld m) (SMsg.held m) (SMsg.nnews m) (SMsg.news m) (SMsg.digest m) x1 (SMsg.state m) (SMsg.n m) (SMsg.sig m)) k), false = true → false = true, q (32 : Nat), q (SMsg.digest m), q (SVote.kind (SCert.vote x1)), q (SVote.epoch (SCert.vote x1)), q (SVote.view (SCert.vote x1)), q (SVote.slot (SCert.vote x1)), q (32 : Nat), q (SVote.digest (SCert.vote x1)), q (SCert.n x1), ∀ (k : Nat), k < SCert.n x1 → SSign.c (SCert.sig x1 k) = SSign.c (SCert.sig x1 k), false = true → false = true, q (SMsg.state m), q (SMsg.n m), ∀ (k : Nat), k < SMsg.n m → SSign.c (SMsg.sig m k) = SSign.c (SMsg.sig (SMsg.mk (SMsg.kind m) (SMsg.epoch m) (SMsg.leader m) (SMsg.view m) (SMsg.slot m) x0 (SMsg.vote m) (SMsg.cepoch m) (SMsg.cleader m) (SMsg.cview m) (SMsg.nheld m) (SMsg.held m) (SMsg.nnews m) (SMsg.news m) (SMsg.digest m) x1 (SMsg.state m) (SMsg.n m) (SMsg.sig m)) k), false = true → false = true]) : Option (V × Heap × List Prop)) := by kernel_rfl

theorem bdF8_p00000001 (m : SMsg) (s : RS) (t1 : RS) (t2 : RS) (n : Nat) (x0 : ByteArray) (x1 : Nat → SSign) :
  along Tryz.prog (bdF8 m s t1 t2 n x0 x1) [false, false, false, false, false, false, false, true] = (some (.tup [], [(.o 0, .flat [.ptr (.o 1) 0 0 0 0, .bool (RS.bad t2)]), (.o 1, rdB t2), (.o 2, .flat (SMsg.c (SMsg.mk (SMsg.kind m) (SMsg.epoch m) (SMsg.leader m) (SMsg.view m) (SMsg.slot m) (SMsg.batch m) (SMsg.vote m) (SMsg.cepoch m) (SMsg.cleader m) (SMsg.cview m) (SMsg.nheld m) (SMsg.held m) (SMsg.nnews m) (SMsg.news m) (SMsg.digest m) (SMsg.cert m) x0 n x1)))], [decide (SMsg.kind m = (1 : Int)) = false, decide (SMsg.kind m = (2 : Int)) = false, decide (SMsg.kind m = (3 : Int)) = false, decide (SMsg.kind m = (4 : Int)) = false, decide (SMsg.kind m = (5 : Int)) = false, decide (SMsg.kind m = (6 : Int)) = false, decide (SMsg.kind m = (7 : Int)) = false, decide (SMsg.kind m = (8 : Int)) = true, T Tryz.prog 26 [.ptr (.o 1) 0 0 0 0, .int .i64 4194304] [(.o 1, rdB s)] (.str x0) [(.o 1, rdB t1)], T Tryz.prog 115 [.ptr (.o 0) 0 0 0 0, .int .i64 64, .fn (.func 116) [.ptr (.o 0) 0 0 0 0] []] [(.o 0, .flat [.ptr (.o 1) 0 0 0 0, .bool (RS.bad s)]), (.o 1, rdB t1)] (sg n x1) [(.o 0, .flat [.ptr (.o 1) 0 0 0 0, .bool (RS.bad t2)]), (.o 1, rdB t2)], q0, q0, q0, q (RS.bad t2), q (List.length (RS.l t2)), ∀ (k : Nat), k < List.length (RS.l t2) → bl (RS.l t2) k = bl (RS.l t2) k, false = true → false = true, q (RS.e t2), q2, q (SMsg.kind m), q (SMsg.epoch m), q (SMsg.leader m), q (SMsg.view m), q (SMsg.slot m), q (SBatch.noop (SMsg.batch m)), q (SBatch.n (SMsg.batch m)), ∀ (k : Nat), k < SBatch.n (SMsg.batch m) → SReq.c (SBatch.req (SMsg.batch m) k) = SReq.c (SBatch.req (SMsg.batch m) k), false = true → false = true, q (SVote.kind (SMsg.vote m)), q (SVote.epoch (SMsg.vote m)), q (SVote.view (SMsg.vote m)), q (SVote.slot (SMsg.vote m)), q (32 : Nat), q (SVote.digest (SMsg.vote m)), q (SMsg.cepoch m), q (SMsg.cleader m), q (SMsg.cview m), q (SMsg.nheld m), ∀ (k : Nat), k < SMsg.nheld m → SHeld.c (SMsg.held m k) = SHeld.c (SMsg.held (SMsg.mk (SMsg.kind m) (SMsg.epoch m) (SMsg.leader m) (SMsg.view m) (SMsg.slot m) (SMsg.batch m) (SMsg.vote m) (SMsg.cepoch m) (SMsg.cleader m) (SMsg.cview m) (SMsg.nheld m) (SMsg.held m) (SMsg.nnews m) (SMsg.news m) (SMsg.digest m) (SMsg.cert m) x0 n x1) k), false = true → false = true, q (SMsg.nnews m), ∀ (k : Nat), k < SMsg.nnews m → SEnv.c (SMsg.news m k) = SEnv.c (SMsg.news (SMsg.mk (SMsg.kind m) (SMsg.epoch m) (SMsg.leader m) (SMsg.view m) (SMsg.slot m) (SMsg.batch m) (SMsg.vote m) (SMsg.cepoch m) (SMsg.cleader m) (SMsg.cview m) (SMsg.nheld m) (SMsg.held m) (SMsg.nnews m) (SMsg.news m) (SMsg.digest m) (SMsg.cert m) x0 n x1) k), false = true → false = true, q (32 : Nat), q (SMsg.digest m), q (SVote.kind (SCert.vote (SMsg.cert m))), q (SVote.epoch (SCert.vote (SMsg.cert m))), q (SVote.view (SCert.vote (SMsg.cert m))), q (SVote.slot (SCert.vote (SMsg.cert m))), q (32 : Nat), q (SVote.digest (SCert.vote (SMsg.cert m))), q (SCert.n (SMsg.cert m)), ∀ (k : Nat), k < SCert.n (SMsg.cert m) → SSign.c (SCert.sig (SMsg.cert m) k) = SSign.c (SCert.sig (SMsg.cert m) k), false = true → false = true, q x0, q n, ∀ (k : Nat), k < n → SSign.c (x1 k) = SSign.c (SMsg.sig (SMsg.mk (SMsg.kind m) (SMsg.epoch m) (SMsg.leader m) (SMsg.view m) (SMsg.slot m) (SMsg.batch m) (SMsg.vote m) (SMsg.cepoch m) (SMsg.cleader m) (SMsg.cview m) (SMsg.nheld m) (SMsg.held m) (SMsg.nnews m) (SMsg.news m) (SMsg.digest m) (SMsg.cert m) x0 n x1) k), false = true → false = true]) : Option (V × Heap × List Prop)) := by kernel_rfl

theorem bdF9_p00000000 (m : SMsg) (s : RS) :
  along Tryz.prog (bdF9 m s) [false, false, false, false, false, false, false, false] = (some (.tup [], [(.o 0, .flat [.ptr (.o 1) 0 0 0 0, .bool (RS.bad s)]), (.o 1, rdB s), (.o 2, .flat (SMsg.c m))], [decide (SMsg.kind m = (1 : Int)) = false, decide (SMsg.kind m = (2 : Int)) = false, decide (SMsg.kind m = (3 : Int)) = false, decide (SMsg.kind m = (4 : Int)) = false, decide (SMsg.kind m = (5 : Int)) = false, decide (SMsg.kind m = (6 : Int)) = false, decide (SMsg.kind m = (7 : Int)) = false, decide (SMsg.kind m = (8 : Int)) = false, q0, q0, q0, q (RS.bad s), q (List.length (RS.l s)), ∀ (k : Nat), k < List.length (RS.l s) → bl (RS.l s) k = bl (RS.l s) k, false = true → false = true, q (RS.e s), q2, q (SMsg.kind m), q (SMsg.epoch m), q (SMsg.leader m), q (SMsg.view m), q (SMsg.slot m), q (SBatch.noop (SMsg.batch m)), q (SBatch.n (SMsg.batch m)), ∀ (k : Nat), k < SBatch.n (SMsg.batch m) → SReq.c (SBatch.req (SMsg.batch m) k) = SReq.c (SBatch.req (SMsg.batch m) k), false = true → false = true, q (SVote.kind (SMsg.vote m)), q (SVote.epoch (SMsg.vote m)), q (SVote.view (SMsg.vote m)), q (SVote.slot (SMsg.vote m)), q (32 : Nat), q (SVote.digest (SMsg.vote m)), q (SMsg.cepoch m), q (SMsg.cleader m), q (SMsg.cview m), q (SMsg.nheld m), ∀ (k : Nat), k < SMsg.nheld m → SHeld.c (SMsg.held m k) = SHeld.c (SMsg.held m k), false = true → false = true, q (SMsg.nnews m), ∀ (k : Nat), k < SMsg.nnews m → SEnv.c (SMsg.news m k) = SEnv.c (SMsg.news m k), false = true → false = true, q (32 : Nat), q (SMsg.digest m), q (SVote.kind (SCert.vote (SMsg.cert m))), q (SVote.epoch (SCert.vote (SMsg.cert m))), q (SVote.view (SCert.vote (SMsg.cert m))), q (SVote.slot (SCert.vote (SMsg.cert m))), q (32 : Nat), q (SVote.digest (SCert.vote (SMsg.cert m))), q (SCert.n (SMsg.cert m)), ∀ (k : Nat), k < SCert.n (SMsg.cert m) → SSign.c (SCert.sig (SMsg.cert m) k) = SSign.c (SCert.sig (SMsg.cert m) k), false = true → false = true, q (SMsg.state m), q (SMsg.n m), ∀ (k : Nat), k < SMsg.n m → SSign.c (SMsg.sig m k) = SSign.c (SMsg.sig m k), false = true → false = true]) : Option (V × Heap × List Prop)) := by kernel_rfl

theorem getS_aft {α : Type} {one : RS → α × RS} (h : ∀ s, Aft s (one s).2) (most : Int) (s : RS) : Aft s (getS one most s) :=
 (numR_after most s).aft.trans (stR_aft h _ _)
theorem T_getS {most : Int} (hm : 0 ≤ most ∧ most ≤ 1000) (s : RS) (hl : s.l.length ≤ 1000000000) : T Tryz.prog 115 [p0, .int .i64 most, .fn (.func 116) [p0] []] (mrH 0 1 s) (sg (getN signR most s) (getEl signR most s)) (mrH 0 1 (getS signR most s)) :=
 T_gtSg hm s hl (el := getEl signR most s) (st := stR signR (numR most s).2) rfl (fun k _ h => T_signR _ h) (fun k => Nat.le_trans (stR_aft (fun s => (signR_after s).aft) _ k).1 (Nat.le_trans (numR_after most s).1 hl)) (cntR_le _ _ _) (fun k h => cntR_ok _ _ _ k h) (cntR_end _ _ _)
theorem T_getE {most : Int} (hm : 0 ≤ most ∧ most ≤ 1000) (s : RS) (hl : s.l.length ≤ 1000000000) : T Tryz.prog 111 [p0, .int .i64 most, .fn (.func 112) [p0] []] (mrH 0 1 s) (nw (getN envR most s) (getEl envR most s)) (mrH 0 1 (getS envR most s)) :=
 T_gtNw hm s hl (el := getEl envR most s) (st := stR envR (numR most s).2) rfl (fun k _ h => T_envR _ h) (fun k => Nat.le_trans (stR_aft (fun s => (envR_after s).aft) _ k).1 (Nat.le_trans (numR_after most s).1 hl)) (cntR_le _ _ _) (fun k h => cntR_ok _ _ _ k h) (cntR_end _ _ _)
theorem certR_aft (s : RS) : Aft s (certR s).2 := (voteR_aft s).trans (getS_aft (fun s => (signR_after s).aft) _ _)
theorem T_certR (s : RS) (hl : s.l.length ≤ 1000000000) : T Tryz.prog 114 [p0] (mrH 0 1 s) (.agg (certR s).1.c) (mrH 0 1 (certR s).2) := by
 refine T_al (bdCtR_p s (voteR s).2 (certR s).2 (voteR s).1 (getN signR 64 (voteR s).2) (getEl signR 64 (voteR s).2)) Tryz.func114 ?_
 simp only [All]; and_intros
 all_goals first | exact T_voteR s hl | exact T_getS (by decide) _ (Nat.le_trans (voteR_aft s).1 hl) | trivial | simp
theorem heldR_aft (s : RS) : Aft s (heldR s).2 := (batchR_after s).aft.trans (certR_aft _)
theorem T_heldR (s : RS) (hl : s.l.length ≤ 1000000000) : T Tryz.prog 110 [p0] (mrH 0 1 s) (.agg (heldR s).1.c) (mrH 0 1 (heldR s).2) := by
 have b := batchR_after s
 refine T_al (bdHdR_p s (batchR s).2 (heldR s).2 (batchR s).1 (certR (batchR s).2).1) Tryz.func110 ?_
 simp only [All]; and_intros
 all_goals first | exact T_batR 1 s hl | exact T.heap (T_certR _ (Nat.le_trans b.1 hl)) (mrHb_eq b.2.1).symm | trivial | simp
theorem T_getH {most : Int} (hm : 0 ≤ most ∧ most ≤ 1000) (s : RS) (hl : s.l.length ≤ 1000000000) : T Tryz.prog 109 [p0, .int .i64 most, .fn (.func 110) [p0] []] (mrH 0 1 s) (Sy.hl (getN heldR most s) (getEl heldR most s)) (mrH 0 1 (getS heldR most s)) :=
 T_gtHl hm s hl (el := getEl heldR most s) (st := stR heldR (numR most s).2) rfl (fun k _ h => T_heldR _ h) (fun k => Nat.le_trans (stR_aft heldR_aft _ k).1 (Nat.le_trans (numR_after most s).1 hl)) (cntR_le _ _ _) (fun k h => cntR_ok _ _ _ k h) (cntR_end _ _ _)
theorem T_fl1 {m : SMsg} (s : RS) (hl : s.l.length ≤ 1000000000) (hk : m.kind = 1) : T Tryz.prog 84 [p0, .ptr (.o 2) 0 0 0 0] (mrH 0 1 s ++ [(.o 2, .flat m.c)]) (.tup []) (mrH 0 1 (fld1 m s).2 ++ [(.o 2, .flat (fld1 m s).1.c)]) := by
 have a1 : Aft s (f1S1 s) := ((numR_after _ _).aft : Aft s (f1S1 s))
 have l1 : (f1S1 s).l.length ≤ 1000000000 := Nat.le_trans a1.1 hl
 have a2 : Aft s (f1S2 s) := a1.trans ((numR_after _ _).aft)
 have l2 : (f1S2 s).l.length ≤ 1000000000 := Nat.le_trans a2.1 hl
 have a3 : Aft s (f1S3 s) := a2.trans ((batchR_after _).aft)
 have l3 : (f1S3 s).l.length ≤ 1000000000 := Nat.le_trans a3.1 hl
 have b1 : (f1S1 s).bad = s.bad := ((numR_after _ _).2.1 : (f1S1 s).bad = s.bad)
 have b2 : (f1S2 s).bad = s.bad := ((numR_after _ _).2.1 : (f1S2 s).bad = (f1S1 s).bad).trans b1
 have b3 : (f1S3 s).bad = s.bad := ((batchR_after _).2.1 : (f1S3 s).bad = (f1S2 s).bad).trans b2
 refine T_al (bdF1_p1 m s (f1S1 s) (f1S2 s) (f1S3 s)  ((numR 1048576 s).1) ((numR 1099511627776 (f1S1 s)).1) ((batchR (f1S2 s)).1)) Tryz.func84 ?_
 simp only [All]; and_intros
 all_goals first | exact T_num 1 _ _ | exact T_batR 1 _ l2 | exact b3.symm | (rw [hk]; rfl) | trivial | (simp [hk]; done)
theorem T_fl2 {m : SMsg} (s : RS) (hl : s.l.length ≤ 1000000000) (hk : m.kind = 2) : T Tryz.prog 84 [p0, .ptr (.o 2) 0 0 0 0] (mrH 0 1 s ++ [(.o 2, .flat m.c)]) (.tup []) (mrH 0 1 (fld2 m s).2 ++ [(.o 2, .flat (fld2 m s).1.c)]) := by
 have a1 : Aft s (f2S1 s) := (voteR_aft _ : Aft s (f2S1 s))
 have l1 : (f2S1 s).l.length ≤ 1000000000 := Nat.le_trans a1.1 hl
 refine T_al (bdF2_p01 m s (f2S1 s)  ((voteR s).1)) Tryz.func84 ?_
 simp only [All]; and_intros
 all_goals first | exact T_voteR _ hl | (rw [hk]; rfl) | trivial | (simp [hk]; done)
theorem T_fl3 {m : SMsg} (s : RS) (hl : s.l.length ≤ 1000000000) (hk : m.kind = 3) : T Tryz.prog 84 [p0, .ptr (.o 2) 0 0 0 0] (mrH 0 1 s ++ [(.o 2, .flat m.c)]) (.tup []) (mrH 0 1 (fld3 m s).2 ++ [(.o 2, .flat (fld3 m s).1.c)]) := by
 have a1 : Aft s (f3S1 s) := ((numR_after _ _).aft : Aft s (f3S1 s))
 have l1 : (f3S1 s).l.length ≤ 1000000000 := Nat.le_trans a1.1 hl
 have a2 : Aft s (f3S2 s) := a1.trans ((numR_after _ _).aft)
 have l2 : (f3S2 s).l.length ≤ 1000000000 := Nat.le_trans a2.1 hl
 have a3 : Aft s (f3S3 s) := a2.trans ((numR_after _ _).aft)
 have l3 : (f3S3 s).l.length ≤ 1000000000 := Nat.le_trans a3.1 hl
 have a4 : Aft s (f3S4 s) := a3.trans (getS_aft heldR_aft _ _)
 have l4 : (f3S4 s).l.length ≤ 1000000000 := Nat.le_trans a4.1 hl
 have b1 : (f3S1 s).bad = s.bad := ((numR_after _ _).2.1 : (f3S1 s).bad = s.bad)
 have b2 : (f3S2 s).bad = s.bad := ((numR_after _ _).2.1 : (f3S2 s).bad = (f3S1 s).bad).trans b1
 have b3 : (f3S3 s).bad = s.bad := ((numR_after _ _).2.1 : (f3S3 s).bad = (f3S2 s).bad).trans b2
 refine T_al (bdF3_p001 m s (f3S1 s) (f3S2 s) (f3S3 s) (f3S4 s) (getN heldR 4 (f3S3 s))  ((numR 1048576 s).1) ((numR 64 (f3S1 s)).1) ((numR 1099511627776 (f3S2 s)).1) (getEl heldR 4 (f3S3 s))) Tryz.func84 ?_
 simp only [All]; and_intros
 all_goals first | exact T_num 1 _ _ | exact T.heap (T_getH (by decide) _ l3) (mrHb_eq b3).symm | (rw [hk]; rfl) | trivial | (simp [hk]; done)
theorem T_fl4 {m : SMsg} (s : RS) (hl : s.l.length ≤ 1000000000) (hk : m.kind = 4) : T Tryz.prog 84 [p0, .ptr (.o 2) 0 0 0 0] (mrH 0 1 s ++ [(.o 2, .flat m.c)]) (.tup []) (mrH 0 1 (fld4 m s).2 ++ [(.o 2, .flat (fld4 m s).1.c)]) := by
 have a1 : Aft s (f4S1 s) := ((numR_after _ _).aft : Aft s (f4S1 s))
 have l1 : (f4S1 s).l.length ≤ 1000000000 := Nat.le_trans a1.1 hl
 have a2 : Aft s (f4S2 s) := a1.trans ((numR_after _ _).aft)
 have l2 : (f4S2 s).l.length ≤ 1000000000 := Nat.le_trans a2.1 hl
 have a3 : Aft s (f4S3 s) := a2.trans ((numR_after _ _).aft)
 have l3 : (f4S3 s).l.length ≤ 1000000000 := Nat.le_trans a3.1 hl
 have a4 : Aft s (f4S4 s) := a3.trans (getS_aft (fun s => (envR_after s).aft) _ _)
 have l4 : (f4S4 s).l.length ≤ 1000000000 := Nat.le_trans a4.1 hl
 have b1 : (f4S1 s).bad = s.bad := ((numR_after _ _).2.1 : (f4S1 s).bad = s.bad)
 have b2 : (f4S2 s).bad = s.bad := ((numR_after _ _).2.1 : (f4S2 s).bad = (f4S1 s).bad).trans b1
 have b3 : (f4S3 s).bad = s.bad := ((numR_after _ _).2.1 : (f4S3 s).bad = (f4S2 s).bad).trans b2
 refine T_al (bdF4_p0001 m s (f4S1 s) (f4S2 s) (f4S3 s) (f4S4 s) (getN envR 64 (f4S3 s))  ((numR 1048576 s).1) ((numR 64 (f4S1 s)).1) ((numR 1099511627776 (f4S2 s)).1) (getEl envR 64 (f4S3 s))) Tryz.func84 ?_
 simp only [All]; and_intros
 all_goals first | exact T_num 1 _ _ | exact T.heap (T_getE (by decide) _ l3) (mrHb_eq b3).symm | (rw [hk]; rfl) | trivial | (simp [hk]; done)
theorem T_fl5 {m : SMsg} (s : RS) (hl : s.l.length ≤ 1000000000) (hk : m.kind = 5) : T Tryz.prog 84 [p0, .ptr (.o 2) 0 0 0 0] (mrH 0 1 s ++ [(.o 2, .flat m.c)]) (.tup []) (mrH 0 1 (fld5 m s).2 ++ [(.o 2, .flat (fld5 m s).1.c)]) := by
 have a1 : Aft s (f5S1 s) := ((numR_after _ _).aft : Aft s (f5S1 s))
 have l1 : (f5S1 s).l.length ≤ 1000000000 := Nat.le_trans a1.1 hl
 have a2 : Aft s (f5S2 s) := a1.trans ((digR_after _).aft)
 have l2 : (f5S2 s).l.length ≤ 1000000000 := Nat.le_trans a2.1 hl
 have b1 : (f5S1 s).bad = s.bad := ((numR_after _ _).2.1 : (f5S1 s).bad = s.bad)
 refine T_al (bdF5_p00001 m s (f5S1 s) (f5S2 s)  ((numR 1048576 s).1) ((digR (f5S1 s)).1)) Tryz.func84 ?_
 simp only [All]; and_intros
 all_goals first | exact T_num 1 _ _ | exact T.heap (T_digR _ l1) (mrHb_eq b1).symm | (rw [hk]; rfl) | trivial | (simp [hk]; done)
theorem T_fl6 {m : SMsg} (s : RS) (hl : s.l.length ≤ 1000000000) (hk : m.kind = 6) : T Tryz.prog 84 [p0, .ptr (.o 2) 0 0 0 0] (mrH 0 1 s ++ [(.o 2, .flat m.c)]) (.tup []) (mrH 0 1 (fld6 m s).2 ++ [(.o 2, .flat (fld6 m s).1.c)]) := by
 have a1 : Aft s (f6S1 s) := ((numR_after _ _).aft : Aft s (f6S1 s))
 have l1 : (f6S1 s).l.length ≤ 1000000000 := Nat.le_trans a1.1 hl
 have a2 : Aft s (f6S2 s) := a1.trans ((numR_after _ _).aft)
 have l2 : (f6S2 s).l.length ≤ 1000000000 := Nat.le_trans a2.1 hl
 have b1 : (f6S1 s).bad = s.bad := ((numR_after _ _).2.1 : (f6S1 s).bad = s.bad)
 have b2 : (f6S2 s).bad = s.bad := ((numR_after _ _).2.1 : (f6S2 s).bad = (f6S1 s).bad).trans b1
 refine T_al (bdF6_p000001 m s (f6S1 s) (f6S2 s)  ((numR 1048576 s).1) ((numR 1099511627776 (f6S1 s)).1)) Tryz.func84 ?_
 simp only [All]; and_intros
 all_goals first | exact T_num 1 _ _ | exact b2.symm | (rw [hk]; rfl) | trivial | (simp [hk]; done)
theorem T_fl7 {m : SMsg} (s : RS) (hl : s.l.length ≤ 1000000000) (hk : m.kind = 7) : T Tryz.prog 84 [p0, .ptr (.o 2) 0 0 0 0] (mrH 0 1 s ++ [(.o 2, .flat m.c)]) (.tup []) (mrH 0 1 (fld7 m s).2 ++ [(.o 2, .flat (fld7 m s).1.c)]) := by
 have a1 : Aft s (f7S1 s) := ((batchR_after _).aft : Aft s (f7S1 s))
 have l1 : (f7S1 s).l.length ≤ 1000000000 := Nat.le_trans a1.1 hl
 have a2 : Aft s (f7S2 s) := a1.trans (certR_aft _)
 have l2 : (f7S2 s).l.length ≤ 1000000000 := Nat.le_trans a2.1 hl
 have b1 : (f7S1 s).bad = s.bad := ((batchR_after _).2.1 : (f7S1 s).bad = s.bad)
 refine T_al (bdF7_p0000001 m s (f7S1 s) (f7S2 s)  ((batchR s).1) ((certR (f7S1 s)).1)) Tryz.func84 ?_
 simp only [All]; and_intros
 all_goals first | exact T_batR 1 _ hl | exact T.heap (T_certR _ l1) (mrHb_eq b1).symm | (rw [hk]; rfl) | trivial | (simp [hk]; done)
theorem T_fl8 {m : SMsg} (s : RS) (hl : s.l.length ≤ 1000000000) (hk : m.kind = 8) : T Tryz.prog 84 [p0, .ptr (.o 2) 0 0 0 0] (mrH 0 1 s ++ [(.o 2, .flat m.c)]) (.tup []) (mrH 0 1 (fld8 m s).2 ++ [(.o 2, .flat (fld8 m s).1.c)]) := by
 have a1 : Aft s (f8S1 s) := ((textR_after _ _).aft : Aft s (f8S1 s))
 have l1 : (f8S1 s).l.length ≤ 1000000000 := Nat.le_trans a1.1 hl
 have a2 : Aft s (f8S2 s) := a1.trans (getS_aft (fun s => (signR_after s).aft) _ _)
 have l2 : (f8S2 s).l.length ≤ 1000000000 := Nat.le_trans a2.1 hl
 have b1 : (f8S1 s).bad = s.bad := ((textR_after _ _).2.1 : (f8S1 s).bad = s.bad)
 refine T_al (bdF8_p00000001 m s (f8S1 s) (f8S2 s) (getN signR 64 (f8S1 s))  ((textR 4194304 s).1) (getEl signR 64 (f8S1 s))) Tryz.func84 ?_
 simp only [All]; and_intros
 all_goals first | exact T_textR 1 _ _ hl | exact T.heap (T_getS (by decide) _ l1) (mrHb_eq b1).symm | (rw [hk]; rfl) | trivial | (simp [hk]; done)
theorem T_fl9 {m : SMsg} (s : RS) (hk : m.kind < 1 ∨ 8 < m.kind) : T Tryz.prog 84 [p0, .ptr (.o 2) 0 0 0 0] (mrH 0 1 s ++ [(.o 2, .flat m.c)]) (.tup []) (mrH 0 1 s ++ [(.o 2, .flat m.c)]) := by
 refine T_al (bdF9_p00000000 m s) Tryz.func84 ?_
 simp only [All]; and_intros
 all_goals first | (rw [decide_eq_false_iff_not]; omega) | trivial | (intro _ _; trivial)
theorem T_fields0 (m : SMsg) (s : RS) (hl : s.l.length ≤ 1000000000) : T Tryz.prog 84 [p0, .ptr (.o 2) 0 0 0 0] (mrH 0 1 s ++ [(.o 2, .flat m.c)]) (.tup []) (mrH 0 1 (fieldsR m s).2 ++ [(.o 2, .flat (fieldsR m s).1.c)]) := by
 by_cases h1 : m.kind = 1
 ·have e : fieldsR m s = fld1 m s := by simp only [fieldsR, if_pos h1]
  rw [e]; exact T_fl1 s hl h1
 by_cases h2 : m.kind = 2
 ·have e : fieldsR m s = fld2 m s := by simp only [fieldsR, if_neg h1, if_pos h2]
  rw [e]; exact T_fl2 s hl h2
 by_cases h3 : m.kind = 3
 ·have e : fieldsR m s = fld3 m s := by simp only [fieldsR, if_neg h1, if_neg h2, if_pos h3]
  rw [e]; exact T_fl3 s hl h3
 by_cases h4 : m.kind = 4
 ·have e : fieldsR m s = fld4 m s := by simp only [fieldsR, if_neg h1, if_neg h2, if_neg h3, if_pos h4]
  rw [e]; exact T_fl4 s hl h4
 by_cases h5 : m.kind = 5
 ·have e : fieldsR m s = fld5 m s := by simp only [fieldsR, if_neg h1, if_neg h2, if_neg h3, if_neg h4, if_pos h5]
  rw [e]; exact T_fl5 s hl h5
 by_cases h6 : m.kind = 6
 ·have e : fieldsR m s = fld6 m s := by simp only [fieldsR, if_neg h1, if_neg h2, if_neg h3, if_neg h4, if_neg h5, if_pos h6]
  rw [e]; exact T_fl6 s hl h6
 by_cases h7 : m.kind = 7
 ·have e : fieldsR m s = fld7 m s := by simp only [fieldsR, if_neg h1, if_neg h2, if_neg h3, if_neg h4, if_neg h5, if_neg h6, if_pos h7]
  rw [e]; exact T_fl7 s hl h7
 by_cases h8 : m.kind = 8
 ·have e : fieldsR m s = fld8 m s := by simp only [fieldsR, if_neg h1, if_neg h2, if_neg h3, if_neg h4, if_neg h5, if_neg h6, if_neg h7, if_pos h8]
  rw [e]; exact T_fl8 s hl h8
 have e : fieldsR m s = (m, s) := by simp only [fieldsR, if_neg h1, if_neg h2, if_neg h3, if_neg h4, if_neg h5, if_neg h6, if_neg h7, if_neg h8]
 rw [e]; exact T_fl9 s (by omega)
end Go.Proofs.YtnmccoincblecaaGreat
namespace Go.Proofs.YtnmccoincblecaaGreat
open Go Sy Go.Proofs
def stD (k : Int) (s1 : RS) : St := ⟨mkT 53 [(2, .ptr (.o 8) 0 0 0 0), (3, .int .i64 0), (4, .ptr (.o 5) 0 0 0 0), (5, .ptr (.o 7) 0 0 0 0)], mrH 5 6 s1 ++ [(.o 7, .flat (msg0 k).c), (.o 8, .flat (msg0 0).c)], 9, []⟩
def fxD (k : Int) (s1 : RS) : Nat → St → List Hint := fun id t => bif Nat.beq id 7 then match getV t.tmps 4 with
  | .ptr r _ _ _ _ => match getV t.tmps 5 with
   | .ptr q _ _ _ _ => match getV t.tmps 2 with
    | .ptr c _ _ _ _ => match pull r t.heap with
     | some (.flat (.ptr a _ _ _ _ :: _), _) => [.wk (wToS [(.o 5, r), (.o 6, a), (.o 7, q), (.o 8, c)] (stD k s1))]
     | _ => []
    | _ => []
   | _ => []
  | _ => []
 else []
def kDec (r : SMsg) (e : Int) : Exit → St → Option W := fun _ t => match getV t.tmps 2 with
 | .ptr c _ _ _ _ => some ⟨[], [(2, .set (.ptr c 0 0 0 0)), (3, .set (.int .i64 e))], [(c, .set (.flat r.c))], none, t.next⟩
 | _ => none
noncomputable def bdDec (s : ByteArray) (k : Int) (s0 s1 s2 : RS) (m : SMsg) (d : Int) (r : SMsg) (e : Int) : Bd := { f := Tryz.f42, args := [.str s], kb := { db := dbSeqF 0 [(24, 7, fun _ _ lo => [{ val := .ptr (.o lo) 0 0 0 0, post := [(.o lo, rdB s0)] }]), (25, 15, cRd (.int .i64 k) s1), (78, 27, cRd (.int .i64 s1.e) s1), (84, 1, fun _ _ _ => [{ pre := [.o 5, .o 6, .o 7], val := .tup [], post := mrH 5 6 s2 ++ [(.o 7, .flat m.c)] }]), (28, 6, cRd (.int .i64 d) s2)], fx := fxD k s1 }, k := kDec r e }
noncomputable def bdDec3 (s : ByteArray) : Bd := bdDec s 0 {} {} {} {} 0 (msg0 0) 3
noncomputable def bdDecZ (s : ByteArray) (k : Int) (s0 s1 s2 : RS) (m : SMsg) (d : Int) : Bd := bdDec s k s0 s1 s2 m d (msg0 0) 130
noncomputable def bdDecE (s : ByteArray) (k : Int) (s0 s1 s2 : RS) (m : SMsg) (d : Int) : Bd := bdDec s k s0 s1 s2 m d (msg0 0) d
noncomputable def bdDecO (s : ByteArray) (k : Int) (s0 s1 s2 : RS) (m : SMsg) (d : Int) : Bd := bdDec s k s0 s1 s2 m d m 0
def dec1 (l : List UInt8) : RS := (numR 8 { l := l }).2
def decK (l : List UInt8) : Int := (numR 8 { l := l }).1
def decF (l : List UInt8) : SMsg × RS := fieldsR (msg0 (decK l)) (dec1 l)
def decR (l : List UInt8) : SMsg × Int :=
 if 4194304 < l.length then (msg0 0, 3) else if decK l = 0 ∧ (dec1 l).e = 0 then (msg0 0, 130) else if (decF l).2.bad = true then (msg0 0, 130) else if doneR (decF l).2 ≠ 0 then (msg0 0, doneR (decF l).2) else ((decF l).1, 0)
end Go.Proofs.YtnmccoincblecaaGreat
namespace Go.Proofs.YtnmccoincblecaaGreat
open Go Sy Go.Proofs
theorem bdDec3_p1 (s : ByteArray) :
  along Tryz.prog (bdDec3 s) [true] = (some (.tup [.agg [.int .i64 0, .int .i64 0, .int .i64 0, .int .i64 0, .int .i64 0, .bool false, rq 0 fun x => SReq.mk (0 : Int) (0 : Int) ByteArray.empty [], .int .i64 0, .int .i64 0, .int .i64 0, .int .i64 0, .seg .u8 32 z32, .int .i64 0, .int .i64 0, .int .i64 0, hl 0 fun x => SHeld.mk (SBatch.mk false 0 fun x => SReq.mk (0 : Int) (0 : Int) ByteArray.empty []) (SCert.mk (SVote.mk (0 : Int) (0 : Int) (0 : Int) (0 : Int) []) 0 fun x => SSign.mk (0 : Int) []), nw 0 fun x => SEnv.mk (0 : Int) ByteArray.empty [], .seg .u8 32 z32, .int .i64 0, .int .i64 0, .int .i64 0, .int .i64 0, .seg .u8 32 z32, sg 0 fun x => SSign.mk (0 : Int) [], .str ByteArray.empty, sg 0 fun x => SSign.mk (0 : Int) []], .int .i64 3], [], [decide ((4194304 : Int) < (↑(ByteArray.size s) : Int)) = true, q1, q1, q1, q1, q1, q false, q0, q1, q1, q1, q1, q (32 : Nat), q z32, q1, q1, q1, q0, q0, q (32 : Nat), q z32, q1, q1, q1, q1, q (32 : Nat), q z32, q0, q ByteArray.empty, q0, q0, q0, q0, q (3 : Int)]) : Option (V × Heap × List Prop)) := by kernel_rfl

noncomputable def bdDecZ_c (s : ByteArray) (k : Int) (s0 : RS) (s1 : RS) (s2 : RS) (m : SMsg) (d : Int) : Nat → List Prop
 | 0 => [decide ((4194304 : Int) < (↑(ByteArray.size s) : Int)) = false, T Tryz.prog 24 [.ros 1 (ByteArray.size s) (fun q => [.int .u8 (byteAt s q)]) false] [] (.ptr (.o 448) 0 0 0 0) [(.o 448, rdB s0)], T Tryz.prog 25 [.ptr (.o 448) 0 0 0 0, .int .i64 8] [(.o 448, rdB s0)] (.int .i64 k) [(.o 448, rdB s1)]]
 | 1 => [decide (k = (0 : Int)) = true, T Tryz.prog 78 [.ptr (.o 448) 0 0 0 0] [(.o 448, rdB s1)] (.int .i64 (RS.e s1)) [(.o 448, rdB s1)]]
 | _ => []
theorem bdDecZ_p011 (s : ByteArray) (k : Int) (s0 : RS) (s1 : RS) (s2 : RS) (m : SMsg) (d : Int) :
 along Tryz.prog (bdDecZ s k s0 s1 s2 m d) [false, true, true] = (some (.tup [.agg [.int .i64 0, .int .i64 0, .int .i64 0, .int .i64 0, .int .i64 0, .bool false, rq 0 fun x => SReq.mk (0 : Int) (0 : Int) ByteArray.empty [], .int .i64 0, .int .i64 0, .int .i64 0, .int .i64 0, .seg .u8 32 z32, .int .i64 0, .int .i64 0, .int .i64 0, hl 0 fun x => SHeld.mk (SBatch.mk false 0 fun x => SReq.mk (0 : Int) (0 : Int) ByteArray.empty []) (SCert.mk (SVote.mk (0 : Int) (0 : Int) (0 : Int) (0 : Int) []) 0 fun x => SSign.mk (0 : Int) []), nw 0 fun x => SEnv.mk (0 : Int) ByteArray.empty [], .seg .u8 32 z32, .int .i64 0, .int .i64 0, .int .i64 0, .int .i64 0, .seg .u8 32 z32, sg 0 fun x => SSign.mk (0 : Int) [], .str ByteArray.empty, sg 0 fun x => SSign.mk (0 : Int) []], .int .i64 130], [], bdDecZ_c s k s0 s1 s2 m d 0 ++ (bdDecZ_c s k s0 s1 s2 m d 1 ++ [decide (RS.e s1 = (0 : Int)) = true, q1, q1, q1, q1, q1, q false, q0, q1, q1, q1, q1, q (32 : Nat), q z32, q1, q1, q1, q0, q0, q (32 : Nat), q z32, q1, q1, q1, q1, q (32 : Nat), q z32, q0, q ByteArray.empty, q0, q0, q0, q0, q (130 : Int)])) : Option (V × Heap × List Prop)) := by kernel_rfl

theorem bdDecZ_p0101 (s : ByteArray) (k : Int) (s0 : RS) (s1 : RS) (s2 : RS) (m : SMsg) (d : Int) :
 along Tryz.prog (bdDecZ s k s0 s1 s2 m d) [false, true, false, true] = (some (.tup [.agg [.int .i64 0, .int .i64 0, .int .i64 0, .int .i64 0, .int .i64 0, .bool false, rq 0 fun x => SReq.mk (0 : Int) (0 : Int) ByteArray.empty [], .int .i64 0, .int .i64 0, .int .i64 0, .int .i64 0, .seg .u8 32 z32, .int .i64 0, .int .i64 0, .int .i64 0, hl 0 fun x => SHeld.mk (SBatch.mk false 0 fun x => SReq.mk (0 : Int) (0 : Int) ByteArray.empty []) (SCert.mk (SVote.mk (0 : Int) (0 : Int) (0 : Int) (0 : Int) []) 0 fun x => SSign.mk (0 : Int) []), nw 0 fun x => SEnv.mk (0 : Int) ByteArray.empty [], .seg .u8 32 z32, .int .i64 0, .int .i64 0, .int .i64 0, .int .i64 0, .seg .u8 32 z32, sg 0 fun x => SSign.mk (0 : Int) [], .str ByteArray.empty, sg 0 fun x => SSign.mk (0 : Int) []], .int .i64 130], [], bdDecZ_c s k s0 s1 s2 m d 0 ++ (bdDecZ_c s k s0 s1 s2 m d 1 ++ [decide (RS.e s1 = (0 : Int)) = false, q0, q0, q0, false = RS.bad s1, q (List.length (RS.l s1)), ∀ (k : Nat), k < List.length (RS.l s1) → bl (RS.l s1) k = bl (RS.l s1) k, false = true → false = true, q (RS.e s1), q2, q k, q1, q1, q1, q1, q false, q0, q1, q1, q1, q1, q (32 : Nat), q z32, q1, q1, q1, q0, q0, q (32 : Nat), q z32, q1, q1, q1, q1, q (32 : Nat), q z32, q0, q ByteArray.empty, q0, q1, q1, q1, q1, q1, q false, q0, q1, q1, q1, q1, q (32 : Nat), q z32, q1, q1, q1, q0, q0, q (32 : Nat), q z32, q1, q1, q1, q1, q (32 : Nat), q z32, q0, q ByteArray.empty, q0, q0, q0, q0, q1, q0, q0, q0, q0, q0, q0, T Tryz.prog 84 [.ptr (.o 5) 0 0 0 0, .ptr (.o 7) 0 0 0 0] [(.o 5, .flat [.ptr (.o 6) 0 0 0 0, .bool (RS.bad s1)]), (.o 6, rdB s1), (.o 7, .flat (SMsg.c (msg0 k)))] (.tup []) [(.o 5, .flat [.ptr (.o 6) 0 0 0 0, .bool (RS.bad s2)]), (.o 6, rdB s2), (.o 7, .flat (SMsg.c m))], T Tryz.prog 28 [.ptr (.o 6) 0 0 0 0] [(.o 6, rdB s2)] (.int .i64 d) [(.o 6, rdB s2)], RS.bad s2 = true, q1, q1, q1, q1, q1, q false, q0, q1, q1, q1, q1, q (32 : Nat), q z32, q1, q1, q1, q0, q0, q (32 : Nat), q z32, q1, q1, q1, q1, q (32 : Nat), q z32, q0, q ByteArray.empty, q0, q0, q0, q0, q (130 : Int)])) : Option (V × Heap × List Prop)) := by kernel_rfl

theorem bdDecE_p01001 (s : ByteArray) (k : Int) (s0 : RS) (s1 : RS) (s2 : RS) (m : SMsg) (d : Int) :
  along Tryz.prog (bdDecE s k s0 s1 s2 m d) [false, true, false, false, true] = (some (.tup [.agg [.int .i64 0, .int .i64 0, .int .i64 0, .int .i64 0, .int .i64 0, .bool false, rq 0 fun x => SReq.mk (0 : Int) (0 : Int) ByteArray.empty [], .int .i64 0, .int .i64 0, .int .i64 0, .int .i64 0, .seg .u8 32 z32, .int .i64 0, .int .i64 0, .int .i64 0, hl 0 fun x => SHeld.mk (SBatch.mk false 0 fun x => SReq.mk (0 : Int) (0 : Int) ByteArray.empty []) (SCert.mk (SVote.mk (0 : Int) (0 : Int) (0 : Int) (0 : Int) []) 0 fun x => SSign.mk (0 : Int) []), nw 0 fun x => SEnv.mk (0 : Int) ByteArray.empty [], .seg .u8 32 z32, .int .i64 0, .int .i64 0, .int .i64 0, .int .i64 0, .seg .u8 32 z32, sg 0 fun x => SSign.mk (0 : Int) [], .str ByteArray.empty, sg 0 fun x => SSign.mk (0 : Int) []], .int .i64 d], [], [decide ((4194304 : Int) < (↑(ByteArray.size s) : Int)) = false, T Tryz.prog 24 [.ros 1 (ByteArray.size s) (fun q => [.int .u8 (byteAt s q)]) false] [] (.ptr (.o 448) 0 0 0 0) [(.o 448, rdB s0)], T Tryz.prog 25 [.ptr (.o 448) 0 0 0 0, .int .i64 8] [(.o 448, rdB s0)] (.int .i64 k) [(.o 448, rdB s1)], decide (k = (0 : Int)) = true, T Tryz.prog 78 [.ptr (.o 448) 0 0 0 0] [(.o 448, rdB s1)] (.int .i64 (RS.e s1)) [(.o 448, rdB s1)], decide (RS.e s1 = (0 : Int)) = false, q0, q0, q0, false = RS.bad s1, q (List.length (RS.l s1)), ∀ (k : Nat), k < List.length (RS.l s1) → bl (RS.l s1) k = bl (RS.l s1) k, false = true → false = true, q (RS.e s1), q2, q k, q1, q1, q1, q1, q false, q0, q1, q1, q1, q1, q (32 : Nat), q z32, q1, q1, q1, q0, q0, q (32 : Nat), q z32, q1, q1, q1, q1, q (32 : Nat), q z32, q0, q ByteArray.empty, q0, q1, q1, q1, q1, q1, q false, q0, q1, q1, q1, q1, q (32 : Nat), q z32, q1, q1, q1, q0, q0, q (32 : Nat), q z32, q1, q1, q1, q1, q (32 : Nat), q z32, q0, q ByteArray.empty, q0, q0, q0, q0, q1, q0, q0, q0, q0, q0, q0, T Tryz.prog 84 [.ptr (.o 5) 0 0 0 0, .ptr (.o 7) 0 0 0 0] [(.o 5, .flat [.ptr (.o 6) 0 0 0 0, .bool (RS.bad s1)]), (.o 6, rdB s1), (.o 7, .flat (SMsg.c (msg0 k)))] (.tup []) [(.o 5, .flat [.ptr (.o 6) 0 0 0 0, .bool (RS.bad s2)]), (.o 6, rdB s2), (.o 7, .flat (SMsg.c m))], T Tryz.prog 28 [.ptr (.o 6) 0 0 0 0] [(.o 6, rdB s2)] (.int .i64 d) [(.o 6, rdB s2)], RS.bad s2 = false, (!decide (d = (0 : Int))) = true, q1, q1, q1, q1, q1, q false, q0, q1, q1, q1, q1, q (32 : Nat), q z32, q1, q1, q1, q0, q0, q (32 : Nat), q z32, q1, q1, q1, q1, q (32 : Nat), q z32, q0, q ByteArray.empty, q0, q0, q0, q0, q d]) : Option (V × Heap × List Prop)) := by kernel_rfl

theorem bdDecO_p01000 (s : ByteArray) (k : Int) (s0 : RS) (s1 : RS) (s2 : RS) (m : SMsg) (d : Int) :
  along Tryz.prog (bdDecO s k s0 s1 s2 m d) [false, true, false, false, false] = (some (.tup [.agg (SMsg.c m), .int .i64 0], [], [decide ((4194304 : Int) < (↑(ByteArray.size s) : Int)) = false, T Tryz.prog 24 [.ros 1 (ByteArray.size s) (fun q => [.int .u8 (byteAt s q)]) false] [] (.ptr (.o 448) 0 0 0 0) [(.o 448, rdB s0)], T Tryz.prog 25 [.ptr (.o 448) 0 0 0 0, .int .i64 8] [(.o 448, rdB s0)] (.int .i64 k) [(.o 448, rdB s1)], decide (k = (0 : Int)) = true, T Tryz.prog 78 [.ptr (.o 448) 0 0 0 0] [(.o 448, rdB s1)] (.int .i64 (RS.e s1)) [(.o 448, rdB s1)], decide (RS.e s1 = (0 : Int)) = false, q0, q0, q0, false = RS.bad s1, q (List.length (RS.l s1)), ∀ (k : Nat), k < List.length (RS.l s1) → bl (RS.l s1) k = bl (RS.l s1) k, false = true → false = true, q (RS.e s1), q2, q k, q1, q1, q1, q1, q false, q0, q1, q1, q1, q1, q (32 : Nat), q z32, q1, q1, q1, q0, q0, q (32 : Nat), q z32, q1, q1, q1, q1, q (32 : Nat), q z32, q0, q ByteArray.empty, q0, q1, q1, q1, q1, q1, q false, q0, q1, q1, q1, q1, q (32 : Nat), q z32, q1, q1, q1, q0, q0, q (32 : Nat), q z32, q1, q1, q1, q1, q (32 : Nat), q z32, q0, q ByteArray.empty, q0, q0, q0, q0, q1, q0, q0, q0, q0, q0, q0, T Tryz.prog 84 [.ptr (.o 5) 0 0 0 0, .ptr (.o 7) 0 0 0 0] [(.o 5, .flat [.ptr (.o 6) 0 0 0 0, .bool (RS.bad s1)]), (.o 6, rdB s1), (.o 7, .flat (SMsg.c (msg0 k)))] (.tup []) [(.o 5, .flat [.ptr (.o 6) 0 0 0 0, .bool (RS.bad s2)]), (.o 6, rdB s2), (.o 7, .flat (SMsg.c m))], T Tryz.prog 28 [.ptr (.o 6) 0 0 0 0] [(.o 6, rdB s2)] (.int .i64 d) [(.o 6, rdB s2)], RS.bad s2 = false, (!decide (d = (0 : Int))) = false, q (SMsg.kind m), q (SMsg.epoch m), q (SMsg.leader m), q (SMsg.view m), q (SMsg.slot m), q (SBatch.noop (SMsg.batch m)), q (SBatch.n (SMsg.batch m)), ∀ (k : Nat), k < SBatch.n (SMsg.batch m) → SReq.c (SBatch.req (SMsg.batch m) k) = SReq.c (SBatch.req (SMsg.batch m) k), false = true → false = true, q (SVote.kind (SMsg.vote m)), q (SVote.epoch (SMsg.vote m)), q (SVote.view (SMsg.vote m)), q (SVote.slot (SMsg.vote m)), q (32 : Nat), q (SVote.digest (SMsg.vote m)), q (SMsg.cepoch m), q (SMsg.cleader m), q (SMsg.cview m), q (SMsg.nheld m), ∀ (k : Nat), k < SMsg.nheld m → SHeld.c (SMsg.held m k) = SHeld.c (SMsg.held m k), false = true → false = true, q (SMsg.nnews m), ∀ (k : Nat), k < SMsg.nnews m → SEnv.c (SMsg.news m k) = SEnv.c (SMsg.news m k), false = true → false = true, q (32 : Nat), q (SMsg.digest m), q (SVote.kind (SCert.vote (SMsg.cert m))), q (SVote.epoch (SCert.vote (SMsg.cert m))), q (SVote.view (SCert.vote (SMsg.cert m))), q (SVote.slot (SCert.vote (SMsg.cert m))), q (32 : Nat), q (SVote.digest (SCert.vote (SMsg.cert m))), q (SCert.n (SMsg.cert m)), ∀ (k : Nat), k < SCert.n (SMsg.cert m) → SSign.c (SCert.sig (SMsg.cert m) k) = SSign.c (SCert.sig (SMsg.cert m) k), false = true → false = true, q (SMsg.state m), q (SMsg.n m), ∀ (k : Nat), k < SMsg.n m → SSign.c (SMsg.sig m k) = SSign.c (SMsg.sig m k), false = true → false = true, q0, q0, q0, q1]) : Option (V × Heap × List Prop)) := by kernel_rfl

theorem bdDecZ_p0001 (s : ByteArray) (k : Int) (s0 : RS) (s1 : RS) (s2 : RS) (m : SMsg) (d : Int) :
 along Tryz.prog (bdDecZ s k s0 s1 s2 m d) [false, false, false, true] = (some (.tup [.agg [.int .i64 0, .int .i64 0, .int .i64 0, .int .i64 0, .int .i64 0, .bool false, rq 0 fun x => SReq.mk (0 : Int) (0 : Int) ByteArray.empty [], .int .i64 0, .int .i64 0, .int .i64 0, .int .i64 0, .seg .u8 32 z32, .int .i64 0, .int .i64 0, .int .i64 0, hl 0 fun x => SHeld.mk (SBatch.mk false 0 fun x => SReq.mk (0 : Int) (0 : Int) ByteArray.empty []) (SCert.mk (SVote.mk (0 : Int) (0 : Int) (0 : Int) (0 : Int) []) 0 fun x => SSign.mk (0 : Int) []), nw 0 fun x => SEnv.mk (0 : Int) ByteArray.empty [], .seg .u8 32 z32, .int .i64 0, .int .i64 0, .int .i64 0, .int .i64 0, .seg .u8 32 z32, sg 0 fun x => SSign.mk (0 : Int) [], .str ByteArray.empty, sg 0 fun x => SSign.mk (0 : Int) []], .int .i64 130], [], bdDecZ_c s k s0 s1 s2 m d 0 ++ [decide (k = (0 : Int)) = false, q false, q0, q0, q0, false = RS.bad s1, q (List.length (RS.l s1)), ∀ (k : Nat), k < List.length (RS.l s1) → bl (RS.l s1) k = bl (RS.l s1) k, false = true → false = true, q (RS.e s1), q2, q k, q1, q1, q1, q1, q false, q0, q1, q1, q1, q1, q (32 : Nat), q z32, q1, q1, q1, q0, q0, q (32 : Nat), q z32, q1, q1, q1, q1, q (32 : Nat), q z32, q0, q ByteArray.empty, q0, q1, q1, q1, q1, q1, q false, q0, q1, q1, q1, q1, q (32 : Nat), q z32, q1, q1, q1, q0, q0, q (32 : Nat), q z32, q1, q1, q1, q1, q (32 : Nat), q z32, q0, q ByteArray.empty, q0, q0, q0, q0, q1, q0, q0, q0, q0, q0, q0, T Tryz.prog 84 [.ptr (.o 5) 0 0 0 0, .ptr (.o 7) 0 0 0 0] [(.o 5, .flat [.ptr (.o 6) 0 0 0 0, .bool (RS.bad s1)]), (.o 6, rdB s1), (.o 7, .flat (SMsg.c (msg0 k)))] (.tup []) [(.o 5, .flat [.ptr (.o 6) 0 0 0 0, .bool (RS.bad s2)]), (.o 6, rdB s2), (.o 7, .flat (SMsg.c m))], T Tryz.prog 28 [.ptr (.o 6) 0 0 0 0] [(.o 6, rdB s2)] (.int .i64 d) [(.o 6, rdB s2)], RS.bad s2 = true, q1, q1, q1, q1, q1, q false, q0, q1, q1, q1, q1, q (32 : Nat), q z32, q1, q1, q1, q0, q0, q (32 : Nat), q z32, q1, q1, q1, q1, q (32 : Nat), q z32, q0, q ByteArray.empty, q0, q0, q0, q0, q (130 : Int)]) : Option (V × Heap × List Prop)) := by kernel_rfl

theorem bdDecE_p00001 (s : ByteArray) (k : Int) (s0 : RS) (s1 : RS) (s2 : RS) (m : SMsg) (d : Int) :
  along Tryz.prog (bdDecE s k s0 s1 s2 m d) [false, false, false, false, true] = (some (.tup [.agg [.int .i64 0, .int .i64 0, .int .i64 0, .int .i64 0, .int .i64 0, .bool false, rq 0 fun x => SReq.mk (0 : Int) (0 : Int) ByteArray.empty [], .int .i64 0, .int .i64 0, .int .i64 0, .int .i64 0, .seg .u8 32 z32, .int .i64 0, .int .i64 0, .int .i64 0, hl 0 fun x => SHeld.mk (SBatch.mk false 0 fun x => SReq.mk (0 : Int) (0 : Int) ByteArray.empty []) (SCert.mk (SVote.mk (0 : Int) (0 : Int) (0 : Int) (0 : Int) []) 0 fun x => SSign.mk (0 : Int) []), nw 0 fun x => SEnv.mk (0 : Int) ByteArray.empty [], .seg .u8 32 z32, .int .i64 0, .int .i64 0, .int .i64 0, .int .i64 0, .seg .u8 32 z32, sg 0 fun x => SSign.mk (0 : Int) [], .str ByteArray.empty, sg 0 fun x => SSign.mk (0 : Int) []], .int .i64 d], [], [decide ((4194304 : Int) < (↑(ByteArray.size s) : Int)) = false, T Tryz.prog 24 [.ros 1 (ByteArray.size s) (fun q => [.int .u8 (byteAt s q)]) false] [] (.ptr (.o 448) 0 0 0 0) [(.o 448, rdB s0)], T Tryz.prog 25 [.ptr (.o 448) 0 0 0 0, .int .i64 8] [(.o 448, rdB s0)] (.int .i64 k) [(.o 448, rdB s1)], decide (k = (0 : Int)) = false, q false, q0, q0, q0, false = RS.bad s1, q (List.length (RS.l s1)), ∀ (k : Nat), k < List.length (RS.l s1) → bl (RS.l s1) k = bl (RS.l s1) k, false = true → false = true, q (RS.e s1), q2, q k, q1, q1, q1, q1, q false, q0, q1, q1, q1, q1, q (32 : Nat), q z32, q1, q1, q1, q0, q0, q (32 : Nat), q z32, q1, q1, q1, q1, q (32 : Nat), q z32, q0, q ByteArray.empty, q0, q1, q1, q1, q1, q1, q false, q0, q1, q1, q1, q1, q (32 : Nat), q z32, q1, q1, q1, q0, q0, q (32 : Nat), q z32, q1, q1, q1, q1, q (32 : Nat), q z32, q0, q ByteArray.empty, q0, q0, q0, q0, q1, q0, q0, q0, q0, q0, q0, T Tryz.prog 84 [.ptr (.o 5) 0 0 0 0, .ptr (.o 7) 0 0 0 0] [(.o 5, .flat [.ptr (.o 6) 0 0 0 0, .bool (RS.bad s1)]), (.o 6, rdB s1), (.o 7, .flat (SMsg.c (msg0 k)))] (.tup []) [(.o 5, .flat [.ptr (.o 6) 0 0 0 0, .bool (RS.bad s2)]), (.o 6, rdB s2), (.o 7, .flat (SMsg.c m))], T Tryz.prog 28 [.ptr (.o 6) 0 0 0 0] [(.o 6, rdB s2)] (.int .i64 d) [(.o 6, rdB s2)], RS.bad s2 = false, (!decide (d = (0 : Int))) = true, q1, q1, q1, q1, q1, q false, q0, q1, q1, q1, q1, q (32 : Nat), q z32, q1, q1, q1, q0, q0, q (32 : Nat), q z32, q1, q1, q1, q1, q (32 : Nat), q z32, q0, q ByteArray.empty, q0, q0, q0, q0, q d]) : Option (V × Heap × List Prop)) := by kernel_rfl

theorem bdDecO_p00000 (s : ByteArray) (k : Int) (s0 : RS) (s1 : RS) (s2 : RS) (m : SMsg) (d : Int) :
  along Tryz.prog (bdDecO s k s0 s1 s2 m d) [false, false, false, false, false] = (some (.tup [.agg (SMsg.c m), .int .i64 0], [], [decide ((4194304 : Int) < (↑(ByteArray.size s) : Int)) = false, T Tryz.prog 24 [.ros 1 (ByteArray.size s) (fun q => [.int .u8 (byteAt s q)]) false] [] (.ptr (.o 448) 0 0 0 0) [(.o 448, rdB s0)], T Tryz.prog 25 [.ptr (.o 448) 0 0 0 0, .int .i64 8] [(.o 448, rdB s0)] (.int .i64 k) [(.o 448, rdB s1)], decide (k = (0 : Int)) = false, q false, q0, q0, q0, false = RS.bad s1, q (List.length (RS.l s1)), ∀ (k : Nat), k < List.length (RS.l s1) → bl (RS.l s1) k = bl (RS.l s1) k, false = true → false = true, q (RS.e s1), q2, q k, q1, q1, q1, q1, q false, q0, q1, q1, q1, q1, q (32 : Nat), q z32, q1, q1, q1, q0, q0, q (32 : Nat), q z32, q1, q1, q1, q1, q (32 : Nat), q z32, q0, q ByteArray.empty, q0, q1, q1, q1, q1, q1, q false, q0, q1, q1, q1, q1, q (32 : Nat), q z32, q1, q1, q1, q0, q0, q (32 : Nat), q z32, q1, q1, q1, q1, q (32 : Nat), q z32, q0, q ByteArray.empty, q0, q0, q0, q0, q1, q0, q0, q0, q0, q0, q0, T Tryz.prog 84 [.ptr (.o 5) 0 0 0 0, .ptr (.o 7) 0 0 0 0] [(.o 5, .flat [.ptr (.o 6) 0 0 0 0, .bool (RS.bad s1)]), (.o 6, rdB s1), (.o 7, .flat (SMsg.c (msg0 k)))] (.tup []) [(.o 5, .flat [.ptr (.o 6) 0 0 0 0, .bool (RS.bad s2)]), (.o 6, rdB s2), (.o 7, .flat (SMsg.c m))], T Tryz.prog 28 [.ptr (.o 6) 0 0 0 0] [(.o 6, rdB s2)] (.int .i64 d) [(.o 6, rdB s2)], RS.bad s2 = false, (!decide (d = (0 : Int))) = false, q (SMsg.kind m), q (SMsg.epoch m), q (SMsg.leader m), q (SMsg.view m), q (SMsg.slot m), q (SBatch.noop (SMsg.batch m)), q (SBatch.n (SMsg.batch m)), ∀ (k : Nat), k < SBatch.n (SMsg.batch m) → SReq.c (SBatch.req (SMsg.batch m) k) = SReq.c (SBatch.req (SMsg.batch m) k), false = true → false = true, q (SVote.kind (SMsg.vote m)), q (SVote.epoch (SMsg.vote m)), q (SVote.view (SMsg.vote m)), q (SVote.slot (SMsg.vote m)), q (32 : Nat), q (SVote.digest (SMsg.vote m)), q (SMsg.cepoch m), q (SMsg.cleader m), q (SMsg.cview m), q (SMsg.nheld m), ∀ (k : Nat), k < SMsg.nheld m → SHeld.c (SMsg.held m k) = SHeld.c (SMsg.held m k), false = true → false = true, q (SMsg.nnews m), ∀ (k : Nat), k < SMsg.nnews m → SEnv.c (SMsg.news m k) = SEnv.c (SMsg.news m k), false = true → false = true, q (32 : Nat), q (SMsg.digest m), q (SVote.kind (SCert.vote (SMsg.cert m))), q (SVote.epoch (SCert.vote (SMsg.cert m))), q (SVote.view (SCert.vote (SMsg.cert m))), q (SVote.slot (SCert.vote (SMsg.cert m))), q (32 : Nat), q (SVote.digest (SCert.vote (SMsg.cert m))), q (SCert.n (SMsg.cert m)), ∀ (k : Nat), k < SCert.n (SMsg.cert m) → SSign.c (SCert.sig (SMsg.cert m) k) = SSign.c (SCert.sig (SMsg.cert m) k), false = true → false = true, q (SMsg.state m), q (SMsg.n m), ∀ (k : Nat), k < SMsg.n m → SSign.c (SMsg.sig m k) = SSign.c (SMsg.sig m k), false = true → false = true, q0, q0, q0, q1]) : Option (V × Heap × List Prop)) := by kernel_rfl

theorem T_fieldsN (m : SMsg) (s : RS) (hl : s.l.length ≤ 1000000000) {r a q : Nat} (hn : [Nm.o r, Nm.o a, Nm.o q].Nodup) : T Tryz.prog 84 [.ptr (.o r) 0 0 0 0, .ptr (.o q) 0 0 0 0] (mrH r a s ++ [(.o q, .flat m.c)]) (.tup []) (mrH r a (fieldsR m s).2 ++ [(.o q, .flat (fieldsR m s).1.c)]) := by
 obtain ⟨σ, hσ, h1⟩ := T.at (T_fields0 m s hl) [.o 0, .o 1, .o 2] [.o r, .o a, .o q] (by simp) hn rfl
 simp only [List.map_cons, List.map_nil, List.cons.injEq, and_true] at hσ
 simpa [V.rens, V.ren, p0, rdB, mrH, SMsg.c, SBatch.c, SVote.c, SCert.c, rq, Sy.hl, nw, sg, Heap.ren, B.ren, hσ.1, hσ.2.1, hσ.2.2] using h1
theorem dec1_aft (l : List UInt8) : After { l := l } (dec1 l) := numR_after 8 _
theorem dec1_bad (l : List UInt8) : (dec1 l).bad = false := (dec1_aft l).2.1
theorem T_dec (s : ByteArray) : T Tryz.prog 42 [.str s] [] (.tup [.agg (decR (strB s)).1.c, .int .i64 (decR (strB s)).2]) [] := by
 have hs := strB_len s
 by_cases h0 : 4194304 < (strB s).length
 ·have e : decR (strB s) = (msg0 0, 3) := by simp only [decR, if_pos h0]
  rw [e]
  refine T_al (bdDec3_p1 s) Tryz.func42 ?_
  simp only [All, All_append, bdDecZ_c]; and_intros
  all_goals first | (rw [decide_eq_true_eq]; omega) | trivial
 have hl : (strB s).length ≤ 1000000000 := by omega
 have hlen : decide ((4194304 : Int) < (s.size : Nat)) = false := by rw [decide_eq_false_iff_not]; omega
 have l1 : (dec1 (strB s)).l.length ≤ 1000000000 := Nat.le_trans (dec1_aft _).1 hl
 have b1 := dec1_bad (strB s)
 have hR : ∀ a, T Tryz.prog 24 [.ros 1 s.size (fun q => [.int .u8 (byteAt s q)]) false] [] (.ptr (.o a) 0 0 0 0) [(.o a, rdB { l := strB s })] := fun a => by
  have := T_read a (strB s) hl
  rw [roB, hs] at this; exact this
 have hF : T Tryz.prog 84 [.ptr (.o 5) 0 0 0 0, .ptr (.o 7) 0 0 0 0] (mrH 5 6 (dec1 (strB s)) ++ [(.o 7, .flat (msg0 (decK (strB s))).c)]) (.tup []) (mrH 5 6 (decF (strB s)).2 ++ [(.o 7, .flat (decF (strB s)).1.c)]) := T_fieldsN (msg0 (decK (strB s))) (dec1 (strB s)) l1 (by decide)
 by_cases h1 : decK (strB s) = 0
 ·by_cases h2 : (dec1 (strB s)).e = 0
  ·have e : decR (strB s) = (msg0 0, 130) := by simp only [decR, if_neg h0, h1, h2, and_self, if_true]
   rw [e]
   refine T_al (bdDecZ_p011 s (decK (strB s)) { l := strB s } (dec1 (strB s)) (decF (strB s)).2 (decF (strB s)).1 (doneR (decF (strB s)).2)) Tryz.func42 ?_
   simp only [All, All_append, bdDecZ_c]; and_intros
   all_goals first | exact hlen | exact hR _ | exact T_num 448 8 { l := strB s } | exact T_err 448 (dec1 (strB s)) | (rw [decide_eq_true_eq]; assumption) | trivial
  ·by_cases h3 : (decF (strB s)).2.bad = true
   ·have e : decR (strB s) = (msg0 0, 130) := by simp only [decR, if_neg h0, h2, and_false, if_false, if_pos h3]
    rw [e]
    refine T_al (bdDecZ_p0101 s (decK (strB s)) { l := strB s } (dec1 (strB s)) (decF (strB s)).2 (decF (strB s)).1 (doneR (decF (strB s)).2)) Tryz.func42 ?_
    simp only [All, All_append, bdDecZ_c]; and_intros
    all_goals first | exact hlen | exact hR _ | exact T_num 448 8 { l := strB s } | exact T_err 448 (dec1 (strB s)) | exact hF | exact T_done 6 (decF (strB s)).2 | (rw [decide_eq_true_eq]; assumption) | (rw [decide_eq_false_iff_not]; assumption) | exact h3 | exact b1.symm | trivial | (intro _ _; trivial)
   ·by_cases h4 : doneR (decF (strB s)).2 = 0
    ·have e : decR (strB s) = ((decF (strB s)).1, 0) := by simp only [decR, if_neg h0, h2, and_false, if_false, if_neg h3, h4, ne_eq, not_true]
     rw [e]
     refine T_al (bdDecO_p01000 s (decK (strB s)) { l := strB s } (dec1 (strB s)) (decF (strB s)).2 (decF (strB s)).1 (doneR (decF (strB s)).2)) Tryz.func42 ?_
     simp only [All, All_append, bdDecZ_c]; and_intros
     all_goals first | exact hlen | exact hR _ | exact T_num 448 8 { l := strB s } | exact T_err 448 (dec1 (strB s)) | exact hF | exact T_done 6 (decF (strB s)).2 | (rw [decide_eq_true_eq]; assumption) | (rw [decide_eq_false_iff_not]; assumption) | exact Bool.eq_false_iff.mpr h3 | (simp [h4]; done) | exact b1.symm
    ·have e : decR (strB s) = (msg0 0, doneR (decF (strB s)).2) := by simp only [decR, if_neg h0, h2, and_false, if_false, if_neg h3, ne_eq, h4, not_false_eq_true, if_true]
     rw [e]
     refine T_al (bdDecE_p01001 s (decK (strB s)) { l := strB s } (dec1 (strB s)) (decF (strB s)).2 (decF (strB s)).1 (doneR (decF (strB s)).2)) Tryz.func42 ?_
     simp only [All, All_append, bdDecZ_c]; and_intros
     all_goals first | exact hlen | exact hR _ | exact T_num 448 8 { l := strB s } | exact T_err 448 (dec1 (strB s)) | exact hF | exact T_done 6 (decF (strB s)).2 | (rw [decide_eq_true_eq]; assumption) | (rw [decide_eq_false_iff_not]; assumption) | exact Bool.eq_false_iff.mpr h3 | (simp [h4]; done) | exact b1.symm
 ·by_cases h3 : (decF (strB s)).2.bad = true
  ·have e : decR (strB s) = (msg0 0, 130) := by simp only [decR, if_neg h0, h1, false_and, if_false, if_pos h3]
   rw [e]
   refine T_al (bdDecZ_p0001 s (decK (strB s)) { l := strB s } (dec1 (strB s)) (decF (strB s)).2 (decF (strB s)).1 (doneR (decF (strB s)).2)) Tryz.func42 ?_
   simp only [All, All_append, bdDecZ_c]; and_intros
   all_goals first | exact hlen | exact hR _ | exact T_num 448 8 { l := strB s } | exact hF | exact T_done 6 (decF (strB s)).2 | (rw [decide_eq_false_iff_not]; assumption) | exact h3 | exact b1.symm | trivial | (intro _ _; trivial)
  ·by_cases h4 : doneR (decF (strB s)).2 = 0
   ·have e : decR (strB s) = ((decF (strB s)).1, 0) := by simp only [decR, if_neg h0, h1, false_and, if_false, if_neg h3, h4, ne_eq, not_true]
    rw [e]
    refine T_al (bdDecO_p00000 s (decK (strB s)) { l := strB s } (dec1 (strB s)) (decF (strB s)).2 (decF (strB s)).1 (doneR (decF (strB s)).2)) Tryz.func42 ?_
    simp only [All, All_append, bdDecZ_c]; and_intros
    all_goals first | exact hlen | exact hR _ | exact T_num 448 8 { l := strB s } | exact hF | exact T_done 6 (decF (strB s)).2 | (rw [decide_eq_false_iff_not]; assumption) | exact Bool.eq_false_iff.mpr h3 | (simp [h4]; done) | exact b1.symm
   ·have e : decR (strB s) = (msg0 0, doneR (decF (strB s)).2) := by simp only [decR, if_neg h0, h1, false_and, if_false, if_neg h3, ne_eq, h4, not_false_eq_true, if_true]
    rw [e]
    refine T_al (bdDecE_p00001 s (decK (strB s)) { l := strB s } (dec1 (strB s)) (decF (strB s)).2 (decF (strB s)).1 (doneR (decF (strB s)).2)) Tryz.func42 ?_
    simp only [All, All_append, bdDecZ_c]; and_intros
    all_goals first | exact hlen | exact hR _ | exact T_num 448 8 { l := strB s } | exact hF | exact T_done 6 (decF (strB s)).2 | (rw [decide_eq_false_iff_not]; assumption) | exact Bool.eq_false_iff.mpr h3 | (simp [h4]; done) | exact b1.symm
end Go.Proofs.YtnmccoincblecaaGreat
namespace Go.Proofs.YtnmccoincblecaaGreat
open Go Sy Go.Proofs
/-- Read, there is this, and just these bytes are gone. -/
def Rd {α : Type} (one : RS → α × RS) (E : α → Prop) (bytes : List UInt8) : Prop := ∀ (s : RS) (tail : List UInt8), s.e = 0 → s.l = bytes ++ tail → E (one s).1 ∧ (one s).2 = { s with l := tail }
theorem beN_digs : ∀ f n, n < 256 ^ f → beN (digs f n) = n
 | 0, n, h => by simp at h; subst h; rfl
 | f + 1, n, h => by
  rw [digs]
  split
  ·rename_i h0; subst h0; rfl
  ·rw [beN_snoc, beN_digs f (n / 256) (by rw [Nat.pow_succ] at h; omega), UInt8.toNat_ofNat']
   omega
theorem digs_head {n : Nat} (h : n < 9223372036854775808) {x : UInt8} {t : List UInt8} (e : digs 8 n = x :: t) : x.toNat ≠ 0 ∧ ((digs 8 n).length = 8 → x.toNat ≤ 127) := by
 obtain ⟨h1, h2, h3⟩ := digs_len 8 n (digs8 h)
 have hl : 0 < (digs 8 n).length := by rw [e]; simp
 have hg := digs_get 8 n 0 (digs8 h) hl
 rw [e] at hg
 simp only [List.getElem?_cons_zero, Option.some.injEq] at hg
 have h4 := h3 ((digs 8 n).length - 1) (by omega)
 have h5 : n / 256 ^ ((digs 8 n).length - 1) < 256 := by
  have e6 : (digs 8 n).length = (digs 8 n).length - 1 + 1 := by omega
  rw [e6, Nat.pow_succ, ← Nat.div_div_eq_div_mul] at h2
  omega
 have h6 : x.toNat = n / 256 ^ ((digs 8 n).length - 1) := by
  rw [hg, ← e]
  rw [UInt8.toNat_ofNat', Nat.sub_zero]
  omega
 refine ⟨by omega, fun e8 => ?_⟩
 rw [h6, e8]
 have : n / 256 ^ 7 < 128 := by
  rw [Nat.div_lt_iff_lt_mul (by decide)]; omega
 exact Nat.le_of_lt_succ this
theorem kOf_put {n : Nat} (h : n < 9223372036854775808) (tail : List UInt8) : kOf (putN n ++ tail) = (digs 8 n).length := by
 have h1 := (digs_len 8 n (digs8 h)).1
 show (UInt8.ofNat (digs 8 n).length).toNat = _
 rw [UInt8.toNat_ofNat']; omega
theorem mid_put (n : Nat) (tail : List UInt8) : ((putN n ++ tail).drop 1).take (digs 8 n).length = digs 8 n := by
 show (digs 8 n ++ tail).take _ = _
 rw [List.take_left']; rfl
theorem nE_put {n : Nat} (h : n < 9223372036854775808) (tail : List UInt8) : nE (putN n ++ tail) = 0 := by
 have h1 := (digs_len 8 n (digs8 h)).1
 have hk := kOf_put h tail
 have hl : (putN n ++ tail).length = (digs 8 n).length + 1 + tail.length := by simp [putN]; omega
 have hg : (putN n ++ tail).getD 1 0 = (digs 8 n ++ tail).getD 0 0 := rfl
 unfold nE
 rw [if_neg (by omega), if_neg (by omega), if_neg (by omega), hk, hg]
 cases hd : digs 8 n with
 | nil => rw [if_neg (by simp), if_neg (by simp)]
 | cons x t =>
  have h2 := digs_head h hd
  rw [if_neg, if_neg]
  ·rintro ⟨h3, h4⟩
   have := h2.2 (by rw [hd]; exact h3)
   simp at h4; omega
  ·rintro ⟨_, h4⟩
   exact h2.1 (by simpa using h4)
theorem nV_put {n : Nat} (h : n < 9223372036854775808) (tail : List UInt8) : nV (putN n ++ tail) = n := by
 rw [nV, if_pos (nE_put h tail), kOf_put h tail, mid_put, beN_digs 8 n (digs8 h)]
theorem nS_put {n : Nat} (h : n < 9223372036854775808) (tail : List UInt8) : nS (putN n ++ tail) = ((putN n).length : Nat) := by
 rw [nS, if_pos (nE_put h tail), kOf_put h tail]; simp [putN]
theorem num_rd {n most : Int} (h0 : 0 ≤ n) (h1 : n ≤ most) (h2 : most < 9223372036854775808) : Rd (numR most) (fun x => x = n) (putZ n) := by
 intro s tail he hl
 have hn : n.toNat < 9223372036854775808 := by omega
 have hv : nV s.l = n := by rw [hl, putZ, nV_put hn]; omega
 have hE : nE s.l = 0 := by rw [hl, putZ, nE_put hn]
 have hS : nS s.l = ((putN n.toNat).length : Nat) := by rw [hl, putZ, nS_put hn]
 have h3 : nE1 most s.l = 0 := by rw [nE1, hv, if_neg (by omega), hE]
 unfold numR
 rw [if_neg (by simpa using he), if_neg (by simpa using h3)]
 refine ⟨hv, ?_⟩
 show RS.mk (s.l.drop (nS s.l).toNat) s.e s.bad = _
 rw [hS, Int.toNat_natCast]
 congr 1
 rw [hl, putZ, List.drop_left']; rfl
end Go.Proofs.YtnmccoincblecaaGreat
namespace Go.Proofs.YtnmccoincblecaaGreat
open Go Sy Go.Proofs
theorem baL_strB (s : ByteArray) : baL (strB s) = s := rfl
theorem strB_baL (l : List UInt8) : strB (baL l) = l := rfl
theorem text_rd {t : ByteArray} {most : Int} (h0 : (t.size : Int) ≤ most) (h1 : most < 9223372036854775808) : Rd (textR most) (fun x => x = t) (textB t) := by
 intro s tail he hl
 have hn : t.size < 9223372036854775808 := by omega
 have hl' : s.l = putN t.size ++ (strB t ++ tail) := by rw [hl, textB, List.append_assoc]
 have hv : nV s.l = (t.size : Nat) := by rw [hl', nV_put hn]
 have hE : nE s.l = 0 := by rw [hl', nE_put hn]
 have hS : nS s.l = ((putN t.size).length : Nat) := by rw [hl', nS_put hn]
 have hlen : s.l.length = (putN t.size).length + (t.size + tail.length) := by rw [hl', List.length_append, List.length_append, strB_len]
 have h3 : tE most s.l = 0 := by
  unfold tE
  rw [if_neg (by simpa using hE), if_neg (by omega), if_neg (by omega)]
 have hd : s.l.drop (nS s.l).toNat = strB t ++ tail := by rw [hS, Int.toNat_natCast, hl', List.drop_left']; rfl
 unfold textR
 rw [if_neg (by simpa using he), if_neg (by simpa using h3)]
 refine ⟨?_, ?_⟩
 ·show baL ((s.l.drop (nS s.l).toNat).take (nV s.l).toNat) = t
  rw [hd, hv, Int.toNat_natCast, List.take_left' (strB_len t), baL_strB]
 ·show RS.mk ((s.l.drop (nS s.l).toNat).drop (nV s.l).toNat) s.e s.bad = _
  rw [hd, hv, Int.toNat_natCast, List.drop_left' (strB_len t)]
theorem intsB_segB {n : Nat} {xs : List Int} (h : SegOk n xs) : intsB (segB xs) = xs := by
 unfold intsB segB
 rw [List.map_map]
 refine (List.map_congr_left fun x hx => ?_).trans (List.map_id xs)
 have := h.rng x hx
 simp only [Function.comp, UInt8.toNat_ofNat', id]
 omega
theorem raw_rd (xs : List UInt8) : Rd (rawR xs.length) (fun x => x = xs) xs := by
 intro s tail he hl
 have hlen : s.l.length = xs.length + tail.length := by rw [hl, List.length_append]
 unfold rawR
 rw [if_neg (by simpa using he), if_neg (by omega), if_neg (by omega), Int.toNat_natCast]
 refine ⟨?_, ?_⟩
 ·show s.l.take xs.length = xs
  rw [hl, List.take_left']; rfl
 ·show RS.mk (s.l.drop xs.length) s.e s.bad = _
  rw [hl, List.drop_left']; rfl
theorem arr_rd {n : Nat} {z xs : List Int} (h : SegOk n xs) : Rd (arrR n z) (fun x => x = xs) (segB xs) := by
 intro s tail he hl
 have hn : (segB xs).length = n := segB_le h
 have h1 := raw_rd (segB xs) s tail he hl
 rw [hn] at h1
 unfold arrR
 rw [h1.2, if_pos he, h1.1]
 exact ⟨intsB_segB h, rfl⟩
theorem tag_rd {xs : List Int} (h : SegOk 16 xs) : Rd tagR (fun x => x = xs) (segB xs) := arr_rd h
theorem dig_rd {xs : List Int} (h : SegOk 32 xs) : Rd digR (fun x => x = xs) (segB xs) := arr_rd h
theorem upto_iff {n m : Int} : uptoS n m = true ↔ 0 ≤ n ∧ n ≤ m := by simp [uptoS]
/-! ### Requests -/
theorem req_rd {r : SReq} (h : mayReqS r = true) (ht : SegOk 16 r.tag) : Rd reqR (fun x => x = r) (reqB r) := by
 intro s tail he hl
 simp only [mayReqS, Bool.and_eq_true, decide_eq_true_eq, upto_iff] at h
 obtain ⟨h1, h2, h3⟩ := h
 simp only [reqB, List.append_assoc] at hl
 obtain ⟨a1, b1⟩ := num_rd (most := 8) h1.1 h1.2 (by decide) s _ he hl
 obtain ⟨a2, b2⟩ := num_rd (most := 1099511627776) h2.1 h2.2 (by decide) (numR 8 s).2 _ (by rw [b1]; exact he) (by rw [b1])
 obtain ⟨a3, b3⟩ := text_rd (most := 64) (t := r.data) (by omega) (by decide) (reqR2 s) _ (by show (numR _ (numR 8 s).2).2.e = 0; rw [b2, b1]; exact he) (by show (numR _ (numR 8 s).2).2.l = _; rw [b2])
 have b2' : reqR2 s = { s with l := textB r.data ++ (segB r.tag ++ tail) } := by show (numR _ (numR 8 s).2).2 = _; rw [b2, b1]
 have b3' : reqR3 s = { s with l := segB r.tag ++ tail } := by show (textR 64 (reqR2 s)).2 = _; rw [b3, b2']
 have hn : (segB r.tag).length = 16 := segB_le ht
 obtain ⟨a4, b4⟩ := raw_rd (segB r.tag) (reqR3 s) tail (by rw [b3']; exact he) (by rw [b3'])
 rw [hn] at a4 b4
 have b4' : reqR4 s = { s with l := tail } := by show (rawR 16 (reqR3 s)).2 = _; rw [show (16 : Int) = ((16 : Nat) : Int) from rfl, b4, b3']
 have a4' : (rawR 16 (reqR3 s)).1 = segB r.tag := a4
 unfold reqR
 rw [b4', if_pos he]
 refine ⟨?_, rfl⟩
 show SReq.mk _ _ _ _ = r
 rw [show (numR 1099511627776 (reqR1 s)).1 = r.num from a2, show (numR 8 s).1 = r.client from a1, show (textR 64 (reqR2 s)).1 = r.data from a3, a4', intsB_segB ht]
section
variable {α : Type} {one : RS → α × RS} {enc : α → List UInt8}
def encs (enc : α → List UInt8) (el : Nat → α) : Nat → List UInt8
 | 0 => []
 | k + 1 => encs enc el k ++ enc (el k)
theorem stR_rd {rel : α → α → Prop} {el : Nat → α} {s : RS} (he : s.e = 0) : ∀ n, (∀ i, i < n → Rd one (fun x => rel x (el i)) (enc (el i))) → ∀ tail, s.l = encs enc el n ++ tail → stR one s n = { s with l := tail } ∧ ∀ i, i < n → rel (one (stR one s i)).1 (el i)
 | 0, _, tail, hl => ⟨by show s = _; rw [encs, List.nil_append] at hl; rw [← hl], fun i hi => absurd hi (Nat.not_lt_zero i)⟩
 | n + 1, h, tail, hl => by
  rw [encs, List.append_assoc] at hl
  obtain ⟨h1, h2⟩ := stR_rd he n (fun i hi => h i (by omega)) _ hl
  obtain ⟨h3, h4⟩ := h n (by omega) (stR one s n) tail (by rw [h1]; exact he) (by rw [h1])
  refine ⟨by show (one (stR one s n)).2 = _; rw [h4, h1], fun i hi => ?_⟩
  rcases Nat.lt_or_ge i n with h5 | h5
  ·exact h2 i h5
  ·obtain rfl : i = n := by omega
   exact h3
theorem cntR_all : ∀ n s, (∀ k, k < n → (stR one s k).e = 0) → cntR one n s = n
 | 0, _, _ => rfl
 | n + 1, s, h => by
  have h0 : s.e = 0 := h 0 (by omega)
  rw [cntR, if_pos h0, cntR_all n _ fun k hk => by rw [stR_succ]; exact h (k + 1) (by omega)]
theorem get_rd {rel : α → α → Prop} {el : Nat → α} {n : Nat} {most : Int} (hn : (n : Int) ≤ most) (hm : most < 9223372036854775808) (h : ∀ i, i < n → Rd one (fun x => rel x (el i)) (enc (el i))) {s : RS} (he : s.e = 0) {tail : List UInt8} (hl : s.l = numsB [(n : Int)] ++ (encs enc el n ++ tail)) :
  getN one most s = n ∧ (∀ i, i < n → rel (getEl one most s i) (el i)) ∧ getS one most s = { s with l := tail } := by
 simp only [numsB, List.append_nil] at hl
 obtain ⟨a1, b1⟩ := num_rd (most := most) (n := (n : Int)) (by omega) hn hm s _ he hl
 have hs1 : (numR most s).2.e = 0 := by rw [b1]; exact he
 have key : ∀ k, k ≤ n → (stR one (numR most s).2 k).e = 0 := by
  intro k hk
  have hsplit : ∀ j, k + j = n → ∃ rest, encs enc el n = encs enc el k ++ rest := by
   intro j
   induction j generalizing k with
   | zero =>
    intro e
    obtain rfl : k = n := by omega
    exact ⟨[], by simp⟩
   | succ j ih =>
    intro e
    obtain ⟨rest, hr⟩ := ih (k + 1) (by omega) (by omega)
    exact ⟨enc (el k) ++ rest, by rw [hr, encs, List.append_assoc]⟩
  obtain ⟨rest, hr⟩ := hsplit (n - k) (by omega)
  have := (stR_rd (one := one) (enc := enc) (rel := rel) (el := el) hs1 k (fun i hi => h i (by omega)) (rest ++ tail) (by rw [b1, hr, List.append_assoc])).1
  rw [this]; exact hs1
 have hc : cntR one n (numR most s).2 = n := cntR_all n _ fun k hk => key k (by omega)
 have hN : getN one most s = n := by show cntR one (numR most s).1.toNat (numR most s).2 = n; rw [a1, Int.toNat_natCast]; exact hc
 obtain ⟨q1, q2⟩ := stR_rd (one := one) (enc := enc) (rel := rel) (el := el) hs1 n h tail (by rw [b1])
 refine ⟨hN, q2, ?_⟩
 show stR one (numR most s).2 (getN one most s) = _
 rw [hN, q1, b1]
end
theorem signsB_encs (s : Nat → SSign) : ∀ n, signsB s n = encs signB s n
 | 0 => rfl
 | n + 1 => by rw [signsB, encs, signsB_encs s n]
theorem heldsB_encs (s : Nat → SHeld) : ∀ n, heldsB s n = encs heldB s n
 | 0 => rfl
 | n + 1 => by rw [heldsB, encs, heldsB_encs s n]
theorem envsB_encs (s : Nat → SEnv) : ∀ n, envsB s n = encs envB s n
 | 0 => rfl
 | n + 1 => by rw [envsB, encs, envsB_encs s n]
theorem reqsB_encs (s : Nat → SReq) : ∀ n, reqsB s n = encs reqB s n
 | 0 => rfl
 | n + 1 => by rw [reqsB, encs, reqsB_encs s n]
end Go.Proofs.YtnmccoincblecaaGreat
namespace Go.Proofs.YtnmccoincblecaaGreat
open Go Sy Go.Proofs
theorem sign_rd {x : SSign} (h : maySignS x = true) (ht : SegOk 16 x.tag) : Rd signR (fun y => y = x) (signB x) := by
 intro s tail he hl
 simp only [maySignS, upto_iff] at h
 simp only [signB, numsB, List.append_nil, List.append_assoc] at hl
 obtain ⟨a1, b1⟩ := num_rd (most := 64) h.1 h.2 (by decide) s _ he hl
 obtain ⟨a2, b2⟩ := tag_rd ht (numR 64 s).2 tail (by rw [b1]; exact he) (by rw [b1])
 refine ⟨?_, ?_⟩
 ·show SSign.mk _ _ = x
  rw [a1, a2]
 ·show (tagR (numR 64 s).2).2 = _
  rw [b2, b1]
theorem env_rd {x : SEnv} (h : mayEnvS x = true) (ht : SegOk 16 x.tag) : Rd envR (fun y => y = x) (envB x) := by
 intro s tail he hl
 simp only [mayEnvS, Bool.and_eq_true, decide_eq_true_eq, upto_iff] at h
 obtain ⟨h1, h2⟩ := h
 simp only [envB, numsB, List.append_nil, List.append_assoc] at hl
 obtain ⟨a1, b1⟩ := num_rd (most := 64) h1.1 h1.2 (by decide) s _ he hl
 obtain ⟨a2, b2⟩ := text_rd (most := 4194304) (t := x.body) (by omega) (by decide) (envR1 s) _ (by show (numR 64 s).2.e = 0; rw [b1]; exact he) (by show (numR 64 s).2.l = _; rw [b1])
 have b2' : envR2 s = { s with l := segB x.tag ++ tail } := by show (textR 4194304 (envR1 s)).2 = _; rw [b2]; show RS.mk _ (numR 64 s).2.e (numR 64 s).2.bad = _; rw [b1]
 obtain ⟨a3, b3⟩ := tag_rd ht (envR2 s) tail (by rw [b2']; exact he) (by rw [b2'])
 refine ⟨?_, ?_⟩
 ·show SEnv.mk _ _ _ = x
  rw [a1, a2, a3]
 ·show (tagR (envR2 s)).2 = _
  rw [b3, b2']
theorem vote_rd {x : SVote} (h : mayVoteS x = true) (ht : SegOk 32 x.digest) : Rd voteR (fun y => y = x) (voteB x) := by
 intro s tail he hl
 simp only [mayVoteS, Bool.and_eq_true, Bool.or_eq_true, decide_eq_true_eq, upto_iff] at h
 obtain ⟨h1, h2, h3, h4⟩ := h
 simp only [voteB, numsB, List.append_nil, List.append_assoc] at hl
 obtain ⟨a1, b1⟩ := num_rd (n := x.kind) (most := 2) (by omega) (by omega) (by decide) s _ he hl
 have e0 : voteR0 s = { s with l := putZ x.epoch ++ (putZ x.view ++ (putZ x.slot ++ (segB x.digest ++ tail))) } := by
  unfold voteR0
  rw [if_neg (by rw [a1]; omega), b1]
 obtain ⟨a2, b2⟩ := num_rd (most := 1048576) h2.1 h2.2 (by decide) (voteR0 s) _ (by rw [e0]; exact he) (by rw [e0])
 have e1 : voteR1 s = { s with l := putZ x.view ++ (putZ x.slot ++ (segB x.digest ++ tail)) } := by show (numR 1048576 (voteR0 s)).2 = _; rw [b2, e0]
 obtain ⟨a3, b3⟩ := num_rd (most := 1099511627776) h3.1 h3.2 (by decide) (voteR1 s) _ (by rw [e1]; exact he) (by rw [e1])
 have e2 : voteR2 s = { s with l := putZ x.slot ++ (segB x.digest ++ tail) } := by show (numR 1099511627776 (voteR1 s)).2 = _; rw [b3, e1]
 obtain ⟨a4, b4⟩ := num_rd (most := 1099511627776) h4.1 h4.2 (by decide) (voteR2 s) _ (by rw [e2]; exact he) (by rw [e2])
 have e3 : voteR3 s = { s with l := segB x.digest ++ tail } := by show (numR 1099511627776 (voteR2 s)).2 = _; rw [b4, e2]
 obtain ⟨a5, b5⟩ := dig_rd ht (voteR3 s) tail (by rw [e3]; exact he) (by rw [e3])
 refine ⟨?_, ?_⟩
 ·show SVote.mk _ _ _ _ _ = x
  rw [a1, a2, a3, a4, a5]
 ·show (digR (voteR3 s)).2 = _
  rw [b5, e3]
theorem itR_stR {α : Type} (one : RS → α × RS) : ∀ k s, (itR one k s).2 = stR one s k
 | 0, _ => rfl
 | k + 1, s => by show (itR one k (one s).2).2 = _; rw [itR_stR one k, stR_succ]
theorem itR_len {α : Type} (one : RS → α × RS) : ∀ k s, (itR one k s).1.length = k
 | 0, _ => rfl
 | k + 1, s => by show (_ :: (itR one k (one s).2).1).length = _; rw [List.length_cons, itR_len one k]
theorem itR_get {α : Type} (one : RS → α × RS) (d : α) : ∀ k s i, i < k → (itR one k s).1.getD i d = (one (stR one s i)).1
 | 0, _, i, h => absurd h (Nat.not_lt_zero i)
 | k + 1, s, 0, _ => rfl
 | k + 1, s, i + 1, h => by
  show (itR one k (one s).2).1.getD i d = _
  rw [itR_get one d k _ i (by omega), stR_succ]
def segBatch (b : SBatch) : Prop := ∀ i, i < b.n → SegOk 16 (b.req i).tag
theorem allS_iff {n most : Nat} {p : Nat → Bool} : allS n most p = true ↔ n ≤ most ∧ ∀ i, i < n → p i = true := by simp [allS]
theorem sameL_iff {n n' : Nat} {p : Nat → Bool} : sameL n n' p = true ↔ n = n' ∧ ∀ i, i < n → p i = true := by simp [sameL]
theorem reqEq_iff {a b : SReq} : reqEq a b = true ↔ a = b := by
 constructor
 ·intro h
  obtain ⟨h1, h2, h3, h4⟩ := reqEq_neg h
  cases a; cases b; simp_all
 ·rintro rfl; simp [reqEq]
theorem signEq_iff {a b : SSign} : signEq a b = true ↔ a = b := by
 constructor
 ·intro h
  simp only [signEq, Bool.and_true, Bool.and_eq_true, decide_eq_true_eq] at h
  cases a; cases b; simp_all
 ·rintro rfl; simp [signEq]
theorem envEq_iff {a b : SEnv} : envEq a b = true ↔ a = b := by
 constructor
 ·intro h
  simp only [envEq, Bool.and_true, Bool.and_eq_true, decide_eq_true_eq] at h
  cases a; cases b; simp_all
 ·rintro rfl; simp [envEq]
theorem voteEq_iff {a b : SVote} : voteEq a b = true ↔ a = b := by
 constructor
 ·intro h
  simp only [voteEq, Bool.and_true, Bool.and_eq_true, decide_eq_true_eq] at h
  cases a; cases b; simp_all
 ·rintro rfl; simp [voteEq]
theorem sameBatch_iff {a b : SBatch} : sameBatchS a b = true ↔ a.noop = b.noop ∧ a.n = b.n ∧ ∀ i, i < a.n → a.req i = b.req i := by
 simp only [sameBatchS, Bool.and_eq_true, sameL_iff, reqEq_iff, beq_iff_eq]
theorem batch_rd {b : SBatch} (h : mayBatchS b = true) (ht : segBatch b) : Rd batchR (fun y => sameBatchS y b = true) (batchB b) := by
 intro s tail he hl
 simp only [mayBatchS, Bool.and_eq_true, Bool.not_eq_true', Bool.and_eq_false_iff, decide_eq_false_iff_not, allS_iff] at h
 obtain ⟨h1, h2, h3⟩ := h
 cases hno : b.noop with
 | true =>
  have hn0 : b.n = 0 := by
   rcases h1 with h1 | h1
   ·rw [hno] at h1; cases h1
   ·omega
  have hb : batchB b = putZ 0 := by simp [batchB, hno]
  rw [hb] at hl
  obtain ⟨a1, b1⟩ := num_rd (n := 0) (most := 5) (by decide) (by decide) (by decide) s _ he hl
  have e1 : batch1 s = ([], { s with l := tail }) := by unfold batch1; rw [a1, b1]; rfl
  unfold batchR
  rw [e1, if_pos he, a1]
  exact ⟨sameBatch_iff.2 ⟨by rw [hno]; rfl, hn0.symm, fun i hi => absurd hi (Nat.not_lt_zero i)⟩, rfl⟩
 | false =>
  have hb : batchB b = putZ ((b.n + 1 : Nat) : Int) ++ reqsB b.req b.n := by simp [batchB, hno]
  rw [hb, List.append_assoc] at hl
  obtain ⟨a1, b1⟩ := num_rd (n := ((b.n + 1 : Nat) : Int)) (most := 5) (by omega) (by omega) (by decide) s _ he hl
  have hs1 : (numR 5 s).2.e = 0 := by rw [b1]; exact he
  obtain ⟨q1, q2⟩ := stR_rd (one := reqR) (enc := reqB) (rel := fun x y => x = y) (el := b.req) hs1 b.n (fun i hi => req_rd (h3 i hi) (ht i hi)) tail (by rw [b1, reqsB_encs])
  have hk : (numR 5 s).1.toNat - 1 = b.n := by rw [a1]; omega
  have e2 : (batch1 s).2 = { s with l := tail } := by
   show (itR reqR ((numR 5 s).1.toNat - 1) (numR 5 s).2).2 = _
   rw [hk, itR_stR, q1, b1]
  have e1 : (batchR s).1 = batchOf (decide ((numR 5 s).1 = 0)) (batch1 s).1 := by
   show (if (batch1 s).2.e = 0 then _ else _) = _
   rw [if_pos (by rw [e2]; exact he)]
  refine ⟨?_, e2⟩
  rw [e1]
  have hlen : (batch1 s).1.length = b.n := by
   show (itR reqR ((numR 5 s).1.toNat - 1) (numR 5 s).2).1.length = _
   rw [itR_len, hk]
  refine sameBatch_iff.2 ⟨?_, hlen, fun i hi => ?_⟩
  ·show decide ((numR 5 s).1 = 0) = b.noop
   rw [hno, decide_eq_false_iff_not, a1]; omega
  ·have hi' : i < b.n := by rw [← hlen]; exact hi
   show (itR reqR ((numR 5 s).1.toNat - 1) (numR 5 s).2).1.getD i req0 = _
   rw [itR_get _ _ _ _ _ (by rw [hk]; exact hi')]
   exact q2 i hi'
structure segCert (c : SCert) : Prop where
 vote : SegOk 32 c.vote.digest
 sig : ∀ i, i < c.n → SegOk 16 (c.sig i).tag
structure segHeld (h : SHeld) : Prop where
 batch : segBatch h.batch
 cert : segCert h.cert
theorem sameCert_iff {a b : SCert} : sameCertS a b = true ↔ a.vote = b.vote ∧ a.n = b.n ∧ ∀ i, i < a.n → a.sig i = b.sig i := by
 simp only [sameCertS, Bool.and_eq_true, sameL_iff, signEq_iff, voteEq_iff]
theorem cert_rd {c : SCert} (h : mayCertS c = true) (ht : segCert c) : Rd certR (fun y => sameCertS y c = true) (certB c) := by
 intro s tail he hl
 simp only [mayCertS, Bool.and_eq_true, allS_iff] at h
 obtain ⟨h1, h2, h3⟩ := h
 simp only [certB, List.append_assoc] at hl
 obtain ⟨a1, b1⟩ := vote_rd h1 ht.vote s _ he hl
 obtain ⟨q1, q2, q3⟩ := get_rd (one := signR) (enc := signB) (rel := fun x y => x = y) (el := c.sig) (n := c.n) (most := 64) (by omega) (by decide) (fun i hi => sign_rd (h3 i hi) (ht.sig i hi)) (s := (voteR s).2) (by rw [b1]; exact he) (tail := tail) (by rw [b1, signsB_encs])
 refine ⟨?_, ?_⟩
 ·exact sameCert_iff.2 ⟨a1, q1, fun i hi => q2 i (by rw [← q1]; exact hi)⟩
 ·show getS signR 64 (voteR s).2 = _
  rw [q3, b1]
theorem held_rd {x : SHeld} (h : mayHeldS x = true) (ht : segHeld x) : Rd heldR (fun y => sameHeldS y x = true) (heldB x) := by
 intro s tail he hl
 simp only [mayHeldS, Bool.and_eq_true] at h
 simp only [heldB, List.append_assoc] at hl
 obtain ⟨a1, b1⟩ := batch_rd h.1 ht.batch s _ he hl
 obtain ⟨a2, b2⟩ := cert_rd h.2 ht.cert (batchR s).2 tail (by rw [b1]; exact he) (by rw [b1])
 refine ⟨?_, ?_⟩
 ·simp only [sameHeldS, Bool.and_eq_true]; exact ⟨a1, a2⟩
 ·show (certR (batchR s).2).2 = _
  rw [b2, b1]
end Go.Proofs.YtnmccoincblecaaGreat
namespace Go.Proofs.YtnmccoincblecaaGreat
open Go Sy Go.Proofs
/-- Arrays as they are: bytes, so many. -/
structure segMsg (m : SMsg) : Prop where
 batch : segBatch m.batch
 vote : SegOk 32 m.vote.digest
 held : ∀ i, i < m.nheld → segHeld (m.held i)
 news : ∀ i, i < m.nnews → SegOk 16 (m.news i).tag
 digest : SegOk 32 m.digest
 cert : segCert m.cert
 sig : ∀ i, i < m.n → SegOk 16 (m.sig i).tag
theorem sameHeld_iff {a b : SHeld} : sameHeldS a b = true ↔ sameBatchS a.batch b.batch = true ∧ sameCertS a.cert b.cert = true := by simp [sameHeldS]
structure SameM (a b : SMsg) : Prop where
 kind : a.kind = b.kind
 epoch : a.epoch = b.epoch
 leader : a.leader = b.leader
 view : a.view = b.view
 slot : a.slot = b.slot
 batch : sameBatchS a.batch b.batch = true
 vote : a.vote = b.vote
 cepoch : a.cepoch = b.cepoch
 cleader : a.cleader = b.cleader
 cview : a.cview = b.cview
 held : a.nheld = b.nheld ∧ ∀ i, i < a.nheld → sameHeldS (a.held i) (b.held i) = true
 news : a.nnews = b.nnews ∧ ∀ i, i < a.nnews → a.news i = b.news i
 digest : a.digest = b.digest
 cert : sameCertS a.cert b.cert = true
 state : a.state = b.state
 sig : a.n = b.n ∧ ∀ i, i < a.n → a.sig i = b.sig i
theorem sameMsg_iff {a b : SMsg} : sameMsgS a b = true ↔ SameM a b := by
 simp only [sameMsgS, sameChangeS, Bool.and_eq_true, decide_eq_true_eq, sameL_iff, signEq_iff, voteEq_iff, envEq_iff]
 constructor
 ·rintro ⟨h1, h2, h3, h4, h5, h6, h7, ⟨h8, h9, h10, h11⟩, h12, h13, h14, h15, h16⟩
  exact ⟨h1, h2, h3, h4, h5, h6, h7, h8, h9, h10, h11, h12, h13, h14, h15, h16⟩
 ·rintro ⟨h1, h2, h3, h4, h5, h6, h7, h8, h9, h10, h11, h12, h13, h14, h15, h16⟩
  exact ⟨h1, h2, h3, h4, h5, h6, h7, ⟨h8, h9, h10, h11⟩, h12, h13, h14, h15, h16⟩
theorem sameBatch_refl (b : SBatch) : sameBatchS b b = true := sameBatch_iff.2 ⟨rfl, rfl, fun _ _ => rfl⟩
theorem sameCert_refl (b : SCert) : sameCertS b b = true := sameCert_iff.2 ⟨rfl, rfl, fun _ _ => rfl⟩
theorem sameHeld_refl (b : SHeld) : sameHeldS b b = true := sameHeld_iff.2 ⟨sameBatch_refl _, sameCert_refl _⟩
theorem sameBatch_symm {a b : SBatch} (h : sameBatchS a b = true) : sameBatchS b a = true := by
 obtain ⟨h1, h2, h3⟩ := sameBatch_iff.1 h
 exact sameBatch_iff.2 ⟨h1.symm, h2.symm, fun i hi => (h3 i (by omega)).symm⟩
theorem sameCert_symm {a b : SCert} (h : sameCertS a b = true) : sameCertS b a = true := by
 obtain ⟨h1, h2, h3⟩ := sameCert_iff.1 h
 exact sameCert_iff.2 ⟨h1.symm, h2.symm, fun i hi => (h3 i (by omega)).symm⟩
theorem sameHeld_symm {a b : SHeld} (h : sameHeldS a b = true) : sameHeldS b a = true :=
 sameHeld_iff.2 ⟨sameBatch_symm (sameHeld_iff.1 h).1, sameCert_symm (sameHeld_iff.1 h).2⟩
theorem sameM_symm {a b : SMsg} (h : SameM a b) : SameM b a :=
 ⟨h.kind.symm, h.epoch.symm, h.leader.symm, h.view.symm, h.slot.symm, sameBatch_symm h.batch, h.vote.symm, h.cepoch.symm, h.cleader.symm, h.cview.symm, ⟨h.held.1.symm, fun i hi => sameHeld_symm (h.held.2 i (by have := h.held.1; omega))⟩, ⟨h.news.1.symm, fun i hi => (h.news.2 i (by have := h.news.1; omega)).symm⟩, h.digest.symm, sameCert_symm h.cert, h.state.symm, ⟨h.sig.1.symm, fun i hi => (h.sig.2 i (by have := h.sig.1; omega)).symm⟩⟩
theorem sameM_refl (m : SMsg) : SameM m m := ⟨rfl, rfl, rfl, rfl, rfl, sameBatch_refl _, rfl, rfl, rfl, rfl, ⟨rfl, fun _ _ => sameHeld_refl _⟩, ⟨rfl, fun _ _ => rfl⟩, rfl, sameCert_refl _, rfl, ⟨rfl, fun _ _ => rfl⟩⟩
/-- What a message that may be has. -/
structure Good (m : SMsg) : Prop where
 kind : 1 ≤ m.kind ∧ m.kind ≤ 8
 only : SameM m (onlyS m)
 vote : m.kind = 2 → mayVoteS m.vote = true
 cert : m.kind = 7 → mayCertS m.cert = true
 epoch : 0 ≤ m.epoch ∧ m.epoch ≤ 1048576
 slot : 0 ≤ m.slot ∧ m.slot ≤ 1099511627776
 view : 0 ≤ m.view ∧ m.view ≤ 1099511627776
 leader : 0 ≤ m.leader ∧ m.leader ≤ 64
 batch : mayBatchS m.batch = true
 cepoch : 0 ≤ m.cepoch ∧ m.cepoch ≤ 1048576
 cleader : 0 ≤ m.cleader ∧ m.cleader ≤ 64
 cview : 0 ≤ m.cview ∧ m.cview ≤ 1099511627776
 held : m.nheld ≤ 4 ∧ ∀ i, i < m.nheld → mayHeldS (m.held i) = true
 news : m.nnews ≤ 64 ∧ ∀ i, i < m.nnews → mayEnvS (m.news i) = true
 sig : m.n ≤ 64 ∧ ∀ i, i < m.n → maySignS (m.sig i) = true
 state : m.state.size ≤ 4194304
theorem good_iff {m : SMsg} : goodS m = true ↔ Good m := by
 simp only [goodS, mayChangeS, Bool.and_eq_true, decide_eq_true_eq, upto_iff, allS_iff, Bool.or_eq_true, Bool.not_eq_true', decide_eq_false_iff_not, sameMsg_iff]
 constructor
 ·rintro ⟨h1, h2, h3, h4, h5, h6, h7, h8, h9, h10, ⟨h11, h12, h13, h14⟩, h15, h16, h17⟩
  exact ⟨⟨h1, h2⟩, h3, fun h => h4.resolve_left (fun g => g h), fun h => h5.resolve_left (fun g => g h), h6, h7, h8, h9, h10, h11, h12, h13, h14, h15, h16, by omega⟩
 ·rintro ⟨⟨h1, h2⟩, h3, h4, h5, h6, h7, h8, h9, h10, h11, h12, h13, h14, h15, h16, h17⟩
  exact ⟨h1, h2, h3, (Classical.em (m.kind = 2)).elim (fun g => .inr (h4 g)) .inl, (Classical.em (m.kind = 7)).elim (fun g => .inr (h5 g)) .inl, h6, h7, h8, h9, h10, ⟨h11, h12, h13, h14⟩, h15, h16, by omega⟩
theorem fld1_rd {m : SMsg} (g : Good m) (ht : segMsg m) (hk : m.kind = 1) {s : RS} {t : List UInt8} (he : s.e = 0) (hb : s.l = bodyB m ++ t) : SameM (fld1 (msg0 m.kind) s).1 m ∧ (fld1 (msg0 m.kind) s).2 = { s with l := t } := by
 rw [bodyB] at hb
 rw [if_pos hk] at hb
 try simp only [numsB, List.append_nil, List.append_assoc] at hb
 have ho : SameM m (o1 m) := by have := g.only; rw [onlyS] at this; simpa [hk] using this
 obtain ⟨a1, b1⟩ := num_rd (n := m.epoch) (most := 1048576) g.epoch.1 g.epoch.2 (by decide) s _ he hb
 have e1 : f1S1 s = { s with l := putZ m.slot ++ (batchB m.batch ++ t) } := by show (numR 1048576 s).2 = _; rw [b1]
 obtain ⟨a2, b2⟩ := num_rd (n := m.slot) (most := 1099511627776) g.slot.1 g.slot.2 (by decide) (f1S1 s) _ (by rw [e1]; exact he) (by rw [e1])
 have e2 : f1S2 s = { s with l := batchB m.batch ++ t } := by show (numR 1099511627776 (f1S1 s)).2 = _; rw [b2, e1]
 obtain ⟨a3, b3⟩ := batch_rd g.batch ht.batch (f1S2 s) _ (by rw [e2]; exact he) (by rw [e2])
 have e3 : f1S3 s = { s with l := t } := by show (batchR (f1S2 s)).2 = _; rw [b3, e2]
 refine ⟨?_, e3⟩
 have hs := sameM_symm ho
 exact ⟨rfl, a1, hs.leader, hs.view, a2, a3, hs.vote, hs.cepoch, hs.cleader, hs.cview, hs.held, hs.news, hs.digest, hs.cert, hs.state, hs.sig⟩
theorem seg32 : SegOk 32 z32 := ⟨rfl, by decide⟩
theorem fld2_rd {m : SMsg} (g : Good m) (ht : segMsg m) (hk : m.kind = 2) {s : RS} {t : List UInt8} (he : s.e = 0) (hb : s.l = bodyB m ++ t) : SameM (fld2 (msg0 m.kind) s).1 m ∧ (fld2 (msg0 m.kind) s).2 = { s with l := t } := by
 rw [bodyB] at hb
 rw [if_neg (by omega)] at hb
 rw [if_pos hk] at hb
 try simp only [numsB, List.append_nil, List.append_assoc] at hb
 have ho : SameM m (o2 m) := by have := g.only; rw [onlyS] at this; simpa [hk] using this
 obtain ⟨a1, b1⟩ := vote_rd (g.vote hk) ht.vote s _ he hb
 have e1 : f2S1 s = { s with l := t } := by show (voteR s).2 = _; rw [b1]
 refine ⟨?_, e1⟩
 have hs := sameM_symm ho
 exact ⟨rfl, hs.epoch, hs.leader, hs.view, hs.slot, hs.batch, a1, hs.cepoch, hs.cleader, hs.cview, hs.held, hs.news, hs.digest, hs.cert, hs.state, hs.sig⟩
theorem fld3_rd {m : SMsg} (g : Good m) (ht : segMsg m) (hk : m.kind = 3) {s : RS} {t : List UInt8} (he : s.e = 0) (hb : s.l = bodyB m ++ t) : SameM (fld3 (msg0 m.kind) s).1 m ∧ (fld3 (msg0 m.kind) s).2 = { s with l := t } := by
 rw [bodyB] at hb
 rw [if_neg (by omega)] at hb
 rw [if_neg (by omega)] at hb
 rw [if_pos hk] at hb
 try simp only [numsB, List.append_nil, List.append_assoc] at hb
 have ho : SameM m (o3 m) := by have := g.only; rw [onlyS] at this; simpa [hk] using this
 obtain ⟨a1, b1⟩ := num_rd (n := m.cepoch) (most := 1048576) g.cepoch.1 g.cepoch.2 (by decide) s _ he hb
 have e1 : f3S1 s = { s with l := putZ m.cleader ++ (putZ m.cview ++ (putZ (m.nheld : Int) ++ (heldsB m.held m.nheld ++ t))) } := by show (numR 1048576 s).2 = _; rw [b1]
 obtain ⟨a2, b2⟩ := num_rd (n := m.cleader) (most := 64) g.cleader.1 g.cleader.2 (by decide) (f3S1 s) _ (by rw [e1]; exact he) (by rw [e1])
 have e2 : f3S2 s = { s with l := putZ m.cview ++ (putZ (m.nheld : Int) ++ (heldsB m.held m.nheld ++ t)) } := by show (numR 64 (f3S1 s)).2 = _; rw [b2, e1]
 obtain ⟨a3, b3⟩ := num_rd (n := m.cview) (most := 1099511627776) g.cview.1 g.cview.2 (by decide) (f3S2 s) _ (by rw [e2]; exact he) (by rw [e2])
 have e3 : f3S3 s = { s with l := putZ (m.nheld : Int) ++ (heldsB m.held m.nheld ++ t) } := by show (numR 1099511627776 (f3S2 s)).2 = _; rw [b3, e2]
 obtain ⟨n4, a4, b4⟩ := get_rd (one := heldR) (enc := heldB) (rel := fun x y => sameHeldS x y = true) (el := m.held) (n := m.nheld) (most := 4) (by have := g.held.1; omega) (by decide) (fun i hi => held_rd (g.held.2 i hi) (ht.held i hi)) (s := (f3S3 s)) (by rw [e3]; exact he) (tail := t) (by rw [e3]; simp only [numsB, List.append_nil, heldsB_encs])
 have e4 : f3S4 s = { s with l := t } := by show getS heldR 4 (f3S3 s) = _; rw [b4, e3]
 refine ⟨?_, e4⟩
 have hs := sameM_symm ho
 exact ⟨rfl, hs.epoch, hs.leader, hs.view, hs.slot, hs.batch, hs.vote, a1, a2, a3, ⟨n4, fun i hi => a4 i (by rw [← n4]; exact hi)⟩, hs.news, hs.digest, hs.cert, hs.state, hs.sig⟩
theorem fld4_rd {m : SMsg} (g : Good m) (ht : segMsg m) (hk : m.kind = 4) {s : RS} {t : List UInt8} (he : s.e = 0) (hb : s.l = bodyB m ++ t) : SameM (fld4 (msg0 m.kind) s).1 m ∧ (fld4 (msg0 m.kind) s).2 = { s with l := t } := by
 rw [bodyB] at hb
 rw [if_neg (by omega)] at hb
 rw [if_neg (by omega)] at hb
 rw [if_neg (by omega)] at hb
 rw [if_pos hk] at hb
 try simp only [numsB, List.append_nil, List.append_assoc] at hb
 have ho : SameM m (o4 m) := by have := g.only; rw [onlyS] at this; simpa [hk] using this
 obtain ⟨a1, b1⟩ := num_rd (n := m.epoch) (most := 1048576) g.epoch.1 g.epoch.2 (by decide) s _ he hb
 have e1 : f4S1 s = { s with l := putZ m.leader ++ (putZ m.view ++ (putZ (m.nnews : Int) ++ (envsB m.news m.nnews ++ t))) } := by show (numR 1048576 s).2 = _; rw [b1]
 obtain ⟨a2, b2⟩ := num_rd (n := m.leader) (most := 64) g.leader.1 g.leader.2 (by decide) (f4S1 s) _ (by rw [e1]; exact he) (by rw [e1])
 have e2 : f4S2 s = { s with l := putZ m.view ++ (putZ (m.nnews : Int) ++ (envsB m.news m.nnews ++ t)) } := by show (numR 64 (f4S1 s)).2 = _; rw [b2, e1]
 obtain ⟨a3, b3⟩ := num_rd (n := m.view) (most := 1099511627776) g.view.1 g.view.2 (by decide) (f4S2 s) _ (by rw [e2]; exact he) (by rw [e2])
 have e3 : f4S3 s = { s with l := putZ (m.nnews : Int) ++ (envsB m.news m.nnews ++ t) } := by show (numR 1099511627776 (f4S2 s)).2 = _; rw [b3, e2]
 obtain ⟨n4, a4, b4⟩ := get_rd (one := envR) (enc := envB) (rel := fun x y => x = y) (el := m.news) (n := m.nnews) (most := 64) (by have := g.news.1; omega) (by decide) (fun i hi => env_rd (g.news.2 i hi) (ht.news i hi)) (s := (f4S3 s)) (by rw [e3]; exact he) (tail := t) (by rw [e3]; simp only [numsB, List.append_nil, envsB_encs])
 have e4 : f4S4 s = { s with l := t } := by show getS envR 64 (f4S3 s) = _; rw [b4, e3]
 refine ⟨?_, e4⟩
 have hs := sameM_symm ho
 exact ⟨rfl, a1, a2, a3, hs.slot, hs.batch, hs.vote, hs.cepoch, hs.cleader, hs.cview, hs.held, ⟨n4, fun i hi => a4 i (by rw [← n4]; exact hi)⟩, hs.digest, hs.cert, hs.state, hs.sig⟩
theorem fld5_rd {m : SMsg} (g : Good m) (ht : segMsg m) (hk : m.kind = 5) {s : RS} {t : List UInt8} (he : s.e = 0) (hb : s.l = bodyB m ++ t) : SameM (fld5 (msg0 m.kind) s).1 m ∧ (fld5 (msg0 m.kind) s).2 = { s with l := t } := by
 rw [bodyB] at hb
 rw [if_neg (by omega)] at hb
 rw [if_neg (by omega)] at hb
 rw [if_neg (by omega)] at hb
 rw [if_neg (by omega)] at hb
 rw [if_pos hk] at hb
 try simp only [numsB, List.append_nil, List.append_assoc] at hb
 have ho : SameM m (o5 m) := by have := g.only; rw [onlyS] at this; simpa [hk] using this
 obtain ⟨a1, b1⟩ := num_rd (n := m.epoch) (most := 1048576) g.epoch.1 g.epoch.2 (by decide) s _ he hb
 have e1 : f5S1 s = { s with l := segB m.digest ++ t } := by show (numR 1048576 s).2 = _; rw [b1]
 obtain ⟨a2, b2⟩ := dig_rd ht.digest (f5S1 s) _ (by rw [e1]; exact he) (by rw [e1])
 have e2 : f5S2 s = { s with l := t } := by show (digR (f5S1 s)).2 = _; rw [b2, e1]
 refine ⟨?_, e2⟩
 have hs := sameM_symm ho
 exact ⟨rfl, a1, hs.leader, hs.view, hs.slot, hs.batch, hs.vote, hs.cepoch, hs.cleader, hs.cview, hs.held, hs.news, a2, hs.cert, hs.state, hs.sig⟩
theorem fld6_rd {m : SMsg} (g : Good m) (ht : segMsg m) (hk : m.kind = 6) {s : RS} {t : List UInt8} (he : s.e = 0) (hb : s.l = bodyB m ++ t) : SameM (fld6 (msg0 m.kind) s).1 m ∧ (fld6 (msg0 m.kind) s).2 = { s with l := t } := by
 rw [bodyB] at hb
 rw [if_neg (by omega)] at hb
 rw [if_neg (by omega)] at hb
 rw [if_neg (by omega)] at hb
 rw [if_neg (by omega)] at hb
 rw [if_neg (by omega)] at hb
 rw [if_pos hk] at hb
 try simp only [numsB, List.append_nil, List.append_assoc] at hb
 have ho : SameM m (o6 m) := by have := g.only; rw [onlyS] at this; simpa [hk] using this
 obtain ⟨a1, b1⟩ := num_rd (n := m.epoch) (most := 1048576) g.epoch.1 g.epoch.2 (by decide) s _ he hb
 have e1 : f6S1 s = { s with l := putZ m.slot ++ t } := by show (numR 1048576 s).2 = _; rw [b1]
 obtain ⟨a2, b2⟩ := num_rd (n := m.slot) (most := 1099511627776) g.slot.1 g.slot.2 (by decide) (f6S1 s) _ (by rw [e1]; exact he) (by rw [e1])
 have e2 : f6S2 s = { s with l := t } := by show (numR 1099511627776 (f6S1 s)).2 = _; rw [b2, e1]
 refine ⟨?_, e2⟩
 have hs := sameM_symm ho
 exact ⟨rfl, a1, hs.leader, hs.view, a2, hs.batch, hs.vote, hs.cepoch, hs.cleader, hs.cview, hs.held, hs.news, hs.digest, hs.cert, hs.state, hs.sig⟩
theorem fld7_rd {m : SMsg} (g : Good m) (ht : segMsg m) (hk : m.kind = 7) {s : RS} {t : List UInt8} (he : s.e = 0) (hb : s.l = bodyB m ++ t) : SameM (fld7 (msg0 m.kind) s).1 m ∧ (fld7 (msg0 m.kind) s).2 = { s with l := t } := by
 rw [bodyB] at hb
 rw [if_neg (by omega)] at hb
 rw [if_neg (by omega)] at hb
 rw [if_neg (by omega)] at hb
 rw [if_neg (by omega)] at hb
 rw [if_neg (by omega)] at hb
 rw [if_neg (by omega)] at hb
 rw [if_pos hk] at hb
 try simp only [numsB, List.append_nil, List.append_assoc] at hb
 have ho : SameM m (o7 m) := by have := g.only; rw [onlyS] at this; simpa [hk] using this
 obtain ⟨a1, b1⟩ := batch_rd g.batch ht.batch s _ he hb
 have e1 : f7S1 s = { s with l := certB m.cert ++ t } := by show (batchR s).2 = _; rw [b1]
 obtain ⟨a2, b2⟩ := cert_rd (g.cert hk) ht.cert (f7S1 s) _ (by rw [e1]; exact he) (by rw [e1])
 have e2 : f7S2 s = { s with l := t } := by show (certR (f7S1 s)).2 = _; rw [b2, e1]
 refine ⟨?_, e2⟩
 have hs := sameM_symm ho
 exact ⟨rfl, hs.epoch, hs.leader, hs.view, hs.slot, a1, hs.vote, hs.cepoch, hs.cleader, hs.cview, hs.held, hs.news, hs.digest, a2, hs.state, hs.sig⟩
theorem fld8_rd {m : SMsg} (g : Good m) (ht : segMsg m) (hk : m.kind = 8) {s : RS} {t : List UInt8} (he : s.e = 0) (hb : s.l = bodyB m ++ t) : SameM (fld8 (msg0 m.kind) s).1 m ∧ (fld8 (msg0 m.kind) s).2 = { s with l := t } := by
 rw [bodyB] at hb
 rw [if_neg (by omega)] at hb
 rw [if_neg (by omega)] at hb
 rw [if_neg (by omega)] at hb
 rw [if_neg (by omega)] at hb
 rw [if_neg (by omega)] at hb
 rw [if_neg (by omega)] at hb
 rw [if_neg (by omega)] at hb
 rw [if_pos hk] at hb
 try simp only [numsB, List.append_nil, List.append_assoc] at hb
 have ho : SameM m (o8 m) := by have := g.only; rw [onlyS] at this; simpa [hk] using this
 obtain ⟨a1, b1⟩ := text_rd (t := m.state) (most := 4194304) (by have := g.state; omega) (by decide) s _ he hb
 have e1 : f8S1 s = { s with l := putZ (m.n : Int) ++ (signsB m.sig m.n ++ t) } := by show (textR 4194304 s).2 = _; rw [b1]
 obtain ⟨n2, a2, b2⟩ := get_rd (one := signR) (enc := signB) (rel := fun x y => x = y) (el := m.sig) (n := m.n) (most := 64) (by have := g.sig.1; omega) (by decide) (fun i hi => sign_rd (g.sig.2 i hi) (ht.sig i hi)) (s := (f8S1 s)) (by rw [e1]; exact he) (tail := t) (by rw [e1]; simp only [numsB, List.append_nil, signsB_encs])
 have e2 : f8S2 s = { s with l := t } := by show getS signR 64 (f8S1 s) = _; rw [b2, e1]
 refine ⟨?_, e2⟩
 have hs := sameM_symm ho
 exact ⟨rfl, hs.epoch, hs.leader, hs.view, hs.slot, hs.batch, hs.vote, hs.cepoch, hs.cleader, hs.cview, hs.held, hs.news, hs.digest, hs.cert, a1, ⟨n2, fun i hi => a2 i (by rw [← n2]; exact hi)⟩⟩
theorem fields_rd {m : SMsg} (g : Good m) (ht : segMsg m) {s : RS} {t : List UInt8} (he : s.e = 0) (hl : s.l = bodyB m ++ t) : SameM (fieldsR (msg0 m.kind) s).1 m ∧ (fieldsR (msg0 m.kind) s).2 = { s with l := t } := by
 have hk := g.kind
 have hm : (msg0 m.kind).kind = m.kind := rfl
 have : m.kind = 1 ∨ m.kind = 2 ∨ m.kind = 3 ∨ m.kind = 4 ∨ m.kind = 5 ∨ m.kind = 6 ∨ m.kind = 7 ∨ m.kind = 8 := by omega
 rcases this with h | h | h | h | h | h | h | h
 ·have e : fieldsR (msg0 m.kind) s = fld1 (msg0 m.kind) s := by simp only [fieldsR, hm, if_pos h]
  rw [e]; exact fld1_rd g ht h he hl
 ·have e : fieldsR (msg0 m.kind) s = fld2 (msg0 m.kind) s := by simp only [fieldsR, hm, if_neg (show ¬ m.kind = 1 by omega), if_pos h]
  rw [e]; exact fld2_rd g ht h he hl
 ·have e : fieldsR (msg0 m.kind) s = fld3 (msg0 m.kind) s := by simp only [fieldsR, hm, if_neg (show ¬ m.kind = 1 by omega), if_neg (show ¬ m.kind = 2 by omega), if_pos h]
  rw [e]; exact fld3_rd g ht h he hl
 ·have e : fieldsR (msg0 m.kind) s = fld4 (msg0 m.kind) s := by simp only [fieldsR, hm, if_neg (show ¬ m.kind = 1 by omega), if_neg (show ¬ m.kind = 2 by omega), if_neg (show ¬ m.kind = 3 by omega), if_pos h]
  rw [e]; exact fld4_rd g ht h he hl
 ·have e : fieldsR (msg0 m.kind) s = fld5 (msg0 m.kind) s := by simp only [fieldsR, hm, if_neg (show ¬ m.kind = 1 by omega), if_neg (show ¬ m.kind = 2 by omega), if_neg (show ¬ m.kind = 3 by omega), if_neg (show ¬ m.kind = 4 by omega), if_pos h]
  rw [e]; exact fld5_rd g ht h he hl
 ·have e : fieldsR (msg0 m.kind) s = fld6 (msg0 m.kind) s := by simp only [fieldsR, hm, if_neg (show ¬ m.kind = 1 by omega), if_neg (show ¬ m.kind = 2 by omega), if_neg (show ¬ m.kind = 3 by omega), if_neg (show ¬ m.kind = 4 by omega), if_neg (show ¬ m.kind = 5 by omega), if_pos h]
  rw [e]; exact fld6_rd g ht h he hl
 ·have e : fieldsR (msg0 m.kind) s = fld7 (msg0 m.kind) s := by simp only [fieldsR, hm, if_neg (show ¬ m.kind = 1 by omega), if_neg (show ¬ m.kind = 2 by omega), if_neg (show ¬ m.kind = 3 by omega), if_neg (show ¬ m.kind = 4 by omega), if_neg (show ¬ m.kind = 5 by omega), if_neg (show ¬ m.kind = 6 by omega), if_pos h]
  rw [e]; exact fld7_rd g ht h he hl
 ·have e : fieldsR (msg0 m.kind) s = fld8 (msg0 m.kind) s := by simp only [fieldsR, hm, if_neg (show ¬ m.kind = 1 by omega), if_neg (show ¬ m.kind = 2 by omega), if_neg (show ¬ m.kind = 3 by omega), if_neg (show ¬ m.kind = 4 by omega), if_neg (show ¬ m.kind = 5 by omega), if_neg (show ¬ m.kind = 6 by omega), if_neg (show ¬ m.kind = 7 by omega), if_pos h]
  rw [e]; exact fld8_rd g ht h he hl
/-- What was put is read, whatever stands behind. -/
theorem decF_enc {m : SMsg} (h : goodS m = true) (ht : segMsg m) (t : List UInt8) : decK (encB m ++ t) = m.kind ∧ (dec1 (encB m ++ t)).e = 0 ∧ SameM (decF (encB m ++ t)).1 m ∧ (decF (encB m ++ t)).2 = { l := t } := by
 have g := good_iff.1 h
 have hk := g.kind
 obtain ⟨a1, b1⟩ := num_rd (n := m.kind) (most := 8) (by omega) hk.2 (by decide) { l := encB m ++ t } (bodyB m ++ t) rfl (by rw [encB, List.append_assoc])
 have e1 : dec1 (encB m ++ t) = { l := bodyB m ++ t } := b1
 have eK : decK (encB m ++ t) = m.kind := a1
 obtain ⟨q1, q2⟩ := fields_rd g ht (s := { l := bodyB m ++ t }) (t := t) rfl rfl
 have eF : decF (encB m ++ t) = fieldsR (msg0 m.kind) { l := bodyB m ++ t } := by rw [decF, eK, e1]
 exact ⟨eK, by rw [e1], by rw [eF]; exact q1, by rw [eF, q2]⟩
theorem dec_enc {m : SMsg} (h : goodS m = true) (ht : segMsg m) (hlen : (encB m).length ≤ 4194304) : (decR (encB m)).2 = 0 ∧ sameMsgS (decR (encB m)).1 m = true := by
 have hk := (good_iff.1 h).kind
 obtain ⟨eK, e1, q1, q2⟩ := decF_enc h ht []
 rw [List.append_nil] at eK e1 q1 q2
 have : decR (encB m) = ((decF (encB m)).1, 0) := by
  unfold decR
  rw [if_neg (by omega), if_neg (by rw [eK]; omega), if_neg (by rw [q2]; simp), if_neg (by rw [q2]; simp [doneR])]
 rw [this]
 exact ⟨rfl, sameMsg_iff.2 q1⟩
end Go.Proofs.YtnmccoincblecaaGreat
namespace Go.Proofs.YtnmccoincblecaaGreat
open Go Sy Go.Proofs
def encE (m : SMsg) : Int := if goodS m = true then (if 4194304 < (encB m).length then 3 else 0) else 130
def encT (m : SMsg) : ByteArray := if encE m = 0 then baL (encB m) else ByteArray.mk (Array.mk [])
theorem num63_of {n : Int} {k : Int} (h : 0 ≤ n ∧ n ≤ k) (hk : k < 9223372036854775808) : num63 n := ⟨h.1, by omega⟩
theorem reqOk_of {r : SReq} (h : mayReqS r = true) (ht : SegOk 16 r.tag) : ReqOk r ∧ r.data.size ≤ 10000 := by
 simp only [mayReqS, Bool.and_eq_true, decide_eq_true_eq, upto_iff] at h
 exact ⟨⟨num63_of h.1 (by decide), num63_of h.2.1 (by decide), by omega, ht⟩, by omega⟩
theorem batchOk_of {b : SBatch} (h : mayBatchS b = true) (ht : segBatch b) : BatchOk b := by
 simp only [mayBatchS, Bool.and_eq_true, Bool.not_eq_true', Bool.and_eq_false_iff, decide_eq_false_iff_not, allS_iff] at h
 obtain ⟨h1, h2, h3⟩ := h
 refine ⟨by omega, fun hn => ?_, fun k hk => (reqOk_of (h3 k hk) (ht k hk)).1, fun k hk => (reqOk_of (h3 k hk) (ht k hk)).2⟩
 rcases h1 with h1 | h1
 ·rw [hn] at h1; cases h1
 ·omega
theorem voteOk_of {v : SVote} (h : mayVoteS v = true) (ht : SegOk 32 v.digest) : VoteOk v := by
 simp only [mayVoteS, Bool.and_eq_true, Bool.or_eq_true, decide_eq_true_eq, upto_iff] at h
 obtain ⟨h1, h2, h3, h4⟩ := h
 exact ⟨⟨by omega, by omega⟩, num63_of h2 (by decide), num63_of h3 (by decide), num63_of h4 (by decide), ht⟩
theorem signOk_of {s : SSign} (h : maySignS s = true) (ht : SegOk 16 s.tag) : SignOk s := ⟨num63_of (upto_iff.1 h) (by decide), ht⟩
theorem certOk_of {c : SCert} (h : mayCertS c = true) (ht : segCert c) : CertOk c := by
 simp only [mayCertS, Bool.and_eq_true, allS_iff] at h
 exact ⟨voteOk_of h.1 ht.vote, by have := h.2.1; omega, fun k hk => signOk_of (h.2.2 k hk) (ht.sig k hk)⟩
theorem heldOk_of {x : SHeld} (h : mayHeldS x = true) (ht : segHeld x) : HeldOk x := by
 simp only [mayHeldS, Bool.and_eq_true] at h
 exact ⟨batchOk_of h.1 ht.batch, certOk_of h.2 ht.cert⟩
theorem envOk_of {x : SEnv} (h : mayEnvS x = true) (ht : SegOk 16 x.tag) : EnvOk x := by
 simp only [mayEnvS, Bool.and_eq_true, decide_eq_true_eq, upto_iff] at h
 exact ⟨num63_of h.1 (by decide), by have := h.2; omega, ht⟩
theorem encOk_of {m : SMsg} (h : goodS m = true) (ht : segMsg m) : EncOk m := by
 have g := good_iff.1 h
 exact ⟨g.kind, num63_of g.epoch (by decide), num63_of g.leader (by decide), num63_of g.view (by decide), num63_of g.slot (by decide), num63_of g.cepoch (by decide), num63_of g.cleader (by decide), num63_of g.cview (by decide),
  batchOk_of g.batch ht.batch, fun hk => voteOk_of (g.vote hk) ht.vote, by have := g.held.1; omega, fun k hk => heldOk_of (g.held.2 k hk) (ht.held k hk), by have := g.news.1; omega, fun k hk => envOk_of (g.news.2 k hk) (ht.news k hk),
  ht.digest, fun hk => certOk_of (g.cert hk) ht.cert, by have := g.state; omega, by have := g.sig.1; omega, fun k hk => signOk_of (g.sig.2 k hk) (ht.sig k hk)⟩
theorem fitM_good {m : SMsg} (h : goodS m = true) : FitM m := by
 have g := good_iff.1 h
 have hb : ∀ {b : SBatch}, mayBatchS b = true → b.n ≤ 1000000 := fun h => by
  simp only [mayBatchS, Bool.and_eq_true, allS_iff] at h
  have := h.2.1; omega
 have hc : ∀ {c : SCert}, mayCertS c = true → c.n ≤ 1000000 := fun h => by
  simp only [mayCertS, Bool.and_eq_true, allS_iff] at h
  have := h.2.1; omega
 refine ⟨hb g.batch, by have := g.held.1; omega, fun k hk => ?_, by have := g.news.1; omega, ?_, by have := g.sig.1; omega⟩
 ·have := g.held.2 k hk
  simp only [mayHeldS, Bool.and_eq_true] at this
  exact ⟨hb this.1, hc this.2⟩
 ·by_cases h7 : m.kind = 7
  ·exact hc (g.cert h7)
  ·have ho := g.only.cert
   have : (onlyS m).cert = { vote := vote0 } := by
    unfold onlyS
    repeat' split
    all_goals first | rfl
   rw [this] at ho
   have := (sameCert_iff.1 ho).2.1
   rw [this]; exact Nat.zero_le _
theorem T_encG {m : SMsg} (hf : FitM m) (ht : segMsg m) : T Tryz.prog 19 [.agg m.c] [] (.tup [.str (encT m), .int .i64 (encE m)]) [] := by
 have h := T_enc (m := m) (T_good hf) fun h => encOk_of h ht
 have e : encV m (goodS m) = .tup [.str (encT m), .int .i64 (encE m)] := by
  unfold encV encT encE
  cases goodS m with
  | false => rfl
  | true =>
   simp only [if_true]
   by_cases hl : 4194304 < (encB m).length
   ·simp only [if_pos hl]; rfl
   ·simp only [if_neg hl]; rfl
 rw [e] at h; exact h
end Go.Proofs.YtnmccoincblecaaGreat
namespace Go.Proofs.YtnmccoincblecaaGreat
open Go Sy Go.Proofs
def envZ : SEnv := { src := 0, body := baL [], tag := z16 }
def getR (l : List UInt8) : SEnv × Int := if doneR (envR { l := l }).2 = 0 then ((envR { l := l }).1, 0) else (envZ, doneR (envR { l := l }).2)
end Go.Proofs.YtnmccoincblecaaGreat
namespace Sy
open Go
variable {P : Program} {U : Imm} {ρ : Env}
theorem frz_ok {pre : Heap} {w : World} (hh : HRel U ρ pre w) : U.le (freeze U ρ pre w) ∧ Frozen U (freeze U ρ pre w) ρ pre ∧ HRel (freeze U ρ pre w) ρ [] w := by
 have hfU : ∀ n b l, (n, b) ∈ pre → ρ n = some l → l.real = true → U l.blk = none := fun n b l hm e hr => by
  obtain ⟨_, _, _, h⟩ := hh.real hm e hr; exact h
 refine ⟨fun k c e => ?_, fun n b hm l e hr => ?_, ?_⟩
 ·unfold freeze
  split
  ·rename_i hx
   obtain ⟨n, b, l, h1, h2, h3, rfl⟩ := hx
   rw [hfU n b l h1 h2 h3] at e; cases e
  ·exact e
 ·have hex : ∃ n b l', (n, b) ∈ pre ∧ ρ n = some l' ∧ l'.real = true ∧ l'.blk = l.blk := ⟨n, b, l, hm, e, hr, rfl⟩
  obtain ⟨o, h1, h2, h3⟩ := hh.real hm e hr
  constructor
  ·rintro cs rfl
   obtain ⟨c, el, lo, hi, rfl, _, _, h4⟩ := h2
   exact ⟨c, by unfold freeze; rw [if_pos hex, h1], h4⟩
  ·rintro es m f g rfl
   obtain ⟨c, el, lo, hi, rfl, _, _, _, _, h4⟩ := h2
   exact ⟨c, by unfold freeze; rw [if_pos hex, h1], h4⟩
 ·refine ⟨fun n b hm => absurd hm List.not_mem_nil, fun n b n' b' l l' hm => absurd hm List.not_mem_nil, List.nodup_nil, fun k c hk => ?_⟩
  unfold freeze at hk
  split at hk
  ·split at hk
   ·rename_i c' el fr hx
    simp only [Option.some.injEq] at hk; subst hk
    exact ⟨el, fr, hx⟩
   ·cases hk
  ·exact hh.imm k c hk
theorem Leaves.frz {pre post : Heap} {w w' : World} {val : V} {x : Value} {U' : Imm} {ρ' : Env} (H : HRel U ρ pre w) (L : Leaves (freeze U ρ pre w) ρ [] w val post x U' ρ' w') : Leaves U ρ pre w val post x U' ρ' w' := by
 refine ⟨L.val, L.heap, L.keep, L.only, ⟨L.ext.size, Imm.le_trans (frz_ok H).1 L.ext.imm, fun b hb _ => L.ext.frame b hb fun n l ⟨b, hb⟩ => absurd hb List.not_mem_nil, fun n l hd e hr => ?_, fun b c e => ?_, L.ext.out⟩⟩
 ·rcases L.ext.new n l hd e hr with h | ⟨_, _, ⟨b, hb⟩, _⟩
  ·exact .inl h
  ·exact absurd hb List.not_mem_nil
 ·rcases L.ext.newImm b c e with h | h | ⟨_, _, ⟨b, hb⟩, _⟩
  ·unfold freeze at h
   split at h
   ·rename_i hx
    obtain ⟨n, b', l, h1, h2, h3, h4⟩ := hx
    exact .inr (.inr ⟨n, l, ⟨b', h1⟩, h2, h3, h4⟩)
   ·exact .inl h
  ·exact .inr (.inl h)
  ·exact absurd hb List.not_mem_nil
/-- What holds of values that can't be turned holds of such as nobody turns any more. -/
theorem T.frz {f : FuncId} {args args' : List V} {pre post : Heap} {val : V} (h : T P f args [] val post)
  (hw : ∀ U ρ w xs, HRel U ρ pre w → VsRel U ρ args' xs → VsRel (freeze U ρ pre w) ρ args xs) (hd : ∀ n, Heap.dom post n → ¬ Heap.dom pre n) : T P f args' pre val post := by
 intro U ρ w xs hh ha hf
 refine Calls.mono (h _ ρ w xs (frz_ok hh).2.2 (hw U ρ w _ hh ha) fun n hn => .inr ((hf n hn).resolve_left (hd n hn))) ?_
 rintro e w' ⟨x, U', ρ', he, L⟩
 exact ⟨x, U', ρ', he, Leaves.frz hh L⟩
theorem TO.frz {pr : Prim} {args args' : List V} {pre post : Heap} {val : V} (h : TO P pr args [] val post)
  (hw : ∀ U ρ w xs, HRel U ρ pre w → VsRel U ρ args' xs → VsRel (freeze U ρ pre w) ρ args xs) (hd : ∀ n, Heap.dom post n → ¬ Heap.dom pre n) : TO P pr args' pre val post := by
 intro ty U ρ w xs hh ha hf
 obtain ⟨x, w', U', ρ', he, L⟩ := h ty _ ρ w xs (frz_ok hh).2.2 (hw U ρ w _ hh ha) fun n hn => .inr ((hf n hn).resolve_left (hd n hn))
 exact ⟨x, w', U', ρ', he, Leaves.frz hh L⟩
theorem frzH_ok {pre0 pre1 : Heap} {w : World} (hh : HRel U ρ (pre0 ++ pre1) w) : HRel (freeze U ρ pre1 w) ρ pre0 w := by
 have hl := hh.left
 obtain ⟨hU, hF, h00⟩ := frz_ok hh.right
 refine ⟨fun n b hm => ?_, hl.inj, hl.nd, h00.imm⟩
 obtain ⟨l, g1, g2⟩ := hl.blk n b hm
 refine ⟨l, g1, ?_⟩
 rcases g2 with ⟨hre, o, g3, g4, g5⟩ | g2
 ·refine .inl ⟨hre, o, g3, BRel.mono hU (fun _ _ h => h) g4, ?_⟩
  unfold freeze
  rw [if_neg]
  ·exact g5
  ·rintro ⟨n1, b1, l1, k1, k2, k3, k4⟩
   have := hh.inj n b n1 b1 l l1 (List.mem_append_left _ hm) (List.mem_append_right _ k1) g1 k2 hre k3 k4.symm
   subst this
   have hnd := hh.nd
   rw [List.map_append, List.nodup_append] at hnd
   exact hnd.2.2 n (dom_map.1 ⟨b, hm⟩) n (dom_map.1 ⟨b1, k1⟩) rfl
 ·exact .inr g2
theorem Leaves.frzH {pre0 pre1 post : Heap} {w w' : World} {val : V} {x : Value} {U' : Imm} {ρ' : Env} (H : HRel U ρ (pre0 ++ pre1) w) (L : Leaves (freeze U ρ pre1 w) ρ pre0 w val post x U' ρ' w') : Leaves U ρ (pre0 ++ pre1) w val post x U' ρ' w' := by
 refine ⟨L.val, L.heap, L.keep, L.only, ⟨L.ext.size, Imm.le_trans (frz_ok H.right).1 L.ext.imm, fun b hb hn => L.ext.frame b hb fun n l hd0 => hn n l (dom_append.2 (.inl hd0)), fun n l hd0 e hr0 => ?_, fun b c e => ?_, L.ext.out⟩⟩
 ·rcases L.ext.new n l hd0 e hr0 with h | ⟨n0, l0, h1, h2, h3, h4⟩
  ·exact .inl h
  ·exact .inr ⟨n0, l0, dom_append.2 (.inl h1), h2, h3, h4⟩
 ·rcases L.ext.newImm b c e with h | h | ⟨n0, l0, h1, h2, h3, h4⟩
  ·unfold freeze at h
   split at h
   ·rename_i hx
    obtain ⟨n, b', l, h1, h2, h3, h4⟩ := hx
    exact .inr (.inr ⟨n, l, dom_append.2 (.inr ⟨b', h1⟩), h2, h3, h4⟩)
   ·exact .inl h
  ·exact .inr (.inl h)
  ·exact .inr (.inr ⟨n0, l0, dom_append.2 (.inl h1), h2, h3, h4⟩)
/-- The same, of a call that turns other blocks. -/
theorem T.frzH {f : FuncId} {args args' : List V} {pre0 pre1 post : Heap} {val : V} (h : T P f args pre0 val post)
  (hw : ∀ U ρ w xs, HRel U ρ pre1 w → VsRel U ρ args' xs → VsRel (freeze U ρ pre1 w) ρ args xs) (hd : ∀ n, Heap.dom post n → ¬ Heap.dom pre1 n) : T P f args' (pre0 ++ pre1) val post := by
 intro U ρ w xs hh ha hf
 refine Calls.mono (h _ ρ w xs (frzH_ok hh) (hw U ρ w _ hh.right ha) fun n hn => ?_) ?_
 ·rcases hf n hn with h1 | h1
  ·exact .inl ((dom_append.1 h1).resolve_right (hd n hn))
  ·exact .inr h1
 rintro e w' ⟨x, U', ρ', he, L⟩
 exact ⟨x, U', ρ', he, Leaves.frzH hh L⟩
theorem TO.frzH {pr : Prim} {args args' : List V} {pre0 pre1 post : Heap} {val : V} (h : TO P pr args pre0 val post)
  (hw : ∀ U ρ w xs, HRel U ρ pre1 w → VsRel U ρ args' xs → VsRel (freeze U ρ pre1 w) ρ args xs) (hd : ∀ n, Heap.dom post n → ¬ Heap.dom pre1 n) : TO P pr args' (pre0 ++ pre1) val post := by
 intro ty U ρ w xs hh ha hf
 obtain ⟨x, w', U', ρ', he, L⟩ := h ty _ ρ w xs (frzH_ok hh) (hw U ρ w _ hh.right ha) fun n hn => by
  rcases hf n hn with h1 | h1
  ·exact .inl ((dom_append.1 h1).resolve_right (hd n hn))
  ·exact .inr h1
 exact ⟨x, w', U', ρ', he, Leaves.frzH hh L⟩
/-- Arguments that are taken for weaker ones, as blocks are only looked at from then on. -/
theorem hw_of {pre : Heap} {args args' : List V} {cs : List Prop} (hl : leVs pre args' args = some cs) (hc : All cs) : ∀ U ρ w xs, HRel U ρ pre w → VsRel U ρ args' xs → VsRel (freeze U ρ pre w) ρ args xs :=
 fun _ _ _ xs H hv => leVs_ok (frz_ok H).1 (frz_ok H).2.1 _ _ _ xs hl hc hv
theorem T_two {u v : V} {xs : List Value} (h : VsRel U ρ [u, v] xs) : ∃ x y, xs = [x, y] ∧ VRel U ρ u x ∧ VRel U ρ v y := by
 rw [VsRel] at h
 obtain ⟨x, r, rfl, h1, h2⟩ := h
 rw [VsRel] at h2
 obtain ⟨y, r', rfl, h3, h4⟩ := h2
 rw [VsRel] at h4
 subst h4
 exact ⟨x, y, rfl, h1, h3⟩
theorem CsRel.at {cs : List V} {l : List Value} (h : CsRel U ρ cs l) (hc : ∀ v ∈ cs, V.cell v = true) : ∀ (i : Nat) (v : V), cs[i]? = some v → ∃ z : Value, l[i]? = some z ∧ VRel U ρ v z := by
 induction cs generalizing l with
 | nil => intro i v e; simp at e
 | cons a t ih =>
  rw [CsRel] at h
  obtain ⟨l1, l2, rfl, h1, h2⟩ := h
  have ha := hc a (List.mem_cons_self ..)
  rcases h1 with ⟨k, m, xs, rfl, _⟩ | ⟨_, x, rfl, hx⟩
  ·cases ha
  ·intro i v e
   cases i with
   | zero => simp only [List.getElem?_cons_zero, Option.some.injEq] at e; subst e; exact ⟨x, rfl, hx⟩
   | succ i => exact ih h2 (fun v hv => hc v (List.mem_cons_of_mem _ hv)) i v (by simpa using e)
/-- A slice of a block of values, taken for good. -/
theorem ros_of_flat {pre : Heap} {w : World} (H : HRel U ρ pre w) {x : Nm} {cs : List V} (hm : (x, B.flat cs) ∈ pre) {len : Nat} {cap : Option Nat} {y : Value} (hv : VRel U ρ (.sl x 0 0 0 0 len cap) y) {f : Nat → V} {clip : Bool} (hcl : clip = true → cap = some len)
  (hone : ∀ v ∈ cs, V.cell v = true) (h : ∀ i, i < len → V.cell (f i) = true ∧ ∃ v, cs[i]? = some v ∧ ∀ z, VRel U ρ v z → VRel (freeze U ρ pre w) Env.none (f i) z) : VRel (freeze U ρ pre w) ρ (.ros 1 len (fun i => [f i]) clip) y := by
 obtain ⟨l, hl, g⟩ := H.blk x _ hm
 rcases g with ⟨hr, o, g1, g2, g3⟩ | ⟨_, es, f', g⟩
 ·obtain ⟨c, hc, h4⟩ := ((frz_ok H).2.1 x _ hm l hl hr).1 cs rfl
  rw [VRel] at hv
  obtain ⟨l', cp, e1, e2, e3, e4⟩ := hv
  rw [hl] at e1; cases e1
  rcases e4 with ⟨_, rfl, _⟩ | ⟨hr', _⟩
  ·rw [VRel]
   refine ⟨_, cp, rfl, e2, fun hc => e3 len (hcl hc), fun i hi => ⟨l.blk, 0, c, by simp, hc, ?_⟩⟩
   obtain ⟨k1, v, k2, k3⟩ := h i hi
   obtain ⟨z, k4, k5⟩ := CsRel.at h4 hone i v k2
   refine ⟨[z], ?_, rfl, fun k hk => ?_⟩
   ·rw [CsRel]; exact ⟨[z], [], rfl, .inr ⟨k1, z, rfl, k3 z k5⟩, by rw [CsRel]⟩
   ·have : k = 0 := by simpa using hk
    subst this
    simpa using k4
  ·rw [hr] at hr'; cases hr'
 ·cases g
/-- A slice of a block's bytes, taken for good. -/
theorem ros_of_seg {pre : Heap} {w : World} (H : HRel U ρ pre w) {b : Nm} {k : IntKind} {m : Nat} {xs : List Int} (hm : (b, B.flat [.seg k m xs]) ∈ pre) {len : Nat} {cap : Option Nat} {z : Value} (hv : VRel U ρ (.sl b 0 0 0 0 len cap) z)
  (hlen : len ≤ m) {f : Nat → List V} (hf : ∀ i, i < len → f i = [.int k (xs.getD i 0)]) {ρ' : Env} : VRel (freeze U ρ pre w) ρ' (.ros 1 len f false) z := by
 obtain ⟨l, hl, g⟩ := H.blk b _ hm
 rcases g with ⟨hr, o, g1, g2, g3⟩ | ⟨_, es, f', g⟩
 ·obtain ⟨c, hc, h4⟩ := ((frz_ok H).2.1 b _ hm l hl hr).1 _ rfl
  rw [VRel] at hv
  obtain ⟨l', cp, e1, e2, e3, e4⟩ := hv
  rw [hl] at e1; cases e1
  rcases e4 with ⟨_, rfl, _⟩ | ⟨hr', _⟩
  ·rw [CsRel] at h4
   obtain ⟨l1, l2, h5, h6, h7⟩ := h4
   rw [CsRel] at h7
   subst h7
   rcases h6 with ⟨k', m', xs', hk, hlx, rfl⟩ | ⟨hx, _⟩
   ·cases hk
    rw [VRel]
    refine ⟨_, cp, rfl, e2, fun hh => absurd hh (by simp), fun i hi => ⟨l.blk, 0, c, by simp, hc, ?_⟩⟩
    rw [hf i hi]
    refine ⟨[.int k (xs.getD i 0)], ?_, rfl, fun j hj => ?_⟩
    ·rw [CsRel]; exact ⟨[.int k (xs.getD i 0)], [], rfl, .inr ⟨rfl, _, rfl, by rw [VRel]⟩, by rw [CsRel]⟩
    ·have : j = 0 := by simpa using hj
     subst this
     have hi' : i < xs.length := by omega
     have e : c[i]? = c.toList[i]? := by simp
     simp only [Nat.zero_add, Nat.mul_one, Nat.add_zero, List.getElem?_cons_zero]
     rw [e, h5, List.append_nil, List.getElem?_map, List.getElem?_eq_getElem hi', List.getD_eq_getElem?_getD, List.getElem?_eq_getElem hi']
     rfl
   ·cases hx
  ·rw [hr] at hr'; cases hr'
 ·cases g
theorem TO_app {base : Nat} {t tx : TypeId} {d s val : V} {post : Heap} {cs : List Prop} (h : appendH P base t tx d s [] [] = some (val, post, cs)) (hc : All cs) (hn : ∀ ρ : Env, (∀ n, Heap.dom post n → ρ n = none) → ρ (.o base) = none) :
  TO P (.append t tx) [d, s] [] val post := by
 intro ty U ρ w xs H hv hf
 obtain ⟨x, y, rfl, h1, h2⟩ := T_two hv
 obtain ⟨z, w', U', ρ', e, L⟩ := appendH_ok (ty := ty) h hc h1 h2 H (hn ρ fun n hn => (hf n hn).resolve_left fun ⟨b, hb⟩ => absurd hb List.not_mem_nil)
 exact ⟨z, w', U', ρ', .inl (by simp only [Prim.exec, Sem.run_bind, e, Result.andThen_ok, Sem.run_pure]), L⟩
theorem TO_cpy {t tx : TypeId} {d s val : V} {pre post : Heap} {cs : List Prop} (h : copyH P t d s pre = some (val, post, cs)) (hc : All cs) : TO P (.copy t tx) [d, s] pre val post := by
 intro ty U ρ w xs H hv hf
 obtain ⟨x, y, rfl, h1, h2⟩ := T_two hv
 obtain ⟨z, w', U', ρ', e, L⟩ := copyH_ok (tx := tx) (ty := ty) h hc h1 h2 H
 exact ⟨z, w', U', ρ', .inl (by simp only [Prim.exec, Sem.run_bind, e, Result.andThen_ok, Sem.run_pure]), L⟩
theorem VRel.ros {U U' : Imm} {ρ ρ' : Env} (hU : U.le U') {es len : Nat} {f : Nat → List V} {clip : Bool} {z : Value} (h : VRel U ρ (.ros es len f clip) z) : VRel U' ρ' (.ros es len f clip) z := by
 have := VRel.mono (ρ' := ρ) hU (fun _ _ h => h) h
 rw [VRel] at this ⊢; exact this
end Sy
namespace Go.Proofs.YtnmccoincblecaaGreat
open Go Sy Go.Proofs
noncomputable def bdPutR (n : Nat) (l : List UInt8) (c : Bool) : Bd := { f := Tryz.f35, args := [.ros 1 l.length (bl l) c, .int .i64 n], base := 1, kb := { db := dbSize (digs 8 n).length, lp := lpPutJ n l }, k := kPutJ n l, names := fun _ => [.o 1] }
def bodyL (r : SReq) : List UInt8 := [82] ++ putZ r.client ++ putZ r.num ++ textB r.data
noncomputable def bdRbo (r : SReq) : Bd := { f := Tryz.f68, args := [.agg r.c], kb := { db := dbSeqF 0 [(35, 5, fun a _ lo => cNew ([82] ++ putZ r.client) a lo), (35, 8, fun a _ lo => cNew ([82] ++ putZ r.client ++ putZ r.num) a lo), (34, 13, fun a _ lo => cNew (bodyL r) a lo)] } }
noncomputable def bdGt (s : ByteArray) (s0 s1 s2 s3 : RS) (x : SEnv) (xs : List UInt8) (d : Int) : Bd := { f := Tryz.f8, args := [.str s], kb := { db := dbF [(24, fun _ _ lo => [{ val := .ptr (.o lo) 0 0 0 0, post := [(.o lo, rdB s0)] }]), (25, cRd (.int .i64 x.src) s1), (26, cRd (.str x.body) s2), (27, cRdS (rawCl 16 xs s3)), (28, cRd (.int .i64 d) s3)] } }
end Go.Proofs.YtnmccoincblecaaGreat
