/-
  Contracts and laws that the claim's theorem leans on, joined out of the texts Tb3 Tb4D Tb4 Te0 Te1 Te2 Te3 Te4 Qa0 SyFrz Qa1D Qa1 SySha Ka1D Ka1 (own work of this seat): Contracts: certs, what was held and a message's fields are read; Contracts: a message is read; Contracts: a message is read; The plain law: what is put is read again, what is read was put. Numbers, texts, raw bytes; The plain law: texts, raw bytes, requests, batches, signs, envelopes, votes, lists; The plain law: signs, envelopes, votes, batches, certs, what was held; The plain law of messages: what was put is read, what is read was put; What a message that may be has; its bytes, or why not; The plain law: an envelope that is put is read again; Blocks that a call takes for good: they are only looked at from then on; Contracts: a number behind bytes that stay; the body that a request's tag is of; an envelope's bytes; Contracts: a number behind bytes that stay; the body that a request's tag is of; an envelope's bytes; The digest's numbers, plainly; Contracts: what the digest's rounds compute; Contracts: what the digest's rounds compute.
-/
import Derived.Test.YtnmccoincblecaaGreatC03
import Derived.Test.YtnmccoincblecaaGreatC04
import Derived.Test.YtnmccoincblecaaGreatC06
set_option linter.unusedVariables false
set_option linter.unusedSimpArgs false
set_option maxHeartbeats 1000000
namespace Go.Proofs.YtnmccoincblecaaGreat
open Go Sy Go.Proofs
theorem bB7 (s : RS) (s1 : RS) (s2 : RS) (v : SVote) (n : Nat) (g : Nat → SSign) :
  e9 zp (cd8 s s1 s2 v n g) [] = (some (.agg [.int .i64 (SVote.kind v), .int .i64 (SVote.epoch v), .int .i64 (SVote.view v), .int .i64 (SVote.slot v), .seg .u8 32 (SVote.digest v), sg n g], [(.o 0, .flat [.ptr (.o 1) 0 0 0 0, .bool (RS.bad s2)]), (.o 1, rdB s2)], [T zp 108 [.ptr (.o 0) 0 0 0 0] [(.o 0, .flat [.ptr (.o 1) 0 0 0 0, .bool (RS.bad s)]), (.o 1, rdB s)] (.agg (SVote.c v)) [(.o 0, .flat [.ptr (.o 1) 0 0 0 0, .bool (RS.bad s1)]), (.o 1, rdB s1)], T zp 115 [.ptr (.o 0) 0 0 0 0, .int .i64 64, .fn (.func 116) [.ptr (.o 0) 0 0 0 0] []] [(.o 0, .flat [.ptr (.o 1) 0 0 0 0, .bool (RS.bad s1)]), (.o 1, rdB s1)] (sg n g) [(.o 0, .flat [.ptr (.o 1) 0 0 0 0, .bool (RS.bad s2)]), (.o 1, rdB s2)], q0, q0, q0, q (RS.bad s2), q (List.length (RS.l s2)), ∀ (k : Nat), k < List.length (RS.l s2) → bl (RS.l s2) k = bl (RS.l s2) k, false = true → false = true, q (RS.e s2), q2, q (SVote.kind v), q (SVote.epoch v), q (SVote.view v), q (SVote.slot v), q (32 : Nat), q (SVote.digest v), q n, ∀ (k : Nat), k < n → SSign.c (g k) = SSign.c (g k), false = true → false = true, q0, q0, q0]) : Option (V × c5 × List Prop)) := by kernel_rfl
theorem bB_ (s : RS) (s1 : RS) (s2 : RS) (b : SBatch) (c : SCert) :
  e9 zp (ce4 s s1 s2 b c) [] = (some (.agg [.bool (SBatch.noop b), rq (SBatch.n b) (SBatch.req b), .int .i64 (SVote.kind (SCert.vote c)), .int .i64 (SVote.epoch (SCert.vote c)), .int .i64 (SVote.view (SCert.vote c)), .int .i64 (SVote.slot (SCert.vote c)), .seg .u8 32 (SVote.digest (SCert.vote c)), sg (SCert.n c) (SCert.sig c)], [(.o 0, .flat [.ptr (.o 1) 0 0 0 0, .bool (RS.bad s2)]), (.o 1, rdB s2)], [T zp 107 [.ptr (.o 1) 0 0 0 0] [(.o 1, rdB s)] (.agg (SBatch.c b)) [(.o 1, rdB s1)], T zp 114 [.ptr (.o 0) 0 0 0 0] [(.o 0, .flat [.ptr (.o 1) 0 0 0 0, .bool (RS.bad s)]), (.o 1, rdB s1)] (.agg (SCert.c c)) [(.o 0, .flat [.ptr (.o 1) 0 0 0 0, .bool (RS.bad s2)]), (.o 1, rdB s2)], q0, q0, q0, q (RS.bad s2), q (List.length (RS.l s2)), ∀ (k : Nat), k < List.length (RS.l s2) → bl (RS.l s2) k = bl (RS.l s2) k, false = true → false = true, q (RS.e s2), q2, q (SBatch.noop b), q (SBatch.n b), ∀ (k : Nat), k < SBatch.n b → SReq.c (SBatch.req b k) = SReq.c (SBatch.req b k), false = true → false = true, q (SVote.kind (SCert.vote c)), q (SVote.epoch (SCert.vote c)), q (SVote.view (SCert.vote c)), q (SVote.slot (SCert.vote c)), q (32 : Nat), q (SVote.digest (SCert.vote c)), q (SCert.n c), ∀ (k : Nat), k < SCert.n c → SSign.c (SCert.sig c k) = SSign.c (SCert.sig c k), false = true → false = true, q0, q0, q0]) : Option (V × c5 × List Prop)) := by kernel_rfl
theorem bB9 (m : SMsg) (s : RS) (t1 : RS) (t2 : RS) (t3 : RS) (x0 : Int) (x1 : Int) (x2 : SBatch) :
  e9 zp (bdF1 m s t1 t2 t3 x0 x1 x2) [true] = (some (.tup [], [(.o 0, .flat [.ptr (.o 1) 0 0 0 0, .bool (RS.bad t3)]), (.o 1, rdB t3), (.o 2, .flat (SMsg.c (SMsg.mk (SMsg.kind m) x0 (SMsg.leader m) (SMsg.view m) x1 x2 (SMsg.vote m) (SMsg.cepoch m) (SMsg.cleader m) (SMsg.cview m) (SMsg.nheld m) (SMsg.held m) (SMsg.nnews m) (SMsg.news m) (SMsg.digest m) (SMsg.cert m) (SMsg.state m) (SMsg.n m) (SMsg.sig m))))], [decide (SMsg.kind m = (1 : Int)) = true, T zp 25 [.ptr (.o 1) 0 0 0 0, .int .i64 1048576] [(.o 1, rdB s)] (.int .i64 x0) [(.o 1, rdB t1)], T zp 25 [.ptr (.o 1) 0 0 0 0, .int .i64 1099511627776] [(.o 1, rdB t1)] (.int .i64 x1) [(.o 1, rdB t2)], T zp 107 [.ptr (.o 1) 0 0 0 0] [(.o 1, rdB t2)] (.agg (SBatch.c x2)) [(.o 1, rdB t3)], q0, q0, q0, RS.bad s = RS.bad t3, q (List.length (RS.l t3)), ∀ (k : Nat), k < List.length (RS.l t3) → bl (RS.l t3) k = bl (RS.l t3) k, false = true → false = true, q (RS.e t3), q2, q (SMsg.kind m), q x0, q (SMsg.leader m), q (SMsg.view m), q x1, q (SBatch.noop x2), q (SBatch.n x2), ∀ (k : Nat), k < SBatch.n x2 → SReq.c (SBatch.req x2 k) = SReq.c (SBatch.req x2 k), false = true → false = true, q (SVote.kind (SMsg.vote m)), q (SVote.epoch (SMsg.vote m)), q (SVote.view (SMsg.vote m)), q (SVote.slot (SMsg.vote m)), q (32 : Nat), q (SVote.digest (SMsg.vote m)), q (SMsg.cepoch m), q (SMsg.cleader m), q (SMsg.cview m), q (SMsg.nheld m), ∀ (k : Nat), k < SMsg.nheld m → SHeld.c (SMsg.held m k) = SHeld.c (SMsg.held (SMsg.mk (SMsg.kind m) x0 (SMsg.leader m) (SMsg.view m) x1 x2 (SMsg.vote m) (SMsg.cepoch m) (SMsg.cleader m) (SMsg.cview m) (SMsg.nheld m) (SMsg.held m) (SMsg.nnews m) (SMsg.news m) (SMsg.digest m) (SMsg.cert m) (SMsg.state m) (SMsg.n m) (SMsg.sig m)) k), false = true → false = true, q (SMsg.nnews m), ∀ (k : Nat), k < SMsg.nnews m → SEnv.c (SMsg.news m k) = SEnv.c (SMsg.news (SMsg.mk (SMsg.kind m) x0 (SMsg.leader m) (SMsg.view m) x1 x2 (SMsg.vote m) (SMsg.cepoch m) (SMsg.cleader m) (SMsg.cview m) (SMsg.nheld m) (SMsg.held m) (SMsg.nnews m) (SMsg.news m) (SMsg.digest m) (SMsg.cert m) (SMsg.state m) (SMsg.n m) (SMsg.sig m)) k), false = true → false = true, q (32 : Nat), q (SMsg.digest m), q (SVote.kind (SCert.vote (SMsg.cert m))), q (SVote.epoch (SCert.vote (SMsg.cert m))), q (SVote.view (SCert.vote (SMsg.cert m))), q (SVote.slot (SCert.vote (SMsg.cert m))), q (32 : Nat), q (SVote.digest (SCert.vote (SMsg.cert m))), q (SCert.n (SMsg.cert m)), ∀ (k : Nat), k < SCert.n (SMsg.cert m) → SSign.c (SCert.sig (SMsg.cert m) k) = SSign.c (SCert.sig (SMsg.cert m) k), false = true → false = true, q (SMsg.state m), q (SMsg.n m), ∀ (k : Nat), k < SMsg.n m → SSign.c (SMsg.sig m k) = SSign.c (SMsg.sig (SMsg.mk (SMsg.kind m) x0 (SMsg.leader m) (SMsg.view m) x1 x2 (SMsg.vote m) (SMsg.cepoch m) (SMsg.cleader m) (SMsg.cview m) (SMsg.nheld m) (SMsg.held m) (SMsg.nnews m) (SMsg.news m) (SMsg.digest m) (SMsg.cert m) (SMsg.state m) (SMsg.n m) (SMsg.sig m)) k), false = true → false = true]) : Option (V × c5 × List Prop)) := by kernel_rfl
theorem bh5 (m : SMsg) (s : RS) (t1 : RS) (x0 : SVote) :
  e9 zp (bdF2 m s t1 x0) [false, true] = (some (.tup [], [(.o 0, .flat [.ptr (.o 1) 0 0 0 0, .bool (RS.bad t1)]), (.o 1, rdB t1), (.o 2, .flat (SMsg.c (SMsg.mk (SMsg.kind m) (SMsg.epoch m) (SMsg.leader m) (SMsg.view m) (SMsg.slot m) (SMsg.batch m) x0 (SMsg.cepoch m) (SMsg.cleader m) (SMsg.cview m) (SMsg.nheld m) (SMsg.held m) (SMsg.nnews m) (SMsg.news m) (SMsg.digest m) (SMsg.cert m) (SMsg.state m) (SMsg.n m) (SMsg.sig m))))], [decide (SMsg.kind m = (1 : Int)) = false, decide (SMsg.kind m = (2 : Int)) = true, T zp 108 [.ptr (.o 0) 0 0 0 0] [(.o 0, .flat [.ptr (.o 1) 0 0 0 0, .bool (RS.bad s)]), (.o 1, rdB s)] (.agg (SVote.c x0)) [(.o 0, .flat [.ptr (.o 1) 0 0 0 0, .bool (RS.bad t1)]), (.o 1, rdB t1)], q0, q0, q0, q (RS.bad t1), q (List.length (RS.l t1)), ∀ (k : Nat), k < List.length (RS.l t1) → bl (RS.l t1) k = bl (RS.l t1) k, false = true → false = true, q (RS.e t1), q2, q (SMsg.kind m), q (SMsg.epoch m), q (SMsg.leader m), q (SMsg.view m), q (SMsg.slot m), q (SBatch.noop (SMsg.batch m)), q (SBatch.n (SMsg.batch m)), ∀ (k : Nat), k < SBatch.n (SMsg.batch m) → SReq.c (SBatch.req (SMsg.batch m) k) = SReq.c (SBatch.req (SMsg.batch m) k), false = true → false = true, q (SVote.kind x0), q (SVote.epoch x0), q (SVote.view x0), q (SVote.slot x0), q (32 : Nat), q (SVote.digest x0), q (SMsg.cepoch m), q (SMsg.cleader m), q (SMsg.cview m), q (SMsg.nheld m), ∀ (k : Nat), k < SMsg.nheld m → SHeld.c (SMsg.held m k) = SHeld.c (SMsg.held (SMsg.mk (SMsg.kind m) (SMsg.epoch m) (SMsg.leader m) (SMsg.view m) (SMsg.slot m) (SMsg.batch m) x0 (SMsg.cepoch m) (SMsg.cleader m) (SMsg.cview m) (SMsg.nheld m) (SMsg.held m) (SMsg.nnews m) (SMsg.news m) (SMsg.digest m) (SMsg.cert m) (SMsg.state m) (SMsg.n m) (SMsg.sig m)) k), false = true → false = true, q (SMsg.nnews m), ∀ (k : Nat), k < SMsg.nnews m → SEnv.c (SMsg.news m k) = SEnv.c (SMsg.news (SMsg.mk (SMsg.kind m) (SMsg.epoch m) (SMsg.leader m) (SMsg.view m) (SMsg.slot m) (SMsg.batch m) x0 (SMsg.cepoch m) (SMsg.cleader m) (SMsg.cview m) (SMsg.nheld m) (SMsg.held m) (SMsg.nnews m) (SMsg.news m) (SMsg.digest m) (SMsg.cert m) (SMsg.state m) (SMsg.n m) (SMsg.sig m)) k), false = true → false = true, q (32 : Nat), q (SMsg.digest m), q (SVote.kind (SCert.vote (SMsg.cert m))), q (SVote.epoch (SCert.vote (SMsg.cert m))), q (SVote.view (SCert.vote (SMsg.cert m))), q (SVote.slot (SCert.vote (SMsg.cert m))), q (32 : Nat), q (SVote.digest (SCert.vote (SMsg.cert m))), q (SCert.n (SMsg.cert m)), ∀ (k : Nat), k < SCert.n (SMsg.cert m) → SSign.c (SCert.sig (SMsg.cert m) k) = SSign.c (SCert.sig (SMsg.cert m) k), false = true → false = true, q (SMsg.state m), q (SMsg.n m), ∀ (k : Nat), k < SMsg.n m → SSign.c (SMsg.sig m k) = SSign.c (SMsg.sig (SMsg.mk (SMsg.kind m) (SMsg.epoch m) (SMsg.leader m) (SMsg.view m) (SMsg.slot m) (SMsg.batch m) x0 (SMsg.cepoch m) (SMsg.cleader m) (SMsg.cview m) (SMsg.nheld m) (SMsg.held m) (SMsg.nnews m) (SMsg.news m) (SMsg.digest m) (SMsg.cert m) (SMsg.state m) (SMsg.n m) (SMsg.sig m)) k), false = true → false = true]) : Option (V × c5 × List Prop)) := by kernel_rfl
theorem aX1 (m : SMsg) (s : RS) (t1 : RS) (t2 : RS) (t3 : RS) (t4 : RS) (n : Nat) (x0 : Int) (x1 : Int) (x2 : Int) (x3 : Nat → SHeld) :
  e9 zp (bdF3 m s t1 t2 t3 t4 n x0 x1 x2 x3) [false, false, true] = (some (.tup [], [(.o 0, .flat [.ptr (.o 1) 0 0 0 0, .bool (RS.bad t4)]), (.o 1, rdB t4), (.o 2, .flat (SMsg.c (SMsg.mk (SMsg.kind m) (SMsg.epoch m) (SMsg.leader m) (SMsg.view m) (SMsg.slot m) (SMsg.batch m) (SMsg.vote m) x0 x1 x2 n x3 (SMsg.nnews m) (SMsg.news m) (SMsg.digest m) (SMsg.cert m) (SMsg.state m) (SMsg.n m) (SMsg.sig m))))], [decide (SMsg.kind m = (1 : Int)) = false, decide (SMsg.kind m = (2 : Int)) = false, decide (SMsg.kind m = (3 : Int)) = true, T zp 25 [.ptr (.o 1) 0 0 0 0, .int .i64 1048576] [(.o 1, rdB s)] (.int .i64 x0) [(.o 1, rdB t1)], T zp 25 [.ptr (.o 1) 0 0 0 0, .int .i64 64] [(.o 1, rdB t1)] (.int .i64 x1) [(.o 1, rdB t2)], T zp 25 [.ptr (.o 1) 0 0 0 0, .int .i64 1099511627776] [(.o 1, rdB t2)] (.int .i64 x2) [(.o 1, rdB t3)], T zp 109 [.ptr (.o 0) 0 0 0 0, .int .i64 4, .fn (.func 110) [.ptr (.o 0) 0 0 0 0] []] [(.o 0, .flat [.ptr (.o 1) 0 0 0 0, .bool (RS.bad s)]), (.o 1, rdB t3)] (hl n x3) [(.o 0, .flat [.ptr (.o 1) 0 0 0 0, .bool (RS.bad t4)]), (.o 1, rdB t4)], q0, q0, q0, q (RS.bad t4), q (List.length (RS.l t4)), ∀ (k : Nat), k < List.length (RS.l t4) → bl (RS.l t4) k = bl (RS.l t4) k, false = true → false = true, q (RS.e t4), q2, q (SMsg.kind m), q (SMsg.epoch m), q (SMsg.leader m), q (SMsg.view m), q (SMsg.slot m), q (SBatch.noop (SMsg.batch m)), q (SBatch.n (SMsg.batch m)), ∀ (k : Nat), k < SBatch.n (SMsg.batch m) → SReq.c (SBatch.req (SMsg.batch m) k) = SReq.c (SBatch.req (SMsg.batch m) k), false = true → false = true, q (SVote.kind (SMsg.vote m)), q (SVote.epoch (SMsg.vote m)), q (SVote.view (SMsg.vote m)), q (SVote.slot (SMsg.vote m)), q (32 : Nat), q (SVote.digest (SMsg.vote m)), q x0, q x1, q x2, q n, ∀ (k : Nat), k < n → SHeld.c (x3 k) = SHeld.c (SMsg.held (SMsg.mk (SMsg.kind m) (SMsg.epoch m) (SMsg.leader m) (SMsg.view m) (SMsg.slot m) (SMsg.batch m) (SMsg.vote m) x0 x1 x2 n x3 (SMsg.nnews m) (SMsg.news m) (SMsg.digest m) (SMsg.cert m) (SMsg.state m) (SMsg.n m) (SMsg.sig m)) k), false = true → false = true, q (SMsg.nnews m), ∀ (k : Nat), k < SMsg.nnews m → SEnv.c (SMsg.news m k) = SEnv.c (SMsg.news (SMsg.mk (SMsg.kind m) (SMsg.epoch m) (SMsg.leader m) (SMsg.view m) (SMsg.slot m) (SMsg.batch m) (SMsg.vote m) x0 x1 x2 n x3 (SMsg.nnews m) (SMsg.news m) (SMsg.digest m) (SMsg.cert m) (SMsg.state m) (SMsg.n m) (SMsg.sig m)) k), false = true → false = true, q (32 : Nat), q (SMsg.digest m), q (SVote.kind (SCert.vote (SMsg.cert m))), q (SVote.epoch (SCert.vote (SMsg.cert m))), q (SVote.view (SCert.vote (SMsg.cert m))), q (SVote.slot (SCert.vote (SMsg.cert m))), q (32 : Nat), q (SVote.digest (SCert.vote (SMsg.cert m))), q (SCert.n (SMsg.cert m)), ∀ (k : Nat), k < SCert.n (SMsg.cert m) → SSign.c (SCert.sig (SMsg.cert m) k) = SSign.c (SCert.sig (SMsg.cert m) k), false = true → false = true, q (SMsg.state m), q (SMsg.n m), ∀ (k : Nat), k < SMsg.n m → SSign.c (SMsg.sig m k) = SSign.c (SMsg.sig (SMsg.mk (SMsg.kind m) (SMsg.epoch m) (SMsg.leader m) (SMsg.view m) (SMsg.slot m) (SMsg.batch m) (SMsg.vote m) x0 x1 x2 n x3 (SMsg.nnews m) (SMsg.news m) (SMsg.digest m) (SMsg.cert m) (SMsg.state m) (SMsg.n m) (SMsg.sig m)) k), false = true → false = true]) : Option (V × c5 × List Prop)) := by kernel_rfl
theorem aO5 (m : SMsg) (s : RS) (t1 : RS) (t2 : RS) (t3 : RS) (t4 : RS) (n : Nat) (x0 : Int) (x1 : Int) (x2 : Int) (x3 : Nat → SEnv) :
  e9 zp (bdF4 m s t1 t2 t3 t4 n x0 x1 x2 x3) [false, false, false, true] = (some (.tup [], [(.o 0, .flat [.ptr (.o 1) 0 0 0 0, .bool (RS.bad t4)]), (.o 1, rdB t4), (.o 2, .flat (SMsg.c (SMsg.mk (SMsg.kind m) x0 x1 x2 (SMsg.slot m) (SMsg.batch m) (SMsg.vote m) (SMsg.cepoch m) (SMsg.cleader m) (SMsg.cview m) (SMsg.nheld m) (SMsg.held m) n x3 (SMsg.digest m) (SMsg.cert m) (SMsg.state m) (SMsg.n m) (SMsg.sig m))))], [decide (SMsg.kind m = (1 : Int)) = false, decide (SMsg.kind m = (2 : Int)) = false, decide (SMsg.kind m = (3 : Int)) = false, decide (SMsg.kind m = (4 : Int)) = true, T zp 25 [.ptr (.o 1) 0 0 0 0, .int .i64 1048576] [(.o 1, rdB s)] (.int .i64 x0) [(.o 1, rdB t1)], T zp 25 [.ptr (.o 1) 0 0 0 0, .int .i64 64] [(.o 1, rdB t1)] (.int .i64 x1) [(.o 1, rdB t2)], T zp 25 [.ptr (.o 1) 0 0 0 0, .int .i64 1099511627776] [(.o 1, rdB t2)] (.int .i64 x2) [(.o 1, rdB t3)], T zp 111 [.ptr (.o 0) 0 0 0 0, .int .i64 64, .fn (.func 112) [.ptr (.o 0) 0 0 0 0] []] [(.o 0, .flat [.ptr (.o 1) 0 0 0 0, .bool (RS.bad s)]), (.o 1, rdB t3)] (nw n x3) [(.o 0, .flat [.ptr (.o 1) 0 0 0 0, .bool (RS.bad t4)]), (.o 1, rdB t4)], q0, q0, q0, q (RS.bad t4), q (List.length (RS.l t4)), ∀ (k : Nat), k < List.length (RS.l t4) → bl (RS.l t4) k = bl (RS.l t4) k, false = true → false = true, q (RS.e t4), q2, q (SMsg.kind m), q x0, q x1, q x2, q (SMsg.slot m), q (SBatch.noop (SMsg.batch m)), q (SBatch.n (SMsg.batch m)), ∀ (k : Nat), k < SBatch.n (SMsg.batch m) → SReq.c (SBatch.req (SMsg.batch m) k) = SReq.c (SBatch.req (SMsg.batch m) k), false = true → false = true, q (SVote.kind (SMsg.vote m)), q (SVote.epoch (SMsg.vote m)), q (SVote.view (SMsg.vote m)), q (SVote.slot (SMsg.vote m)), q (32 : Nat), q (SVote.digest (SMsg.vote m)), q (SMsg.cepoch m), q (SMsg.cleader m), q (SMsg.cview m), q (SMsg.nheld m), ∀ (k : Nat), k < SMsg.nheld m → SHeld.c (SMsg.held m k) = SHeld.c (SMsg.held (SMsg.mk (SMsg.kind m) x0 x1 x2 (SMsg.slot m) (SMsg.batch m) (SMsg.vote m) (SMsg.cepoch m) (SMsg.cleader m) (SMsg.cview m) (SMsg.nheld m) (SMsg.held m) n x3 (SMsg.digest m) (SMsg.cert m) (SMsg.state m) (SMsg.n m) (SMsg.sig m)) k), false = true → false = true, q n, ∀ (k : Nat), k < n → SEnv.c (x3 k) = SEnv.c (SMsg.news (SMsg.mk (SMsg.kind m) x0 x1 x2 (SMsg.slot m) (SMsg.batch m) (SMsg.vote m) (SMsg.cepoch m) (SMsg.cleader m) (SMsg.cview m) (SMsg.nheld m) (SMsg.held m) n x3 (SMsg.digest m) (SMsg.cert m) (SMsg.state m) (SMsg.n m) (SMsg.sig m)) k), false = true → false = true, q (32 : Nat), q (SMsg.digest m), q (SVote.kind (SCert.vote (SMsg.cert m))), q (SVote.epoch (SCert.vote (SMsg.cert m))), q (SVote.view (SCert.vote (SMsg.cert m))), q (SVote.slot (SCert.vote (SMsg.cert m))), q (32 : Nat), q (SVote.digest (SCert.vote (SMsg.cert m))), q (SCert.n (SMsg.cert m)), ∀ (k : Nat), k < SCert.n (SMsg.cert m) → SSign.c (SCert.sig (SMsg.cert m) k) = SSign.c (SCert.sig (SMsg.cert m) k), false = true → false = true, q (SMsg.state m), q (SMsg.n m), ∀ (k : Nat), k < SMsg.n m → SSign.c (SMsg.sig m k) = SSign.c (SMsg.sig (SMsg.mk (SMsg.kind m) x0 x1 x2 (SMsg.slot m) (SMsg.batch m) (SMsg.vote m) (SMsg.cepoch m) (SMsg.cleader m) (SMsg.cview m) (SMsg.nheld m) (SMsg.held m) n x3 (SMsg.digest m) (SMsg.cert m) (SMsg.state m) (SMsg.n m) (SMsg.sig m)) k), false = true → false = true]) : Option (V × c5 × List Prop)) := by kernel_rfl
theorem aI2 (m : SMsg) (s : RS) (t1 : RS) (t2 : RS) (x0 : Int) (x1 : List Int) :
  e9 zp (bdF5 m s t1 t2 x0 x1) [false, false, false, false, true] = (some (.tup [], [(.o 0, .flat [.ptr (.o 1) 0 0 0 0, .bool (RS.bad t2)]), (.o 1, rdB t2), (.o 2, .flat (SMsg.c (SMsg.mk (SMsg.kind m) x0 (SMsg.leader m) (SMsg.view m) (SMsg.slot m) (SMsg.batch m) (SMsg.vote m) (SMsg.cepoch m) (SMsg.cleader m) (SMsg.cview m) (SMsg.nheld m) (SMsg.held m) (SMsg.nnews m) (SMsg.news m) x1 (SMsg.cert m) (SMsg.state m) (SMsg.n m) (SMsg.sig m))))], [decide (SMsg.kind m = (1 : Int)) = false, decide (SMsg.kind m = (2 : Int)) = false, decide (SMsg.kind m = (3 : Int)) = false, decide (SMsg.kind m = (4 : Int)) = false, decide (SMsg.kind m = (5 : Int)) = true, T zp 25 [.ptr (.o 1) 0 0 0 0, .int .i64 1048576] [(.o 1, rdB s)] (.int .i64 x0) [(.o 1, rdB t1)], T zp 113 [.ptr (.o 0) 0 0 0 0] [(.o 0, .flat [.ptr (.o 1) 0 0 0 0, .bool (RS.bad s)]), (.o 1, rdB t1)] (.agg [.seg .u8 32 x1]) [(.o 0, .flat [.ptr (.o 1) 0 0 0 0, .bool (RS.bad t2)]), (.o 1, rdB t2)], q0, q0, q0, q (RS.bad t2), q (List.length (RS.l t2)), ∀ (k : Nat), k < List.length (RS.l t2) → bl (RS.l t2) k = bl (RS.l t2) k, false = true → false = true, q (RS.e t2), q2, q (SMsg.kind m), q x0, q (SMsg.leader m), q (SMsg.view m), q (SMsg.slot m), q (SBatch.noop (SMsg.batch m)), q (SBatch.n (SMsg.batch m)), ∀ (k : Nat), k < SBatch.n (SMsg.batch m) → SReq.c (SBatch.req (SMsg.batch m) k) = SReq.c (SBatch.req (SMsg.batch m) k), false = true → false = true, q (SVote.kind (SMsg.vote m)), q (SVote.epoch (SMsg.vote m)), q (SVote.view (SMsg.vote m)), q (SVote.slot (SMsg.vote m)), q (32 : Nat), q (SVote.digest (SMsg.vote m)), q (SMsg.cepoch m), q (SMsg.cleader m), q (SMsg.cview m), q (SMsg.nheld m), ∀ (k : Nat), k < SMsg.nheld m → SHeld.c (SMsg.held m k) = SHeld.c (SMsg.held (SMsg.mk (SMsg.kind m) x0 (SMsg.leader m) (SMsg.view m) (SMsg.slot m) (SMsg.batch m) (SMsg.vote m) (SMsg.cepoch m) (SMsg.cleader m) (SMsg.cview m) (SMsg.nheld m) (SMsg.held m) (SMsg.nnews m) (SMsg.news m) x1 (SMsg.cert m) (SMsg.state m) (SMsg.n m) (SMsg.sig m)) k), false = true → false = true, q (SMsg.nnews m), ∀ (k : Nat), k < SMsg.nnews m → SEnv.c (SMsg.news m k) = SEnv.c (SMsg.news (SMsg.mk (SMsg.kind m) x0 (SMsg.leader m) (SMsg.view m) (SMsg.slot m) (SMsg.batch m) (SMsg.vote m) (SMsg.cepoch m) (SMsg.cleader m) (SMsg.cview m) (SMsg.nheld m) (SMsg.held m) (SMsg.nnews m) (SMsg.news m) x1 (SMsg.cert m) (SMsg.state m) (SMsg.n m) (SMsg.sig m)) k), false = true → false = true, q (32 : Nat), q x1, q (SVote.kind (SCert.vote (SMsg.cert m))), q (SVote.epoch (SCert.vote (SMsg.cert m))), q (SVote.view (SCert.vote (SMsg.cert m))), q (SVote.slot (SCert.vote (SMsg.cert m))), q (32 : Nat), q (SVote.digest (SCert.vote (SMsg.cert m))), q (SCert.n (SMsg.cert m)), ∀ (k : Nat), k < SCert.n (SMsg.cert m) → SSign.c (SCert.sig (SMsg.cert m) k) = SSign.c (SCert.sig (SMsg.cert m) k), false = true → false = true, q (SMsg.state m), q (SMsg.n m), ∀ (k : Nat), k < SMsg.n m → SSign.c (SMsg.sig m k) = SSign.c (SMsg.sig (SMsg.mk (SMsg.kind m) x0 (SMsg.leader m) (SMsg.view m) (SMsg.slot m) (SMsg.batch m) (SMsg.vote m) (SMsg.cepoch m) (SMsg.cleader m) (SMsg.cview m) (SMsg.nheld m) (SMsg.held m) (SMsg.nnews m) (SMsg.news m) x1 (SMsg.cert m) (SMsg.state m) (SMsg.n m) (SMsg.sig m)) k), false = true → false = true]) : Option (V × c5 × List Prop)) := by kernel_rfl
theorem aB8 (m : SMsg) (s : RS) (t1 : RS) (t2 : RS) (x0 : Int) (x1 : Int) :
  e9 zp (bdF6 m s t1 t2 x0 x1) [false, false, false, false, false, true] = (some (.tup [], [(.o 0, .flat [.ptr (.o 1) 0 0 0 0, .bool (RS.bad t2)]), (.o 1, rdB t2), (.o 2, .flat (SMsg.c (SMsg.mk (SMsg.kind m) x0 (SMsg.leader m) (SMsg.view m) x1 (SMsg.batch m) (SMsg.vote m) (SMsg.cepoch m) (SMsg.cleader m) (SMsg.cview m) (SMsg.nheld m) (SMsg.held m) (SMsg.nnews m) (SMsg.news m) (SMsg.digest m) (SMsg.cert m) (SMsg.state m) (SMsg.n m) (SMsg.sig m))))], [decide (SMsg.kind m = (1 : Int)) = false, decide (SMsg.kind m = (2 : Int)) = false, decide (SMsg.kind m = (3 : Int)) = false, decide (SMsg.kind m = (4 : Int)) = false, decide (SMsg.kind m = (5 : Int)) = false, decide (SMsg.kind m = (6 : Int)) = true, T zp 25 [.ptr (.o 1) 0 0 0 0, .int .i64 1048576] [(.o 1, rdB s)] (.int .i64 x0) [(.o 1, rdB t1)], T zp 25 [.ptr (.o 1) 0 0 0 0, .int .i64 1099511627776] [(.o 1, rdB t1)] (.int .i64 x1) [(.o 1, rdB t2)], q0, q0, q0, RS.bad s = RS.bad t2, q (List.length (RS.l t2)), ∀ (k : Nat), k < List.length (RS.l t2) → bl (RS.l t2) k = bl (RS.l t2) k, false = true → false = true, q (RS.e t2), q2, q (SMsg.kind m), q x0, q (SMsg.leader m), q (SMsg.view m), q x1, q (SBatch.noop (SMsg.batch m)), q (SBatch.n (SMsg.batch m)), ∀ (k : Nat), k < SBatch.n (SMsg.batch m) → SReq.c (SBatch.req (SMsg.batch m) k) = SReq.c (SBatch.req (SMsg.batch m) k), false = true → false = true, q (SVote.kind (SMsg.vote m)), q (SVote.epoch (SMsg.vote m)), q (SVote.view (SMsg.vote m)), q (SVote.slot (SMsg.vote m)), q (32 : Nat), q (SVote.digest (SMsg.vote m)), q (SMsg.cepoch m), q (SMsg.cleader m), q (SMsg.cview m), q (SMsg.nheld m), ∀ (k : Nat), k < SMsg.nheld m → SHeld.c (SMsg.held m k) = SHeld.c (SMsg.held (SMsg.mk (SMsg.kind m) x0 (SMsg.leader m) (SMsg.view m) x1 (SMsg.batch m) (SMsg.vote m) (SMsg.cepoch m) (SMsg.cleader m) (SMsg.cview m) (SMsg.nheld m) (SMsg.held m) (SMsg.nnews m) (SMsg.news m) (SMsg.digest m) (SMsg.cert m) (SMsg.state m) (SMsg.n m) (SMsg.sig m)) k), false = true → false = true, q (SMsg.nnews m), ∀ (k : Nat), k < SMsg.nnews m → SEnv.c (SMsg.news m k) = SEnv.c (SMsg.news (SMsg.mk (SMsg.kind m) x0 (SMsg.leader m) (SMsg.view m) x1 (SMsg.batch m) (SMsg.vote m) (SMsg.cepoch m) (SMsg.cleader m) (SMsg.cview m) (SMsg.nheld m) (SMsg.held m) (SMsg.nnews m) (SMsg.news m) (SMsg.digest m) (SMsg.cert m) (SMsg.state m) (SMsg.n m) (SMsg.sig m)) k), false = true → false = true, q (32 : Nat), q (SMsg.digest m), q (SVote.kind (SCert.vote (SMsg.cert m))), q (SVote.epoch (SCert.vote (SMsg.cert m))), q (SVote.view (SCert.vote (SMsg.cert m))), q (SVote.slot (SCert.vote (SMsg.cert m))), q (32 : Nat), q (SVote.digest (SCert.vote (SMsg.cert m))), q (SCert.n (SMsg.cert m)), ∀ (k : Nat), k < SCert.n (SMsg.cert m) → SSign.c (SCert.sig (SMsg.cert m) k) = SSign.c (SCert.sig (SMsg.cert m) k), false = true → false = true, q (SMsg.state m), q (SMsg.n m), ∀ (k : Nat), k < SMsg.n m → SSign.c (SMsg.sig m k) = SSign.c (SMsg.sig (SMsg.mk (SMsg.kind m) x0 (SMsg.leader m) (SMsg.view m) x1 (SMsg.batch m) (SMsg.vote m) (SMsg.cepoch m) (SMsg.cleader m) (SMsg.cview m) (SMsg.nheld m) (SMsg.held m) (SMsg.nnews m) (SMsg.news m) (SMsg.digest m) (SMsg.cert m) (SMsg.state m) (SMsg.n m) (SMsg.sig m)) k), false = true → false = true]) : Option (V × c5 × List Prop)) := by kernel_rfl
theorem ax6 (m : SMsg) (s : RS) (t1 : RS) (t2 : RS) (x0 : SBatch) (x1 : SCert) :
  e9 zp (bdF7 m s t1 t2 x0 x1) [false, false, false, false, false, false, true] = (some (.tup [], [(.o 0, .flat [.ptr (.o 1) 0 0 0 0, .bool (RS.bad t2)]), (.o 1, rdB t2), (.o 2, .flat (SMsg.c (SMsg.mk (SMsg.kind m) (SMsg.epoch m) (SMsg.leader m) (SMsg.view m) (SMsg.slot m) x0 (SMsg.vote m) (SMsg.cepoch m) (SMsg.cleader m) (SMsg.cview m) (SMsg.nheld m) (SMsg.held m) (SMsg.nnews m) (SMsg.news m) (SMsg.digest m) x1 (SMsg.state m) (SMsg.n m) (SMsg.sig m))))], [decide (SMsg.kind m = (1 : Int)) = false, decide (SMsg.kind m = (2 : Int)) = false, decide (SMsg.kind m = (3 : Int)) = false, decide (SMsg.kind m = (4 : Int)) = false, decide (SMsg.kind m = (5 : Int)) = false, decide (SMsg.kind m = (6 : Int)) = false, decide (SMsg.kind m = (7 : Int)) = true, T zp 107 [.ptr (.o 1) 0 0 0 0] [(.o 1, rdB s)] (.agg (SBatch.c x0)) [(.o 1, rdB t1)], T zp 114 [.ptr (.o 0) 0 0 0 0] [(.o 0, .flat [.ptr (.o 1) 0 0 0 0, .bool (RS.bad s)]), (.o 1, rdB t1)] (.agg (SCert.c x1)) [(.o 0, .flat [.ptr (.o 1) 0 0 0 0, .bool (RS.bad t2)]), (.o 1, rdB t2)], q0, q0, q0, q (RS.bad t2), q (List.length (RS.l t2)), ∀ (k : Nat), k < List.length (RS.l t2) → bl (RS.l t2) k = bl (RS.l t2) k, false = true → false = true, q (RS.e t2), q2, q (SMsg.kind m), q (SMsg.epoch m), q (SMsg.leader m), q (SMsg.view m), q (SMsg.slot m), q (SBatch.noop x0), q (SBatch.n x0), ∀ (k : Nat), k < SBatch.n x0 → SReq.c (SBatch.req x0 k) = SReq.c (SBatch.req x0 k), false = true → false = true, q (SVote.kind (SMsg.vote m)), q (SVote.epoch (SMsg.vote m)), q (SVote.view (SMsg.vote m)), q (SVote.slot (SMsg.vote m)), q (32 : Nat), q (SVote.digest (SMsg.vote m)), q (SMsg.cepoch m), q (SMsg.cleader m), q (SMsg.cview m), q (SMsg.nheld m), ∀ (k : Nat), k < SMsg.nheld m → SHeld.c (SMsg.held m k) = SHeld.c (SMsg.held (SMsg.mk (SMsg.kind m) (SMsg.epoch m) (SMsg.leader m) (SMsg.view m) (SMsg.slot m) x0 (SMsg.vote m) (SMsg.cepoch m) (SMsg.cleader m) (SMsg.cview m) (SMsg.nheld m) (SMsg.held m) (SMsg.nnews m) (SMsg.news m) (SMsg.digest m) x1 (SMsg.state m) (SMsg.n m) (SMsg.sig m)) k), false = true → false = true, q (SMsg.nnews m), ∀ (k : Nat), k < SMsg.nnews m → SEnv.c (SMsg.news m k) = SEnv.c (SMsg.news (SMsg.mk (SMsg.kind m) (SMsg.epoch m) (SMsg.leader m) (SMsg.view m) (SMsg.slot m) x0 (SMsg.vote m) (SMsg.cepoch m) (SMsg.cleader m) (SMsg.cview m) (SMsg.nheld m) (SMsg.held m) (SMsg.nnews m) (SMsg.news m) (SMsg.digest m) x1 (SMsg.state m) (SMsg.n m) (SMsg.sig m)) k), false = true → false = true, q (32 : Nat), q (SMsg.digest m), q (SVote.kind (SCert.vote x1)), q (SVote.epoch (SCert.vote x1)), q (SVote.view (SCert.vote x1)), q (SVote.slot (SCert.vote x1)), q (32 : Nat), q (SVote.digest (SCert.vote x1)), q (SCert.n x1), ∀ (k : Nat), k < SCert.n x1 → SSign.c (SCert.sig x1 k) = SSign.c (SCert.sig x1 k), false = true → false = true, q (SMsg.state m), q (SMsg.n m), ∀ (k : Nat), k < SMsg.n m → SSign.c (SMsg.sig m k) = SSign.c (SMsg.sig (SMsg.mk (SMsg.kind m) (SMsg.epoch m) (SMsg.leader m) (SMsg.view m) (SMsg.slot m) x0 (SMsg.vote m) (SMsg.cepoch m) (SMsg.cleader m) (SMsg.cview m) (SMsg.nheld m) (SMsg.held m) (SMsg.nnews m) (SMsg.news m) (SMsg.digest m) x1 (SMsg.state m) (SMsg.n m) (SMsg.sig m)) k), false = true → false = true]) : Option (V × c5 × List Prop)) := by kernel_rfl
theorem as1 (m : SMsg) (s : RS) (t1 : RS) (t2 : RS) (n : Nat) (x0 : ByteArray) (x1 : Nat → SSign) :
  e9 zp (bdF8 m s t1 t2 n x0 x1) [false, false, false, false, false, false, false, true] = (some (.tup [], [(.o 0, .flat [.ptr (.o 1) 0 0 0 0, .bool (RS.bad t2)]), (.o 1, rdB t2), (.o 2, .flat (SMsg.c (SMsg.mk (SMsg.kind m) (SMsg.epoch m) (SMsg.leader m) (SMsg.view m) (SMsg.slot m) (SMsg.batch m) (SMsg.vote m) (SMsg.cepoch m) (SMsg.cleader m) (SMsg.cview m) (SMsg.nheld m) (SMsg.held m) (SMsg.nnews m) (SMsg.news m) (SMsg.digest m) (SMsg.cert m) x0 n x1)))], [decide (SMsg.kind m = (1 : Int)) = false, decide (SMsg.kind m = (2 : Int)) = false, decide (SMsg.kind m = (3 : Int)) = false, decide (SMsg.kind m = (4 : Int)) = false, decide (SMsg.kind m = (5 : Int)) = false, decide (SMsg.kind m = (6 : Int)) = false, decide (SMsg.kind m = (7 : Int)) = false, decide (SMsg.kind m = (8 : Int)) = true, T zp 26 [.ptr (.o 1) 0 0 0 0, .int .i64 4194304] [(.o 1, rdB s)] (.str x0) [(.o 1, rdB t1)], T zp 115 [.ptr (.o 0) 0 0 0 0, .int .i64 64, .fn (.func 116) [.ptr (.o 0) 0 0 0 0] []] [(.o 0, .flat [.ptr (.o 1) 0 0 0 0, .bool (RS.bad s)]), (.o 1, rdB t1)] (sg n x1) [(.o 0, .flat [.ptr (.o 1) 0 0 0 0, .bool (RS.bad t2)]), (.o 1, rdB t2)], q0, q0, q0, q (RS.bad t2), q (List.length (RS.l t2)), ∀ (k : Nat), k < List.length (RS.l t2) → bl (RS.l t2) k = bl (RS.l t2) k, false = true → false = true, q (RS.e t2), q2, q (SMsg.kind m), q (SMsg.epoch m), q (SMsg.leader m), q (SMsg.view m), q (SMsg.slot m), q (SBatch.noop (SMsg.batch m)), q (SBatch.n (SMsg.batch m)), ∀ (k : Nat), k < SBatch.n (SMsg.batch m) → SReq.c (SBatch.req (SMsg.batch m) k) = SReq.c (SBatch.req (SMsg.batch m) k), false = true → false = true, q (SVote.kind (SMsg.vote m)), q (SVote.epoch (SMsg.vote m)), q (SVote.view (SMsg.vote m)), q (SVote.slot (SMsg.vote m)), q (32 : Nat), q (SVote.digest (SMsg.vote m)), q (SMsg.cepoch m), q (SMsg.cleader m), q (SMsg.cview m), q (SMsg.nheld m), ∀ (k : Nat), k < SMsg.nheld m → SHeld.c (SMsg.held m k) = SHeld.c (SMsg.held (SMsg.mk (SMsg.kind m) (SMsg.epoch m) (SMsg.leader m) (SMsg.view m) (SMsg.slot m) (SMsg.batch m) (SMsg.vote m) (SMsg.cepoch m) (SMsg.cleader m) (SMsg.cview m) (SMsg.nheld m) (SMsg.held m) (SMsg.nnews m) (SMsg.news m) (SMsg.digest m) (SMsg.cert m) x0 n x1) k), false = true → false = true, q (SMsg.nnews m), ∀ (k : Nat), k < SMsg.nnews m → SEnv.c (SMsg.news m k) = SEnv.c (SMsg.news (SMsg.mk (SMsg.kind m) (SMsg.epoch m) (SMsg.leader m) (SMsg.view m) (SMsg.slot m) (SMsg.batch m) (SMsg.vote m) (SMsg.cepoch m) (SMsg.cleader m) (SMsg.cview m) (SMsg.nheld m) (SMsg.held m) (SMsg.nnews m) (SMsg.news m) (SMsg.digest m) (SMsg.cert m) x0 n x1) k), false = true → false = true, q (32 : Nat), q (SMsg.digest m), q (SVote.kind (SCert.vote (SMsg.cert m))), q (SVote.epoch (SCert.vote (SMsg.cert m))), q (SVote.view (SCert.vote (SMsg.cert m))), q (SVote.slot (SCert.vote (SMsg.cert m))), q (32 : Nat), q (SVote.digest (SCert.vote (SMsg.cert m))), q (SCert.n (SMsg.cert m)), ∀ (k : Nat), k < SCert.n (SMsg.cert m) → SSign.c (SCert.sig (SMsg.cert m) k) = SSign.c (SCert.sig (SMsg.cert m) k), false = true → false = true, q x0, q n, ∀ (k : Nat), k < n → SSign.c (x1 k) = SSign.c (SMsg.sig (SMsg.mk (SMsg.kind m) (SMsg.epoch m) (SMsg.leader m) (SMsg.view m) (SMsg.slot m) (SMsg.batch m) (SMsg.vote m) (SMsg.cepoch m) (SMsg.cleader m) (SMsg.cview m) (SMsg.nheld m) (SMsg.held m) (SMsg.nnews m) (SMsg.news m) (SMsg.digest m) (SMsg.cert m) x0 n x1) k), false = true → false = true]) : Option (V × c5 × List Prop)) := by kernel_rfl
theorem as2 (m : SMsg) (s : RS) :
  e9 zp (bdF9 m s) [false, false, false, false, false, false, false, false] = (some (.tup [], [(.o 0, .flat [.ptr (.o 1) 0 0 0 0, .bool (RS.bad s)]), (.o 1, rdB s), (.o 2, .flat (SMsg.c m))], [decide (SMsg.kind m = (1 : Int)) = false, decide (SMsg.kind m = (2 : Int)) = false, decide (SMsg.kind m = (3 : Int)) = false, decide (SMsg.kind m = (4 : Int)) = false, decide (SMsg.kind m = (5 : Int)) = false, decide (SMsg.kind m = (6 : Int)) = false, decide (SMsg.kind m = (7 : Int)) = false, decide (SMsg.kind m = (8 : Int)) = false, q0, q0, q0, q (RS.bad s), q (List.length (RS.l s)), ∀ (k : Nat), k < List.length (RS.l s) → bl (RS.l s) k = bl (RS.l s) k, false = true → false = true, q (RS.e s), q2, q (SMsg.kind m), q (SMsg.epoch m), q (SMsg.leader m), q (SMsg.view m), q (SMsg.slot m), q (SBatch.noop (SMsg.batch m)), q (SBatch.n (SMsg.batch m)), ∀ (k : Nat), k < SBatch.n (SMsg.batch m) → SReq.c (SBatch.req (SMsg.batch m) k) = SReq.c (SBatch.req (SMsg.batch m) k), false = true → false = true, q (SVote.kind (SMsg.vote m)), q (SVote.epoch (SMsg.vote m)), q (SVote.view (SMsg.vote m)), q (SVote.slot (SMsg.vote m)), q (32 : Nat), q (SVote.digest (SMsg.vote m)), q (SMsg.cepoch m), q (SMsg.cleader m), q (SMsg.cview m), q (SMsg.nheld m), ∀ (k : Nat), k < SMsg.nheld m → SHeld.c (SMsg.held m k) = SHeld.c (SMsg.held m k), false = true → false = true, q (SMsg.nnews m), ∀ (k : Nat), k < SMsg.nnews m → SEnv.c (SMsg.news m k) = SEnv.c (SMsg.news m k), false = true → false = true, q (32 : Nat), q (SMsg.digest m), q (SVote.kind (SCert.vote (SMsg.cert m))), q (SVote.epoch (SCert.vote (SMsg.cert m))), q (SVote.view (SCert.vote (SMsg.cert m))), q (SVote.slot (SCert.vote (SMsg.cert m))), q (32 : Nat), q (SVote.digest (SCert.vote (SMsg.cert m))), q (SCert.n (SMsg.cert m)), ∀ (k : Nat), k < SCert.n (SMsg.cert m) → SSign.c (SCert.sig (SMsg.cert m) k) = SSign.c (SCert.sig (SMsg.cert m) k), false = true → false = true, q (SMsg.state m), q (SMsg.n m), ∀ (k : Nat), k < SMsg.n m → SSign.c (SMsg.sig m k) = SSign.c (SMsg.sig m k), false = true → false = true]) : Option (V × c5 × List Prop)) := by kernel_rfl
theorem M1 {α : Type} {one : RS → α × RS} (h : ∀ s, Aft s (one s).2) (most : Int) (s : RS) : Aft s (S4 one most s) :=
 (i7 most s).aft.trans (ab1 h _ _)
theorem aV1 {most : Int} (hm : 0 ≤ most ∧ most ≤ 1000) (s : RS) (hl : s.l.length ≤ 1000000000) : T Tryz.prog 115 [p0, .int .i64 most, .fn (.func 116) [p0] []] (mrH 0 1 s) (sg (n8 l8 most s) (q9 l8 most s)) (mrH 0 1 (S4 l8 most s)) :=
 bN1 hm s hl (el := q9 l8 most s) (st := stR l8 (c6 most s).2) rfl (fun k _ h => bA2 _ h) (fun k => Nat.le_trans (ab1 (fun s => (R0 s).aft) _ k).1 (Nat.le_trans (i7 most s).1 hl)) (N0 _ _ _) (fun k h => O9 _ _ _ k h) (M0 _ _ _)
theorem bM7 {most : Int} (hm : 0 ≤ most ∧ most ≤ 1000) (s : RS) (hl : s.l.length ≤ 1000000000) : T Tryz.prog 111 [p0, .int .i64 most, .fn (.func 112) [p0] []] (mrH 0 1 s) (nw (n8 n4 most s) (q9 n4 most s)) (mrH 0 1 (S4 n4 most s)) :=
 bN0 hm s hl (el := q9 n4 most s) (st := stR n4 (c6 most s).2) rfl (fun k _ h => bM5 _ h) (fun k => Nat.le_trans (ab1 (fun s => (ac0 s).aft) _ k).1 (Nat.le_trans (i7 most s).1 hl)) (N0 _ _ _) (fun k h => O9 _ _ _ k h) (M0 _ _ _)
theorem ae4 (s : RS) : Aft s (F2 s).2 := (Y9 s).trans (M1 (fun s => (R0 s).aft) _ _)
theorem aL0 (s : RS) (hl : s.l.length ≤ 1000000000) : T Tryz.prog 114 [p0] (mrH 0 1 s) (.agg (F2 s).1.c) (mrH 0 1 (F2 s).2) := by
 refine f3 (bB7 s (u6 s).2 (F2 s).2 (u6 s).1 (n8 l8 64 (u6 s).2) (q9 l8 64 (u6 s).2)) Tryz.func114 ?_
 simp only [All]; and_intros
 all_goals first | exact aL1 s hl | exact aV1 (by decide) _ (Nat.le_trans (Y9 s).1 hl) | trivial | simp
theorem af1 (s : RS) : Aft s (m9 s).2 := (C3 s).aft.trans (ae4 _)
theorem bz3 (s : RS) (hl : s.l.length ≤ 1000000000) : T Tryz.prog 110 [p0] (mrH 0 1 s) (.agg (m9 s).1.c) (mrH 0 1 (m9 s).2) := by
 have b := C3 s
 refine f3 (bB_ s (j5 s).2 (m9 s).2 (j5 s).1 (F2 (j5 s).2).1) Tryz.func110 ?_
 simp only [All]; and_intros
 all_goals first | exact aA6 1 s hl | exact T.heap (aL0 _ (Nat.le_trans b.1 hl)) (G6 b.2.1).symm | trivial | simp
theorem bM8 {most : Int} (hm : 0 ≤ most ∧ most ≤ 1000) (s : RS) (hl : s.l.length ≤ 1000000000) : T Tryz.prog 109 [p0, .int .i64 most, .fn (.func 110) [p0] []] (mrH 0 1 s) (Sy.hl (n8 m9 most s) (q9 m9 most s)) (mrH 0 1 (S4 m9 most s)) :=
 bM_ hm s hl (el := q9 m9 most s) (st := stR m9 (c6 most s).2) rfl (fun k _ h => bz3 _ h) (fun k => Nat.le_trans (ab1 af1 _ k).1 (Nat.le_trans (i7 most s).1 hl)) (N0 _ _ _) (fun k h => O9 _ _ _ k h) (M0 _ _ _)
theorem ca9 {m : SMsg} (s : RS) (hl : s.l.length ≤ 1000000000) (hk : m.kind = 1) : T Tryz.prog 84 [p0, .ptr (.o 2) 0 0 0 0] (mrH 0 1 s ++ [(.o 2, .flat m.c)]) (.tup []) (mrH 0 1 (aD6 m s).2 ++ [(.o 2, .flat (aD6 m s).1.c)]) := by
 have a1 : Aft s (P0 s) := ((i7 _ _).aft : Aft s (P0 s))
 have l1 : (P0 s).l.length ≤ 1000000000 := Nat.le_trans a1.1 hl
 have a2 : Aft s (S0 s) := a1.trans ((i7 _ _).aft)
 have l2 : (S0 s).l.length ≤ 1000000000 := Nat.le_trans a2.1 hl
 have a3 : Aft s (al0 s) := a2.trans ((C3 _).aft)
 have l3 : (al0 s).l.length ≤ 1000000000 := Nat.le_trans a3.1 hl
 have b1 : (P0 s).bad = s.bad := ((i7 _ _).2.1 : (P0 s).bad = s.bad)
 have b2 : (S0 s).bad = s.bad := ((i7 _ _).2.1 : (S0 s).bad = (P0 s).bad).trans b1
 have b3 : (al0 s).bad = s.bad := ((C3 _).2.1 : (al0 s).bad = (S0 s).bad).trans b2
 refine f3 (bB9 m s (P0 s) (S0 s) (al0 s)  ((c6 1048576 s).1) ((c6 1099511627776 (P0 s)).1) ((j5 (S0 s)).1)) Tryz.func84 ?_
 simp only [All]; and_intros
 all_goals first | exact v5 1 _ _ | exact aA6 1 _ l2 | exact b3.symm | (rw [hk]; rfl) | trivial | (simp [hk]; done)
theorem ca_ {m : SMsg} (s : RS) (hl : s.l.length ≤ 1000000000) (hk : m.kind = 2) : T Tryz.prog 84 [p0, .ptr (.o 2) 0 0 0 0] (mrH 0 1 s ++ [(.o 2, .flat m.c)]) (.tup []) (mrH 0 1 (aD7 m s).2 ++ [(.o 2, .flat (aD7 m s).1.c)]) := by
 have a1 : Aft s (at5 s) := (Y9 _ : Aft s (at5 s))
 have l1 : (at5 s).l.length ≤ 1000000000 := Nat.le_trans a1.1 hl
 refine f3 (bh5 m s (at5 s)  ((u6 s).1)) Tryz.func84 ?_
 simp only [All]; and_intros
 all_goals first | exact aL1 _ hl | (rw [hk]; rfl) | trivial | (simp [hk]; done)
theorem cb0 {m : SMsg} (s : RS) (hl : s.l.length ≤ 1000000000) (hk : m.kind = 3) : T Tryz.prog 84 [p0, .ptr (.o 2) 0 0 0 0] (mrH 0 1 s ++ [(.o 2, .flat m.c)]) (.tup []) (mrH 0 1 (G5 m s).2 ++ [(.o 2, .flat (G5 m s).1.c)]) := by
 have a1 : Aft s (O0 s) := ((i7 _ _).aft : Aft s (O0 s))
 have l1 : (O0 s).l.length ≤ 1000000000 := Nat.le_trans a1.1 hl
 have a2 : Aft s (P1 s) := a1.trans ((i7 _ _).aft)
 have l2 : (P1 s).l.length ≤ 1000000000 := Nat.le_trans a2.1 hl
 have a3 : Aft s (n9 s) := a2.trans ((i7 _ _).aft)
 have l3 : (n9 s).l.length ≤ 1000000000 := Nat.le_trans a3.1 hl
 have a4 : Aft s (ae8 s) := a3.trans (M1 af1 _ _)
 have l4 : (ae8 s).l.length ≤ 1000000000 := Nat.le_trans a4.1 hl
 have b1 : (O0 s).bad = s.bad := ((i7 _ _).2.1 : (O0 s).bad = s.bad)
 have b2 : (P1 s).bad = s.bad := ((i7 _ _).2.1 : (P1 s).bad = (O0 s).bad).trans b1
 have b3 : (n9 s).bad = s.bad := ((i7 _ _).2.1 : (n9 s).bad = (P1 s).bad).trans b2
 refine f3 (aX1 m s (O0 s) (P1 s) (n9 s) (ae8 s) (n8 m9 4 (n9 s))  ((c6 1048576 s).1) ((c6 64 (O0 s)).1) ((c6 1099511627776 (P1 s)).1) (q9 m9 4 (n9 s))) Tryz.func84 ?_
 simp only [All]; and_intros
 all_goals first | exact v5 1 _ _ | exact T.heap (bM8 (by decide) _ l3) (G6 b3).symm | (rw [hk]; rfl) | trivial | (simp [hk]; done)
theorem cb1 {m : SMsg} (s : RS) (hl : s.l.length ≤ 1000000000) (hk : m.kind = 4) : T Tryz.prog 84 [p0, .ptr (.o 2) 0 0 0 0] (mrH 0 1 s ++ [(.o 2, .flat m.c)]) (.tup []) (mrH 0 1 (aD8 m s).2 ++ [(.o 2, .flat (aD8 m s).1.c)]) := by
 have a1 : Aft s (P2 s) := ((i7 _ _).aft : Aft s (P2 s))
 have l1 : (P2 s).l.length ≤ 1000000000 := Nat.le_trans a1.1 hl
 have a2 : Aft s (S1 s) := a1.trans ((i7 _ _).aft)
 have l2 : (S1 s).l.length ≤ 1000000000 := Nat.le_trans a2.1 hl
 have a3 : Aft s (K6 s) := a2.trans ((i7 _ _).aft)
 have l3 : (K6 s).l.length ≤ 1000000000 := Nat.le_trans a3.1 hl
 have a4 : Aft s (aD1 s) := a3.trans (M1 (fun s => (ac0 s).aft) _ _)
 have l4 : (aD1 s).l.length ≤ 1000000000 := Nat.le_trans a4.1 hl
 have b1 : (P2 s).bad = s.bad := ((i7 _ _).2.1 : (P2 s).bad = s.bad)
 have b2 : (S1 s).bad = s.bad := ((i7 _ _).2.1 : (S1 s).bad = (P2 s).bad).trans b1
 have b3 : (K6 s).bad = s.bad := ((i7 _ _).2.1 : (K6 s).bad = (S1 s).bad).trans b2
 refine f3 (aO5 m s (P2 s) (S1 s) (K6 s) (aD1 s) (n8 n4 64 (K6 s))  ((c6 1048576 s).1) ((c6 64 (P2 s)).1) ((c6 1099511627776 (S1 s)).1) (q9 n4 64 (K6 s))) Tryz.func84 ?_
 simp only [All]; and_intros
 all_goals first | exact v5 1 _ _ | exact T.heap (bM7 (by decide) _ l3) (G6 b3).symm | (rw [hk]; rfl) | trivial | (simp [hk]; done)
theorem cb2 {m : SMsg} (s : RS) (hl : s.l.length ≤ 1000000000) (hk : m.kind = 5) : T Tryz.prog 84 [p0, .ptr (.o 2) 0 0 0 0] (mrH 0 1 s ++ [(.o 2, .flat m.c)]) (.tup []) (mrH 0 1 (aD9 m s).2 ++ [(.o 2, .flat (aD9 m s).1.c)]) := by
 have a1 : Aft s (S2 s) := ((i7 _ _).aft : Aft s (S2 s))
 have l1 : (S2 s).l.length ≤ 1000000000 := Nat.le_trans a1.1 hl
 have a2 : Aft s (aD2 s) := a1.trans ((ab9 _).aft)
 have l2 : (aD2 s).l.length ≤ 1000000000 := Nat.le_trans a2.1 hl
 have b1 : (S2 s).bad = s.bad := ((i7 _ _).2.1 : (S2 s).bad = s.bad)
 refine f3 (aI2 m s (S2 s) (aD2 s)  ((c6 1048576 s).1) ((F6 (S2 s)).1)) Tryz.func84 ?_
 simp only [All]; and_intros
 all_goals first | exact v5 1 _ _ | exact T.heap (an_ _ l1) (G6 b1).symm | (rw [hk]; rfl) | trivial | (simp [hk]; done)
theorem cb3 {m : SMsg} (s : RS) (hl : s.l.length ≤ 1000000000) (hk : m.kind = 6) : T Tryz.prog 84 [p0, .ptr (.o 2) 0 0 0 0] (mrH 0 1 s ++ [(.o 2, .flat m.c)]) (.tup []) (mrH 0 1 (aD_ m s).2 ++ [(.o 2, .flat (aD_ m s).1.c)]) := by
 have a1 : Aft s (P3 s) := ((i7 _ _).aft : Aft s (P3 s))
 have l1 : (P3 s).l.length ≤ 1000000000 := Nat.le_trans a1.1 hl
 have a2 : Aft s (al1 s) := a1.trans ((i7 _ _).aft)
 have l2 : (al1 s).l.length ≤ 1000000000 := Nat.le_trans a2.1 hl
 have b1 : (P3 s).bad = s.bad := ((i7 _ _).2.1 : (P3 s).bad = s.bad)
 have b2 : (al1 s).bad = s.bad := ((i7 _ _).2.1 : (al1 s).bad = (P3 s).bad).trans b1
 refine f3 (aB8 m s (P3 s) (al1 s)  ((c6 1048576 s).1) ((c6 1099511627776 (P3 s)).1)) Tryz.func84 ?_
 simp only [All]; and_intros
 all_goals first | exact v5 1 _ _ | exact b2.symm | (rw [hk]; rfl) | trivial | (simp [hk]; done)
theorem cb4 {m : SMsg} (s : RS) (hl : s.l.length ≤ 1000000000) (hk : m.kind = 7) : T Tryz.prog 84 [p0, .ptr (.o 2) 0 0 0 0] (mrH 0 1 s ++ [(.o 2, .flat m.c)]) (.tup []) (mrH 0 1 (aE0 m s).2 ++ [(.o 2, .flat (aE0 m s).1.c)]) := by
 have a1 : Aft s (S3 s) := ((C3 _).aft : Aft s (S3 s))
 have l1 : (S3 s).l.length ≤ 1000000000 := Nat.le_trans a1.1 hl
 have a2 : Aft s (aD3 s) := a1.trans (ae4 _)
 have l2 : (aD3 s).l.length ≤ 1000000000 := Nat.le_trans a2.1 hl
 have b1 : (S3 s).bad = s.bad := ((C3 _).2.1 : (S3 s).bad = s.bad)
 refine f3 (ax6 m s (S3 s) (aD3 s)  ((j5 s).1) ((F2 (S3 s)).1)) Tryz.func84 ?_
 simp only [All]; and_intros
 all_goals first | exact aA6 1 _ hl | exact T.heap (aL0 _ l1) (G6 b1).symm | (rw [hk]; rfl) | trivial | (simp [hk]; done)
theorem cb5 {m : SMsg} (s : RS) (hl : s.l.length ≤ 1000000000) (hk : m.kind = 8) : T Tryz.prog 84 [p0, .ptr (.o 2) 0 0 0 0] (mrH 0 1 s ++ [(.o 2, .flat m.c)]) (.tup []) (mrH 0 1 (aE1 m s).2 ++ [(.o 2, .flat (aE1 m s).1.c)]) := by
 have a1 : Aft s (J2 s) := ((F9 _ _).aft : Aft s (J2 s))
 have l1 : (J2 s).l.length ≤ 1000000000 := Nat.le_trans a1.1 hl
 have a2 : Aft s (aD4 s) := a1.trans (M1 (fun s => (R0 s).aft) _ _)
 have l2 : (aD4 s).l.length ≤ 1000000000 := Nat.le_trans a2.1 hl
 have b1 : (J2 s).bad = s.bad := ((F9 _ _).2.1 : (J2 s).bad = s.bad)
 refine f3 (as1 m s (J2 s) (aD4 s) (n8 l8 64 (J2 s))  ((r6 4194304 s).1) (q9 l8 64 (J2 s))) Tryz.func84 ?_
 simp only [All]; and_intros
 all_goals first | exact ah4 1 _ _ hl | exact T.heap (aV1 (by decide) _ l1) (G6 b1).symm | (rw [hk]; rfl) | trivial | (simp [hk]; done)
theorem cb6 {m : SMsg} (s : RS) (hk : m.kind < 1 ∨ 8 < m.kind) : T Tryz.prog 84 [p0, .ptr (.o 2) 0 0 0 0] (mrH 0 1 s ++ [(.o 2, .flat m.c)]) (.tup []) (mrH 0 1 s ++ [(.o 2, .flat m.c)]) := by
 refine f3 (as2 m s) Tryz.func84 ?_
 simp only [All]; and_intros
 all_goals first | (rw [decide_eq_false_iff_not]; omega) | trivial | (intro _ _; trivial)
theorem aK3 (m : SMsg) (s : RS) : Aft s (l7 m s).2 := by
 unfold l7
 repeat' split
 ·exact (((i7 _ _).aft).trans ((i7 _ _).aft)).trans ((C3 _).aft)
 ·exact Y9 _
 ·exact ((((i7 _ _).aft).trans ((i7 _ _).aft)).trans ((i7 _ _).aft)).trans (M1 af1 _ _)
 ·exact ((((i7 _ _).aft).trans ((i7 _ _).aft)).trans ((i7 _ _).aft)).trans (M1 (fun s => (ac0 s).aft) _ _)
 ·exact ((i7 _ _).aft).trans ((ab9 _).aft)
 ·exact ((i7 _ _).aft).trans ((i7 _ _).aft)
 ·exact ((C3 _).aft).trans (ae4 _)
 ·exact ((F9 _ _).aft).trans (M1 (fun s => (R0 s).aft) _ _)
 ·exact Aft.refl s
theorem aU_ (m : SMsg) (s : RS) (hl : s.l.length ≤ 1000000000) : T Tryz.prog 84 [p0, .ptr (.o 2) 0 0 0 0] (mrH 0 1 s ++ [(.o 2, .flat m.c)]) (.tup []) (mrH 0 1 (l7 m s).2 ++ [(.o 2, .flat (l7 m s).1.c)]) := by
 by_cases h1 : m.kind = 1
 ·have e : l7 m s = aD6 m s := by simp only [l7, if_pos h1]
  rw [e]; exact ca9 s hl h1
 by_cases h2 : m.kind = 2
 ·have e : l7 m s = aD7 m s := by simp only [l7, if_neg h1, if_pos h2]
  rw [e]; exact ca_ s hl h2
 by_cases h3 : m.kind = 3
 ·have e : l7 m s = G5 m s := by simp only [l7, if_neg h1, if_neg h2, if_pos h3]
  rw [e]; exact cb0 s hl h3
 by_cases h4 : m.kind = 4
 ·have e : l7 m s = aD8 m s := by simp only [l7, if_neg h1, if_neg h2, if_neg h3, if_pos h4]
  rw [e]; exact cb1 s hl h4
 by_cases h5 : m.kind = 5
 ·have e : l7 m s = aD9 m s := by simp only [l7, if_neg h1, if_neg h2, if_neg h3, if_neg h4, if_pos h5]
  rw [e]; exact cb2 s hl h5
 by_cases h6 : m.kind = 6
 ·have e : l7 m s = aD_ m s := by simp only [l7, if_neg h1, if_neg h2, if_neg h3, if_neg h4, if_neg h5, if_pos h6]
  rw [e]; exact cb3 s hl h6
 by_cases h7 : m.kind = 7
 ·have e : l7 m s = aE0 m s := by simp only [l7, if_neg h1, if_neg h2, if_neg h3, if_neg h4, if_neg h5, if_neg h6, if_pos h7]
  rw [e]; exact cb4 s hl h7
 by_cases h8 : m.kind = 8
 ·have e : l7 m s = aE1 m s := by simp only [l7, if_neg h1, if_neg h2, if_neg h3, if_neg h4, if_neg h5, if_neg h6, if_neg h7, if_pos h8]
  rw [e]; exact cb5 s hl h8
 have e : l7 m s = (m, s) := by simp only [l7, if_neg h1, if_neg h2, if_neg h3, if_neg h4, if_neg h5, if_neg h6, if_neg h7, if_neg h8]
 rw [e]; exact cb6 s (by omega)
def stD (k : Int) (s1 : RS) : St := ⟨mkT 53 [(2, .ptr (.o 8) 0 0 0 0), (3, .int .i64 0), (4, .ptr (.o 5) 0 0 0 0), (5, .ptr (.o 7) 0 0 0 0)], mrH 5 6 s1 ++ [(.o 7, .flat (l6 k).c), (.o 8, .flat (l6 0).c)], 9, []⟩
def fxD (k : Int) (s1 : RS) : Nat → St → List Hint := fun id t => bif Nat.beq id 7 then match m6 t.tmps 4 with
  | .ptr r _ _ _ _ => match m6 t.tmps 5 with
   | .ptr q _ _ _ _ => match m6 t.tmps 2 with
    | .ptr c _ _ _ _ => match A4 r t.heap with
     | some (.flat (.ptr a _ _ _ _ :: _), _) => [.wk (w6 [(.o 5, r), (.o 6, a), (.o 7, q), (.o 8, c)] (stD k s1))]
     | _ => []
    | _ => []
   | _ => []
  | _ => []
 else []
def bW8 (r : SMsg) (e : Int) : Exit → St → Option W := fun _ t => match m6 t.tmps 2 with
 | .ptr c _ _ _ _ => some ⟨[], [(2, .set (.ptr c 0 0 0 0)), (3, .set (.int .i64 e))], [(c, .set (.flat r.c))], none, t.next⟩
 | _ => none
noncomputable def az2 (s : ByteArray) (k : Int) (s0 s1 s2 : RS) (m : SMsg) (d : Int) (r : SMsg) (e : Int) : Bd := { f := Tryz.f42, args := [.str s], kb := { db := aa7 0 [(24, 7, fun _ _ lo => [{ val := .ptr (.o lo) 0 0 0 0, post := [(.o lo, rdB s0)] }]), (25, 15, cRd (.int .i64 k) s1), (78, 27, cRd (.int .i64 s1.e) s1), (84, 1, fun _ _ _ => [{ pre := [.o 5, .o 6, .o 7], val := .tup [], post := mrH 5 6 s2 ++ [(.o 7, .flat m.c)] }]), (28, 6, cRd (.int .i64 d) s2)], fx := fxD k s1 }, k := bW8 r e }
noncomputable def bR3 (s : ByteArray) : Bd := az2 s 0 {} {} {} {} 0 (l6 0) 3
noncomputable def aB4 (s : ByteArray) (k : Int) (s0 s1 s2 : RS) (m : SMsg) (d : Int) : Bd := az2 s k s0 s1 s2 m d (l6 0) 130
noncomputable def aW8 (s : ByteArray) (k : Int) (s0 s1 s2 : RS) (m : SMsg) (d : Int) : Bd := az2 s k s0 s1 s2 m d (l6 0) d
noncomputable def aW9 (s : ByteArray) (k : Int) (s0 s1 s2 : RS) (m : SMsg) (d : Int) : Bd := az2 s k s0 s1 s2 m d m 0
def A6 (l : List UInt8) : RS := (c6 8 { l := l }).2
def D9 (l : List UInt8) : Int := (c6 8 { l := l }).1
def n7 (l : List UInt8) : SMsg × RS := l7 (l6 (D9 l)) (A6 l)
def p6 (l : List UInt8) : SMsg × Int :=
 if 4194304 < l.length then (l6 0, 3) else if D9 l = 0 ∧ (A6 l).e = 0 then (l6 0, 130) else if (n7 l).2.bad = true then (l6 0, 130) else if B0 (n7 l).2 ≠ 0 then (l6 0, B0 (n7 l).2) else ((n7 l).1, 0)
theorem aW7 (s : ByteArray) :
  e9 zp (bR3 s) [true] = (some (.tup [.agg [.int .i64 0, .int .i64 0, .int .i64 0, .int .i64 0, .int .i64 0, .bool false, rq 0 fun x => SReq.mk (0 : Int) (0 : Int) ByteArray.empty [], .int .i64 0, .int .i64 0, .int .i64 0, .int .i64 0, .seg .u8 32 z32, .int .i64 0, .int .i64 0, .int .i64 0, hl 0 fun x => SHeld.mk (SBatch.mk false 0 fun x => SReq.mk (0 : Int) (0 : Int) ByteArray.empty []) (SCert.mk (SVote.mk (0 : Int) (0 : Int) (0 : Int) (0 : Int) []) 0 fun x => SSign.mk (0 : Int) []), nw 0 fun x => SEnv.mk (0 : Int) ByteArray.empty [], .seg .u8 32 z32, .int .i64 0, .int .i64 0, .int .i64 0, .int .i64 0, .seg .u8 32 z32, sg 0 fun x => SSign.mk (0 : Int) [], .str ByteArray.empty, sg 0 fun x => SSign.mk (0 : Int) []], .int .i64 3], [], [decide ((4194304 : Int) < (↑(ByteArray.size s) : Int)) = true, q1, q1, q1, q1, q1, q false, q0, q1, q1, q1, q1, q (32 : Nat), q z32, q1, q1, q1, q0, q0, q (32 : Nat), q z32, q1, q1, q1, q1, q (32 : Nat), q z32, q0, q ByteArray.empty, q0, q0, q0, q0, q (3 : Int)]) : Option (V × c5 × List Prop)) := by kernel_rfl
noncomputable def I8 (s : ByteArray) (k : Int) (s0 : RS) (s1 : RS) (s2 : RS) (m : SMsg) (d : Int) : Nat → List Prop
 | 0 => [decide ((4194304 : Int) < (↑(ByteArray.size s) : Int)) = false, T zp 24 [.ros 1 (ByteArray.size s) (fun q => [.int .u8 (s9 s q)]) false] [] (.ptr (.o 448) 0 0 0 0) [(.o 448, rdB s0)], T zp 25 [.ptr (.o 448) 0 0 0 0, .int .i64 8] [(.o 448, rdB s0)] (.int .i64 k) [(.o 448, rdB s1)]]
 | 1 => [decide (k = (0 : Int)) = true, T zp 78 [.ptr (.o 448) 0 0 0 0] [(.o 448, rdB s1)] (.int .i64 (RS.e s1)) [(.o 448, rdB s1)]]
 | _ => []
theorem aH9 (s : ByteArray) (k : Int) (s0 : RS) (s1 : RS) (s2 : RS) (m : SMsg) (d : Int) :
 e9 zp (aB4 s k s0 s1 s2 m d) [false, true, true] = (some (.tup [.agg [.int .i64 0, .int .i64 0, .int .i64 0, .int .i64 0, .int .i64 0, .bool false, rq 0 fun x => SReq.mk (0 : Int) (0 : Int) ByteArray.empty [], .int .i64 0, .int .i64 0, .int .i64 0, .int .i64 0, .seg .u8 32 z32, .int .i64 0, .int .i64 0, .int .i64 0, hl 0 fun x => SHeld.mk (SBatch.mk false 0 fun x => SReq.mk (0 : Int) (0 : Int) ByteArray.empty []) (SCert.mk (SVote.mk (0 : Int) (0 : Int) (0 : Int) (0 : Int) []) 0 fun x => SSign.mk (0 : Int) []), nw 0 fun x => SEnv.mk (0 : Int) ByteArray.empty [], .seg .u8 32 z32, .int .i64 0, .int .i64 0, .int .i64 0, .int .i64 0, .seg .u8 32 z32, sg 0 fun x => SSign.mk (0 : Int) [], .str ByteArray.empty, sg 0 fun x => SSign.mk (0 : Int) []], .int .i64 130], [], I8 s k s0 s1 s2 m d 0 ++ (I8 s k s0 s1 s2 m d 1 ++ [decide (RS.e s1 = (0 : Int)) = true, q1, q1, q1, q1, q1, q false, q0, q1, q1, q1, q1, q (32 : Nat), q z32, q1, q1, q1, q0, q0, q (32 : Nat), q z32, q1, q1, q1, q1, q (32 : Nat), q z32, q0, q ByteArray.empty, q0, q0, q0, q0, q (130 : Int)])) : Option (V × c5 × List Prop)) := by kernel_rfl
theorem aB6 (s : ByteArray) (k : Int) (s0 : RS) (s1 : RS) (s2 : RS) (m : SMsg) (d : Int) :
 e9 zp (aB4 s k s0 s1 s2 m d) [false, true, false, true] = (some (.tup [.agg [.int .i64 0, .int .i64 0, .int .i64 0, .int .i64 0, .int .i64 0, .bool false, rq 0 fun x => SReq.mk (0 : Int) (0 : Int) ByteArray.empty [], .int .i64 0, .int .i64 0, .int .i64 0, .int .i64 0, .seg .u8 32 z32, .int .i64 0, .int .i64 0, .int .i64 0, hl 0 fun x => SHeld.mk (SBatch.mk false 0 fun x => SReq.mk (0 : Int) (0 : Int) ByteArray.empty []) (SCert.mk (SVote.mk (0 : Int) (0 : Int) (0 : Int) (0 : Int) []) 0 fun x => SSign.mk (0 : Int) []), nw 0 fun x => SEnv.mk (0 : Int) ByteArray.empty [], .seg .u8 32 z32, .int .i64 0, .int .i64 0, .int .i64 0, .int .i64 0, .seg .u8 32 z32, sg 0 fun x => SSign.mk (0 : Int) [], .str ByteArray.empty, sg 0 fun x => SSign.mk (0 : Int) []], .int .i64 130], [], I8 s k s0 s1 s2 m d 0 ++ (I8 s k s0 s1 s2 m d 1 ++ [decide (RS.e s1 = (0 : Int)) = false, q0, q0, q0, false = RS.bad s1, q (List.length (RS.l s1)), ∀ (k : Nat), k < List.length (RS.l s1) → bl (RS.l s1) k = bl (RS.l s1) k, false = true → false = true, q (RS.e s1), q2, q k, q1, q1, q1, q1, q false, q0, q1, q1, q1, q1, q (32 : Nat), q z32, q1, q1, q1, q0, q0, q (32 : Nat), q z32, q1, q1, q1, q1, q (32 : Nat), q z32, q0, q ByteArray.empty, q0, q1, q1, q1, q1, q1, q false, q0, q1, q1, q1, q1, q (32 : Nat), q z32, q1, q1, q1, q0, q0, q (32 : Nat), q z32, q1, q1, q1, q1, q (32 : Nat), q z32, q0, q ByteArray.empty, q0, q0, q0, q0, q1, q0, q0, q0, q0, q0, q0, T zp 84 [.ptr (.o 5) 0 0 0 0, .ptr (.o 7) 0 0 0 0] [(.o 5, .flat [.ptr (.o 6) 0 0 0 0, .bool (RS.bad s1)]), (.o 6, rdB s1), (.o 7, .flat (SMsg.c (l6 k)))] (.tup []) [(.o 5, .flat [.ptr (.o 6) 0 0 0 0, .bool (RS.bad s2)]), (.o 6, rdB s2), (.o 7, .flat (SMsg.c m))], T zp 28 [.ptr (.o 6) 0 0 0 0] [(.o 6, rdB s2)] (.int .i64 d) [(.o 6, rdB s2)], RS.bad s2 = true, q1, q1, q1, q1, q1, q false, q0, q1, q1, q1, q1, q (32 : Nat), q z32, q1, q1, q1, q0, q0, q (32 : Nat), q z32, q1, q1, q1, q1, q (32 : Nat), q z32, q0, q ByteArray.empty, q0, q0, q0, q0, q (130 : Int)])) : Option (V × c5 × List Prop)) := by kernel_rfl
theorem ax3 (s : ByteArray) (k : Int) (s0 : RS) (s1 : RS) (s2 : RS) (m : SMsg) (d : Int) :
  e9 zp (aW8 s k s0 s1 s2 m d) [false, true, false, false, true] = (some (.tup [.agg [.int .i64 0, .int .i64 0, .int .i64 0, .int .i64 0, .int .i64 0, .bool false, rq 0 fun x => SReq.mk (0 : Int) (0 : Int) ByteArray.empty [], .int .i64 0, .int .i64 0, .int .i64 0, .int .i64 0, .seg .u8 32 z32, .int .i64 0, .int .i64 0, .int .i64 0, hl 0 fun x => SHeld.mk (SBatch.mk false 0 fun x => SReq.mk (0 : Int) (0 : Int) ByteArray.empty []) (SCert.mk (SVote.mk (0 : Int) (0 : Int) (0 : Int) (0 : Int) []) 0 fun x => SSign.mk (0 : Int) []), nw 0 fun x => SEnv.mk (0 : Int) ByteArray.empty [], .seg .u8 32 z32, .int .i64 0, .int .i64 0, .int .i64 0, .int .i64 0, .seg .u8 32 z32, sg 0 fun x => SSign.mk (0 : Int) [], .str ByteArray.empty, sg 0 fun x => SSign.mk (0 : Int) []], .int .i64 d], [], [decide ((4194304 : Int) < (↑(ByteArray.size s) : Int)) = false, T zp 24 [.ros 1 (ByteArray.size s) (fun q => [.int .u8 (s9 s q)]) false] [] (.ptr (.o 448) 0 0 0 0) [(.o 448, rdB s0)], T zp 25 [.ptr (.o 448) 0 0 0 0, .int .i64 8] [(.o 448, rdB s0)] (.int .i64 k) [(.o 448, rdB s1)], decide (k = (0 : Int)) = true, T zp 78 [.ptr (.o 448) 0 0 0 0] [(.o 448, rdB s1)] (.int .i64 (RS.e s1)) [(.o 448, rdB s1)], decide (RS.e s1 = (0 : Int)) = false, q0, q0, q0, false = RS.bad s1, q (List.length (RS.l s1)), ∀ (k : Nat), k < List.length (RS.l s1) → bl (RS.l s1) k = bl (RS.l s1) k, false = true → false = true, q (RS.e s1), q2, q k, q1, q1, q1, q1, q false, q0, q1, q1, q1, q1, q (32 : Nat), q z32, q1, q1, q1, q0, q0, q (32 : Nat), q z32, q1, q1, q1, q1, q (32 : Nat), q z32, q0, q ByteArray.empty, q0, q1, q1, q1, q1, q1, q false, q0, q1, q1, q1, q1, q (32 : Nat), q z32, q1, q1, q1, q0, q0, q (32 : Nat), q z32, q1, q1, q1, q1, q (32 : Nat), q z32, q0, q ByteArray.empty, q0, q0, q0, q0, q1, q0, q0, q0, q0, q0, q0, T zp 84 [.ptr (.o 5) 0 0 0 0, .ptr (.o 7) 0 0 0 0] [(.o 5, .flat [.ptr (.o 6) 0 0 0 0, .bool (RS.bad s1)]), (.o 6, rdB s1), (.o 7, .flat (SMsg.c (l6 k)))] (.tup []) [(.o 5, .flat [.ptr (.o 6) 0 0 0 0, .bool (RS.bad s2)]), (.o 6, rdB s2), (.o 7, .flat (SMsg.c m))], T zp 28 [.ptr (.o 6) 0 0 0 0] [(.o 6, rdB s2)] (.int .i64 d) [(.o 6, rdB s2)], RS.bad s2 = false, (!decide (d = (0 : Int))) = true, q1, q1, q1, q1, q1, q false, q0, q1, q1, q1, q1, q (32 : Nat), q z32, q1, q1, q1, q0, q0, q (32 : Nat), q z32, q1, q1, q1, q1, q (32 : Nat), q z32, q0, q ByteArray.empty, q0, q0, q0, q0, q d]) : Option (V × c5 × List Prop)) := by kernel_rfl
theorem ax5 (s : ByteArray) (k : Int) (s0 : RS) (s1 : RS) (s2 : RS) (m : SMsg) (d : Int) :
  e9 zp (aW9 s k s0 s1 s2 m d) [false, true, false, false, false] = (some (.tup [.agg (SMsg.c m), .int .i64 0], [], [decide ((4194304 : Int) < (↑(ByteArray.size s) : Int)) = false, T zp 24 [.ros 1 (ByteArray.size s) (fun q => [.int .u8 (s9 s q)]) false] [] (.ptr (.o 448) 0 0 0 0) [(.o 448, rdB s0)], T zp 25 [.ptr (.o 448) 0 0 0 0, .int .i64 8] [(.o 448, rdB s0)] (.int .i64 k) [(.o 448, rdB s1)], decide (k = (0 : Int)) = true, T zp 78 [.ptr (.o 448) 0 0 0 0] [(.o 448, rdB s1)] (.int .i64 (RS.e s1)) [(.o 448, rdB s1)], decide (RS.e s1 = (0 : Int)) = false, q0, q0, q0, false = RS.bad s1, q (List.length (RS.l s1)), ∀ (k : Nat), k < List.length (RS.l s1) → bl (RS.l s1) k = bl (RS.l s1) k, false = true → false = true, q (RS.e s1), q2, q k, q1, q1, q1, q1, q false, q0, q1, q1, q1, q1, q (32 : Nat), q z32, q1, q1, q1, q0, q0, q (32 : Nat), q z32, q1, q1, q1, q1, q (32 : Nat), q z32, q0, q ByteArray.empty, q0, q1, q1, q1, q1, q1, q false, q0, q1, q1, q1, q1, q (32 : Nat), q z32, q1, q1, q1, q0, q0, q (32 : Nat), q z32, q1, q1, q1, q1, q (32 : Nat), q z32, q0, q ByteArray.empty, q0, q0, q0, q0, q1, q0, q0, q0, q0, q0, q0, T zp 84 [.ptr (.o 5) 0 0 0 0, .ptr (.o 7) 0 0 0 0] [(.o 5, .flat [.ptr (.o 6) 0 0 0 0, .bool (RS.bad s1)]), (.o 6, rdB s1), (.o 7, .flat (SMsg.c (l6 k)))] (.tup []) [(.o 5, .flat [.ptr (.o 6) 0 0 0 0, .bool (RS.bad s2)]), (.o 6, rdB s2), (.o 7, .flat (SMsg.c m))], T zp 28 [.ptr (.o 6) 0 0 0 0] [(.o 6, rdB s2)] (.int .i64 d) [(.o 6, rdB s2)], RS.bad s2 = false, (!decide (d = (0 : Int))) = false, q (SMsg.kind m), q (SMsg.epoch m), q (SMsg.leader m), q (SMsg.view m), q (SMsg.slot m), q (SBatch.noop (SMsg.batch m)), q (SBatch.n (SMsg.batch m)), ∀ (k : Nat), k < SBatch.n (SMsg.batch m) → SReq.c (SBatch.req (SMsg.batch m) k) = SReq.c (SBatch.req (SMsg.batch m) k), false = true → false = true, q (SVote.kind (SMsg.vote m)), q (SVote.epoch (SMsg.vote m)), q (SVote.view (SMsg.vote m)), q (SVote.slot (SMsg.vote m)), q (32 : Nat), q (SVote.digest (SMsg.vote m)), q (SMsg.cepoch m), q (SMsg.cleader m), q (SMsg.cview m), q (SMsg.nheld m), ∀ (k : Nat), k < SMsg.nheld m → SHeld.c (SMsg.held m k) = SHeld.c (SMsg.held m k), false = true → false = true, q (SMsg.nnews m), ∀ (k : Nat), k < SMsg.nnews m → SEnv.c (SMsg.news m k) = SEnv.c (SMsg.news m k), false = true → false = true, q (32 : Nat), q (SMsg.digest m), q (SVote.kind (SCert.vote (SMsg.cert m))), q (SVote.epoch (SCert.vote (SMsg.cert m))), q (SVote.view (SCert.vote (SMsg.cert m))), q (SVote.slot (SCert.vote (SMsg.cert m))), q (32 : Nat), q (SVote.digest (SCert.vote (SMsg.cert m))), q (SCert.n (SMsg.cert m)), ∀ (k : Nat), k < SCert.n (SMsg.cert m) → SSign.c (SCert.sig (SMsg.cert m) k) = SSign.c (SCert.sig (SMsg.cert m) k), false = true → false = true, q (SMsg.state m), q (SMsg.n m), ∀ (k : Nat), k < SMsg.n m → SSign.c (SMsg.sig m k) = SSign.c (SMsg.sig m k), false = true → false = true, q0, q0, q0, q1]) : Option (V × c5 × List Prop)) := by kernel_rfl
theorem aB5 (s : ByteArray) (k : Int) (s0 : RS) (s1 : RS) (s2 : RS) (m : SMsg) (d : Int) :
 e9 zp (aB4 s k s0 s1 s2 m d) [false, false, false, true] = (some (.tup [.agg [.int .i64 0, .int .i64 0, .int .i64 0, .int .i64 0, .int .i64 0, .bool false, rq 0 fun x => SReq.mk (0 : Int) (0 : Int) ByteArray.empty [], .int .i64 0, .int .i64 0, .int .i64 0, .int .i64 0, .seg .u8 32 z32, .int .i64 0, .int .i64 0, .int .i64 0, hl 0 fun x => SHeld.mk (SBatch.mk false 0 fun x => SReq.mk (0 : Int) (0 : Int) ByteArray.empty []) (SCert.mk (SVote.mk (0 : Int) (0 : Int) (0 : Int) (0 : Int) []) 0 fun x => SSign.mk (0 : Int) []), nw 0 fun x => SEnv.mk (0 : Int) ByteArray.empty [], .seg .u8 32 z32, .int .i64 0, .int .i64 0, .int .i64 0, .int .i64 0, .seg .u8 32 z32, sg 0 fun x => SSign.mk (0 : Int) [], .str ByteArray.empty, sg 0 fun x => SSign.mk (0 : Int) []], .int .i64 130], [], I8 s k s0 s1 s2 m d 0 ++ [decide (k = (0 : Int)) = false, q false, q0, q0, q0, false = RS.bad s1, q (List.length (RS.l s1)), ∀ (k : Nat), k < List.length (RS.l s1) → bl (RS.l s1) k = bl (RS.l s1) k, false = true → false = true, q (RS.e s1), q2, q k, q1, q1, q1, q1, q false, q0, q1, q1, q1, q1, q (32 : Nat), q z32, q1, q1, q1, q0, q0, q (32 : Nat), q z32, q1, q1, q1, q1, q (32 : Nat), q z32, q0, q ByteArray.empty, q0, q1, q1, q1, q1, q1, q false, q0, q1, q1, q1, q1, q (32 : Nat), q z32, q1, q1, q1, q0, q0, q (32 : Nat), q z32, q1, q1, q1, q1, q (32 : Nat), q z32, q0, q ByteArray.empty, q0, q0, q0, q0, q1, q0, q0, q0, q0, q0, q0, T zp 84 [.ptr (.o 5) 0 0 0 0, .ptr (.o 7) 0 0 0 0] [(.o 5, .flat [.ptr (.o 6) 0 0 0 0, .bool (RS.bad s1)]), (.o 6, rdB s1), (.o 7, .flat (SMsg.c (l6 k)))] (.tup []) [(.o 5, .flat [.ptr (.o 6) 0 0 0 0, .bool (RS.bad s2)]), (.o 6, rdB s2), (.o 7, .flat (SMsg.c m))], T zp 28 [.ptr (.o 6) 0 0 0 0] [(.o 6, rdB s2)] (.int .i64 d) [(.o 6, rdB s2)], RS.bad s2 = true, q1, q1, q1, q1, q1, q false, q0, q1, q1, q1, q1, q (32 : Nat), q z32, q1, q1, q1, q0, q0, q (32 : Nat), q z32, q1, q1, q1, q1, q (32 : Nat), q z32, q0, q ByteArray.empty, q0, q0, q0, q0, q (130 : Int)]) : Option (V × c5 × List Prop)) := by kernel_rfl
theorem ax2 (s : ByteArray) (k : Int) (s0 : RS) (s1 : RS) (s2 : RS) (m : SMsg) (d : Int) :
  e9 zp (aW8 s k s0 s1 s2 m d) [false, false, false, false, true] = (some (.tup [.agg [.int .i64 0, .int .i64 0, .int .i64 0, .int .i64 0, .int .i64 0, .bool false, rq 0 fun x => SReq.mk (0 : Int) (0 : Int) ByteArray.empty [], .int .i64 0, .int .i64 0, .int .i64 0, .int .i64 0, .seg .u8 32 z32, .int .i64 0, .int .i64 0, .int .i64 0, hl 0 fun x => SHeld.mk (SBatch.mk false 0 fun x => SReq.mk (0 : Int) (0 : Int) ByteArray.empty []) (SCert.mk (SVote.mk (0 : Int) (0 : Int) (0 : Int) (0 : Int) []) 0 fun x => SSign.mk (0 : Int) []), nw 0 fun x => SEnv.mk (0 : Int) ByteArray.empty [], .seg .u8 32 z32, .int .i64 0, .int .i64 0, .int .i64 0, .int .i64 0, .seg .u8 32 z32, sg 0 fun x => SSign.mk (0 : Int) [], .str ByteArray.empty, sg 0 fun x => SSign.mk (0 : Int) []], .int .i64 d], [], [decide ((4194304 : Int) < (↑(ByteArray.size s) : Int)) = false, T zp 24 [.ros 1 (ByteArray.size s) (fun q => [.int .u8 (s9 s q)]) false] [] (.ptr (.o 448) 0 0 0 0) [(.o 448, rdB s0)], T zp 25 [.ptr (.o 448) 0 0 0 0, .int .i64 8] [(.o 448, rdB s0)] (.int .i64 k) [(.o 448, rdB s1)], decide (k = (0 : Int)) = false, q false, q0, q0, q0, false = RS.bad s1, q (List.length (RS.l s1)), ∀ (k : Nat), k < List.length (RS.l s1) → bl (RS.l s1) k = bl (RS.l s1) k, false = true → false = true, q (RS.e s1), q2, q k, q1, q1, q1, q1, q false, q0, q1, q1, q1, q1, q (32 : Nat), q z32, q1, q1, q1, q0, q0, q (32 : Nat), q z32, q1, q1, q1, q1, q (32 : Nat), q z32, q0, q ByteArray.empty, q0, q1, q1, q1, q1, q1, q false, q0, q1, q1, q1, q1, q (32 : Nat), q z32, q1, q1, q1, q0, q0, q (32 : Nat), q z32, q1, q1, q1, q1, q (32 : Nat), q z32, q0, q ByteArray.empty, q0, q0, q0, q0, q1, q0, q0, q0, q0, q0, q0, T zp 84 [.ptr (.o 5) 0 0 0 0, .ptr (.o 7) 0 0 0 0] [(.o 5, .flat [.ptr (.o 6) 0 0 0 0, .bool (RS.bad s1)]), (.o 6, rdB s1), (.o 7, .flat (SMsg.c (l6 k)))] (.tup []) [(.o 5, .flat [.ptr (.o 6) 0 0 0 0, .bool (RS.bad s2)]), (.o 6, rdB s2), (.o 7, .flat (SMsg.c m))], T zp 28 [.ptr (.o 6) 0 0 0 0] [(.o 6, rdB s2)] (.int .i64 d) [(.o 6, rdB s2)], RS.bad s2 = false, (!decide (d = (0 : Int))) = true, q1, q1, q1, q1, q1, q false, q0, q1, q1, q1, q1, q (32 : Nat), q z32, q1, q1, q1, q0, q0, q (32 : Nat), q z32, q1, q1, q1, q1, q (32 : Nat), q z32, q0, q ByteArray.empty, q0, q0, q0, q0, q d]) : Option (V × c5 × List Prop)) := by kernel_rfl
theorem ax4 (s : ByteArray) (k : Int) (s0 : RS) (s1 : RS) (s2 : RS) (m : SMsg) (d : Int) :
  e9 zp (aW9 s k s0 s1 s2 m d) [false, false, false, false, false] = (some (.tup [.agg (SMsg.c m), .int .i64 0], [], [decide ((4194304 : Int) < (↑(ByteArray.size s) : Int)) = false, T zp 24 [.ros 1 (ByteArray.size s) (fun q => [.int .u8 (s9 s q)]) false] [] (.ptr (.o 448) 0 0 0 0) [(.o 448, rdB s0)], T zp 25 [.ptr (.o 448) 0 0 0 0, .int .i64 8] [(.o 448, rdB s0)] (.int .i64 k) [(.o 448, rdB s1)], decide (k = (0 : Int)) = false, q false, q0, q0, q0, false = RS.bad s1, q (List.length (RS.l s1)), ∀ (k : Nat), k < List.length (RS.l s1) → bl (RS.l s1) k = bl (RS.l s1) k, false = true → false = true, q (RS.e s1), q2, q k, q1, q1, q1, q1, q false, q0, q1, q1, q1, q1, q (32 : Nat), q z32, q1, q1, q1, q0, q0, q (32 : Nat), q z32, q1, q1, q1, q1, q (32 : Nat), q z32, q0, q ByteArray.empty, q0, q1, q1, q1, q1, q1, q false, q0, q1, q1, q1, q1, q (32 : Nat), q z32, q1, q1, q1, q0, q0, q (32 : Nat), q z32, q1, q1, q1, q1, q (32 : Nat), q z32, q0, q ByteArray.empty, q0, q0, q0, q0, q1, q0, q0, q0, q0, q0, q0, T zp 84 [.ptr (.o 5) 0 0 0 0, .ptr (.o 7) 0 0 0 0] [(.o 5, .flat [.ptr (.o 6) 0 0 0 0, .bool (RS.bad s1)]), (.o 6, rdB s1), (.o 7, .flat (SMsg.c (l6 k)))] (.tup []) [(.o 5, .flat [.ptr (.o 6) 0 0 0 0, .bool (RS.bad s2)]), (.o 6, rdB s2), (.o 7, .flat (SMsg.c m))], T zp 28 [.ptr (.o 6) 0 0 0 0] [(.o 6, rdB s2)] (.int .i64 d) [(.o 6, rdB s2)], RS.bad s2 = false, (!decide (d = (0 : Int))) = false, q (SMsg.kind m), q (SMsg.epoch m), q (SMsg.leader m), q (SMsg.view m), q (SMsg.slot m), q (SBatch.noop (SMsg.batch m)), q (SBatch.n (SMsg.batch m)), ∀ (k : Nat), k < SBatch.n (SMsg.batch m) → SReq.c (SBatch.req (SMsg.batch m) k) = SReq.c (SBatch.req (SMsg.batch m) k), false = true → false = true, q (SVote.kind (SMsg.vote m)), q (SVote.epoch (SMsg.vote m)), q (SVote.view (SMsg.vote m)), q (SVote.slot (SMsg.vote m)), q (32 : Nat), q (SVote.digest (SMsg.vote m)), q (SMsg.cepoch m), q (SMsg.cleader m), q (SMsg.cview m), q (SMsg.nheld m), ∀ (k : Nat), k < SMsg.nheld m → SHeld.c (SMsg.held m k) = SHeld.c (SMsg.held m k), false = true → false = true, q (SMsg.nnews m), ∀ (k : Nat), k < SMsg.nnews m → SEnv.c (SMsg.news m k) = SEnv.c (SMsg.news m k), false = true → false = true, q (32 : Nat), q (SMsg.digest m), q (SVote.kind (SCert.vote (SMsg.cert m))), q (SVote.epoch (SCert.vote (SMsg.cert m))), q (SVote.view (SCert.vote (SMsg.cert m))), q (SVote.slot (SCert.vote (SMsg.cert m))), q (32 : Nat), q (SVote.digest (SCert.vote (SMsg.cert m))), q (SCert.n (SMsg.cert m)), ∀ (k : Nat), k < SCert.n (SMsg.cert m) → SSign.c (SCert.sig (SMsg.cert m) k) = SSign.c (SCert.sig (SMsg.cert m) k), false = true → false = true, q (SMsg.state m), q (SMsg.n m), ∀ (k : Nat), k < SMsg.n m → SSign.c (SMsg.sig m k) = SSign.c (SMsg.sig m k), false = true → false = true, q0, q0, q0, q1]) : Option (V × c5 × List Prop)) := by kernel_rfl
theorem aV0 (m : SMsg) (s : RS) (hl : s.l.length ≤ 1000000000) {r a q : Nat} (hn : [Nm.o r, Nm.o a, Nm.o q].Nodup) : T Tryz.prog 84 [.ptr (.o r) 0 0 0 0, .ptr (.o q) 0 0 0 0] (mrH r a s ++ [(.o q, .flat m.c)]) (.tup []) (mrH r a (l7 m s).2 ++ [(.o q, .flat (l7 m s).1.c)]) := by
 obtain ⟨σ, hσ, h1⟩ := T.at (aU_ m s hl) [.o 0, .o 1, .o 2] [.o r, .o a, .o q] (by simp) hn rfl
 simp only [List.map_cons, List.map_nil, List.cons.injEq, and_true] at hσ
 simpa [V.rens, V.ren, p0, rdB, mrH, SMsg.c, SBatch.c, SVote.c, SCert.c, rq, Sy.hl, nw, sg, c5.ren, B.ren, hσ.1, hσ.2.1, hσ.2.2] using h1
theorem aC_ (l : List UInt8) : A9 { l := l } (A6 l) := i7 8 _
theorem bm8 (l : List UInt8) : (A6 l).bad = false := (aC_ l).2.1
theorem bu7 (s : ByteArray) : T Tryz.prog 42 [.str s] [] (.tup [.agg (p6 (i9 s)).1.c, .int .i64 (p6 (i9 s)).2]) [] := by
 have hs := Q3 s
 by_cases h0 : 4194304 < (i9 s).length
 ·have e : p6 (i9 s) = (l6 0, 3) := by simp only [p6, if_pos h0]
  rw [e]
  refine f3 (aW7 s) Tryz.func42 ?_
  simp only [All]; and_intros
  all_goals first | (rw [decide_eq_true_eq]; omega) | trivial
 have hl : (i9 s).length ≤ 1000000000 := by omega
 have hlen : decide ((4194304 : Int) < (s.size : Nat)) = false := by rw [decide_eq_false_iff_not]; omega
 have l1 : (A6 (i9 s)).l.length ≤ 1000000000 := Nat.le_trans (aC_ _).1 hl
 have b1 := bm8 (i9 s)
 have hR : ∀ a, T Tryz.prog 24 [.ros 1 s.size (fun q => [.int .u8 (s9 s q)]) false] [] (.ptr (.o a) 0 0 0 0) [(.o a, rdB { l := i9 s })] := fun a => by
  have := bO5 a (i9 s) hl
  rw [roB, hs] at this; exact this
 have hF : T Tryz.prog 84 [.ptr (.o 5) 0 0 0 0, .ptr (.o 7) 0 0 0 0] (mrH 5 6 (A6 (i9 s)) ++ [(.o 7, .flat (l6 (D9 (i9 s))).c)]) (.tup []) (mrH 5 6 (n7 (i9 s)).2 ++ [(.o 7, .flat (n7 (i9 s)).1.c)]) := aV0 (l6 (D9 (i9 s))) (A6 (i9 s)) l1 (by decide)
 by_cases h1 : D9 (i9 s) = 0
 ·by_cases h2 : (A6 (i9 s)).e = 0
  ·have e : p6 (i9 s) = (l6 0, 130) := by simp only [p6, if_neg h0, h1, h2, and_self, if_true]
   rw [e]
   refine f3 (aH9 s (D9 (i9 s)) { l := i9 s } (A6 (i9 s)) (n7 (i9 s)).2 (n7 (i9 s)).1 (B0 (n7 (i9 s)).2)) Tryz.func42 ?_
   simp only [All, f6, I8]; and_intros
   all_goals first | exact hlen | exact hR _ | exact v5 448 8 { l := i9 s } | exact C1 448 (A6 (i9 s)) | (rw [decide_eq_true_eq]; assumption) | trivial
  ·by_cases h3 : (n7 (i9 s)).2.bad = true
   ·have e : p6 (i9 s) = (l6 0, 130) := by simp only [p6, if_neg h0, h2, and_false, if_false, if_pos h3]
    rw [e]
    refine f3 (aB6 s (D9 (i9 s)) { l := i9 s } (A6 (i9 s)) (n7 (i9 s)).2 (n7 (i9 s)).1 (B0 (n7 (i9 s)).2)) Tryz.func42 ?_
    simp only [All, f6, I8]; and_intros
    all_goals first | exact hlen | exact hR _ | exact v5 448 8 { l := i9 s } | exact C1 448 (A6 (i9 s)) | exact hF | exact aa1 6 (n7 (i9 s)).2 | (rw [decide_eq_true_eq]; assumption) | (rw [decide_eq_false_iff_not]; assumption) | exact h3 | exact b1.symm | trivial | (intro _ _; trivial)
   ·by_cases h4 : B0 (n7 (i9 s)).2 = 0
    ·have e : p6 (i9 s) = ((n7 (i9 s)).1, 0) := by simp only [p6, if_neg h0, h2, and_false, if_false, if_neg h3, h4, ne_eq, not_true]
     rw [e]
     refine f3 (ax5 s (D9 (i9 s)) { l := i9 s } (A6 (i9 s)) (n7 (i9 s)).2 (n7 (i9 s)).1 (B0 (n7 (i9 s)).2)) Tryz.func42 ?_
     simp only [All]; and_intros
     all_goals first | exact hlen | exact hR _ | exact v5 448 8 { l := i9 s } | exact C1 448 (A6 (i9 s)) | exact hF | exact aa1 6 (n7 (i9 s)).2 | (rw [decide_eq_true_eq]; assumption) | (rw [decide_eq_false_iff_not]; assumption) | exact Bool.eq_false_iff.mpr h3 | (simp [h4]; done) | exact b1.symm
    ·have e : p6 (i9 s) = (l6 0, B0 (n7 (i9 s)).2) := by simp only [p6, if_neg h0, h2, and_false, if_false, if_neg h3, ne_eq, h4, not_false_eq_true, if_true]
     rw [e]
     refine f3 (ax3 s (D9 (i9 s)) { l := i9 s } (A6 (i9 s)) (n7 (i9 s)).2 (n7 (i9 s)).1 (B0 (n7 (i9 s)).2)) Tryz.func42 ?_
     simp only [All]; and_intros
     all_goals first | exact hlen | exact hR _ | exact v5 448 8 { l := i9 s } | exact C1 448 (A6 (i9 s)) | exact hF | exact aa1 6 (n7 (i9 s)).2 | (rw [decide_eq_true_eq]; assumption) | (rw [decide_eq_false_iff_not]; assumption) | exact Bool.eq_false_iff.mpr h3 | (simp [h4]; done) | exact b1.symm
 ·by_cases h3 : (n7 (i9 s)).2.bad = true
  ·have e : p6 (i9 s) = (l6 0, 130) := by simp only [p6, if_neg h0, h1, false_and, if_false, if_pos h3]
   rw [e]
   refine f3 (aB5 s (D9 (i9 s)) { l := i9 s } (A6 (i9 s)) (n7 (i9 s)).2 (n7 (i9 s)).1 (B0 (n7 (i9 s)).2)) Tryz.func42 ?_
   simp only [All, f6, I8]; and_intros
   all_goals first | exact hlen | exact hR _ | exact v5 448 8 { l := i9 s } | exact hF | exact aa1 6 (n7 (i9 s)).2 | (rw [decide_eq_false_iff_not]; assumption) | exact h3 | exact b1.symm | trivial | (intro _ _; trivial)
  ·by_cases h4 : B0 (n7 (i9 s)).2 = 0
   ·have e : p6 (i9 s) = ((n7 (i9 s)).1, 0) := by simp only [p6, if_neg h0, h1, false_and, if_false, if_neg h3, h4, ne_eq, not_true]
    rw [e]
    refine f3 (ax4 s (D9 (i9 s)) { l := i9 s } (A6 (i9 s)) (n7 (i9 s)).2 (n7 (i9 s)).1 (B0 (n7 (i9 s)).2)) Tryz.func42 ?_
    simp only [All]; and_intros
    all_goals first | exact hlen | exact hR _ | exact v5 448 8 { l := i9 s } | exact hF | exact aa1 6 (n7 (i9 s)).2 | (rw [decide_eq_false_iff_not]; assumption) | exact Bool.eq_false_iff.mpr h3 | (simp [h4]; done) | exact b1.symm
   ·have e : p6 (i9 s) = (l6 0, B0 (n7 (i9 s)).2) := by simp only [p6, if_neg h0, h1, false_and, if_false, if_neg h3, ne_eq, h4, not_false_eq_true, if_true]
    rw [e]
    refine f3 (ax2 s (D9 (i9 s)) { l := i9 s } (A6 (i9 s)) (n7 (i9 s)).2 (n7 (i9 s)).1 (B0 (n7 (i9 s)).2)) Tryz.func42 ?_
    simp only [All]; and_intros
    all_goals first | exact hlen | exact hR _ | exact v5 448 8 { l := i9 s } | exact hF | exact aa1 6 (n7 (i9 s)).2 | (rw [decide_eq_false_iff_not]; assumption) | exact Bool.eq_false_iff.mpr h3 | (simp [h4]; done) | exact b1.symm
theorem bt5 (l : List UInt8) : i9 (baL l) = l := rfl
theorem aR9 {n : Nat} {xs : List Int} (h : SegOk n xs) : A1 (K9 xs) = xs := by
 unfold A1 K9
 rw [List.map_map]
 refine (List.map_congr_left fun x hx => ?_).trans (List.map_id xs)
 have := h.rng x hx
 simp only [Function.comp, UInt8.toNat_ofNat', id]
 omega
theorem W9 {n m : Int} : j6 n m = true ↔ 0 ≤ n ∧ n ≤ m := by simp [j6]
section
variable {α : Type} {one : RS → α × RS} {enc : α → List UInt8}
end
def an0 (b : SBatch) : Prop := ∀ i, i < b.n → SegOk 16 (b.req i).tag
theorem aj_ {n most : Nat} {p : Nat → Bool} : w4 n most p = true ↔ n ≤ most ∧ ∀ i, i < n → p i = true := by simp [w4]
theorem ag3 {n n' : Nat} {p : Nat → Bool} : v6 n n' p = true ↔ n = n' ∧ ∀ i, i < n → p i = true := by simp [v6]
theorem be4 {a b : SReq} : K3 a b = true ↔ a = b := by
 constructor
 ·intro h
  obtain ⟨h1, h2, h3, h4⟩ := aw2 h
  cases a; cases b; simp_all
 ·rintro rfl; simp [K3]
theorem aq_ {a b : SSign} : H8 a b = true ↔ a = b := by
 constructor
 ·intro h
  simp only [H8, Bool.and_true, Bool.and_eq_true, decide_eq_true_eq] at h
  cases a; cases b; simp_all
 ·rintro rfl; simp [H8]
theorem a_9 {a b : SEnv} : X7 a b = true ↔ a = b := by
 constructor
 ·intro h
  simp only [X7, Bool.and_true, Bool.and_eq_true, decide_eq_true_eq] at h
  cases a; cases b; simp_all
 ·rintro rfl; simp [X7]
theorem ar2 {a b : SVote} : ah2 a b = true ↔ a = b := by
 constructor
 ·intro h
  simp only [ah2, Bool.and_true, Bool.and_eq_true, decide_eq_true_eq] at h
  cases a; cases b; simp_all
 ·rintro rfl; simp [ah2]
theorem ad_ {a b : SBatch} : w5 a b = true ↔ a.noop = b.noop ∧ a.n = b.n ∧ ∀ i, i < a.n → a.req i = b.req i := by
 simp only [w5, Bool.and_eq_true, ag3, be4, beq_iff_eq]
structure segCert (c : SCert) : Prop where
 vote : SegOk 32 c.vote.digest
 sig : ∀ i, i < c.n → SegOk 16 (c.sig i).tag
structure segHeld (h : SHeld) : Prop where
 batch : an0 h.batch
 cert : segCert h.cert
theorem ag1 {a b : SCert} : B1 a b = true ↔ a.vote = b.vote ∧ a.n = b.n ∧ ∀ i, i < a.n → a.sig i = b.sig i := by
 simp only [B1, Bool.and_eq_true, ag3, aq_, ar2]
structure segMsg (m : SMsg) : Prop where
 batch : an0 m.batch
 vote : SegOk 32 m.vote.digest
 held : ∀ i, i < m.nheld → segHeld (m.held i)
 news : ∀ i, i < m.nnews → SegOk 16 (m.news i).tag
 digest : SegOk 32 m.digest
 cert : segCert m.cert
 sig : ∀ i, i < m.n → SegOk 16 (m.sig i).tag
theorem ag2 {a b : SHeld} : E2 a b = true ↔ w5 a.batch b.batch = true ∧ B1 a.cert b.cert = true := by simp [E2]
structure SameM (a b : SMsg) : Prop where
 kind : a.kind = b.kind
 epoch : a.epoch = b.epoch
 leader : a.leader = b.leader
 view : a.view = b.view
 slot : a.slot = b.slot
 batch : w5 a.batch b.batch = true
 vote : a.vote = b.vote
 cepoch : a.cepoch = b.cepoch
 cleader : a.cleader = b.cleader
 cview : a.cview = b.cview
 held : a.nheld = b.nheld ∧ ∀ i, i < a.nheld → E2 (a.held i) (b.held i) = true
 news : a.nnews = b.nnews ∧ ∀ i, i < a.nnews → a.news i = b.news i
 digest : a.digest = b.digest
 cert : B1 a.cert b.cert = true
 state : a.state = b.state
 sig : a.n = b.n ∧ ∀ i, i < a.n → a.sig i = b.sig i
theorem Q9 {a b : SMsg} : D4 a b = true ↔ SameM a b := by
 simp only [D4, E1, Bool.and_eq_true, decide_eq_true_eq, ag3, aq_, ar2, a_9]
 constructor
 ·rintro ⟨h1, h2, h3, h4, h5, h6, h7, ⟨h8, h9, h10, h11⟩, h12, h13, h14, h15, h16⟩
  exact ⟨h1, h2, h3, h4, h5, h6, h7, h8, h9, h10, h11, h12, h13, h14, h15, h16⟩
 ·rintro ⟨h1, h2, h3, h4, h5, h6, h7, h8, h9, h10, h11, h12, h13, h14, h15, h16⟩
  exact ⟨h1, h2, h3, h4, h5, h6, h7, ⟨h8, h9, h10, h11⟩, h12, h13, h14, h15, h16⟩
theorem Q1 (b : SBatch) : w5 b b = true := ad_.2 ⟨rfl, rfl, fun _ _ => rfl⟩
theorem S7 (b : SCert) : B1 b b = true := ag1.2 ⟨rfl, rfl, fun _ _ => rfl⟩
theorem ay_ (b : SHeld) : E2 b b = true := ag2.2 ⟨Q1 _, S7 _⟩
theorem O5 (m : SMsg) : SameM m m := ⟨rfl, rfl, rfl, rfl, rfl, Q1 _, rfl, rfl, rfl, rfl, ⟨rfl, fun _ _ => ay_ _⟩, ⟨rfl, fun _ _ => rfl⟩, rfl, S7 _, rfl, ⟨rfl, fun _ _ => rfl⟩⟩
structure Good (m : SMsg) : Prop where
 kind : 1 ≤ m.kind ∧ m.kind ≤ 8
 only : SameM m (O2 m)
 vote : m.kind = 2 → u0 m.vote = true
 cert : m.kind = 7 → D2 m.cert = true
 epoch : 0 ≤ m.epoch ∧ m.epoch ≤ 1048576
 slot : 0 ≤ m.slot ∧ m.slot ≤ 1099511627776
 view : 0 ≤ m.view ∧ m.view ≤ 1099511627776
 leader : 0 ≤ m.leader ∧ m.leader ≤ 64
 batch : s8 m.batch = true
 cepoch : 0 ≤ m.cepoch ∧ m.cepoch ≤ 1048576
 cleader : 0 ≤ m.cleader ∧ m.cleader ≤ 64
 cview : 0 ≤ m.cview ∧ m.cview ≤ 1099511627776
 held : m.nheld ≤ 4 ∧ ∀ i, i < m.nheld → z5 (m.held i) = true
 news : m.nnews ≤ 64 ∧ ∀ i, i < m.nnews → A3 (m.news i) = true
 sig : m.n ≤ 64 ∧ ∀ i, i < m.n → u7 (m.sig i) = true
 state : m.state.size ≤ 4194304
theorem aE2 {m : SMsg} : az9 m = true ↔ Good m := by
 simp only [az9, B4, Bool.and_eq_true, decide_eq_true_eq, W9, aj_, Bool.or_eq_true, Bool.not_eq_true', decide_eq_false_iff_not, Q9]
 constructor
 ·rintro ⟨h1, h2, h3, h4, h5, h6, h7, h8, h9, h10, ⟨h11, h12, h13, h14⟩, h15, h16, h17⟩
  exact ⟨⟨h1, h2⟩, h3, fun h => h4.resolve_left (fun g => g h), fun h => h5.resolve_left (fun g => g h), h6, h7, h8, h9, h10, h11, h12, h13, h14, h15, h16, by omega⟩
 ·rintro ⟨⟨h1, h2⟩, h3, h4, h5, h6, h7, h8, h9, h10, h11, h12, h13, h14, h15, h16, h17⟩
  exact ⟨h1, h2, h3, (Classical.em (m.kind = 2)).elim (fun g => .inr (h4 g)) .inl, (Classical.em (m.kind = 7)).elim (fun g => .inr (h5 g)) .inl, h6, h7, h8, h9, h10, ⟨h11, h12, h13, h14⟩, h15, h16, by omega⟩
theorem aU1 : SegOk 32 z32 := ⟨rfl, by decide⟩
theorem B5 {n : Int} {k : Int} (h : 0 ≤ n ∧ n ≤ k) (hk : k < 9223372036854775808) : r9 n := ⟨h.1, by omega⟩
theorem aG7 {r : SReq} (h : w7 r = true) (ht : SegOk 16 r.tag) : ReqOk r ∧ r.data.size ≤ 10000 := by
 simp only [w7, Bool.and_eq_true, decide_eq_true_eq, W9] at h
 exact ⟨⟨B5 h.1 (by decide), B5 h.2.1 (by decide), by omega, ht⟩, by omega⟩
theorem ao4 {b : SBatch} (h : s8 b = true) (ht : an0 b) : BatchOk b := by
 simp only [s8, Bool.and_eq_true, Bool.not_eq_true', Bool.and_eq_false_iff, decide_eq_false_iff_not, aj_] at h
 obtain ⟨h1, h2, h3⟩ := h
 refine ⟨by omega, fun hn => ?_, fun k hk => (aG7 (h3 k hk) (ht k hk)).1, fun k hk => (aG7 (h3 k hk) (ht k hk)).2⟩
 rcases h1 with h1 | h1
 ·rw [hn] at h1; cases h1
 ·omega
theorem aw_ {v : SVote} (h : u0 v = true) (ht : SegOk 32 v.digest) : VoteOk v := by
 simp only [u0, Bool.and_eq_true, Bool.or_eq_true, decide_eq_true_eq, W9] at h
 obtain ⟨h1, h2, h3, h4⟩ := h
 exact ⟨⟨by omega, by omega⟩, B5 h2 (by decide), B5 h3 (by decide), B5 h4 (by decide), ht⟩
theorem aw8 {s : SSign} (h : u7 s = true) (ht : SegOk 16 s.tag) : SignOk s := ⟨B5 (W9.1 h) (by decide), ht⟩
theorem av2 {c : SCert} (h : D2 c = true) (ht : segCert c) : CertOk c := by
 simp only [D2, Bool.and_eq_true, aj_] at h
 exact ⟨aw_ h.1 ht.vote, by have := h.2.1; omega, fun k hk => aw8 (h.2.2 k hk) (ht.sig k hk)⟩
theorem ba9 {x : SHeld} (h : z5 x = true) (ht : segHeld x) : HeldOk x := by
 simp only [z5, Bool.and_eq_true] at h
 exact ⟨ao4 h.1 ht.batch, av2 h.2 ht.cert⟩
theorem bm_ {x : SEnv} (h : A3 x = true) (ht : SegOk 16 x.tag) : EnvOk x := by
 simp only [A3, Bool.and_eq_true, decide_eq_true_eq, W9] at h
 exact ⟨B5 h.1 (by decide), by have := h.2; omega, ht⟩
theorem bm9 {m : SMsg} (h : az9 m = true) (ht : segMsg m) : EncOk m := by
 have g := aE2.1 h
 exact ⟨g.kind, B5 g.epoch (by decide), B5 g.leader (by decide), B5 g.view (by decide), B5 g.slot (by decide), B5 g.cepoch (by decide), B5 g.cleader (by decide), B5 g.cview (by decide),
  ao4 g.batch ht.batch, fun hk => aw_ (g.vote hk) ht.vote, by have := g.held.1; omega, fun k hk => ba9 (g.held.2 k hk) (ht.held k hk), by have := g.news.1; omega, fun k hk => bm_ (g.news.2 k hk) (ht.news k hk),
  ht.digest, fun hk => av2 (g.cert hk) ht.cert, by have := g.state; omega, by have := g.sig.1; omega, fun k hk => aw8 (g.sig.2 k hk) (ht.sig k hk)⟩
def ae6 : SEnv := { src := 0, body := baL [], tag := z16 }
end Go.Proofs.YtnmccoincblecaaGreat
namespace Sy
open Go
variable {P : Program} {U : Imm} {ρ : Env}
theorem D7 {pre : c5} {w : World} (hh : HRel U ρ pre w) : U.le (freeze U ρ pre w) ∧ H7 U (freeze U ρ pre w) ρ pre ∧ HRel (freeze U ρ pre w) ρ [] w := by
 have hfU : ∀ n b l, (n, b) ∈ pre → ρ n = some l → l.real = true → U l.blk = none := fun n b l hm e hr => by
  obtain ⟨_, _, _, h⟩ := hh.real hm e hr; exact h
 refine ⟨fun k c e => ?_, fun n b hm l e hr => ?_, ?_⟩
 ·unfold freeze
  split
  ·rename_i hx
   obtain ⟨n, b, l, h1, h2, h3, rfl⟩ := hx
   rw [hfU n b l h1 h2 h3] at e; cases e
  ·exact e
 ·have hex : ∃ n b l', (n, b) ∈ pre ∧ ρ n = some l' ∧ l'.real = true ∧ l'.blk = l.blk := ⟨n, b, l, hm, e, hr, rfl⟩
  obtain ⟨o, h1, h2, h3⟩ := hh.real hm e hr
  constructor
  ·rintro cs rfl
   obtain ⟨c, el, lo, hi, rfl, _, _, h4⟩ := h2
   exact ⟨c, by unfold freeze; rw [if_pos hex, h1], h4⟩
  ·rintro es m f g rfl
   obtain ⟨c, el, lo, hi, rfl, _, _, _, _, h4⟩ := h2
   exact ⟨c, by unfold freeze; rw [if_pos hex, h1], h4⟩
 ·refine ⟨fun n b hm => absurd hm List.not_mem_nil, fun n b n' b' l l' hm => absurd hm List.not_mem_nil, List.nodup_nil, fun k c hk => ?_⟩
  unfold freeze at hk
  split at hk
  ·split at hk
   ·rename_i c' el fr hx
    simp only [Option.some.injEq] at hk; subst hk
    exact ⟨el, fr, hx⟩
   ·cases hk
  ·exact hh.imm k c hk
theorem Leaves.frz {pre post : c5} {w w' : World} {val : V} {x : Value} {U' : Imm} {ρ' : Env} (H : HRel U ρ pre w) (L : Leaves (freeze U ρ pre w) ρ [] w val post x U' ρ' w') : Leaves U ρ pre w val post x U' ρ' w' := by
 refine ⟨L.val, L.heap, L.keep, L.only, ⟨L.ext.size, Imm.le_trans (D7 H).1 L.ext.imm, fun b hb _ => L.ext.frame b hb fun n l ⟨b, hb⟩ => absurd hb List.not_mem_nil, fun n l hd e hr => ?_, fun b c e => ?_, L.ext.out⟩⟩
 ·rcases L.ext.new n l hd e hr with h | ⟨_, _, ⟨b, hb⟩, _⟩
  ·exact .inl h
  ·exact absurd hb List.not_mem_nil
 ·rcases L.ext.newImm b c e with h | h | ⟨_, _, ⟨b, hb⟩, _⟩
  ·unfold freeze at h
   split at h
   ·rename_i hx
    obtain ⟨n, b', l, h1, h2, h3, h4⟩ := hx
    exact .inr (.inr ⟨n, l, ⟨b', h1⟩, h2, h3, h4⟩)
   ·exact .inl h
  ·exact .inr (.inl h)
  ·exact absurd hb List.not_mem_nil
theorem T.frz {f : FuncId} {args args' : List V} {pre post : c5} {val : V} (h : T P f args [] val post)
  (hw : ∀ U ρ w xs, HRel U ρ pre w → i8 U ρ args' xs → i8 (freeze U ρ pre w) ρ args xs) (hd : ∀ n, c5.dom post n → ¬ c5.dom pre n) : T P f args' pre val post := by
 intro U ρ w xs hh ha hf
 refine Calls.mono (h _ ρ w xs (D7 hh).2.2 (hw U ρ w _ hh ha) fun n hn => .inr ((hf n hn).resolve_left (hd n hn))) ?_
 rintro e w' ⟨x, U', ρ', he, L⟩
 exact ⟨x, U', ρ', he, Leaves.frz hh L⟩
theorem TO.frz {pr : Prim} {args args' : List V} {pre post : c5} {val : V} (h : TO P pr args [] val post)
  (hw : ∀ U ρ w xs, HRel U ρ pre w → i8 U ρ args' xs → i8 (freeze U ρ pre w) ρ args xs) (hd : ∀ n, c5.dom post n → ¬ c5.dom pre n) : TO P pr args' pre val post := by
 intro ty U ρ w xs hh ha hf
 obtain ⟨x, w', U', ρ', he, L⟩ := h ty _ ρ w xs (D7 hh).2.2 (hw U ρ w _ hh ha) fun n hn => .inr ((hf n hn).resolve_left (hd n hn))
 exact ⟨x, w', U', ρ', he, Leaves.frz hh L⟩
theorem aL4 {pre0 pre1 : c5} {w : World} (hh : HRel U ρ (pre0 ++ pre1) w) : HRel (freeze U ρ pre1 w) ρ pre0 w := by
 have hl := hh.left
 obtain ⟨hU, hF, h00⟩ := D7 hh.right
 refine ⟨fun n b hm => ?_, hl.inj, hl.nd, h00.imm⟩
 obtain ⟨l, g1, g2⟩ := hl.blk n b hm
 refine ⟨l, g1, ?_⟩
 rcases g2 with ⟨hre, o, g3, g4, g5⟩ | g2
 ·refine .inl ⟨hre, o, g3, r8.mono hU (fun _ _ h => h) g4, ?_⟩
  unfold freeze
  rw [if_neg]
  ·exact g5
  ·rintro ⟨n1, b1, l1, k1, k2, k3, k4⟩
   have := hh.inj n b n1 b1 l l1 (List.mem_append_left _ hm) (List.mem_append_right _ k1) g1 k2 hre k3 k4.symm
   subst this
   have hnd := hh.nd
   rw [List.map_append, List.nodup_append] at hnd
   exact hnd.2.2 n (N1.1 ⟨b, hm⟩) n (N1.1 ⟨b1, k1⟩) rfl
 ·exact .inr g2
theorem Leaves.frzH {pre0 pre1 post : c5} {w w' : World} {val : V} {x : Value} {U' : Imm} {ρ' : Env} (H : HRel U ρ (pre0 ++ pre1) w) (L : Leaves (freeze U ρ pre1 w) ρ pre0 w val post x U' ρ' w') : Leaves U ρ (pre0 ++ pre1) w val post x U' ρ' w' := by
 refine ⟨L.val, L.heap, L.keep, L.only, ⟨L.ext.size, Imm.le_trans (D7 H.right).1 L.ext.imm, fun b hb hn => L.ext.frame b hb fun n l hd0 => hn n l (j7.2 (.inl hd0)), fun n l hd0 e hr0 => ?_, fun b c e => ?_, L.ext.out⟩⟩
 ·rcases L.ext.new n l hd0 e hr0 with h | ⟨n0, l0, h1, h2, h3, h4⟩
  ·exact .inl h
  ·exact .inr ⟨n0, l0, j7.2 (.inl h1), h2, h3, h4⟩
 ·rcases L.ext.newImm b c e with h | h | ⟨n0, l0, h1, h2, h3, h4⟩
  ·unfold freeze at h
   split at h
   ·rename_i hx
    obtain ⟨n, b', l, h1, h2, h3, h4⟩ := hx
    exact .inr (.inr ⟨n, l, j7.2 (.inr ⟨b', h1⟩), h2, h3, h4⟩)
   ·exact .inl h
  ·exact .inr (.inl h)
  ·exact .inr (.inr ⟨n0, l0, j7.2 (.inl h1), h2, h3, h4⟩)
theorem T.frzH {f : FuncId} {args args' : List V} {pre0 pre1 post : c5} {val : V} (h : T P f args pre0 val post)
  (hw : ∀ U ρ w xs, HRel U ρ pre1 w → i8 U ρ args' xs → i8 (freeze U ρ pre1 w) ρ args xs) (hd : ∀ n, c5.dom post n → ¬ c5.dom pre1 n) : T P f args' (pre0 ++ pre1) val post := by
 intro U ρ w xs hh ha hf
 refine Calls.mono (h _ ρ w xs (aL4 hh) (hw U ρ w _ hh.right ha) fun n hn => ?_) ?_
 ·rcases hf n hn with h1 | h1
  ·exact .inl ((j7.1 h1).resolve_right (hd n hn))
  ·exact .inr h1
 rintro e w' ⟨x, U', ρ', he, L⟩
 exact ⟨x, U', ρ', he, Leaves.frzH hh L⟩
theorem TO.frzH {pr : Prim} {args args' : List V} {pre0 pre1 post : c5} {val : V} (h : TO P pr args pre0 val post)
  (hw : ∀ U ρ w xs, HRel U ρ pre1 w → i8 U ρ args' xs → i8 (freeze U ρ pre1 w) ρ args xs) (hd : ∀ n, c5.dom post n → ¬ c5.dom pre1 n) : TO P pr args' (pre0 ++ pre1) val post := by
 intro ty U ρ w xs hh ha hf
 obtain ⟨x, w', U', ρ', he, L⟩ := h ty _ ρ w xs (aL4 hh) (hw U ρ w _ hh.right ha) fun n hn => by
  rcases hf n hn with h1 | h1
  ·exact .inl ((j7.1 h1).resolve_right (hd n hn))
  ·exact .inr h1
 exact ⟨x, w', U', ρ', he, Leaves.frzH hh L⟩
theorem ap6 {pre : c5} {args args' : List V} {cs : List Prop} (hl : O1 pre args' args = some cs) (hc : All cs) : ∀ U ρ w xs, HRel U ρ pre w → i8 U ρ args' xs → i8 (freeze U ρ pre w) ρ args xs :=
 fun _ _ _ xs H hv => N2 (D7 H).1 (D7 H).2.1 _ _ _ xs hl hc hv
theorem az1 {u v : V} {xs : List Value} (h : i8 U ρ [u, v] xs) : ∃ x y, xs = [x, y] ∧ c9 U ρ u x ∧ c9 U ρ v y := by
 rw [i8] at h
 obtain ⟨x, r, rfl, h1, h2⟩ := h
 rw [i8] at h2
 obtain ⟨y, r', rfl, h3, h4⟩ := h2
 rw [i8] at h4
 subst h4
 exact ⟨x, y, rfl, h1, h3⟩
theorem i6.at {cs : List V} {l : List Value} (h : i6 U ρ cs l) (hc : ∀ v ∈ cs, V.cell v = true) : ∀ (i : Nat) (v : V), cs[i]? = some v → ∃ z : Value, l[i]? = some z ∧ c9 U ρ v z := by
 induction cs generalizing l with
 | nil => intro i v e; simp at e
 | cons a t ih =>
  rw [i6] at h
  obtain ⟨l1, l2, rfl, h1, h2⟩ := h
  have ha := hc a (List.mem_cons_self ..)
  rcases h1 with ⟨k, m, xs, rfl, _⟩ | ⟨_, x, rfl, hx⟩
  ·cases ha
  ·intro i v e
   cases i with
   | zero => simp only [List.getElem?_cons_zero, Option.some.injEq] at e; subst e; exact ⟨x, rfl, hx⟩
   | succ i => exact ih h2 (fun v hv => hc v (List.mem_cons_of_mem _ hv)) i v (by simpa using e)
theorem Z9 {pre : c5} {w : World} (H : HRel U ρ pre w) {x : Nm} {cs : List V} (hm : (x, B.flat cs) ∈ pre) {len : Nat} {cap : Option Nat} {y : Value} (hv : c9 U ρ (.sl x 0 0 0 0 len cap) y) {f : Nat → V} {clip : Bool} (hcl : clip = true → cap = some len)
  (hone : ∀ v ∈ cs, V.cell v = true) (h : ∀ i, i < len → V.cell (f i) = true ∧ ∃ v, cs[i]? = some v ∧ ∀ z, c9 U ρ v z → c9 (freeze U ρ pre w) Env.none (f i) z) : c9 (freeze U ρ pre w) ρ (.ros 1 len (fun i => [f i]) clip) y := by
 obtain ⟨l, hl, g⟩ := H.blk x _ hm
 rcases g with ⟨hr, o, g1, g2, g3⟩ | ⟨_, es, f', g⟩
 ·obtain ⟨c, hc, h4⟩ := ((D7 H).2.1 x _ hm l hl hr).1 cs rfl
  rw [c9] at hv
  obtain ⟨l', cp, e1, e2, e3, e4⟩ := hv
  rw [hl] at e1; cases e1
  rcases e4 with ⟨_, rfl, _⟩ | ⟨hr', _⟩
  ·rw [c9]
   refine ⟨_, cp, rfl, e2, fun hc => e3 len (hcl hc), fun i hi => ⟨l.blk, 0, c, by simp, hc, ?_⟩⟩
   obtain ⟨k1, v, k2, k3⟩ := h i hi
   obtain ⟨z, k4, k5⟩ := i6.at h4 hone i v k2
   refine ⟨[z], ?_, rfl, fun k hk => ?_⟩
   ·rw [i6]; exact ⟨[z], [], rfl, .inr ⟨k1, z, rfl, k3 z k5⟩, by rw [i6]⟩
   ·have : k = 0 := by simpa using hk
    subst this
    simpa using k4
  ·rw [hr] at hr'; cases hr'
 ·cases g
theorem aq7 {pre : c5} {w : World} (H : HRel U ρ pre w) {b : Nm} {k : IntKind} {m : Nat} {xs : List Int} (hm : (b, B.flat [.seg k m xs]) ∈ pre) {len : Nat} {cap : Option Nat} {z : Value} (hv : c9 U ρ (.sl b 0 0 0 0 len cap) z)
  (hlen : len ≤ m) {f : Nat → List V} (hf : ∀ i, i < len → f i = [.int k (xs.getD i 0)]) {ρ' : Env} : c9 (freeze U ρ pre w) ρ' (.ros 1 len f false) z := by
 obtain ⟨l, hl, g⟩ := H.blk b _ hm
 rcases g with ⟨hr, o, g1, g2, g3⟩ | ⟨_, es, f', g⟩
 ·obtain ⟨c, hc, h4⟩ := ((D7 H).2.1 b _ hm l hl hr).1 _ rfl
  rw [c9] at hv
  obtain ⟨l', cp, e1, e2, e3, e4⟩ := hv
  rw [hl] at e1; cases e1
  rcases e4 with ⟨_, rfl, _⟩ | ⟨hr', _⟩
  ·rw [i6] at h4
   obtain ⟨l1, l2, h5, h6, h7⟩ := h4
   rw [i6] at h7
   subst h7
   rcases h6 with ⟨k', m', xs', hk, hlx, rfl⟩ | ⟨hx, _⟩
   ·cases hk
    rw [c9]
    refine ⟨_, cp, rfl, e2, fun hh => absurd hh (by simp), fun i hi => ⟨l.blk, 0, c, by simp, hc, ?_⟩⟩
    rw [hf i hi]
    refine ⟨[.int k (xs.getD i 0)], ?_, rfl, fun j hj => ?_⟩
    ·rw [i6]; exact ⟨[.int k (xs.getD i 0)], [], rfl, .inr ⟨rfl, _, rfl, by rw [c9]⟩, by rw [i6]⟩
    ·have : j = 0 := by simpa using hj
     subst this
     have hi' : i < xs.length := by omega
     have e : c[i]? = c.toList[i]? := by simp
     simp only [Nat.zero_add, Nat.mul_one, Nat.add_zero, List.getElem?_cons_zero]
     rw [e, h5, List.append_nil, List.getElem?_map, List.getElem?_eq_getElem hi', List.getD_eq_getElem?_getD, List.getElem?_eq_getElem hi']
     rfl
   ·cases hx
  ·rw [hr] at hr'; cases hr'
 ·cases g
theorem bL8 {base : Nat} {t tx : TypeId} {d s val : V} {post : c5} {cs : List Prop} (h : U4 P base t tx d s [] [] = some (val, post, cs)) (hc : All cs) (hn : ∀ ρ : Env, (∀ n, c5.dom post n → ρ n = none) → ρ (.o base) = none) :
  TO P (.append t tx) [d, s] [] val post := by
 intro ty U ρ w xs H hv hf
 obtain ⟨x, y, rfl, h1, h2⟩ := az1 hv
 obtain ⟨z, w', U', ρ', e, L⟩ := ao1 (ty := ty) h hc h1 h2 H (hn ρ fun n hn => (hf n hn).resolve_left fun ⟨b, hb⟩ => absurd hb List.not_mem_nil)
 exact ⟨z, w', U', ρ', .inl (by simp only [Prim.exec, Sem.run_bind, e, Result.andThen_ok, Sem.run_pure]), L⟩
theorem bL9 {t tx : TypeId} {d s val : V} {pre post : c5} {cs : List Prop} (h : az6 P t d s pre = some (val, post, cs)) (hc : All cs) : TO P (.copy t tx) [d, s] pre val post := by
 intro ty U ρ w xs H hv hf
 obtain ⟨x, y, rfl, h1, h2⟩ := az1 hv
 obtain ⟨z, w', U', ρ', e, L⟩ := aC7 (tx := tx) (ty := ty) h hc h1 h2 H
 exact ⟨z, w', U', ρ', .inl (by simp only [Prim.exec, Sem.run_bind, e, Result.andThen_ok, Sem.run_pure]), L⟩
theorem c9.ros {U U' : Imm} {ρ ρ' : Env} (hU : U.le U') {es len : Nat} {f : Nat → List V} {clip : Bool} {z : Value} (h : c9 U ρ (.ros es len f clip) z) : c9 U' ρ' (.ros es len f clip) z := by
 have := c9.mono (ρ' := ρ) hU (fun _ _ h => h) h
 rw [c9] at this ⊢; exact this
end Sy
namespace Go.Proofs.YtnmccoincblecaaGreat
open Go Sy Go.Proofs
noncomputable def aY4 (n : Nat) (l : List UInt8) (c : Bool) : Bd := { f := Tryz.f35, args := [.ros 1 l.length (bl l) c, .int .i64 n], base := 1, kb := { db := aC9 (i4 8 n).length, lp := aF0 n l }, k := aR_ n l, names := fun _ => [.o 1] }
def N7 (r : SReq) : List UInt8 := [82] ++ f8 r.client ++ f8 r.num ++ l5 r.data
noncomputable def ce8 (r : SReq) : Bd := { f := Tryz.f68, args := [.agg r.c], kb := { db := aa7 0 [(35, 5, fun a _ lo => J1 ([82] ++ f8 r.client) a lo), (35, 8, fun a _ lo => J1 ([82] ++ f8 r.client ++ f8 r.num) a lo), (34, 13, fun a _ lo => J1 (N7 r) a lo)] } }
theorem aY5 (n : Nat) (l : List UInt8) (c : Bool) :
  e9 zp (aY4 n l c) [false] = (some (.sl (.o 1) 1 0 0 0 (List.length (l ++ j4 n)) none, [(.o 1, bs (l ++ j4 n))], [(0 : Int) ≤ (↑(List.length l) : Int) ∧ (↑(List.length l) : Int) ≤ (↑(List.length l) : Int), (0 : Int) ≤ (↑(List.length l) : Int) ∧ (↑(List.length l) : Int) ≤ (↑(f2 (some (↑(List.length l) : Int)) (List.length l)) : Int), q (↑(List.length l) : Int), q false, T zp 80 [.int .i64 ↑n] [] (.int .i64 (↑(List.length (i4 8 n) + 1) : Int)) [], InR .i64 ((↑(List.length (i4 (8 : Nat) n) + (1 : Nat)) : Int) - (1 : Int)), 1 ≤ (1 : Nat), ∀ (k : Nat), k < (1 : Nat) → m8 (j3 [[V.int .u8 (IntKind.wrap .u8 ((↑(List.length (i4 (8 : Nat) n) + (1 : Nat)) : Int) - (1 : Int)))]] ((0 : Nat) + k)) = true, (0 : Nat) < (1 : Nat), (f2 (some (↑(List.length l) : Int)) (List.length l) - 0 + (1 : Nat)) * (1 : Nat) ≤ (140737488355328 : Nat), f9 zp none 1 (cB (cB (cR (cL (cR (cR (cR (cR (cR (f1 (Bd.f (aY4 n l c)))))))))))) (List.length (i4 8 n) + 1) (St.mk (mkT 41 [(0, .sl (.o 1) 1 0 0 0 (List.length (l ++ List.take 1 (j4 n))) none), (1, .int .i64 ↑n), (5, .int .i64 (↑(List.length (i4 8 n)) : Int)), (24, .int .i64 (↑(List.length (i4 8 n)) : Int)), (25, .int .i64 0)]) [(.o 1, bs (l ++ List.take 1 (j4 n)))] 2 []) (.exit 0) (St.mk (mkT 41 [(0, .sl (.o 1) 1 0 0 0 (List.length (l ++ List.take (List.length (i4 8 n) + 1) (j4 n))) none), (1, .int .i64 ↑n), (5, .int .i64 (↑(List.length (i4 8 n)) : Int)), (24, .int .i64 (↑(List.length (i4 8 n)) : Int)), (25, .int .i64 (↑(List.length (i4 8 n)) : Int))]) [(.o 1, bs (l ++ List.take (List.length (i4 8 n) + 1) (j4 n)))] 2 []), f2 (some (↑(List.length l) : Int)) (List.length l) - 0 + (1 : Nat) = List.length (l ++ List.take 1 (j4 n)), ∀ (k : Nat), k < f2 (some (↑(List.length l) : Int)) (List.length l) - 0 + (1 : Nat) → m5 (f2 (some (↑(List.length l) : Int)) (List.length l) - 0) (ag5 (bl l) none) (fun k => j3 [[V.int .u8 (IntKind.wrap .u8 ((↑(List.length (i4 (8 : Nat) n) + (1 : Nat)) : Int) - (1 : Int)))]] ((0 : Nat) + k)) k = bl (l ++ List.take 1 (j4 n)) k, true = false → true = false, q0, q0, q0, f2 (some (↑(List.length l) : Int)) (List.length l) - 0 + (1 : Nat) = List.length (l ++ List.take 1 (j4 n)), (none : Option Nat) = none ∨ (none : Option Nat) = none, q (↑n : Int), (↑(List.length (i4 (8 : Nat) n) + (1 : Nat)) : Int) - (1 : Int) = (↑(List.length (i4 (8 : Nat) n)) : Int), (↑(List.length (i4 (8 : Nat) n) + (1 : Nat)) : Int) - (1 : Int) = (↑(List.length (i4 (8 : Nat) n)) : Int), q1, List.length (l ++ List.take (List.length (i4 (8 : Nat) n) + (1 : Nat)) (j4 n)) = List.length (l ++ j4 n), ∀ (k : Nat), k < List.length (l ++ List.take (List.length (i4 (8 : Nat) n) + (1 : Nat)) (j4 n)) → bl (l ++ List.take (List.length (i4 (8 : Nat) n) + (1 : Nat)) (j4 n)) k = bl (l ++ j4 n) k, true = false → true = false, q0, q0, q0, List.length (l ++ List.take (List.length (i4 (8 : Nat) n) + (1 : Nat)) (j4 n)) = List.length (l ++ j4 n), (none : Option Nat) = none ∨ (none : Option Nat) = none]) : Option (V × c5 × List Prop)) := by kernel_rfl
theorem bD0 (r : SReq) :
  e9 zp (ce8 r) [] = (some (.str (E5 (List.length (N7 r)) fun k => bl (N7 r) (0 + k)), [], [T zp 35 [.sl (.o 128) 1 0 0 0 1 (some 1), .int .i64 (SReq.client r)] [(.o 128, .rows 1 1 (j3 [[.int .u8 82]]) false)] (sb (.o 320) ([(82 : UInt8)] ++ f8 (SReq.client r))) [(.o 320, bs ([(82 : UInt8)] ++ f8 (SReq.client r)))], T zp 35 [.sl (.o 320) 1 0 0 0 (List.length ([(82 : UInt8)] ++ f8 (SReq.client r))) none, .int .i64 (SReq.num r)] [(.o 320, bs ([(82 : UInt8)] ++ f8 (SReq.client r)))] (sb (.o 512) ([(82 : UInt8)] ++ f8 (SReq.client r) ++ f8 (SReq.num r))) [(.o 512, bs ([(82 : UInt8)] ++ f8 (SReq.client r) ++ f8 (SReq.num r)))], T zp 34 [.sl (.o 512) 1 0 0 0 (List.length ([(82 : UInt8)] ++ f8 (SReq.client r) ++ f8 (SReq.num r))) none, .str (SReq.data r)] [(.o 512, bs ([(82 : UInt8)] ++ f8 (SReq.client r) ++ f8 (SReq.num r)))] (sb (.o 832) (N7 r)) [(.o 832, bs (N7 r))], ∀ (k : Nat), k < List.length (N7 r) → true = true, (0 : Nat) + List.length (N7 r) ≤ List.length (N7 r), ∀ (k : Nat), k < List.length (N7 r) → true = true]) : Option (V × c5 × List Prop)) := by kernel_rfl
theorem bz7 {n : Nat} (h : n < 9223372036854775808) {l : List UInt8} (hl : l.length ≤ 70368744177664) (c : Bool) : T Tryz.prog 35 [.ros 1 l.length (bl l) c, .int .i64 n] [] (sb (.o 1) (l ++ j4 n)) [(.o 1, bs (l ++ j4 n))] := by
 have h1 := F7 8 n (N9 h)
 have hv : IntKind.wrap IntKind.u8 ((((i4 8 n).length + 1 : Nat) : Int) - 1) = ((UInt8.ofNat (i4 8 n).length).toNat : Int) := by
  rw [show (((i4 8 n).length + 1 : Nat) : Int) - 1 = (((i4 8 n).length : Nat) : Int) by omega, ai8]
 have hc := V8 l _ _ hv
 refine f3 (aY5 n l c) Tryz.func35 ?_
 simp only [All]
 and_intros
 all_goals first | exact aA9 h | exact aj7 h hl | (simp only [f2, Int.toNat_natCast, Nat.sub_zero]; exact hc) | (simp [j4, f2, IntKind.min, IntKind.max, IntKind.signed, IntKind.bits] <;> omega) | (intro k hk; rw [show k = 0 by omega]; rfl)
theorem bO4 {z : Int} (h : r9 z) {l : List UInt8} (hl : l.length ≤ 70368744177664) (c : Bool) (m : Nat) : T Tryz.prog 35 [.ros 1 l.length (bl l) c, .int .i64 z] [] (sb (.o m) (l ++ f8 z)) [(.o m, bs (l ++ f8 z))] := by
 have e : ((z.toNat : Nat) : Int) = z := Int.toNat_of_nonneg h.1
 have h0 := bz7 (n := z.toNat) (by have := h.2; omega) hl c
 rw [e] at h0
 obtain ⟨σ, hσ, h1⟩ := T.at h0 [.o 1] [.o m] (by simp) (by simp) rfl
 simp only [List.map_cons, List.map_nil, List.cons.injEq, and_true] at hσ
 simpa [V.rens, V.ren, sb, bs, c5.ren, B.ren, hσ, f8] using h1
theorem cc2 {r : SReq} (hc : r9 r.client) (hn : r9 r.num) (hd : r.data.size ≤ 1000000000) : T Tryz.prog 68 [.agg r.c] [] (.str (baL (N7 r))) [] := by
 have h1 := z6 hc
 have h2 := z6 hn
 have h0 : T Tryz.prog 35 [.sl (.o 128) 1 0 0 0 1 (some 1), .int .i64 r.client] [(.o 128, .rows 1 1 (j3 [[.int .u8 82]]) false)] (sb (.o 320) ([82] ++ f8 r.client)) [(.o 320, bs ([82] ++ f8 r.client))] := by
  refine T.frz (bO4 hc (l := [82]) (by decide) false 320) (ap6 rfl ?_) ?_
  ·and_intros
   all_goals first | exact True.intro | (intro k hk; obtain rfl : k = 0 := (by omega); rfl) | with_reducible rfl | omega | (intro h; cases h; done) | (simp; done)
  ·rintro n ⟨b, hb⟩ ⟨b', hb'⟩
   simp only [List.mem_cons, List.mem_nil_iff, or_false, Prod.mk.injEq] at hb hb'
   rw [hb.1] at hb'
   cases hb'.1
 have e1 : ([82] ++ f8 r.client : List UInt8).length ≤ 10 := by simp; omega
 have e2 : ([82] ++ f8 r.client ++ f8 r.num : List UInt8).length ≤ 19 := by simp; omega
 refine T.val (f3 (bD0 r) Tryz.func68 ?_) (by rw [X6])
 simp only [All]; and_intros
 all_goals first | exact True.intro | exact h0 | exact X4 hn (by omega) (by decide) | exact aV4 (by omega) (by omega) (by decide) | (rw [Nat.zero_add]; exact Nat.le_refl _) | (intro _ _; exact True.intro)
end Go.Proofs.YtnmccoincblecaaGreat
namespace Sy
open Go
def o32 (x y : Int) : Int := j8 (fun _ x y => x ||| y) .u32 x y
def x32 (x y : Int) : Int := j8 (fun _ x y => x ^^^ y) .u32 x y
def a32 (x y : Int) : Int := j8 (fun _ x y => x &&& y) .u32 x y
def w32 (x : Int) : Int := IntKind.wrap .u32 x
def n32 (x : Int) : Int := x32 4294967295 x
def A7 (x n : Int) : Int := o32 (x / 2 ^ n.toNat) (w32 (x * 2 ^ (32 - n).toNat))
def lo5 (n : Int) : Int := j8 (fun _ x y => x &&& y) .u64 (IntKind.wrap .u64 n) 31
def M4 (x n : Int) : Int := o32 (w32 (x * 2 ^ (lo5 n).toNat)) (x / 2 ^ (IntKind.wrap .u64 (32 - lo5 n)).toNat)
theorem bo_ (x y : Int) : o32 x y = o32 y x := by
 simp only [o32, j8]
 rw [BitVec.or_comm]
theorem aL7 : ∀ n : Nat, n < 32 → 0 < n → lo5 (-(n : Int)) = 32 - n ∧ IntKind.wrap .u64 (32 - lo5 (-(n : Int))) = n := by decide
theorem ch4 (x : Int) {n : Nat} (h0 : 0 < n) (h : n < 32) : M4 x (-(n : Int)) = A7 x n := by
 obtain ⟨h1, h2⟩ := aL7 n h h0
 rw [M4, h2, h1, bo_, A7]
def kT : List Int := [0x428a2f98, 0x71374491, 0xb5c0fbcf, 0xe9b5dba5, 0x3956c25b, 0x59f111f1, 0x923f82a4, 0xab1c5ed5,
 0xd807aa98, 0x12835b01, 0x243185be, 0x550c7dc3, 0x72be5d74, 0x80deb1fe, 0x9bdc06a7, 0xc19bf174,
 0xe49b69c1, 0xefbe4786, 0x0fc19dc6, 0x240ca1cc, 0x2de92c6f, 0x4a7484aa, 0x5cb0a9dc, 0x76f988da,
 0x983e5152, 0xa831c66d, 0xb00327c8, 0xbf597fc7, 0xc6e00bf3, 0xd5a79147, 0x06ca6351, 0x14292967,
 0x27b70a85, 0x2e1b2138, 0x4d2c6dfc, 0x53380d13, 0x650a7354, 0x766a0abb, 0x81c2c92e, 0x92722c85,
 0xa2bfe8a1, 0xa81a664b, 0xc24b8b70, 0xc76c51a3, 0xd192e819, 0xd6990624, 0xf40e3585, 0x106aa070,
 0x19a4c116, 0x1e376c08, 0x2748774c, 0x34b0bcb5, 0x391c0cb3, 0x4ed8aa4a, 0x5b9cca4f, 0x682e6ff3,
 0x748f82ee, 0x78a5636f, 0x84c87814, 0x8cc70208, 0x90befffa, 0xa4506ceb, 0xbef9a3f7, 0xc67178f2]
def kN (t : Nat) : Int := kT.getD t 0
def s32 (x a b c : Int) : Int := x32 (x32 (A7 x a) (A7 x b)) (A7 x c)
def m32 (x a b c : Int) : Int := x32 (x32 (A7 x a) (A7 x b)) (x / 2 ^ c.toNat)
def ldW (b : List Int) (i : Nat) : Int := o32 (o32 (o32 (w32 (w32 (b.getD (4 * i) 0) * 16777216)) (w32 (w32 (b.getD (4 * i + 1) 0) * 65536))) (w32 (w32 (b.getD (4 * i + 2) 0) * 256))) (w32 (b.getD (4 * i + 3) 0))
def wA (b : List Int) : Nat → List Int
 | 0 => List.replicate 64 0
 | i + 1 => (wA b i).set i (ldW b i)
def mxW (w : List Int) (k : Nat) : Int := w32 (w32 (w32 (w.getD k 0 + m32 (w.getD (k + 1) 0) 7 18 3) + w.getD (k + 9) 0) + m32 (w.getD (k + 14) 0) 17 19 10)
def wB (b : List Int) : Nat → List Int
 | 0 => wA b 16
 | k + 1 => (wB b k).set (16 + k) (mxW (wB b k) k)
structure S8 where
 a : Int
 b : Int
 c : Int
 d : Int
 e : Int
 f : Int
 g : Int
 h : Int
def S8.l (s : S8) : List Int := [s.a, s.b, s.c, s.d, s.e, s.f, s.g, s.h]
def S8.of (h : List Int) : S8 := ⟨h.getD 0 0, h.getD 1 0, h.getD 2 0, h.getD 3 0, h.getD 4 0, h.getD 5 0, h.getD 6 0, h.getD 7 0⟩
def rx (w : List Int) (t : Nat) (s : S8) : Int := w32 (w32 (w32 (w32 (s.h + s32 s.e 6 11 25) + x32 (a32 s.e s.f) (a32 (n32 s.e) s.g)) + kN t) + w.getD t 0)
def ry (s : S8) : Int := w32 (s32 s.a 2 13 22 + x32 (x32 (a32 s.a s.b) (a32 s.a s.c)) (a32 s.b s.c))
def rnd (w : List Int) (s : S8) : Nat → S8
 | 0 => s
 | t + 1 => ⟨w32 (rx w t (rnd w s t) + ry (rnd w s t)), (rnd w s t).a, (rnd w s t).b, (rnd w s t).c, w32 ((rnd w s t).d + rx w t (rnd w s t)), (rnd w s t).e, (rnd w s t).f, (rnd w s t).g⟩
def hF (h l : List Int) : Nat → List Int
 | 0 => h
 | i + 1 => (hF h l i).set i (w32 ((hF h l i).getD i 0 + l.getD i 0))
def blk (h b : List Int) : List Int := hF h (rnd (wB b 48) (S8.of h) 64).l 8
def iv : List Int := [1779033703, 3144134277, 1013904242, 2773480762, 1359893119, 2600822924, 528734635, 1541459225]
def N8 (B : List Int) (k : Nat) : List Int := (List.range 64).map fun i => B.getD (64 * k + i) 0
def hK (B : List Int) : Nat → List Int
 | 0 => iv
 | k + 1 => blk (hK B k) (N8 B k)
def w8 (x : Int) : Int := IntKind.wrap .u8 x
def S6 (n : Int) (i : Nat) : Int := w8 (n / 2 ^ (56 - 8 * i))
def F0 (n : Int) (j : Nat) : List Int := (List.range j).map (S6 n)
def at9 (n : Int) : List Int := F0 n 8
theorem al8 (n : Int) : (at9 n).length = 8 := by simp [at9, F0]
theorem bo3 {n : Int} {i : Nat} (h : i < 8) : (at9 n).getD i 0 = S6 n i := by
 rw [at9, F0, List.getD_eq_getElem?_getD, List.getElem?_map, List.getElem?_range h]; rfl
def B3 (n : Nat) : Nat := (120 - n % 64) % 64
def M2 (B : List Int) : List Int := B ++ [128] ++ List.replicate (B3 (B.length + 1)) 0 ++ at9 (8 * (B.length : Int))
def dA (H : List Int) : Nat → List Int
 | 0 => List.replicate 32 0
 | i + 1 => (dA H i).set i (w8 (H.getD (i / 4) 0 / 2 ^ (24 - 8 * (i % 4))))
def A8 (B : List Int) : List Int := dA (hK (M2 B) ((M2 B).length / 64)) 32
def ib (l : List Int) : Nat → List V := fun i => [.int .u8 (l.getD i 0)]
theorem aE3 (B C : List Int) : ∀ k, 64 * k ≤ B.length → hK (B ++ C) k = hK B k
 | 0, _ => rfl
 | k + 1, h => by
  have ih := aE3 B C k (by omega)
  have : N8 (B ++ C) k = N8 B k := by
   unfold N8
   apply List.map_congr_left
   intro i hi
   have := List.mem_range.1 hi
   rw [List.getD_eq_getElem?_getD, List.getD_eq_getElem?_getD, List.getElem?_append_left (by omega)]
  rw [hK, hK, ih, this]
structure Inv (B H W : List Int) : Prop where
 h : H = hK B (B.length / 64)
 len : W.length = 64
 w : ∀ i, i < B.length % 64 → W.getD i 0 = B.getD (64 * (B.length / 64) + i) 0
theorem T6 (m : Nat) (xs : List Int) (j cnt : Nat) (g : Nat → List V) : (r7 m xs j cnt g).length = m := by simp [r7]
theorem aU2 {m : Nat} {xs : List Int} {j cnt q : Nat} {g : Nat → List V} (h : q < m) : (r7 m xs j cnt g).getD q 0 = if j ≤ q ∧ q < j + cnt then l9 (g (q - j)) else xs.getD q 0 := by
 rw [r7, List.getD_eq_getElem?_getD, List.getElem?_map, List.getElem?_range h]
 simp only [Option.map_some, Option.getD_some]
 by_cases h1 : j ≤ q ∧ q < j + cnt
 ·rw [if_pos h1, Nat.ble_eq_true_of_le h1.1, (show Nat.blt q (j + cnt) = true by rw [Nat.blt_eq]; exact h1.2)]; rfl
 ·rw [if_neg h1]
  cases h2 : Nat.ble j q with
  | false => rfl
  | true =>
   cases h3 : Nat.blt q (j + cnt) with
   | false => rfl
   | true => exact absurd ⟨Nat.le_of_ble_eq_true h2, by rwa [Nat.blt_eq] at h3⟩ h1
theorem bn8 {B H W l : List Int} (hI : Inv B H W) {c : Nat} (hc : c ≤ l.length) (hc2 : c ≤ 64 - B.length % 64) :
  let W2 := r7 64 W (B.length % 64) c (ib l)
  ((B.length + c) % 64 = 0 → 0 < c → Inv (B ++ l.take c) (blk H W2) W2) ∧ ((B.length + c) % 64 ≠ 0 → Inv (B ++ l.take c) H W2) := by
 intro W2
 have hl : (B ++ l.take c).length = B.length + c := by rw [List.length_append, List.length_take, Nat.min_eq_left hc]
 have hw : ∀ i, i < B.length % 64 + c → W2.getD i 0 = (B ++ l.take c).getD (64 * (B.length / 64) + i) 0 := by
  intro i hi
  have hi64 : i < 64 := by omega
  show (r7 64 W (B.length % 64) c (ib l)).getD i 0 = _
  rw [aU2 hi64]
  by_cases h1 : B.length % 64 ≤ i
  ·rw [if_pos ⟨h1, hi⟩, List.getD_eq_getElem?_getD, List.getElem?_append_right (by omega), List.getElem?_take_of_lt (by omega)]
   show l.getD (i - B.length % 64) 0 = _
   rw [List.getD_eq_getElem?_getD]
   congr 2; omega
  ·rw [if_neg (fun h => h1 h.1), hI.w i (by omega), List.getD_eq_getElem?_getD, List.getD_eq_getElem?_getD, List.getElem?_append_left (by omega)]
 constructor
 ·intro h0 hpos
  have hd : (B.length + c) / 64 = B.length / 64 + 1 := by omega
  have hfull : B.length % 64 + c = 64 := by omega
  refine ⟨?_, T6 _ _ _ _ _, fun i hi => absurd hi (by rw [hl]; omega)⟩
  rw [hl, hd, hK, aE3 _ _ _ (by omega), ← hI.h]
  congr 1
  apply List.ext_getElem?
  intro i
  by_cases hi : i < 64
  ·have h1 := hw i (by omega)
   have e1 : i < W2.length := by rw [show W2.length = 64 from T6 _ _ _ _ _]; exact hi
   have e2 : i < (N8 (B ++ l.take c) (B.length / 64)).length := by simp [N8]; exact hi
   rw [List.getElem?_eq_getElem e1, List.getElem?_eq_getElem e2]
   congr 1
   have h2 : W2.getD i 0 = W2[i] := by rw [List.getD_eq_getElem?_getD, List.getElem?_eq_getElem e1]; rfl
   refine h2.symm.trans (h1.trans ?_)
   simp [N8]
  ·rw [List.getElem?_eq_none (by rw [show W2.length = 64 from T6 _ _ _ _ _]; omega), List.getElem?_eq_none (by simp [N8]; omega)]
 ·intro h0
  have hd : (B.length + c) / 64 = B.length / 64 := by omega
  have hm : (B.length + c) % 64 = B.length % 64 + c := by omega
  refine ⟨?_, T6 _ _ _ _ _, fun i hi => ?_⟩
  ·rw [hl, hd, aE3 _ _ _ (by omega)]; exact hI.h
  ·rw [hl, hm] at hi
   rw [hl, hd]; exact hw i hi
theorem bF0 {W : List Int} (h : W.length = 64) : Inv [] iv W := ⟨rfl, h, fun i hi => absurd hi (Nat.not_lt_zero _)⟩
theorem aL9 {n j : Nat} (h : j < B3 n) : (n + j) % 64 ≠ 56 := by unfold B3 at h; omega
theorem au4 (n : Nat) : (n + B3 n) % 64 = 56 := by unfold B3; omega
theorem bp5 (B : List Int) : (M2 B).length % 64 = 0 := by
 have := au4 (B.length + 1)
 simp only [M2, List.length_append, List.length_replicate, List.length_cons, List.length_nil, al8]
 omega
theorem ba7 (h l : List Int) : ∀ i, (hF h l i).length = h.length
 | 0 => rfl
 | i + 1 => by rw [hF, List.length_set, ba7 h l i]
theorem ba8 (B : List Int) : ∀ k, (hK B k).length = 8
 | 0 => rfl
 | k + 1 => by rw [hK, blk, ba7, ba8 B k]
theorem of8 {h : List Int} (hh : h.length = 8) : h = (S8.of h).l := by
 match h, hh with
 | [_, _, _, _, _, _, _, _], _ => rfl
theorem bb8 (n : Int) (j : Nat) : F0 n (j + 1) = F0 n j ++ [S6 n j] := by rw [F0, List.range_succ, List.map_append]; rfl
theorem bm7 (B : List Int) (k : Nat) : (N8 B k).length = 64 := by simp [N8]
theorem bm6 {B : List Int} {k i : Nat} (h : i < 64) : (N8 B k).getD i 0 = B.getD (64 * k + i) 0 := by
 rw [N8, List.getD_eq_getElem?_getD, List.getElem?_map, List.getElem?_range h]; rfl
theorem ctb (L : List Int) (v : Int) (k : Nat) (hk : k < L.length + 1) : m5 L.length (ib L) (fun k => j3 [[V.int .u8 v]] (0 + k)) k = [V.int .u8 ((L ++ [v]).getD k 0)] := by
 rw [m5]
 cases hb : Nat.blt k L.length with
 | true =>
  rw [Nat.blt_eq] at hb
  rw [cond_true, ib, List.getD_eq_getElem?_getD, List.getD_eq_getElem?_getD, List.getElem?_append_left hb]
 | false =>
  have h1 : ¬ k < L.length := by rw [← Nat.blt_eq, hb]; simp
  have h2 : k = L.length := by omega
  subst h2
  rw [cond_false, Nat.sub_self, List.getD_eq_getElem?_getD, List.getElem?_append_right (Nat.le_refl _), Nat.sub_self]
  rfl
theorem cat0 (f g : Nat → List V) : m5 0 f g = g := by
 funext k
 rw [m5]
 have : Nat.blt k 0 = false := by cases k <;> rfl
 rw [this]; rfl
end Sy
namespace Go.Proofs.YtnmccoincblecaaGreat
open Go Sy Go.Proofs
noncomputable def bdRl (x n : Int) : Bd := { f := Tryz.f152, args := [.int .u32 x, .int .i64 n], kb := kb0 }
noncomputable def bdRr (x n : Int) : Bd := { f := Tryz.f146, args := [.int .u32 x, .int .i64 n], kb := kb0 }
def b6_ : List V → c5 → Nat → List Cl := fun l _ _ => match l with
 | [.int _ x, .int _ n] => [{ val := .int .u32 (M4 x n) }]
 | _ => []
noncomputable def bdTu (x a b c : Int) : Bd := { f := Tryz.f149, args := [.int .u32 x, .int .i64 a, .int .i64 b, .int .i64 c], kb := { db := dbQ [(152, b6_)] } }
noncomputable def bdMi (x a b c : Int) : Bd := { f := Tryz.f151, args := [.int .u32 x, .int .i64 a, .int .i64 b, .int .i64 c], kb := { db := dbQ [(152, b6_)] } }
noncomputable def bdKr (t : Int) : Bd := { f := Tryz.f150, args := [.int .i64 t], kb := kb0 }
noncomputable def bdKc (t : Int) : Bd := { f := Tryz.f147, args := [.int .i64 t], kb := kb0 }
def wtI (b w : List Int) (i : Nat) : St := ⟨mkT 71 [(1, .ptr (.o 0) 0 0 0 0), (2, .ptr (.o 1) 0 0 0 0), (6, .int .i64 (i : Nat))], [(.o 0, .flat [.seg .u8 64 b]), (.o 1, .flat [.seg .u32 64 w])], 2, []⟩
def wtJ (b w : List Int) (k : Nat) : St := ⟨mkT 71 [(1, .ptr (.o 0) 0 0 0 0), (2, .ptr (.o 1) 0 0 0 0), (4, .fn (.func 151) [] []), (5, .int .i64 ((16 + k : Nat) : Int))], [(.o 0, .flat [.seg .u8 64 b]), (.o 1, .flat [.seg .u32 64 w])], 2, []⟩
def mxDb : List V → c5 → Nat → List Cl := fun l _ _ => match l with
 | [.int _ x, .int _ a, .int _ b, .int _ c] => [{ val := .int .u32 (m32 x a b c) }]
 | _ => []
noncomputable def aQ4 (b w w2 : List Int) : Bd := { f := Tryz.f148, args := [.agg [.seg .u8 64 b]], kb := { db := fun _ _ _ _ => [], lp := fun id t => bif Nat.beq id 0 then [(True, .loop (16 + 1) (w6 [(.o 0, nmV (m6 t.tmps 1)), (.o 1, nmV (m6 t.tmps 2))] (wtI b (List.replicate 64 0) 0)) (.exit 0) (wtI b w 16))] else [(True, .loop (48 + 1) (wTo (wtJ b w 0)) (.exit 2) (wtJ b w2 48))] } }
noncomputable def bZ9 (b w : List Int) (i : Nat) (w2 : List Int) : Pc := { c := cB (cB (cR (cL (cR (f1 Tryz.f148))))), st := wtI b w i, kb := kb0, k := fun x_ _ => match x_ with
 | .normal => some (wTo (wtI b w2 (i + 1)))
 | _ => some (wTo (wtI b w 16)) }
noncomputable def bZ_ (b w : List Int) (k : Nat) (w2 : List Int) : Pc := { c := cB (cB (cR (cL (cR (cR (cR (f1 Tryz.f148))))))), st := wtJ b w k, kb := { db := dbQ [(151, mxDb)] }, k := fun x_ _ => match x_ with
 | .normal => some (wTo (wtJ b w2 (k + 1)))
 | _ => some (wTo (wtJ b w 48)) }
theorem bU1 (x : Int) (n : Int) :
  e9 zp (bdRl x n) [] = (some (.int .u32 (j8 (fun x x_1 y => x_1 ||| y) .u32 (IntKind.wrap .u32 (x * (2 : Int) ^ Int.toNat (j8 (fun x x_1 y => x_1 &&& y) .u64 (IntKind.wrap .u64 n) (31 : Int)))) (x / (2 : Int) ^ Int.toNat (IntKind.wrap .u64 ((32 : Int) - j8 (fun x x_1 y => x_1 &&& y) .u64 (IntKind.wrap .u64 n) (31 : Int))))), [], [(0 : Int) ≤ j8 (fun x x_1 y => x_1 &&& y) .u64 (IntKind.wrap .u64 n) (31 : Int) ∧ j8 (fun x x_1 y => x_1 &&& y) .u64 (IntKind.wrap .u64 n) (31 : Int) ≤ (32 : Int), (0 : Int) ≤ IntKind.wrap .u64 ((32 : Int) - j8 (fun x x_1 y => x_1 &&& y) .u64 (IntKind.wrap .u64 n) (31 : Int)) ∧ IntKind.wrap .u64 ((32 : Int) - j8 (fun x x_1 y => x_1 &&& y) .u64 (IntKind.wrap .u64 n) (31 : Int)) ≤ (32 : Int)]) : Option (V × c5 × List Prop)) := by kernel_rfl
theorem bU3 (x : Int) (n : Int) :
  e9 zp (bdRr x n) [] = (some (.int .u32 (j8 (fun x x_1 y => x_1 ||| y) .u32 (x / (2 : Int) ^ Int.toNat n) (IntKind.wrap .u32 (x * (2 : Int) ^ Int.toNat ((32 : Int) - n)))), [], [(0 : Int) ≤ n ∧ n ≤ (32 : Int), InR .i64 ((32 : Int) - n), (0 : Int) ≤ (32 : Int) - n ∧ (32 : Int) - n ≤ (32 : Int)]) : Option (V × c5 × List Prop)) := by kernel_rfl
theorem bU9 (x : Int) (a : Int) (b : Int) (c : Int) :
  e9 zp (bdTu x a b c) [] = (some (.int .u32 (j8 (fun x x_1 y => x_1 ^^^ y) .u32 (j8 (fun x x_1 y => x_1 ^^^ y) .u32 (M4 x ((0 : Int) - a)) (M4 x ((0 : Int) - b))) (M4 x ((0 : Int) - c))), [], [InR .i64 ((0 : Int) - a), T zp 152 [.int .u32 x, .int .i64 ((0 : Int) - a)] [] (.int .u32 (M4 x ((0 : Int) - a))) [], InR .i64 ((0 : Int) - b), T zp 152 [.int .u32 x, .int .i64 ((0 : Int) - b)] [] (.int .u32 (M4 x ((0 : Int) - b))) [], InR .i64 ((0 : Int) - c), T zp 152 [.int .u32 x, .int .i64 ((0 : Int) - c)] [] (.int .u32 (M4 x ((0 : Int) - c))) []]) : Option (V × c5 × List Prop)) := by kernel_rfl
theorem bT0 (x : Int) (a : Int) (b : Int) (c : Int) :
  e9 zp (bdMi x a b c) [] = (some (.int .u32 (j8 (fun x x_1 y => x_1 ^^^ y) .u32 (j8 (fun x x_1 y => x_1 ^^^ y) .u32 (M4 x ((0 : Int) - a)) (M4 x ((0 : Int) - b))) (x / (2 : Int) ^ Int.toNat c)), [], [InR .i64 ((0 : Int) - a), T zp 152 [.int .u32 x, .int .i64 ((0 : Int) - a)] [] (.int .u32 (M4 x ((0 : Int) - a))) [], InR .i64 ((0 : Int) - b), T zp 152 [.int .u32 x, .int .i64 ((0 : Int) - b)] [] (.int .u32 (M4 x ((0 : Int) - b))) [], (0 : Int) ≤ c ∧ c ≤ (32 : Int)]) : Option (V × c5 × List Prop)) := by kernel_rfl
theorem bS2 (t : Int) :
  e9 zp (bdKr t) [] = (some (.int .u32 (List.getD [(1116352408 : Int), (1899447441 : Int), (3049323471 : Int), (3921009573 : Int), (961987163 : Int), (1508970993 : Int), (2453635748 : Int), (2870763221 : Int), (3624381080 : Int), (310598401 : Int), (607225278 : Int), (1426881987 : Int), (1925078388 : Int), (2162078206 : Int), (2614888103 : Int), (3248222580 : Int), (3835390401 : Int), (4022224774 : Int), (264347078 : Int), (604807628 : Int), (770255983 : Int), (1249150122 : Int), (1555081692 : Int), (1996064986 : Int), (2554220882 : Int), (2821834349 : Int), (2952996808 : Int), (3210313671 : Int), (3336571891 : Int), (3584528711 : Int), (113926993 : Int), (338241895 : Int), (666307205 : Int), (773529912 : Int), (1294757372 : Int), (1396182291 : Int), (1695183700 : Int), (1986661051 : Int), (2177026350 : Int), (2456956037 : Int), (2730485921 : Int), (2820302411 : Int), (3259730800 : Int), (3345764771 : Int), (3516065817 : Int), (3600352804 : Int), (4094571909 : Int), (275423344 : Int), (430227734 : Int), (506948616 : Int), (659060556 : Int), (883997877 : Int), (958139571 : Int), (1322822218 : Int), (1537002063 : Int), (1747873779 : Int), (1955562222 : Int), (2024104815 : Int), (2227730452 : Int), (2361852424 : Int), (2428436474 : Int), (2756734187 : Int), (3204031479 : Int), (3329325298 : Int)] (0 + Int.toNat t) (0 : Int)), [], [(0 : Int) ≤ t ∧ t < (64 : Int), (0 : Nat) + Int.toNat t < (64 : Nat)]) : Option (V × c5 × List Prop)) := by kernel_rfl
theorem bS1 (t : Int) :
  e9 zp (bdKc t) [] = (some (.int .u32 (List.getD [(1116352408 : Int), (1899447441 : Int), (3049323471 : Int), (3921009573 : Int), (961987163 : Int), (1508970993 : Int), (2453635748 : Int), (2870763221 : Int), (3624381080 : Int), (310598401 : Int), (607225278 : Int), (1426881987 : Int), (1925078388 : Int), (2162078206 : Int), (2614888103 : Int), (3248222580 : Int), (3835390401 : Int), (4022224774 : Int), (264347078 : Int), (604807628 : Int), (770255983 : Int), (1249150122 : Int), (1555081692 : Int), (1996064986 : Int), (2554220882 : Int), (2821834349 : Int), (2952996808 : Int), (3210313671 : Int), (3336571891 : Int), (3584528711 : Int), (113926993 : Int), (338241895 : Int), (666307205 : Int), (773529912 : Int), (1294757372 : Int), (1396182291 : Int), (1695183700 : Int), (1986661051 : Int), (2177026350 : Int), (2456956037 : Int), (2730485921 : Int), (2820302411 : Int), (3259730800 : Int), (3345764771 : Int), (3516065817 : Int), (3600352804 : Int), (4094571909 : Int), (275423344 : Int), (430227734 : Int), (506948616 : Int), (659060556 : Int), (883997877 : Int), (958139571 : Int), (1322822218 : Int), (1537002063 : Int), (1747873779 : Int), (1955562222 : Int), (2024104815 : Int), (2227730452 : Int), (2361852424 : Int), (2428436474 : Int), (2756734187 : Int), (3204031479 : Int), (3329325298 : Int)] (0 + Int.toNat t) (0 : Int)), [], [(0 : Int) ≤ t ∧ t < (64 : Int), (0 : Nat) + Int.toNat t < (64 : Nat)]) : Option (V × c5 × List Prop)) := by kernel_rfl
theorem bE1 (b : List Int) (w : List Int) (w2 : List Int) :
  e9 zp (aQ4 b w w2) [] = (some (.agg [.seg .u32 64 w2], [], [f9 zp none 0 (cB (cB (cR (cL (cR (f1 (Bd.f (aQ4 b w w2)))))))) 17 (St.mk (mkT 71 [(1, .ptr (.o 0) 0 0 0 0), (2, .ptr (.o 1) 0 0 0 0), (6, .int .i64 0)]) [(.o 0, .flat [.seg .u8 64 b]), (.o 1, .flat [.seg .u32 64 (List.replicate 64 (0 : Int))])] 2 []) (.exit 0) (St.mk (mkT 71 [(1, .ptr (.o 0) 0 0 0 0), (2, .ptr (.o 1) 0 0 0 0), (6, .int .i64 16)]) [(.o 0, .flat [.seg .u8 64 b]), (.o 1, .flat [.seg .u32 64 w])] 2 []), q (64 : Nat), q b, q (64 : Nat), q ((List.replicate 64 (0 : Int))), q0, q0, q0, q0, q0, q0, q1, f9 zp none 0 (cB (cB (cR (cL (cR (cR (cR (f1 (Bd.f (aQ4 b w w2)))))))))) 49 (St.mk (mkT 71 [(1, .ptr (.o 0) 0 0 0 0), (2, .ptr (.o 1) 0 0 0 0), (4, .fn (.func (151 : FuncId)) [] []), (5, .int .i64 16)]) [(.o 0, .flat [.seg .u8 64 b]), (.o 1, .flat [.seg .u32 64 w])] 2 []) (.exit 2) (St.mk (mkT 71 [(1, .ptr (.o 0) 0 0 0 0), (2, .ptr (.o 1) 0 0 0 0), (4, .fn (.func (151 : FuncId)) [] []), (5, .int .i64 64)]) [(.o 0, .flat [.seg .u8 64 b]), (.o 1, .flat [.seg .u32 64 w2])] 2 []), q (64 : Nat), q b, q (64 : Nat), q w, q0, q0, q0, q0, q0, q0, q (16 : Int)]) : Option (V × c5 × List Prop)) := by kernel_rfl
theorem bJ6 (b : List Int) (w : List Int) (i : Nat) (w2 : List Int) :
  i5 zp (bZ9 b w i w2) [true] = (some (.normal, St.mk (mkT 71 [(1, .ptr (.o 0) 0 0 0 0), (2, .ptr (.o 1) 0 0 0 0), (6, .int .i64 (↑(i + 1) : Int))]) [(.o 0, .flat [.seg .u8 64 b]), (.o 1, .flat [.seg .u32 64 w2])] 2 [], [decide ((↑i : Int) < (16 : Int)) = true, InR .i64 ((4 : Int) * (↑i : Int)), (0 : Int) ≤ (4 : Int) * (↑i : Int) ∧ (4 : Int) * (↑i : Int) < (64 : Int), (0 : Nat) + Int.toNat ((4 : Int) * (↑i : Int)) < (64 : Nat), (0 : Int) ≤ (24 : Int) ∧ (24 : Int) ≤ (32 : Int), InR .i64 ((4 : Int) * (↑i : Int)), InR .i64 ((4 : Int) * (↑i : Int) + (1 : Int)), (0 : Int) ≤ (4 : Int) * (↑i : Int) + (1 : Int) ∧ (4 : Int) * (↑i : Int) + (1 : Int) < (64 : Int), (0 : Nat) + Int.toNat ((4 : Int) * (↑i : Int) + (1 : Int)) < (64 : Nat), (0 : Int) ≤ (16 : Int) ∧ (16 : Int) ≤ (32 : Int), InR .i64 ((4 : Int) * (↑i : Int)), InR .i64 ((4 : Int) * (↑i : Int) + (2 : Int)), (0 : Int) ≤ (4 : Int) * (↑i : Int) + (2 : Int) ∧ (4 : Int) * (↑i : Int) + (2 : Int) < (64 : Int), (0 : Nat) + Int.toNat ((4 : Int) * (↑i : Int) + (2 : Int)) < (64 : Nat), (0 : Int) ≤ (8 : Int) ∧ (8 : Int) ≤ (32 : Int), InR .i64 ((4 : Int) * (↑i : Int)), InR .i64 ((4 : Int) * (↑i : Int) + (3 : Int)), (0 : Int) ≤ (4 : Int) * (↑i : Int) + (3 : Int) ∧ (4 : Int) * (↑i : Int) + (3 : Int) < (64 : Int), (0 : Nat) + Int.toNat ((4 : Int) * (↑i : Int) + (3 : Int)) < (64 : Nat), (0 : Int) ≤ (↑i : Int) ∧ (↑i : Int) < (64 : Int), (0 : Nat) + Int.toNat (↑i : Int) < (64 : Nat), InR .i64 ((↑i : Int) + (1 : Int)), q (64 : Nat), q b, q (64 : Nat), List.set w ((0 : Nat) + Int.toNat (↑i : Int)) (j8 (fun x x_1 y => x_1 ||| y) .u32 (j8 (fun x x_1 y => x_1 ||| y) .u32 (j8 (fun x x_1 y => x_1 ||| y) .u32 (IntKind.wrap .u32 (IntKind.wrap .u32 (List.getD b ((0 : Nat) + Int.toNat ((4 : Int) * (↑i : Int))) (0 : Int)) * (16777216 : Int))) (IntKind.wrap .u32 (IntKind.wrap .u32 (List.getD b ((0 : Nat) + Int.toNat ((4 : Int) * (↑i : Int) + (1 : Int))) (0 : Int)) * (65536 : Int)))) (IntKind.wrap .u32 (IntKind.wrap .u32 (List.getD b ((0 : Nat) + Int.toNat ((4 : Int) * (↑i : Int) + (2 : Int))) (0 : Int)) * (256 : Int)))) (IntKind.wrap .u32 (List.getD b ((0 : Nat) + Int.toNat ((4 : Int) * (↑i : Int) + (3 : Int))) (0 : Int)))) = w2, q0, q0, q0, q0, q0, q0, (↑i : Int) + (1 : Int) = (↑(i + (1 : Nat)) : Int)]) : Option (Exit × St × List Prop)) := by kernel_rfl
theorem bJ5 (b : List Int) (w : List Int) (i : Nat) (w2 : List Int) :
  i5 zp (bZ9 b w i w2) [false] = (some (.exit 0, St.mk (mkT 71 [(1, .ptr (.o 0) 0 0 0 0), (2, .ptr (.o 1) 0 0 0 0), (6, .int .i64 16)]) [(.o 0, .flat [.seg .u8 64 b]), (.o 1, .flat [.seg .u32 64 w])] 2 [], [decide ((↑i : Int) < (16 : Int)) = false, q (64 : Nat), q b, q (64 : Nat), q w, q0, q0, q0, q0, q0, q0, (↑i : Int) = (16 : Int)]) : Option (Exit × St × List Prop)) := by kernel_rfl
theorem bJ8 (b : List Int) (w : List Int) (k : Nat) (w2 : List Int) :
  i5 zp (bZ_ b w k w2) [true] = (some (.normal, St.mk (mkT 71 [(1, .ptr (.o 0) 0 0 0 0), (2, .ptr (.o 1) 0 0 0 0), (4, .fn (.func (151 : FuncId)) [] []), (5, .int .i64 (↑(16 + (k + 1)) : Int))]) [(.o 0, .flat [.seg .u8 64 b]), (.o 1, .flat [.seg .u32 64 w2])] 2 [], [decide ((↑((16 : Nat) + k) : Int) < (64 : Int)) = true, InR .i64 ((↑((16 : Nat) + k) : Int) - (16 : Int)), (0 : Int) ≤ (↑((16 : Nat) + k) : Int) - (16 : Int) ∧ (↑((16 : Nat) + k) : Int) - (16 : Int) < (64 : Int), (0 : Nat) + Int.toNat ((↑((16 : Nat) + k) : Int) - (16 : Int)) < (64 : Nat), InR .i64 ((↑((16 : Nat) + k) : Int) - (15 : Int)), (0 : Int) ≤ (↑((16 : Nat) + k) : Int) - (15 : Int) ∧ (↑((16 : Nat) + k) : Int) - (15 : Int) < (64 : Int), (0 : Nat) + Int.toNat ((↑((16 : Nat) + k) : Int) - (15 : Int)) < (64 : Nat), T zp (151 : FuncId) [.int .u32 (List.getD w (0 + Int.toNat ((↑(16 + k) : Int) - (15 : Int))) (0 : Int)), .int .i64 7, .int .i64 18, .int .i64 3] [] (.int .u32 (m32 (List.getD w (0 + Int.toNat ((↑(16 + k) : Int) - (15 : Int))) (0 : Int)) (7 : Int) (18 : Int) (3 : Int))) [], InR .i64 ((↑((16 : Nat) + k) : Int) - (7 : Int)), (0 : Int) ≤ (↑((16 : Nat) + k) : Int) - (7 : Int) ∧ (↑((16 : Nat) + k) : Int) - (7 : Int) < (64 : Int), (0 : Nat) + Int.toNat ((↑((16 : Nat) + k) : Int) - (7 : Int)) < (64 : Nat), InR .i64 ((↑((16 : Nat) + k) : Int) - (2 : Int)), (0 : Int) ≤ (↑((16 : Nat) + k) : Int) - (2 : Int) ∧ (↑((16 : Nat) + k) : Int) - (2 : Int) < (64 : Int), (0 : Nat) + Int.toNat ((↑((16 : Nat) + k) : Int) - (2 : Int)) < (64 : Nat), T zp (151 : FuncId) [.int .u32 (List.getD w (0 + Int.toNat ((↑(16 + k) : Int) - (2 : Int))) (0 : Int)), .int .i64 17, .int .i64 19, .int .i64 10] [] (.int .u32 (m32 (List.getD w (0 + Int.toNat ((↑(16 + k) : Int) - (2 : Int))) (0 : Int)) (17 : Int) (19 : Int) (10 : Int))) [], (0 : Int) ≤ (↑((16 : Nat) + k) : Int) ∧ (↑((16 : Nat) + k) : Int) < (64 : Int), (0 : Nat) + Int.toNat (↑((16 : Nat) + k) : Int) < (64 : Nat), InR .i64 ((↑((16 : Nat) + k) : Int) + (1 : Int)), q (64 : Nat), q b, q (64 : Nat), List.set w ((0 : Nat) + Int.toNat (↑((16 : Nat) + k) : Int)) (IntKind.wrap .u32 (IntKind.wrap .u32 (IntKind.wrap .u32 (List.getD w ((0 : Nat) + Int.toNat ((↑((16 : Nat) + k) : Int) - (16 : Int))) (0 : Int) + m32 (List.getD w ((0 : Nat) + Int.toNat ((↑((16 : Nat) + k) : Int) - (15 : Int))) (0 : Int)) (7 : Int) (18 : Int) (3 : Int)) + List.getD w ((0 : Nat) + Int.toNat ((↑((16 : Nat) + k) : Int) - (7 : Int))) (0 : Int)) + m32 (List.getD w ((0 : Nat) + Int.toNat ((↑((16 : Nat) + k) : Int) - (2 : Int))) (0 : Int)) (17 : Int) (19 : Int) (10 : Int))) = w2, q0, q0, q0, q0, q0, q0, (↑((16 : Nat) + k) : Int) + (1 : Int) = (↑((16 : Nat) + (k + (1 : Nat))) : Int)]) : Option (Exit × St × List Prop)) := by kernel_rfl
theorem bJ7 (b : List Int) (w : List Int) (k : Nat) (w2 : List Int) :
  i5 zp (bZ_ b w k w2) [false] = (some (.exit 2, St.mk (mkT 71 [(1, .ptr (.o 0) 0 0 0 0), (2, .ptr (.o 1) 0 0 0 0), (4, .fn (.func (151 : FuncId)) [] []), (5, .int .i64 64)]) [(.o 0, .flat [.seg .u8 64 b]), (.o 1, .flat [.seg .u32 64 w])] 2 [], [decide ((↑((16 : Nat) + k) : Int) < (64 : Int)) = false, q (64 : Nat), q b, q (64 : Nat), q w, q0, q0, q0, q0, q0, q0, (↑((16 : Nat) + k) : Int) = (64 : Int)]) : Option (Exit × St × List Prop)) := by kernel_rfl
theorem aA8 (x : Int) {m : Nat} (h0 : 0 < m) (h : m < 32) : T Tryz.prog 152 [.int .u32 x, .int .i64 (0 - (m : Nat))] [] (.int .u32 (M4 x (0 - (m : Nat)))) [] := by
 obtain ⟨h1, h2⟩ := aL7 m h h0
 rw [← Int.zero_sub] at h1 h2
 have g1 : 0 ≤ lo5 (0 - (m : Int)) ∧ lo5 (0 - (m : Int)) ≤ 32 := by omega
 have g2 : 0 ≤ IntKind.wrap .u64 (32 - lo5 (0 - (m : Int))) ∧ IntKind.wrap .u64 (32 - lo5 (0 - (m : Int))) ≤ 32 := by omega
 exact f3 (bU1 x (0 - (m : Nat))) Tryz.func152 ⟨g1, g2, True.intro⟩
theorem af_ (x : Int) {n : Nat} (h0 : 0 < n) (h : n < 32) : M4 x (0 - (n : Int)) = A7 x n := by rw [Int.zero_sub]; exact ch4 x h0 h
theorem Z2 (x : Int) {n : Nat} (h : n < 32) : T Tryz.prog 146 [.int .u32 x, .int .i64 (n : Nat)] [] (.int .u32 (A7 x (n : Nat))) [] := by
 refine f3 (bU3 x n) Tryz.func146 ?_
 simp only [All]; and_intros
 all_goals first | exact True.intro | (simp only [IntKind.min, IntKind.max, IntKind.signed, IntKind.bits, if_true]; omega) | omega
theorem bP0 (x : Int) {a b c : Nat} (ha : 0 < a ∧ a < 32) (hb : 0 < b ∧ b < 32) (hc : 0 < c ∧ c < 32) : T Tryz.prog 149 [.int .u32 x, .int .i64 (a : Nat), .int .i64 (b : Nat), .int .i64 (c : Nat)] [] (.int .u32 (s32 x a b c)) [] := by
 have h1 := aA8 x ha.1 ha.2
 have h2 := aA8 x hb.1 hb.2
 have h3 := aA8 x hc.1 hc.2
 obtain ⟨ha1, ha2⟩ := ha
 obtain ⟨hb1, hb2⟩ := hb
 obtain ⟨hc1, hc2⟩ := hc
 have h := T9 NG MO _ (bU9 x a b c) Tryz.func149 (by kernel_rfl) (by
  simp only [All]; and_intros
  all_goals first | exact True.intro | exact h1 | exact h2 | exact h3 | (simp only [IntKind.min, IntKind.max, IntKind.signed, IntKind.bits, if_true]; omega)
  ) (N3 (by kernel_rfl)) (by kernel_rfl)
 rw [af_ x ha1 ha2, af_ x hb1 hb2, af_ x hc1 hc2] at h
 exact h
theorem bN5 (x : Int) {a b c : Nat} (ha : 0 < a ∧ a < 32) (hb : 0 < b ∧ b < 32) (hc : c < 32) : T Tryz.prog 151 [.int .u32 x, .int .i64 (a : Nat), .int .i64 (b : Nat), .int .i64 (c : Nat)] [] (.int .u32 (m32 x a b c)) [] := by
 have h1 := aA8 x ha.1 ha.2
 have h2 := aA8 x hb.1 hb.2
 obtain ⟨ha1, ha2⟩ := ha
 obtain ⟨hb1, hb2⟩ := hb
 have h := T9 NG MO _ (bT0 x a b c) Tryz.func151 (by kernel_rfl) (by
  simp only [All]; and_intros
  all_goals first | exact True.intro | exact h1 | exact h2 | (simp only [IntKind.min, IntKind.max, IntKind.signed, IntKind.bits, if_true]; omega) | omega
  ) (N3 (by kernel_rfl)) (by kernel_rfl)
 rw [af_ x ha1 ha2, af_ x hb1 hb2] at h
 exact h
theorem T_kr {t : Nat} (h : t < 64) : T Tryz.prog 150 [.int .i64 (t : Nat)] [] (.int .u32 (kN t)) [] := by
 have h0 := T9 NG MO _ (bS2 t) Tryz.func150 (by kernel_rfl) (by
  simp only [All]; and_intros
  all_goals first | exact True.intro | omega
  ) (N3 (by kernel_rfl)) (by kernel_rfl)
 rw [Nat.zero_add, Int.toNat_natCast] at h0
 exact h0
theorem T_kc {t : Nat} (h : t < 64) : T Tryz.prog 147 [.int .i64 (t : Nat)] [] (.int .u32 (kN t)) [] := by
 have h0 := T9 NG MO _ (bS1 t) Tryz.func147 (by kernel_rfl) (by
  simp only [All]; and_intros
  all_goals first | exact True.intro | omega
  ) (N3 (by kernel_rfl)) (by kernel_rfl)
 rw [Nat.zero_add, Int.toNat_natCast] at h0
 exact h0
theorem tn4 (i : Nat) : Int.toNat (4 * (i : Int)) = 4 * i ∧ Int.toNat (4 * (i : Int) + 1) = 4 * i + 1 ∧ Int.toNat (4 * (i : Int) + 2) = 4 * i + 2 ∧ Int.toNat (4 * (i : Int) + 3) = 4 * i + 3 := by omega
theorem b_2 (k : Nat) : Int.toNat (((16 + k : Nat) : Int) - 16) = k ∧ Int.toNat (((16 + k : Nat) : Int) - 15) = k + 1 ∧ Int.toNat (((16 + k : Nat) : Int) - 7) = k + 9 ∧ Int.toNat (((16 + k : Nat) : Int) - 2) = k + 14 := by omega
theorem cd4 (b : List Int) : T Tryz.prog 148 [.agg [.seg .u8 64 b]] [] (.agg [.seg .u32 64 (wB b 48)]) [] := by
 have hA : f9 Tryz.prog none 0 (cB (cB (cR (cL (cR (f1 Tryz.f148)))))) (16 + 1) (wtI b (wA b 0) 0) (.exit 0) (wtI b (wA b 16) 16) := by
  have hstep : ∀ i, i < 16 → R Tryz.prog none 0 (cB (cB (cR (cL (cR (f1 Tryz.f148)))))) (wtI b (wA b i) i) .normal (wtI b (wA b (i + 1)) (i + 1)) := by
   intro i hi
   obtain ⟨e0, e1, e2, e3⟩ := tn4 i
   refine f4 NG MO _ (bJ6 b (wA b i) i (wA b (i + 1))) ?_ (Nat.zero_le _)
   simp only [All, e0, e1, e2, e3, Nat.zero_add, Int.toNat_natCast]; and_intros
   all_goals first | exact True.intro | rfl | (rw [decide_eq_true_eq]; omega) | (simp only [IntKind.min, IntKind.max, IntKind.signed, IntKind.bits, if_true]; omega) | omega
  have hend : R Tryz.prog none 0 (cB (cB (cR (cL (cR (f1 Tryz.f148)))))) (wtI b (wA b 16) 16) (.exit 0) (wtI b (wA b 16) 16) := by
   refine f4 NG MO _ (bJ5 b (wA b 16) 16 []) ?_ (Nat.zero_le _)
   simp only [All]; and_intros
   all_goals first | exact True.intro | (rw [decide_eq_false_iff_not]; omega) | omega
  exact f9.inv (fun i => wtI b (wA b i) i) 16 hstep hend (by simp)
 have hB : f9 Tryz.prog none 0 (cB (cB (cR (cL (cR (cR (cR (f1 Tryz.f148)))))))) (48 + 1) (wtJ b (wB b 0) 0) (.exit 2) (wtJ b (wB b 48) 48) := by
  have hstep : ∀ k, k < 48 → R Tryz.prog none 0 (cB (cB (cR (cL (cR (cR (cR (f1 Tryz.f148)))))))) (wtJ b (wB b k) k) .normal (wtJ b (wB b (k + 1)) (k + 1)) := by
   intro k hk
   obtain ⟨e0, e1, e2, e3⟩ := b_2 k
   have h1 := bN5 ((wB b k).getD (k + 1) 0) (a := 7) (b := 18) (c := 3) (by decide) (by decide) (by decide)
   have h2 := bN5 ((wB b k).getD (k + 14) 0) (a := 17) (b := 19) (c := 10) (by decide) (by decide) (by decide)
   refine f4 NG MO _ (bJ8 b (wB b k) k (wB b (k + 1))) ?_ (Nat.zero_le _)
   simp only [All, e0, e1, e2, e3, Nat.zero_add, Int.toNat_natCast]; and_intros
   all_goals first | exact True.intro | exact h1 | exact h2 | rfl | (rw [decide_eq_true_eq]; omega) | (simp only [IntKind.min, IntKind.max, IntKind.signed, IntKind.bits, if_true]; omega) | omega
  have hend : R Tryz.prog none 0 (cB (cB (cR (cL (cR (cR (cR (f1 Tryz.f148)))))))) (wtJ b (wB b 48) 48) (.exit 2) (wtJ b (wB b 48) 48) := by
   refine f4 NG MO _ (bJ7 b (wB b 48) 48 []) ?_ (Nat.zero_le _)
   simp only [All]; and_intros
   all_goals first | exact True.intro | (rw [decide_eq_false_iff_not]; omega) | omega
  exact f9.inv (fun k => wtJ b (wB b k) k) 48 hstep hend (by simp)
 refine f3 (bE1 b (wA b 16) (wB b 48)) Tryz.func148 ?_
 simp only [All]; and_intros
 all_goals first | exact True.intro | exact hA | exact hB
end Go.Proofs.YtnmccoincblecaaGreat
