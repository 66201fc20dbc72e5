/-
  Contracts and laws that the claim's theorem leans on, joined out of the texts Tb3 Tb4D Tb4 Te0 Te1 Te2 (own work of this seat): Contracts: certs, what was held and a message's fields are read; Contracts: a message is read; Contracts: a message is read; The plain law: what is put is read again, what is read was put. Numbers, texts, raw bytes; The plain law: texts, raw bytes, requests, batches, signs, envelopes, votes, lists; The plain law: signs, envelopes, votes, batches, certs, what was held.
-/
import Derived.Test.YtnmccoincblecaaGreatC08
set_option linter.unusedVariables false
set_option linter.unusedSimpArgs false
set_option maxHeartbeats 1000000
namespace Go.Proofs.YtnmccoincblecaaGreat
open Go Sy Go.Proofs
theorem bQ2 (s : RS) (s1 : RS) (s2 : RS) (v : SVote) (n : Nat) (g : Nat → SSign) :
  f4 zp (cu2 s s1 s2 v n g) [] = (some (.agg [.int .i64 (SVote.kind v), .int .i64 (SVote.epoch v), .int .i64 (SVote.view v), .int .i64 (SVote.slot v), .seg .u8 32 (SVote.digest v), sg n g], [(.o 0, .flat [.ptr (.o 1) 0 0 0 0, .bool (RS.bad s2)]), (.o 1, rdB s2)], [T zp 108 [.ptr (.o 0) 0 0 0 0] [(.o 0, .flat [.ptr (.o 1) 0 0 0 0, .bool (RS.bad s)]), (.o 1, rdB s)] (.agg (SVote.c v)) [(.o 0, .flat [.ptr (.o 1) 0 0 0 0, .bool (RS.bad s1)]), (.o 1, rdB s1)], T zp 115 [.ptr (.o 0) 0 0 0 0, .int .i64 64, .fn (.func 116) [.ptr (.o 0) 0 0 0 0] []] [(.o 0, .flat [.ptr (.o 1) 0 0 0 0, .bool (RS.bad s1)]), (.o 1, rdB s1)] (sg n g) [(.o 0, .flat [.ptr (.o 1) 0 0 0 0, .bool (RS.bad s2)]), (.o 1, rdB s2)], q0, q0, q0, q (RS.bad s2), q (List.length (RS.l s2)), ∀ (k : Nat), k < List.length (RS.l s2) → bl (RS.l s2) k = bl (RS.l s2) k, false = true → false = true, q (RS.e s2), q2, q (SVote.kind v), q (SVote.epoch v), q (SVote.view v), q (SVote.slot v), q (32 : Nat), q (SVote.digest v), q n, ∀ (k : Nat), k < n → SSign.c (g k) = SSign.c (g k), false = true → false = true, q0, q0, q0]) : Option (V × c5 × List Prop)) := by kernel_rfl
theorem bR0 (s : RS) (s1 : RS) (s2 : RS) (b : SBatch) (c : SCert) :
  f4 zp (cv0 s s1 s2 b c) [] = (some (.agg [.bool (SBatch.noop b), rq (SBatch.n b) (SBatch.req b), .int .i64 (SVote.kind (SCert.vote c)), .int .i64 (SVote.epoch (SCert.vote c)), .int .i64 (SVote.view (SCert.vote c)), .int .i64 (SVote.slot (SCert.vote c)), .seg .u8 32 (SVote.digest (SCert.vote c)), sg (SCert.n c) (SCert.sig c)], [(.o 0, .flat [.ptr (.o 1) 0 0 0 0, .bool (RS.bad s2)]), (.o 1, rdB s2)], [T zp 107 [.ptr (.o 1) 0 0 0 0] [(.o 1, rdB s)] (.agg (SBatch.c b)) [(.o 1, rdB s1)], T zp 114 [.ptr (.o 0) 0 0 0 0] [(.o 0, .flat [.ptr (.o 1) 0 0 0 0, .bool (RS.bad s)]), (.o 1, rdB s1)] (.agg (SCert.c c)) [(.o 0, .flat [.ptr (.o 1) 0 0 0 0, .bool (RS.bad s2)]), (.o 1, rdB s2)], q0, q0, q0, q (RS.bad s2), q (List.length (RS.l s2)), ∀ (k : Nat), k < List.length (RS.l s2) → bl (RS.l s2) k = bl (RS.l s2) k, false = true → false = true, q (RS.e s2), q2, q (SBatch.noop b), q (SBatch.n b), ∀ (k : Nat), k < SBatch.n b → SReq.c (SBatch.req b k) = SReq.c (SBatch.req b k), false = true → false = true, q (SVote.kind (SCert.vote c)), q (SVote.epoch (SCert.vote c)), q (SVote.view (SCert.vote c)), q (SVote.slot (SCert.vote c)), q (32 : Nat), q (SVote.digest (SCert.vote c)), q (SCert.n c), ∀ (k : Nat), k < SCert.n c → SSign.c (SCert.sig c k) = SSign.c (SCert.sig c k), false = true → false = true, q0, q0, q0]) : Option (V × c5 × List Prop)) := by kernel_rfl
theorem bQ8 (m : SMsg) (s : RS) (t1 : RS) (t2 : RS) (t3 : RS) (x0 : Int) (x1 : Int) (x2 : SBatch) :
  f4 zp (bdF1 m s t1 t2 t3 x0 x1 x2) [true] = (some (.tup [], [(.o 0, .flat [.ptr (.o 1) 0 0 0 0, .bool (RS.bad t3)]), (.o 1, rdB t3), (.o 2, .flat (SMsg.c (SMsg.mk (SMsg.kind m) x0 (SMsg.leader m) (SMsg.view m) x1 x2 (SMsg.vote m) (SMsg.cepoch m) (SMsg.cleader m) (SMsg.cview m) (SMsg.nheld m) (SMsg.held m) (SMsg.nnews m) (SMsg.news m) (SMsg.digest m) (SMsg.cert m) (SMsg.state m) (SMsg.n m) (SMsg.sig m))))], [decide (SMsg.kind m = (1 : Int)) = true, T zp 25 [.ptr (.o 1) 0 0 0 0, .int .i64 1048576] [(.o 1, rdB s)] (.int .i64 x0) [(.o 1, rdB t1)], T zp 25 [.ptr (.o 1) 0 0 0 0, .int .i64 1099511627776] [(.o 1, rdB t1)] (.int .i64 x1) [(.o 1, rdB t2)], T zp 107 [.ptr (.o 1) 0 0 0 0] [(.o 1, rdB t2)] (.agg (SBatch.c x2)) [(.o 1, rdB t3)], q0, q0, q0, RS.bad s = RS.bad t3, q (List.length (RS.l t3)), ∀ (k : Nat), k < List.length (RS.l t3) → bl (RS.l t3) k = bl (RS.l t3) k, false = true → false = true, q (RS.e t3), q2, q (SMsg.kind m), q x0, q (SMsg.leader m), q (SMsg.view m), q x1, q (SBatch.noop x2), q (SBatch.n x2), ∀ (k : Nat), k < SBatch.n x2 → SReq.c (SBatch.req x2 k) = SReq.c (SBatch.req x2 k), false = true → false = true, q (SVote.kind (SMsg.vote m)), q (SVote.epoch (SMsg.vote m)), q (SVote.view (SMsg.vote m)), q (SVote.slot (SMsg.vote m)), q (32 : Nat), q (SVote.digest (SMsg.vote m)), q (SMsg.cepoch m), q (SMsg.cleader m), q (SMsg.cview m), q (SMsg.nheld m), ∀ (k : Nat), k < SMsg.nheld m → SHeld.c (SMsg.held m k) = SHeld.c (SMsg.held (SMsg.mk (SMsg.kind m) x0 (SMsg.leader m) (SMsg.view m) x1 x2 (SMsg.vote m) (SMsg.cepoch m) (SMsg.cleader m) (SMsg.cview m) (SMsg.nheld m) (SMsg.held m) (SMsg.nnews m) (SMsg.news m) (SMsg.digest m) (SMsg.cert m) (SMsg.state m) (SMsg.n m) (SMsg.sig m)) k), false = true → false = true, q (SMsg.nnews m), ∀ (k : Nat), k < SMsg.nnews m → SEnv.c (SMsg.news m k) = SEnv.c (SMsg.news (SMsg.mk (SMsg.kind m) x0 (SMsg.leader m) (SMsg.view m) x1 x2 (SMsg.vote m) (SMsg.cepoch m) (SMsg.cleader m) (SMsg.cview m) (SMsg.nheld m) (SMsg.held m) (SMsg.nnews m) (SMsg.news m) (SMsg.digest m) (SMsg.cert m) (SMsg.state m) (SMsg.n m) (SMsg.sig m)) k), false = true → false = true, q (32 : Nat), q (SMsg.digest m), q (SVote.kind (SCert.vote (SMsg.cert m))), q (SVote.epoch (SCert.vote (SMsg.cert m))), q (SVote.view (SCert.vote (SMsg.cert m))), q (SVote.slot (SCert.vote (SMsg.cert m))), q (32 : Nat), q (SVote.digest (SCert.vote (SMsg.cert m))), q (SCert.n (SMsg.cert m)), ∀ (k : Nat), k < SCert.n (SMsg.cert m) → SSign.c (SCert.sig (SMsg.cert m) k) = SSign.c (SCert.sig (SMsg.cert m) k), false = true → false = true, q (SMsg.state m), q (SMsg.n m), ∀ (k : Nat), k < SMsg.n m → SSign.c (SMsg.sig m k) = SSign.c (SMsg.sig (SMsg.mk (SMsg.kind m) x0 (SMsg.leader m) (SMsg.view m) x1 x2 (SMsg.vote m) (SMsg.cepoch m) (SMsg.cleader m) (SMsg.cview m) (SMsg.nheld m) (SMsg.held m) (SMsg.nnews m) (SMsg.news m) (SMsg.digest m) (SMsg.cert m) (SMsg.state m) (SMsg.n m) (SMsg.sig m)) k), false = true → false = true]) : Option (V × c5 × List Prop)) := by kernel_rfl
theorem bx7 (m : SMsg) (s : RS) (t1 : RS) (x0 : SVote) :
  f4 zp (bdF2 m s t1 x0) [false, true] = (some (.tup [], [(.o 0, .flat [.ptr (.o 1) 0 0 0 0, .bool (RS.bad t1)]), (.o 1, rdB t1), (.o 2, .flat (SMsg.c (SMsg.mk (SMsg.kind m) (SMsg.epoch m) (SMsg.leader m) (SMsg.view m) (SMsg.slot m) (SMsg.batch m) x0 (SMsg.cepoch m) (SMsg.cleader m) (SMsg.cview m) (SMsg.nheld m) (SMsg.held m) (SMsg.nnews m) (SMsg.news m) (SMsg.digest m) (SMsg.cert m) (SMsg.state m) (SMsg.n m) (SMsg.sig m))))], [decide (SMsg.kind m = (1 : Int)) = false, decide (SMsg.kind m = (2 : Int)) = true, T zp 108 [.ptr (.o 0) 0 0 0 0] [(.o 0, .flat [.ptr (.o 1) 0 0 0 0, .bool (RS.bad s)]), (.o 1, rdB s)] (.agg (SVote.c x0)) [(.o 0, .flat [.ptr (.o 1) 0 0 0 0, .bool (RS.bad t1)]), (.o 1, rdB t1)], q0, q0, q0, q (RS.bad t1), q (List.length (RS.l t1)), ∀ (k : Nat), k < List.length (RS.l t1) → bl (RS.l t1) k = bl (RS.l t1) k, false = true → false = true, q (RS.e t1), q2, q (SMsg.kind m), q (SMsg.epoch m), q (SMsg.leader m), q (SMsg.view m), q (SMsg.slot m), q (SBatch.noop (SMsg.batch m)), q (SBatch.n (SMsg.batch m)), ∀ (k : Nat), k < SBatch.n (SMsg.batch m) → SReq.c (SBatch.req (SMsg.batch m) k) = SReq.c (SBatch.req (SMsg.batch m) k), false = true → false = true, q (SVote.kind x0), q (SVote.epoch x0), q (SVote.view x0), q (SVote.slot x0), q (32 : Nat), q (SVote.digest x0), q (SMsg.cepoch m), q (SMsg.cleader m), q (SMsg.cview m), q (SMsg.nheld m), ∀ (k : Nat), k < SMsg.nheld m → SHeld.c (SMsg.held m k) = SHeld.c (SMsg.held (SMsg.mk (SMsg.kind m) (SMsg.epoch m) (SMsg.leader m) (SMsg.view m) (SMsg.slot m) (SMsg.batch m) x0 (SMsg.cepoch m) (SMsg.cleader m) (SMsg.cview m) (SMsg.nheld m) (SMsg.held m) (SMsg.nnews m) (SMsg.news m) (SMsg.digest m) (SMsg.cert m) (SMsg.state m) (SMsg.n m) (SMsg.sig m)) k), false = true → false = true, q (SMsg.nnews m), ∀ (k : Nat), k < SMsg.nnews m → SEnv.c (SMsg.news m k) = SEnv.c (SMsg.news (SMsg.mk (SMsg.kind m) (SMsg.epoch m) (SMsg.leader m) (SMsg.view m) (SMsg.slot m) (SMsg.batch m) x0 (SMsg.cepoch m) (SMsg.cleader m) (SMsg.cview m) (SMsg.nheld m) (SMsg.held m) (SMsg.nnews m) (SMsg.news m) (SMsg.digest m) (SMsg.cert m) (SMsg.state m) (SMsg.n m) (SMsg.sig m)) k), false = true → false = true, q (32 : Nat), q (SMsg.digest m), q (SVote.kind (SCert.vote (SMsg.cert m))), q (SVote.epoch (SCert.vote (SMsg.cert m))), q (SVote.view (SCert.vote (SMsg.cert m))), q (SVote.slot (SCert.vote (SMsg.cert m))), q (32 : Nat), q (SVote.digest (SCert.vote (SMsg.cert m))), q (SCert.n (SMsg.cert m)), ∀ (k : Nat), k < SCert.n (SMsg.cert m) → SSign.c (SCert.sig (SMsg.cert m) k) = SSign.c (SCert.sig (SMsg.cert m) k), false = true → false = true, q (SMsg.state m), q (SMsg.n m), ∀ (k : Nat), k < SMsg.n m → SSign.c (SMsg.sig m k) = SSign.c (SMsg.sig (SMsg.mk (SMsg.kind m) (SMsg.epoch m) (SMsg.leader m) (SMsg.view m) (SMsg.slot m) (SMsg.batch m) x0 (SMsg.cepoch m) (SMsg.cleader m) (SMsg.cview m) (SMsg.nheld m) (SMsg.held m) (SMsg.nnews m) (SMsg.news m) (SMsg.digest m) (SMsg.cert m) (SMsg.state m) (SMsg.n m) (SMsg.sig m)) k), false = true → false = true]) : Option (V × c5 × List Prop)) := by kernel_rfl
theorem bj7 (m : SMsg) (s : RS) (t1 : RS) (t2 : RS) (t3 : RS) (t4 : RS) (n : Nat) (x0 : Int) (x1 : Int) (x2 : Int) (x3 : Nat → SHeld) :
  f4 zp (bdF3 m s t1 t2 t3 t4 n x0 x1 x2 x3) [false, false, true] = (some (.tup [], [(.o 0, .flat [.ptr (.o 1) 0 0 0 0, .bool (RS.bad t4)]), (.o 1, rdB t4), (.o 2, .flat (SMsg.c (SMsg.mk (SMsg.kind m) (SMsg.epoch m) (SMsg.leader m) (SMsg.view m) (SMsg.slot m) (SMsg.batch m) (SMsg.vote m) x0 x1 x2 n x3 (SMsg.nnews m) (SMsg.news m) (SMsg.digest m) (SMsg.cert m) (SMsg.state m) (SMsg.n m) (SMsg.sig m))))], [decide (SMsg.kind m = (1 : Int)) = false, decide (SMsg.kind m = (2 : Int)) = false, decide (SMsg.kind m = (3 : Int)) = true, T zp 25 [.ptr (.o 1) 0 0 0 0, .int .i64 1048576] [(.o 1, rdB s)] (.int .i64 x0) [(.o 1, rdB t1)], T zp 25 [.ptr (.o 1) 0 0 0 0, .int .i64 64] [(.o 1, rdB t1)] (.int .i64 x1) [(.o 1, rdB t2)], T zp 25 [.ptr (.o 1) 0 0 0 0, .int .i64 1099511627776] [(.o 1, rdB t2)] (.int .i64 x2) [(.o 1, rdB t3)], T zp 109 [.ptr (.o 0) 0 0 0 0, .int .i64 4, .fn (.func 110) [.ptr (.o 0) 0 0 0 0] []] [(.o 0, .flat [.ptr (.o 1) 0 0 0 0, .bool (RS.bad s)]), (.o 1, rdB t3)] (hl n x3) [(.o 0, .flat [.ptr (.o 1) 0 0 0 0, .bool (RS.bad t4)]), (.o 1, rdB t4)], q0, q0, q0, q (RS.bad t4), q (List.length (RS.l t4)), ∀ (k : Nat), k < List.length (RS.l t4) → bl (RS.l t4) k = bl (RS.l t4) k, false = true → false = true, q (RS.e t4), q2, q (SMsg.kind m), q (SMsg.epoch m), q (SMsg.leader m), q (SMsg.view m), q (SMsg.slot m), q (SBatch.noop (SMsg.batch m)), q (SBatch.n (SMsg.batch m)), ∀ (k : Nat), k < SBatch.n (SMsg.batch m) → SReq.c (SBatch.req (SMsg.batch m) k) = SReq.c (SBatch.req (SMsg.batch m) k), false = true → false = true, q (SVote.kind (SMsg.vote m)), q (SVote.epoch (SMsg.vote m)), q (SVote.view (SMsg.vote m)), q (SVote.slot (SMsg.vote m)), q (32 : Nat), q (SVote.digest (SMsg.vote m)), q x0, q x1, q x2, q n, ∀ (k : Nat), k < n → SHeld.c (x3 k) = SHeld.c (SMsg.held (SMsg.mk (SMsg.kind m) (SMsg.epoch m) (SMsg.leader m) (SMsg.view m) (SMsg.slot m) (SMsg.batch m) (SMsg.vote m) x0 x1 x2 n x3 (SMsg.nnews m) (SMsg.news m) (SMsg.digest m) (SMsg.cert m) (SMsg.state m) (SMsg.n m) (SMsg.sig m)) k), false = true → false = true, q (SMsg.nnews m), ∀ (k : Nat), k < SMsg.nnews m → SEnv.c (SMsg.news m k) = SEnv.c (SMsg.news (SMsg.mk (SMsg.kind m) (SMsg.epoch m) (SMsg.leader m) (SMsg.view m) (SMsg.slot m) (SMsg.batch m) (SMsg.vote m) x0 x1 x2 n x3 (SMsg.nnews m) (SMsg.news m) (SMsg.digest m) (SMsg.cert m) (SMsg.state m) (SMsg.n m) (SMsg.sig m)) k), false = true → false = true, q (32 : Nat), q (SMsg.digest m), q (SVote.kind (SCert.vote (SMsg.cert m))), q (SVote.epoch (SCert.vote (SMsg.cert m))), q (SVote.view (SCert.vote (SMsg.cert m))), q (SVote.slot (SCert.vote (SMsg.cert m))), q (32 : Nat), q (SVote.digest (SCert.vote (SMsg.cert m))), q (SCert.n (SMsg.cert m)), ∀ (k : Nat), k < SCert.n (SMsg.cert m) → SSign.c (SCert.sig (SMsg.cert m) k) = SSign.c (SCert.sig (SMsg.cert m) k), false = true → false = true, q (SMsg.state m), q (SMsg.n m), ∀ (k : Nat), k < SMsg.n m → SSign.c (SMsg.sig m k) = SSign.c (SMsg.sig (SMsg.mk (SMsg.kind m) (SMsg.epoch m) (SMsg.leader m) (SMsg.view m) (SMsg.slot m) (SMsg.batch m) (SMsg.vote m) x0 x1 x2 n x3 (SMsg.nnews m) (SMsg.news m) (SMsg.digest m) (SMsg.cert m) (SMsg.state m) (SMsg.n m) (SMsg.sig m)) k), false = true → false = true]) : Option (V × c5 × List Prop)) := by kernel_rfl
theorem bb1 (m : SMsg) (s : RS) (t1 : RS) (t2 : RS) (t3 : RS) (t4 : RS) (n : Nat) (x0 : Int) (x1 : Int) (x2 : Int) (x3 : Nat → SEnv) :
  f4 zp (bdF4 m s t1 t2 t3 t4 n x0 x1 x2 x3) [false, false, false, true] = (some (.tup [], [(.o 0, .flat [.ptr (.o 1) 0 0 0 0, .bool (RS.bad t4)]), (.o 1, rdB t4), (.o 2, .flat (SMsg.c (SMsg.mk (SMsg.kind m) x0 x1 x2 (SMsg.slot m) (SMsg.batch m) (SMsg.vote m) (SMsg.cepoch m) (SMsg.cleader m) (SMsg.cview m) (SMsg.nheld m) (SMsg.held m) n x3 (SMsg.digest m) (SMsg.cert m) (SMsg.state m) (SMsg.n m) (SMsg.sig m))))], [decide (SMsg.kind m = (1 : Int)) = false, decide (SMsg.kind m = (2 : Int)) = false, decide (SMsg.kind m = (3 : Int)) = false, decide (SMsg.kind m = (4 : Int)) = true, T zp 25 [.ptr (.o 1) 0 0 0 0, .int .i64 1048576] [(.o 1, rdB s)] (.int .i64 x0) [(.o 1, rdB t1)], T zp 25 [.ptr (.o 1) 0 0 0 0, .int .i64 64] [(.o 1, rdB t1)] (.int .i64 x1) [(.o 1, rdB t2)], T zp 25 [.ptr (.o 1) 0 0 0 0, .int .i64 1099511627776] [(.o 1, rdB t2)] (.int .i64 x2) [(.o 1, rdB t3)], T zp 111 [.ptr (.o 0) 0 0 0 0, .int .i64 64, .fn (.func 112) [.ptr (.o 0) 0 0 0 0] []] [(.o 0, .flat [.ptr (.o 1) 0 0 0 0, .bool (RS.bad s)]), (.o 1, rdB t3)] (nw n x3) [(.o 0, .flat [.ptr (.o 1) 0 0 0 0, .bool (RS.bad t4)]), (.o 1, rdB t4)], q0, q0, q0, q (RS.bad t4), q (List.length (RS.l t4)), ∀ (k : Nat), k < List.length (RS.l t4) → bl (RS.l t4) k = bl (RS.l t4) k, false = true → false = true, q (RS.e t4), q2, q (SMsg.kind m), q x0, q x1, q x2, q (SMsg.slot m), q (SBatch.noop (SMsg.batch m)), q (SBatch.n (SMsg.batch m)), ∀ (k : Nat), k < SBatch.n (SMsg.batch m) → SReq.c (SBatch.req (SMsg.batch m) k) = SReq.c (SBatch.req (SMsg.batch m) k), false = true → false = true, q (SVote.kind (SMsg.vote m)), q (SVote.epoch (SMsg.vote m)), q (SVote.view (SMsg.vote m)), q (SVote.slot (SMsg.vote m)), q (32 : Nat), q (SVote.digest (SMsg.vote m)), q (SMsg.cepoch m), q (SMsg.cleader m), q (SMsg.cview m), q (SMsg.nheld m), ∀ (k : Nat), k < SMsg.nheld m → SHeld.c (SMsg.held m k) = SHeld.c (SMsg.held (SMsg.mk (SMsg.kind m) x0 x1 x2 (SMsg.slot m) (SMsg.batch m) (SMsg.vote m) (SMsg.cepoch m) (SMsg.cleader m) (SMsg.cview m) (SMsg.nheld m) (SMsg.held m) n x3 (SMsg.digest m) (SMsg.cert m) (SMsg.state m) (SMsg.n m) (SMsg.sig m)) k), false = true → false = true, q n, ∀ (k : Nat), k < n → SEnv.c (x3 k) = SEnv.c (SMsg.news (SMsg.mk (SMsg.kind m) x0 x1 x2 (SMsg.slot m) (SMsg.batch m) (SMsg.vote m) (SMsg.cepoch m) (SMsg.cleader m) (SMsg.cview m) (SMsg.nheld m) (SMsg.held m) n x3 (SMsg.digest m) (SMsg.cert m) (SMsg.state m) (SMsg.n m) (SMsg.sig m)) k), false = true → false = true, q (32 : Nat), q (SMsg.digest m), q (SVote.kind (SCert.vote (SMsg.cert m))), q (SVote.epoch (SCert.vote (SMsg.cert m))), q (SVote.view (SCert.vote (SMsg.cert m))), q (SVote.slot (SCert.vote (SMsg.cert m))), q (32 : Nat), q (SVote.digest (SCert.vote (SMsg.cert m))), q (SCert.n (SMsg.cert m)), ∀ (k : Nat), k < SCert.n (SMsg.cert m) → SSign.c (SCert.sig (SMsg.cert m) k) = SSign.c (SCert.sig (SMsg.cert m) k), false = true → false = true, q (SMsg.state m), q (SMsg.n m), ∀ (k : Nat), k < SMsg.n m → SSign.c (SMsg.sig m k) = SSign.c (SMsg.sig (SMsg.mk (SMsg.kind m) x0 x1 x2 (SMsg.slot m) (SMsg.batch m) (SMsg.vote m) (SMsg.cepoch m) (SMsg.cleader m) (SMsg.cview m) (SMsg.nheld m) (SMsg.held m) n x3 (SMsg.digest m) (SMsg.cert m) (SMsg.state m) (SMsg.n m) (SMsg.sig m)) k), false = true → false = true]) : Option (V × c5 × List Prop)) := by kernel_rfl
theorem aW1 (m : SMsg) (s : RS) (t1 : RS) (t2 : RS) (x0 : Int) (x1 : List Int) :
  f4 zp (bdF5 m s t1 t2 x0 x1) [false, false, false, false, true] = (some (.tup [], [(.o 0, .flat [.ptr (.o 1) 0 0 0 0, .bool (RS.bad t2)]), (.o 1, rdB t2), (.o 2, .flat (SMsg.c (SMsg.mk (SMsg.kind m) x0 (SMsg.leader m) (SMsg.view m) (SMsg.slot m) (SMsg.batch m) (SMsg.vote m) (SMsg.cepoch m) (SMsg.cleader m) (SMsg.cview m) (SMsg.nheld m) (SMsg.held m) (SMsg.nnews m) (SMsg.news m) x1 (SMsg.cert m) (SMsg.state m) (SMsg.n m) (SMsg.sig m))))], [decide (SMsg.kind m = (1 : Int)) = false, decide (SMsg.kind m = (2 : Int)) = false, decide (SMsg.kind m = (3 : Int)) = false, decide (SMsg.kind m = (4 : Int)) = false, decide (SMsg.kind m = (5 : Int)) = true, T zp 25 [.ptr (.o 1) 0 0 0 0, .int .i64 1048576] [(.o 1, rdB s)] (.int .i64 x0) [(.o 1, rdB t1)], T zp 113 [.ptr (.o 0) 0 0 0 0] [(.o 0, .flat [.ptr (.o 1) 0 0 0 0, .bool (RS.bad s)]), (.o 1, rdB t1)] (.agg [.seg .u8 32 x1]) [(.o 0, .flat [.ptr (.o 1) 0 0 0 0, .bool (RS.bad t2)]), (.o 1, rdB t2)], q0, q0, q0, q (RS.bad t2), q (List.length (RS.l t2)), ∀ (k : Nat), k < List.length (RS.l t2) → bl (RS.l t2) k = bl (RS.l t2) k, false = true → false = true, q (RS.e t2), q2, q (SMsg.kind m), q x0, q (SMsg.leader m), q (SMsg.view m), q (SMsg.slot m), q (SBatch.noop (SMsg.batch m)), q (SBatch.n (SMsg.batch m)), ∀ (k : Nat), k < SBatch.n (SMsg.batch m) → SReq.c (SBatch.req (SMsg.batch m) k) = SReq.c (SBatch.req (SMsg.batch m) k), false = true → false = true, q (SVote.kind (SMsg.vote m)), q (SVote.epoch (SMsg.vote m)), q (SVote.view (SMsg.vote m)), q (SVote.slot (SMsg.vote m)), q (32 : Nat), q (SVote.digest (SMsg.vote m)), q (SMsg.cepoch m), q (SMsg.cleader m), q (SMsg.cview m), q (SMsg.nheld m), ∀ (k : Nat), k < SMsg.nheld m → SHeld.c (SMsg.held m k) = SHeld.c (SMsg.held (SMsg.mk (SMsg.kind m) x0 (SMsg.leader m) (SMsg.view m) (SMsg.slot m) (SMsg.batch m) (SMsg.vote m) (SMsg.cepoch m) (SMsg.cleader m) (SMsg.cview m) (SMsg.nheld m) (SMsg.held m) (SMsg.nnews m) (SMsg.news m) x1 (SMsg.cert m) (SMsg.state m) (SMsg.n m) (SMsg.sig m)) k), false = true → false = true, q (SMsg.nnews m), ∀ (k : Nat), k < SMsg.nnews m → SEnv.c (SMsg.news m k) = SEnv.c (SMsg.news (SMsg.mk (SMsg.kind m) x0 (SMsg.leader m) (SMsg.view m) (SMsg.slot m) (SMsg.batch m) (SMsg.vote m) (SMsg.cepoch m) (SMsg.cleader m) (SMsg.cview m) (SMsg.nheld m) (SMsg.held m) (SMsg.nnews m) (SMsg.news m) x1 (SMsg.cert m) (SMsg.state m) (SMsg.n m) (SMsg.sig m)) k), false = true → false = true, q (32 : Nat), q x1, q (SVote.kind (SCert.vote (SMsg.cert m))), q (SVote.epoch (SCert.vote (SMsg.cert m))), q (SVote.view (SCert.vote (SMsg.cert m))), q (SVote.slot (SCert.vote (SMsg.cert m))), q (32 : Nat), q (SVote.digest (SCert.vote (SMsg.cert m))), q (SCert.n (SMsg.cert m)), ∀ (k : Nat), k < SCert.n (SMsg.cert m) → SSign.c (SCert.sig (SMsg.cert m) k) = SSign.c (SCert.sig (SMsg.cert m) k), false = true → false = true, q (SMsg.state m), q (SMsg.n m), ∀ (k : Nat), k < SMsg.n m → SSign.c (SMsg.sig m k) = SSign.c (SMsg.sig (SMsg.mk (SMsg.kind m) x0 (SMsg.leader m) (SMsg.view m) (SMsg.slot m) (SMsg.batch m) (SMsg.vote m) (SMsg.cepoch m) (SMsg.cleader m) (SMsg.cview m) (SMsg.nheld m) (SMsg.held m) (SMsg.nnews m) (SMsg.news m) x1 (SMsg.cert m) (SMsg.state m) (SMsg.n m) (SMsg.sig m)) k), false = true → false = true]) : Option (V × c5 × List Prop)) := by kernel_rfl
theorem aO9 (m : SMsg) (s : RS) (t1 : RS) (t2 : RS) (x0 : Int) (x1 : Int) :
  f4 zp (bdF6 m s t1 t2 x0 x1) [false, false, false, false, false, true] = (some (.tup [], [(.o 0, .flat [.ptr (.o 1) 0 0 0 0, .bool (RS.bad t2)]), (.o 1, rdB t2), (.o 2, .flat (SMsg.c (SMsg.mk (SMsg.kind m) x0 (SMsg.leader m) (SMsg.view m) x1 (SMsg.batch m) (SMsg.vote m) (SMsg.cepoch m) (SMsg.cleader m) (SMsg.cview m) (SMsg.nheld m) (SMsg.held m) (SMsg.nnews m) (SMsg.news m) (SMsg.digest m) (SMsg.cert m) (SMsg.state m) (SMsg.n m) (SMsg.sig m))))], [decide (SMsg.kind m = (1 : Int)) = false, decide (SMsg.kind m = (2 : Int)) = false, decide (SMsg.kind m = (3 : Int)) = false, decide (SMsg.kind m = (4 : Int)) = false, decide (SMsg.kind m = (5 : Int)) = false, decide (SMsg.kind m = (6 : Int)) = true, T zp 25 [.ptr (.o 1) 0 0 0 0, .int .i64 1048576] [(.o 1, rdB s)] (.int .i64 x0) [(.o 1, rdB t1)], T zp 25 [.ptr (.o 1) 0 0 0 0, .int .i64 1099511627776] [(.o 1, rdB t1)] (.int .i64 x1) [(.o 1, rdB t2)], q0, q0, q0, RS.bad s = RS.bad t2, q (List.length (RS.l t2)), ∀ (k : Nat), k < List.length (RS.l t2) → bl (RS.l t2) k = bl (RS.l t2) k, false = true → false = true, q (RS.e t2), q2, q (SMsg.kind m), q x0, q (SMsg.leader m), q (SMsg.view m), q x1, q (SBatch.noop (SMsg.batch m)), q (SBatch.n (SMsg.batch m)), ∀ (k : Nat), k < SBatch.n (SMsg.batch m) → SReq.c (SBatch.req (SMsg.batch m) k) = SReq.c (SBatch.req (SMsg.batch m) k), false = true → false = true, q (SVote.kind (SMsg.vote m)), q (SVote.epoch (SMsg.vote m)), q (SVote.view (SMsg.vote m)), q (SVote.slot (SMsg.vote m)), q (32 : Nat), q (SVote.digest (SMsg.vote m)), q (SMsg.cepoch m), q (SMsg.cleader m), q (SMsg.cview m), q (SMsg.nheld m), ∀ (k : Nat), k < SMsg.nheld m → SHeld.c (SMsg.held m k) = SHeld.c (SMsg.held (SMsg.mk (SMsg.kind m) x0 (SMsg.leader m) (SMsg.view m) x1 (SMsg.batch m) (SMsg.vote m) (SMsg.cepoch m) (SMsg.cleader m) (SMsg.cview m) (SMsg.nheld m) (SMsg.held m) (SMsg.nnews m) (SMsg.news m) (SMsg.digest m) (SMsg.cert m) (SMsg.state m) (SMsg.n m) (SMsg.sig m)) k), false = true → false = true, q (SMsg.nnews m), ∀ (k : Nat), k < SMsg.nnews m → SEnv.c (SMsg.news m k) = SEnv.c (SMsg.news (SMsg.mk (SMsg.kind m) x0 (SMsg.leader m) (SMsg.view m) x1 (SMsg.batch m) (SMsg.vote m) (SMsg.cepoch m) (SMsg.cleader m) (SMsg.cview m) (SMsg.nheld m) (SMsg.held m) (SMsg.nnews m) (SMsg.news m) (SMsg.digest m) (SMsg.cert m) (SMsg.state m) (SMsg.n m) (SMsg.sig m)) k), false = true → false = true, q (32 : Nat), q (SMsg.digest m), q (SVote.kind (SCert.vote (SMsg.cert m))), q (SVote.epoch (SCert.vote (SMsg.cert m))), q (SVote.view (SCert.vote (SMsg.cert m))), q (SVote.slot (SCert.vote (SMsg.cert m))), q (32 : Nat), q (SVote.digest (SCert.vote (SMsg.cert m))), q (SCert.n (SMsg.cert m)), ∀ (k : Nat), k < SCert.n (SMsg.cert m) → SSign.c (SCert.sig (SMsg.cert m) k) = SSign.c (SCert.sig (SMsg.cert m) k), false = true → false = true, q (SMsg.state m), q (SMsg.n m), ∀ (k : Nat), k < SMsg.n m → SSign.c (SMsg.sig m k) = SSign.c (SMsg.sig (SMsg.mk (SMsg.kind m) x0 (SMsg.leader m) (SMsg.view m) x1 (SMsg.batch m) (SMsg.vote m) (SMsg.cepoch m) (SMsg.cleader m) (SMsg.cview m) (SMsg.nheld m) (SMsg.held m) (SMsg.nnews m) (SMsg.news m) (SMsg.digest m) (SMsg.cert m) (SMsg.state m) (SMsg.n m) (SMsg.sig m)) k), false = true → false = true]) : Option (V × c5 × List Prop)) := by kernel_rfl
theorem aK5 (m : SMsg) (s : RS) (t1 : RS) (t2 : RS) (x0 : SBatch) (x1 : SCert) :
  f4 zp (bdF7 m s t1 t2 x0 x1) [false, false, false, false, false, false, true] = (some (.tup [], [(.o 0, .flat [.ptr (.o 1) 0 0 0 0, .bool (RS.bad t2)]), (.o 1, rdB t2), (.o 2, .flat (SMsg.c (SMsg.mk (SMsg.kind m) (SMsg.epoch m) (SMsg.leader m) (SMsg.view m) (SMsg.slot m) x0 (SMsg.vote m) (SMsg.cepoch m) (SMsg.cleader m) (SMsg.cview m) (SMsg.nheld m) (SMsg.held m) (SMsg.nnews m) (SMsg.news m) (SMsg.digest m) x1 (SMsg.state m) (SMsg.n m) (SMsg.sig m))))], [decide (SMsg.kind m = (1 : Int)) = false, decide (SMsg.kind m = (2 : Int)) = false, decide (SMsg.kind m = (3 : Int)) = false, decide (SMsg.kind m = (4 : Int)) = false, decide (SMsg.kind m = (5 : Int)) = false, decide (SMsg.kind m = (6 : Int)) = false, decide (SMsg.kind m = (7 : Int)) = true, T zp 107 [.ptr (.o 1) 0 0 0 0] [(.o 1, rdB s)] (.agg (SBatch.c x0)) [(.o 1, rdB t1)], T zp 114 [.ptr (.o 0) 0 0 0 0] [(.o 0, .flat [.ptr (.o 1) 0 0 0 0, .bool (RS.bad s)]), (.o 1, rdB t1)] (.agg (SCert.c x1)) [(.o 0, .flat [.ptr (.o 1) 0 0 0 0, .bool (RS.bad t2)]), (.o 1, rdB t2)], q0, q0, q0, q (RS.bad t2), q (List.length (RS.l t2)), ∀ (k : Nat), k < List.length (RS.l t2) → bl (RS.l t2) k = bl (RS.l t2) k, false = true → false = true, q (RS.e t2), q2, q (SMsg.kind m), q (SMsg.epoch m), q (SMsg.leader m), q (SMsg.view m), q (SMsg.slot m), q (SBatch.noop x0), q (SBatch.n x0), ∀ (k : Nat), k < SBatch.n x0 → SReq.c (SBatch.req x0 k) = SReq.c (SBatch.req x0 k), false = true → false = true, q (SVote.kind (SMsg.vote m)), q (SVote.epoch (SMsg.vote m)), q (SVote.view (SMsg.vote m)), q (SVote.slot (SMsg.vote m)), q (32 : Nat), q (SVote.digest (SMsg.vote m)), q (SMsg.cepoch m), q (SMsg.cleader m), q (SMsg.cview m), q (SMsg.nheld m), ∀ (k : Nat), k < SMsg.nheld m → SHeld.c (SMsg.held m k) = SHeld.c (SMsg.held (SMsg.mk (SMsg.kind m) (SMsg.epoch m) (SMsg.leader m) (SMsg.view m) (SMsg.slot m) x0 (SMsg.vote m) (SMsg.cepoch m) (SMsg.cleader m) (SMsg.cview m) (SMsg.nheld m) (SMsg.held m) (SMsg.nnews m) (SMsg.news m) (SMsg.digest m) x1 (SMsg.state m) (SMsg.n m) (SMsg.sig m)) k), false = true → false = true, q (SMsg.nnews m), ∀ (k : Nat), k < SMsg.nnews m → SEnv.c (SMsg.news m k) = SEnv.c (SMsg.news (SMsg.mk (SMsg.kind m) (SMsg.epoch m) (SMsg.leader m) (SMsg.view m) (SMsg.slot m) x0 (SMsg.vote m) (SMsg.cepoch m) (SMsg.cleader m) (SMsg.cview m) (SMsg.nheld m) (SMsg.held m) (SMsg.nnews m) (SMsg.news m) (SMsg.digest m) x1 (SMsg.state m) (SMsg.n m) (SMsg.sig m)) k), false = true → false = true, q (32 : Nat), q (SMsg.digest m), q (SVote.kind (SCert.vote x1)), q (SVote.epoch (SCert.vote x1)), q (SVote.view (SCert.vote x1)), q (SVote.slot (SCert.vote x1)), q (32 : Nat), q (SVote.digest (SCert.vote x1)), q (SCert.n x1), ∀ (k : Nat), k < SCert.n x1 → SSign.c (SCert.sig x1 k) = SSign.c (SCert.sig x1 k), false = true → false = true, q (SMsg.state m), q (SMsg.n m), ∀ (k : Nat), k < SMsg.n m → SSign.c (SMsg.sig m k) = SSign.c (SMsg.sig (SMsg.mk (SMsg.kind m) (SMsg.epoch m) (SMsg.leader m) (SMsg.view m) (SMsg.slot m) x0 (SMsg.vote m) (SMsg.cepoch m) (SMsg.cleader m) (SMsg.cview m) (SMsg.nheld m) (SMsg.held m) (SMsg.nnews m) (SMsg.news m) (SMsg.digest m) x1 (SMsg.state m) (SMsg.n m) (SMsg.sig m)) k), false = true → false = true]) : Option (V × c5 × List Prop)) := by kernel_rfl
theorem aE1 (m : SMsg) (s : RS) (t1 : RS) (t2 : RS) (n : Nat) (x0 : ByteArray) (x1 : Nat → SSign) :
  f4 zp (bdF8 m s t1 t2 n x0 x1) [false, false, false, false, false, false, false, true] = (some (.tup [], [(.o 0, .flat [.ptr (.o 1) 0 0 0 0, .bool (RS.bad t2)]), (.o 1, rdB t2), (.o 2, .flat (SMsg.c (SMsg.mk (SMsg.kind m) (SMsg.epoch m) (SMsg.leader m) (SMsg.view m) (SMsg.slot m) (SMsg.batch m) (SMsg.vote m) (SMsg.cepoch m) (SMsg.cleader m) (SMsg.cview m) (SMsg.nheld m) (SMsg.held m) (SMsg.nnews m) (SMsg.news m) (SMsg.digest m) (SMsg.cert m) x0 n x1)))], [decide (SMsg.kind m = (1 : Int)) = false, decide (SMsg.kind m = (2 : Int)) = false, decide (SMsg.kind m = (3 : Int)) = false, decide (SMsg.kind m = (4 : Int)) = false, decide (SMsg.kind m = (5 : Int)) = false, decide (SMsg.kind m = (6 : Int)) = false, decide (SMsg.kind m = (7 : Int)) = false, decide (SMsg.kind m = (8 : Int)) = true, T zp 26 [.ptr (.o 1) 0 0 0 0, .int .i64 4194304] [(.o 1, rdB s)] (.str x0) [(.o 1, rdB t1)], T zp 115 [.ptr (.o 0) 0 0 0 0, .int .i64 64, .fn (.func 116) [.ptr (.o 0) 0 0 0 0] []] [(.o 0, .flat [.ptr (.o 1) 0 0 0 0, .bool (RS.bad s)]), (.o 1, rdB t1)] (sg n x1) [(.o 0, .flat [.ptr (.o 1) 0 0 0 0, .bool (RS.bad t2)]), (.o 1, rdB t2)], q0, q0, q0, q (RS.bad t2), q (List.length (RS.l t2)), ∀ (k : Nat), k < List.length (RS.l t2) → bl (RS.l t2) k = bl (RS.l t2) k, false = true → false = true, q (RS.e t2), q2, q (SMsg.kind m), q (SMsg.epoch m), q (SMsg.leader m), q (SMsg.view m), q (SMsg.slot m), q (SBatch.noop (SMsg.batch m)), q (SBatch.n (SMsg.batch m)), ∀ (k : Nat), k < SBatch.n (SMsg.batch m) → SReq.c (SBatch.req (SMsg.batch m) k) = SReq.c (SBatch.req (SMsg.batch m) k), false = true → false = true, q (SVote.kind (SMsg.vote m)), q (SVote.epoch (SMsg.vote m)), q (SVote.view (SMsg.vote m)), q (SVote.slot (SMsg.vote m)), q (32 : Nat), q (SVote.digest (SMsg.vote m)), q (SMsg.cepoch m), q (SMsg.cleader m), q (SMsg.cview m), q (SMsg.nheld m), ∀ (k : Nat), k < SMsg.nheld m → SHeld.c (SMsg.held m k) = SHeld.c (SMsg.held (SMsg.mk (SMsg.kind m) (SMsg.epoch m) (SMsg.leader m) (SMsg.view m) (SMsg.slot m) (SMsg.batch m) (SMsg.vote m) (SMsg.cepoch m) (SMsg.cleader m) (SMsg.cview m) (SMsg.nheld m) (SMsg.held m) (SMsg.nnews m) (SMsg.news m) (SMsg.digest m) (SMsg.cert m) x0 n x1) k), false = true → false = true, q (SMsg.nnews m), ∀ (k : Nat), k < SMsg.nnews m → SEnv.c (SMsg.news m k) = SEnv.c (SMsg.news (SMsg.mk (SMsg.kind m) (SMsg.epoch m) (SMsg.leader m) (SMsg.view m) (SMsg.slot m) (SMsg.batch m) (SMsg.vote m) (SMsg.cepoch m) (SMsg.cleader m) (SMsg.cview m) (SMsg.nheld m) (SMsg.held m) (SMsg.nnews m) (SMsg.news m) (SMsg.digest m) (SMsg.cert m) x0 n x1) k), false = true → false = true, q (32 : Nat), q (SMsg.digest m), q (SVote.kind (SCert.vote (SMsg.cert m))), q (SVote.epoch (SCert.vote (SMsg.cert m))), q (SVote.view (SCert.vote (SMsg.cert m))), q (SVote.slot (SCert.vote (SMsg.cert m))), q (32 : Nat), q (SVote.digest (SCert.vote (SMsg.cert m))), q (SCert.n (SMsg.cert m)), ∀ (k : Nat), k < SCert.n (SMsg.cert m) → SSign.c (SCert.sig (SMsg.cert m) k) = SSign.c (SCert.sig (SMsg.cert m) k), false = true → false = true, q x0, q n, ∀ (k : Nat), k < n → SSign.c (x1 k) = SSign.c (SMsg.sig (SMsg.mk (SMsg.kind m) (SMsg.epoch m) (SMsg.leader m) (SMsg.view m) (SMsg.slot m) (SMsg.batch m) (SMsg.vote m) (SMsg.cepoch m) (SMsg.cleader m) (SMsg.cview m) (SMsg.nheld m) (SMsg.held m) (SMsg.nnews m) (SMsg.news m) (SMsg.digest m) (SMsg.cert m) x0 n x1) k), false = true → false = true]) : Option (V × c5 × List Prop)) := by kernel_rfl
theorem aE2 (m : SMsg) (s : RS) :
  f4 zp (bdF9 m s) [false, false, false, false, false, false, false, false] = (some (.tup [], [(.o 0, .flat [.ptr (.o 1) 0 0 0 0, .bool (RS.bad s)]), (.o 1, rdB s), (.o 2, .flat (SMsg.c m))], [decide (SMsg.kind m = (1 : Int)) = false, decide (SMsg.kind m = (2 : Int)) = false, decide (SMsg.kind m = (3 : Int)) = false, decide (SMsg.kind m = (4 : Int)) = false, decide (SMsg.kind m = (5 : Int)) = false, decide (SMsg.kind m = (6 : Int)) = false, decide (SMsg.kind m = (7 : Int)) = false, decide (SMsg.kind m = (8 : Int)) = false, q0, q0, q0, q (RS.bad s), q (List.length (RS.l s)), ∀ (k : Nat), k < List.length (RS.l s) → bl (RS.l s) k = bl (RS.l s) k, false = true → false = true, q (RS.e s), q2, q (SMsg.kind m), q (SMsg.epoch m), q (SMsg.leader m), q (SMsg.view m), q (SMsg.slot m), q (SBatch.noop (SMsg.batch m)), q (SBatch.n (SMsg.batch m)), ∀ (k : Nat), k < SBatch.n (SMsg.batch m) → SReq.c (SBatch.req (SMsg.batch m) k) = SReq.c (SBatch.req (SMsg.batch m) k), false = true → false = true, q (SVote.kind (SMsg.vote m)), q (SVote.epoch (SMsg.vote m)), q (SVote.view (SMsg.vote m)), q (SVote.slot (SMsg.vote m)), q (32 : Nat), q (SVote.digest (SMsg.vote m)), q (SMsg.cepoch m), q (SMsg.cleader m), q (SMsg.cview m), q (SMsg.nheld m), ∀ (k : Nat), k < SMsg.nheld m → SHeld.c (SMsg.held m k) = SHeld.c (SMsg.held m k), false = true → false = true, q (SMsg.nnews m), ∀ (k : Nat), k < SMsg.nnews m → SEnv.c (SMsg.news m k) = SEnv.c (SMsg.news m k), false = true → false = true, q (32 : Nat), q (SMsg.digest m), q (SVote.kind (SCert.vote (SMsg.cert m))), q (SVote.epoch (SCert.vote (SMsg.cert m))), q (SVote.view (SCert.vote (SMsg.cert m))), q (SVote.slot (SCert.vote (SMsg.cert m))), q (32 : Nat), q (SVote.digest (SCert.vote (SMsg.cert m))), q (SCert.n (SMsg.cert m)), ∀ (k : Nat), k < SCert.n (SMsg.cert m) → SSign.c (SCert.sig (SMsg.cert m) k) = SSign.c (SCert.sig (SMsg.cert m) k), false = true → false = true, q (SMsg.state m), q (SMsg.n m), ∀ (k : Nat), k < SMsg.n m → SSign.c (SMsg.sig m k) = SSign.c (SMsg.sig m k), false = true → false = true]) : Option (V × c5 × List Prop)) := by kernel_rfl
theorem T0 {α : Type} {one : RS → α × RS} (h : ∀ s, Aft s (one s).2) (most : Int) (s : RS) : Aft s (O9 one most s) :=
 (i9 most s).aft.trans (aj1 h _ _)
theorem bh7 {most : Int} (hm : 0 ≤ most ∧ most ≤ 1000) (s : RS) (hl : s.l.length ≤ 1000000000) : T Tryz.prog 115 [p0, .int .i64 most, .fn (.func 116) [p0] []] (mrH 0 1 s) (sg (A3 w4 most s) (C4 w4 most s)) (mrH 0 1 (O9 w4 most s)) :=
 cc7 hm s hl (el := C4 w4 most s) (st := stR w4 (f1 most s).2) rfl (fun k _ h => bO8 _ h) (fun k => Nat.le_trans (aj1 (fun s => (Y0 s).aft) _ k).1 (Nat.le_trans (i9 most s).1 hl)) (ar4 _ _ _) (fun k h => ar5 _ _ _ k h) (ab8 _ _ _)
theorem cc2 {most : Int} (hm : 0 ≤ most ∧ most ≤ 1000) (s : RS) (hl : s.l.length ≤ 1000000000) : T Tryz.prog 111 [p0, .int .i64 most, .fn (.func 112) [p0] []] (mrH 0 1 s) (nw (A3 E0 most s) (C4 E0 most s)) (mrH 0 1 (O9 E0 most s)) :=
 cc6 hm s hl (el := C4 E0 most s) (st := stR E0 (f1 most s).2) rfl (fun k _ h => cc1 _ h) (fun k => Nat.le_trans (aj1 (fun s => (ak4 s).aft) _ k).1 (Nat.le_trans (i9 most s).1 hl)) (ar4 _ _ _) (fun k h => ar5 _ _ _ k h) (ab8 _ _ _)
theorem ao6 (s : RS) : Aft s (G4 s).2 := (ag6 s).trans (T0 (fun s => (Y0 s).aft) _ _)
theorem aY4 (s : RS) (hl : s.l.length ≤ 1000000000) : T Tryz.prog 114 [p0] (mrH 0 1 s) (.agg (G4 s).1.c) (mrH 0 1 (G4 s).2) := by
 refine f5 (bQ2 s (z9 s).2 (G4 s).2 (z9 s).1 (A3 w4 64 (z9 s).2) (C4 w4 64 (z9 s).2)) Tryz.func114 ?_
 simp only [All]; and_intros
 all_goals first | exact aY5 s hl | exact bh7 (by decide) _ (Nat.le_trans (ag6 s).1 hl) | trivial | simp
theorem ap1 (s : RS) : Aft s (B8 s).2 := (F4 s).aft.trans (ao6 _)
theorem bO0 (s : RS) (hl : s.l.length ≤ 1000000000) : T Tryz.prog 110 [p0] (mrH 0 1 s) (.agg (B8 s).1.c) (mrH 0 1 (B8 s).2) := by
 have b := F4 s
 refine f5 (bR0 s (l7 s).2 (B8 s).2 (l7 s).1 (G4 (l7 s).2).1) Tryz.func110 ?_
 simp only [All]; and_intros
 all_goals first | exact aN0 1 s hl | exact T.heap (aY4 _ (Nat.le_trans b.1 hl)) (M0 b.2.1).symm | trivial | simp
theorem cc3 {most : Int} (hm : 0 ≤ most ∧ most ≤ 1000) (s : RS) (hl : s.l.length ≤ 1000000000) : T Tryz.prog 109 [p0, .int .i64 most, .fn (.func 110) [p0] []] (mrH 0 1 s) (Sy.hl (A3 B8 most s) (C4 B8 most s)) (mrH 0 1 (O9 B8 most s)) :=
 cc5 hm s hl (el := C4 B8 most s) (st := stR B8 (f1 most s).2) rfl (fun k _ h => bO0 _ h) (fun k => Nat.le_trans (aj1 ap1 _ k).1 (Nat.le_trans (i9 most s).1 hl)) (ar4 _ _ _) (fun k h => ar5 _ _ _ k h) (ab8 _ _ _)
theorem cr3 {m : SMsg} (s : RS) (hl : s.l.length ≤ 1000000000) (hk : m.kind = 1) : T Tryz.prog 84 [p0, .ptr (.o 2) 0 0 0 0] (mrH 0 1 s ++ [(.o 2, .flat m.c)]) (.tup []) (mrH 0 1 (R1 m s).2 ++ [(.o 2, .flat (R1 m s).1.c)]) := by
 have a1 : Aft s (M8 s) := ((i9 _ _).aft : Aft s (M8 s))
 have l1 : (M8 s).l.length ≤ 1000000000 := Nat.le_trans a1.1 hl
 have a2 : Aft s (O4 s) := a1.trans ((i9 _ _).aft)
 have l2 : (O4 s).l.length ≤ 1000000000 := Nat.le_trans a2.1 hl
 have a3 : Aft s (av2 s) := a2.trans ((F4 _).aft)
 have l3 : (av2 s).l.length ≤ 1000000000 := Nat.le_trans a3.1 hl
 have b1 : (M8 s).bad = s.bad := ((i9 _ _).2.1 : (M8 s).bad = s.bad)
 have b2 : (O4 s).bad = s.bad := ((i9 _ _).2.1 : (O4 s).bad = (M8 s).bad).trans b1
 have b3 : (av2 s).bad = s.bad := ((F4 _).2.1 : (av2 s).bad = (O4 s).bad).trans b2
 refine f5 (bQ8 m s (M8 s) (O4 s) (av2 s)  ((f1 1048576 s).1) ((f1 1099511627776 (M8 s)).1) ((l7 (O4 s)).1)) Tryz.func84 ?_
 simp only [All]; and_intros
 all_goals first | exact A6 1 _ _ | exact aN0 1 _ l2 | exact b3.symm | (rw [hk]; rfl) | trivial | (simp [hk]; done)
theorem cr4 {m : SMsg} (s : RS) (hl : s.l.length ≤ 1000000000) (hk : m.kind = 2) : T Tryz.prog 84 [p0, .ptr (.o 2) 0 0 0 0] (mrH 0 1 s ++ [(.o 2, .flat m.c)]) (.tup []) (mrH 0 1 (R2 m s).2 ++ [(.o 2, .flat (R2 m s).1.c)]) := by
 have a1 : Aft s (aF6 s) := (ag6 _ : Aft s (aF6 s))
 have l1 : (aF6 s).l.length ≤ 1000000000 := Nat.le_trans a1.1 hl
 refine f5 (bx7 m s (aF6 s)  ((z9 s).1)) Tryz.func84 ?_
 simp only [All]; and_intros
 all_goals first | exact aY5 _ hl | (rw [hk]; rfl) | trivial | (simp [hk]; done)
theorem cr5 {m : SMsg} (s : RS) (hl : s.l.length ≤ 1000000000) (hk : m.kind = 3) : T Tryz.prog 84 [p0, .ptr (.o 2) 0 0 0 0] (mrH 0 1 s ++ [(.o 2, .flat m.c)]) (.tup []) (mrH 0 1 (R3 m s).2 ++ [(.o 2, .flat (R3 m s).1.c)]) := by
 have a1 : Aft s (M9 s) := ((i9 _ _).aft : Aft s (M9 s))
 have l1 : (M9 s).l.length ≤ 1000000000 := Nat.le_trans a1.1 hl
 have a2 : Aft s (O5 s) := a1.trans ((i9 _ _).aft)
 have l2 : (O5 s).l.length ≤ 1000000000 := Nat.le_trans a2.1 hl
 have a3 : Aft s (G8 s) := a2.trans ((i9 _ _).aft)
 have l3 : (G8 s).l.length ≤ 1000000000 := Nat.le_trans a3.1 hl
 have a4 : Aft s (aR2 s) := a3.trans (T0 ap1 _ _)
 have l4 : (aR2 s).l.length ≤ 1000000000 := Nat.le_trans a4.1 hl
 have b1 : (M9 s).bad = s.bad := ((i9 _ _).2.1 : (M9 s).bad = s.bad)
 have b2 : (O5 s).bad = s.bad := ((i9 _ _).2.1 : (O5 s).bad = (M9 s).bad).trans b1
 have b3 : (G8 s).bad = s.bad := ((i9 _ _).2.1 : (G8 s).bad = (O5 s).bad).trans b2
 refine f5 (bj7 m s (M9 s) (O5 s) (G8 s) (aR2 s) (A3 B8 4 (G8 s))  ((f1 1048576 s).1) ((f1 64 (M9 s)).1) ((f1 1099511627776 (O5 s)).1) (C4 B8 4 (G8 s))) Tryz.func84 ?_
 simp only [All]; and_intros
 all_goals first | exact A6 1 _ _ | exact T.heap (cc3 (by decide) _ l3) (M0 b3).symm | (rw [hk]; rfl) | trivial | (simp [hk]; done)
theorem cr6 {m : SMsg} (s : RS) (hl : s.l.length ≤ 1000000000) (hk : m.kind = 4) : T Tryz.prog 84 [p0, .ptr (.o 2) 0 0 0 0] (mrH 0 1 s ++ [(.o 2, .flat m.c)]) (.tup []) (mrH 0 1 (R4 m s).2 ++ [(.o 2, .flat (R4 m s).1.c)]) := by
 have a1 : Aft s (N0 s) := ((i9 _ _).aft : Aft s (N0 s))
 have l1 : (N0 s).l.length ≤ 1000000000 := Nat.le_trans a1.1 hl
 have a2 : Aft s (O6 s) := a1.trans ((i9 _ _).aft)
 have l2 : (O6 s).l.length ≤ 1000000000 := Nat.le_trans a2.1 hl
 have a3 : Aft s (G9 s) := a2.trans ((i9 _ _).aft)
 have l3 : (G9 s).l.length ≤ 1000000000 := Nat.le_trans a3.1 hl
 have a4 : Aft s (aR3 s) := a3.trans (T0 (fun s => (ak4 s).aft) _ _)
 have l4 : (aR3 s).l.length ≤ 1000000000 := Nat.le_trans a4.1 hl
 have b1 : (N0 s).bad = s.bad := ((i9 _ _).2.1 : (N0 s).bad = s.bad)
 have b2 : (O6 s).bad = s.bad := ((i9 _ _).2.1 : (O6 s).bad = (N0 s).bad).trans b1
 have b3 : (G9 s).bad = s.bad := ((i9 _ _).2.1 : (G9 s).bad = (O6 s).bad).trans b2
 refine f5 (bb1 m s (N0 s) (O6 s) (G9 s) (aR3 s) (A3 E0 64 (G9 s))  ((f1 1048576 s).1) ((f1 64 (N0 s)).1) ((f1 1099511627776 (O6 s)).1) (C4 E0 64 (G9 s))) Tryz.func84 ?_
 simp only [All]; and_intros
 all_goals first | exact A6 1 _ _ | exact T.heap (cc2 (by decide) _ l3) (M0 b3).symm | (rw [hk]; rfl) | trivial | (simp [hk]; done)
theorem cr7 {m : SMsg} (s : RS) (hl : s.l.length ≤ 1000000000) (hk : m.kind = 5) : T Tryz.prog 84 [p0, .ptr (.o 2) 0 0 0 0] (mrH 0 1 s ++ [(.o 2, .flat m.c)]) (.tup []) (mrH 0 1 (R5 m s).2 ++ [(.o 2, .flat (R5 m s).1.c)]) := by
 have a1 : Aft s (O7 s) := ((i9 _ _).aft : Aft s (O7 s))
 have l1 : (O7 s).l.length ≤ 1000000000 := Nat.le_trans a1.1 hl
 have a2 : Aft s (aR4 s) := a1.trans ((ak0 _).aft)
 have l2 : (aR4 s).l.length ≤ 1000000000 := Nat.le_trans a2.1 hl
 have b1 : (O7 s).bad = s.bad := ((i9 _ _).2.1 : (O7 s).bad = s.bad)
 refine f5 (aW1 m s (O7 s) (aR4 s)  ((f1 1048576 s).1) ((J3 (O7 s)).1)) Tryz.func84 ?_
 simp only [All]; and_intros
 all_goals first | exact A6 1 _ _ | exact T.heap (ay2 _ l1) (M0 b1).symm | (rw [hk]; rfl) | trivial | (simp [hk]; done)
theorem cr8 {m : SMsg} (s : RS) (hl : s.l.length ≤ 1000000000) (hk : m.kind = 6) : T Tryz.prog 84 [p0, .ptr (.o 2) 0 0 0 0] (mrH 0 1 s ++ [(.o 2, .flat m.c)]) (.tup []) (mrH 0 1 (R6 m s).2 ++ [(.o 2, .flat (R6 m s).1.c)]) := by
 have a1 : Aft s (N1 s) := ((i9 _ _).aft : Aft s (N1 s))
 have l1 : (N1 s).l.length ≤ 1000000000 := Nat.le_trans a1.1 hl
 have a2 : Aft s (av3 s) := a1.trans ((i9 _ _).aft)
 have l2 : (av3 s).l.length ≤ 1000000000 := Nat.le_trans a2.1 hl
 have b1 : (N1 s).bad = s.bad := ((i9 _ _).2.1 : (N1 s).bad = s.bad)
 have b2 : (av3 s).bad = s.bad := ((i9 _ _).2.1 : (av3 s).bad = (N1 s).bad).trans b1
 refine f5 (aO9 m s (N1 s) (av3 s)  ((f1 1048576 s).1) ((f1 1099511627776 (N1 s)).1)) Tryz.func84 ?_
 simp only [All]; and_intros
 all_goals first | exact A6 1 _ _ | exact b2.symm | (rw [hk]; rfl) | trivial | (simp [hk]; done)
theorem cr9 {m : SMsg} (s : RS) (hl : s.l.length ≤ 1000000000) (hk : m.kind = 7) : T Tryz.prog 84 [p0, .ptr (.o 2) 0 0 0 0] (mrH 0 1 s ++ [(.o 2, .flat m.c)]) (.tup []) (mrH 0 1 (R7 m s).2 ++ [(.o 2, .flat (R7 m s).1.c)]) := by
 have a1 : Aft s (O8 s) := ((F4 _).aft : Aft s (O8 s))
 have l1 : (O8 s).l.length ≤ 1000000000 := Nat.le_trans a1.1 hl
 have a2 : Aft s (aR5 s) := a1.trans (ao6 _)
 have l2 : (aR5 s).l.length ≤ 1000000000 := Nat.le_trans a2.1 hl
 have b1 : (O8 s).bad = s.bad := ((F4 _).2.1 : (O8 s).bad = s.bad)
 refine f5 (aK5 m s (O8 s) (aR5 s)  ((l7 s).1) ((G4 (O8 s)).1)) Tryz.func84 ?_
 simp only [All]; and_intros
 all_goals first | exact aN0 1 _ hl | exact T.heap (aY4 _ l1) (M0 b1).symm | (rw [hk]; rfl) | trivial | (simp [hk]; done)
theorem cr_ {m : SMsg} (s : RS) (hl : s.l.length ≤ 1000000000) (hk : m.kind = 8) : T Tryz.prog 84 [p0, .ptr (.o 2) 0 0 0 0] (mrH 0 1 s ++ [(.o 2, .flat m.c)]) (.tup []) (mrH 0 1 (R8 m s).2 ++ [(.o 2, .flat (R8 m s).1.c)]) := by
 have a1 : Aft s (F8 s) := ((K6 _ _).aft : Aft s (F8 s))
 have l1 : (F8 s).l.length ≤ 1000000000 := Nat.le_trans a1.1 hl
 have a2 : Aft s (aR6 s) := a1.trans (T0 (fun s => (Y0 s).aft) _ _)
 have l2 : (aR6 s).l.length ≤ 1000000000 := Nat.le_trans a2.1 hl
 have b1 : (F8 s).bad = s.bad := ((K6 _ _).2.1 : (F8 s).bad = s.bad)
 refine f5 (aE1 m s (F8 s) (aR6 s) (A3 w4 64 (F8 s))  ((v6 4194304 s).1) (C4 w4 64 (F8 s))) Tryz.func84 ?_
 simp only [All]; and_intros
 all_goals first | exact ar0 1 _ _ hl | exact T.heap (bh7 (by decide) _ l1) (M0 b1).symm | (rw [hk]; rfl) | trivial | (simp [hk]; done)
theorem cs1 {m : SMsg} (s : RS) (hk : m.kind < 1 ∨ 8 < m.kind) : T Tryz.prog 84 [p0, .ptr (.o 2) 0 0 0 0] (mrH 0 1 s ++ [(.o 2, .flat m.c)]) (.tup []) (mrH 0 1 s ++ [(.o 2, .flat m.c)]) := by
 refine f5 (aE2 m s) Tryz.func84 ?_
 simp only [All]; and_intros
 all_goals first | (rw [decide_eq_false_iff_not]; omega) | trivial | (intro _ _; trivial)
theorem aX8 (m : SMsg) (s : RS) : Aft s (j9 m s).2 := by
 unfold j9
 repeat' split
 ·exact (((i9 _ _).aft).trans ((i9 _ _).aft)).trans ((F4 _).aft)
 ·exact ag6 _
 ·exact ((((i9 _ _).aft).trans ((i9 _ _).aft)).trans ((i9 _ _).aft)).trans (T0 ap1 _ _)
 ·exact ((((i9 _ _).aft).trans ((i9 _ _).aft)).trans ((i9 _ _).aft)).trans (T0 (fun s => (ak4 s).aft) _ _)
 ·exact ((i9 _ _).aft).trans ((ak0 _).aft)
 ·exact ((i9 _ _).aft).trans ((i9 _ _).aft)
 ·exact ((F4 _).aft).trans (ao6 _)
 ·exact ((K6 _ _).aft).trans (T0 (fun s => (Y0 s).aft) _ _)
 ·exact Aft.refl s
theorem bh5 (m : SMsg) (s : RS) (hl : s.l.length ≤ 1000000000) : T Tryz.prog 84 [p0, .ptr (.o 2) 0 0 0 0] (mrH 0 1 s ++ [(.o 2, .flat m.c)]) (.tup []) (mrH 0 1 (j9 m s).2 ++ [(.o 2, .flat (j9 m s).1.c)]) := by
 by_cases h1 : m.kind = 1
 ·have e : j9 m s = R1 m s := by simp only [j9, if_pos h1]
  rw [e]; exact cr3 s hl h1
 by_cases h2 : m.kind = 2
 ·have e : j9 m s = R2 m s := by simp only [j9, if_neg h1, if_pos h2]
  rw [e]; exact cr4 s hl h2
 by_cases h3 : m.kind = 3
 ·have e : j9 m s = R3 m s := by simp only [j9, if_neg h1, if_neg h2, if_pos h3]
  rw [e]; exact cr5 s hl h3
 by_cases h4 : m.kind = 4
 ·have e : j9 m s = R4 m s := by simp only [j9, if_neg h1, if_neg h2, if_neg h3, if_pos h4]
  rw [e]; exact cr6 s hl h4
 by_cases h5 : m.kind = 5
 ·have e : j9 m s = R5 m s := by simp only [j9, if_neg h1, if_neg h2, if_neg h3, if_neg h4, if_pos h5]
  rw [e]; exact cr7 s hl h5
 by_cases h6 : m.kind = 6
 ·have e : j9 m s = R6 m s := by simp only [j9, if_neg h1, if_neg h2, if_neg h3, if_neg h4, if_neg h5, if_pos h6]
  rw [e]; exact cr8 s hl h6
 by_cases h7 : m.kind = 7
 ·have e : j9 m s = R7 m s := by simp only [j9, if_neg h1, if_neg h2, if_neg h3, if_neg h4, if_neg h5, if_neg h6, if_pos h7]
  rw [e]; exact cr9 s hl h7
 by_cases h8 : m.kind = 8
 ·have e : j9 m s = R8 m s := by simp only [j9, if_neg h1, if_neg h2, if_neg h3, if_neg h4, if_neg h5, if_neg h6, if_neg h7, if_pos h8]
  rw [e]; exact cr_ s hl h8
 have e : j9 m s = (m, s) := by simp only [j9, if_neg h1, if_neg h2, if_neg h3, if_neg h4, if_neg h5, if_neg h6, if_neg h7, if_neg h8]
 rw [e]; exact cs1 s (by omega)
def stD (k : Int) (s1 : RS) : St := ⟨mkT 53 [(2, .ptr (.o 8) 0 0 0 0), (3, .int .i64 0), (4, .ptr (.o 5) 0 0 0 0), (5, .ptr (.o 7) 0 0 0 0)], mrH 5 6 s1 ++ [(.o 7, .flat (j2 k).c), (.o 8, .flat (j2 0).c)], 9, []⟩
def fxD (k : Int) (s1 : RS) : Nat → St → List Hint := fun id t => bif Nat.beq id 7 then match r9 t.tmps 4 with
  | .ptr r _ _ _ _ => match r9 t.tmps 5 with
   | .ptr q _ _ _ _ => match r9 t.tmps 2 with
    | .ptr c _ _ _ _ => match B3 r t.heap with
     | some (.flat (.ptr a _ _ _ _ :: _), _) => [.wk (B6 [(.o 5, r), (.o 6, a), (.o 7, q), (.o 8, c)] (stD k s1))]
     | _ => []
    | _ => []
   | _ => []
  | _ => []
 else []
def kDec (r : SMsg) (e : Int) : Exit → St → Option W := fun _ t => match r9 t.tmps 2 with
 | .ptr c _ _ _ _ => some ⟨[], [(2, .set (.ptr c 0 0 0 0)), (3, .set (.int .i64 e))], [(c, .set (.flat r.c))], none, t.next⟩
 | _ => none
noncomputable def aL_ (s : ByteArray) (k : Int) (s0 s1 s2 : RS) (m : SMsg) (d : Int) (r : SMsg) (e : Int) : Bd := { f := Tryz.f42, args := [.str s], kb := { db := ai4 0 [(24, 7, fun _ _ lo => [{ val := .ptr (.o lo) 0 0 0 0, post := [(.o lo, rdB s0)] }]), (25, 15, cRd (.int .i64 k) s1), (78, 27, cRd (.int .i64 s1.e) s1), (84, 1, fun _ _ _ => [{ pre := [.o 5, .o 6, .o 7], val := .tup [], post := mrH 5 6 s2 ++ [(.o 7, .flat m.c)] }]), (28, 6, cRd (.int .i64 d) s2)], fx := fxD k s1 }, k := kDec r e }
noncomputable def cg8 (s : ByteArray) : Bd := aL_ s 0 {} {} {} {} 0 (j2 0) 3
noncomputable def aO3 (s : ByteArray) (k : Int) (s0 s1 s2 : RS) (m : SMsg) (d : Int) : Bd := aL_ s k s0 s1 s2 m d (j2 0) 130
noncomputable def bj3 (s : ByteArray) (k : Int) (s0 s1 s2 : RS) (m : SMsg) (d : Int) : Bd := aL_ s k s0 s1 s2 m d (j2 0) d
noncomputable def bj4 (s : ByteArray) (k : Int) (s0 s1 s2 : RS) (m : SMsg) (d : Int) : Bd := aL_ s k s0 s1 s2 m d m 0
def F7 (l : List UInt8) : RS := (f1 8 { l := l }).2
def J2 (l : List UInt8) : Int := (f1 8 { l := l }).1
def w5 (l : List UInt8) : SMsg × RS := j9 (j2 (J2 l)) (F7 l)
def D4 (l : List UInt8) : SMsg × Int :=
 if 4194304 < l.length then (j2 0, 3) else if J2 l = 0 ∧ (F7 l).e = 0 then (j2 0, 130) else if (w5 l).2.bad = true then (j2 0, 130) else if D6 (w5 l).2 ≠ 0 then (j2 0, D6 (w5 l).2) else ((w5 l).1, 0)
theorem bj2 (s : ByteArray) :
  f4 zp (cg8 s) [true] = (some (.tup [.agg [.int .i64 0, .int .i64 0, .int .i64 0, .int .i64 0, .int .i64 0, .bool false, rq 0 fun x => SReq.mk (0 : Int) (0 : Int) ByteArray.empty [], .int .i64 0, .int .i64 0, .int .i64 0, .int .i64 0, .seg .u8 32 z32, .int .i64 0, .int .i64 0, .int .i64 0, hl 0 fun x => SHeld.mk (SBatch.mk false 0 fun x => SReq.mk (0 : Int) (0 : Int) ByteArray.empty []) (SCert.mk (SVote.mk (0 : Int) (0 : Int) (0 : Int) (0 : Int) []) 0 fun x => SSign.mk (0 : Int) []), nw 0 fun x => SEnv.mk (0 : Int) ByteArray.empty [], .seg .u8 32 z32, .int .i64 0, .int .i64 0, .int .i64 0, .int .i64 0, .seg .u8 32 z32, sg 0 fun x => SSign.mk (0 : Int) [], .str ByteArray.empty, sg 0 fun x => SSign.mk (0 : Int) []], .int .i64 3], [], [decide ((4194304 : Int) < (↑(ByteArray.size s) : Int)) = true, q1, q1, q1, q1, q1, q false, q0, q1, q1, q1, q1, q (32 : Nat), q z32, q1, q1, q1, q0, q0, q (32 : Nat), q z32, q1, q1, q1, q1, q (32 : Nat), q z32, q0, q ByteArray.empty, q0, q0, q0, q0, q (3 : Int)]) : Option (V × c5 × List Prop)) := by kernel_rfl
noncomputable def P4 (s : ByteArray) (k : Int) (s0 : RS) (s1 : RS) (s2 : RS) (m : SMsg) (d : Int) : Nat → List Prop
 | 0 => [decide ((4194304 : Int) < (↑(ByteArray.size s) : Int)) = false, T zp 24 [.ros 1 (ByteArray.size s) (fun q => [.int .u8 (B1 s q)]) false] [] (.ptr (.o 448) 0 0 0 0) [(.o 448, rdB s0)], T zp 25 [.ptr (.o 448) 0 0 0 0, .int .i64 8] [(.o 448, rdB s0)] (.int .i64 k) [(.o 448, rdB s1)]]
 | 1 => [decide (k = (0 : Int)) = true, T zp 78 [.ptr (.o 448) 0 0 0 0] [(.o 448, rdB s1)] (.int .i64 (RS.e s1)) [(.o 448, rdB s1)]]
 | _ => []
theorem aV9 (s : ByteArray) (k : Int) (s0 : RS) (s1 : RS) (s2 : RS) (m : SMsg) (d : Int) :
 f4 zp (aO3 s k s0 s1 s2 m d) [false, true, true] = (some (.tup [.agg [.int .i64 0, .int .i64 0, .int .i64 0, .int .i64 0, .int .i64 0, .bool false, rq 0 fun x => SReq.mk (0 : Int) (0 : Int) ByteArray.empty [], .int .i64 0, .int .i64 0, .int .i64 0, .int .i64 0, .seg .u8 32 z32, .int .i64 0, .int .i64 0, .int .i64 0, hl 0 fun x => SHeld.mk (SBatch.mk false 0 fun x => SReq.mk (0 : Int) (0 : Int) ByteArray.empty []) (SCert.mk (SVote.mk (0 : Int) (0 : Int) (0 : Int) (0 : Int) []) 0 fun x => SSign.mk (0 : Int) []), nw 0 fun x => SEnv.mk (0 : Int) ByteArray.empty [], .seg .u8 32 z32, .int .i64 0, .int .i64 0, .int .i64 0, .int .i64 0, .seg .u8 32 z32, sg 0 fun x => SSign.mk (0 : Int) [], .str ByteArray.empty, sg 0 fun x => SSign.mk (0 : Int) []], .int .i64 130], [], P4 s k s0 s1 s2 m d 0 ++ (P4 s k s0 s1 s2 m d 1 ++ [decide (RS.e s1 = (0 : Int)) = true, q1, q1, q1, q1, q1, q false, q0, q1, q1, q1, q1, q (32 : Nat), q z32, q1, q1, q1, q0, q0, q (32 : Nat), q z32, q1, q1, q1, q1, q (32 : Nat), q z32, q0, q ByteArray.empty, q0, q0, q0, q0, q (130 : Int)])) : Option (V × c5 × List Prop)) := by kernel_rfl
theorem aO5 (s : ByteArray) (k : Int) (s0 : RS) (s1 : RS) (s2 : RS) (m : SMsg) (d : Int) :
 f4 zp (aO3 s k s0 s1 s2 m d) [false, true, false, true] = (some (.tup [.agg [.int .i64 0, .int .i64 0, .int .i64 0, .int .i64 0, .int .i64 0, .bool false, rq 0 fun x => SReq.mk (0 : Int) (0 : Int) ByteArray.empty [], .int .i64 0, .int .i64 0, .int .i64 0, .int .i64 0, .seg .u8 32 z32, .int .i64 0, .int .i64 0, .int .i64 0, hl 0 fun x => SHeld.mk (SBatch.mk false 0 fun x => SReq.mk (0 : Int) (0 : Int) ByteArray.empty []) (SCert.mk (SVote.mk (0 : Int) (0 : Int) (0 : Int) (0 : Int) []) 0 fun x => SSign.mk (0 : Int) []), nw 0 fun x => SEnv.mk (0 : Int) ByteArray.empty [], .seg .u8 32 z32, .int .i64 0, .int .i64 0, .int .i64 0, .int .i64 0, .seg .u8 32 z32, sg 0 fun x => SSign.mk (0 : Int) [], .str ByteArray.empty, sg 0 fun x => SSign.mk (0 : Int) []], .int .i64 130], [], P4 s k s0 s1 s2 m d 0 ++ (P4 s k s0 s1 s2 m d 1 ++ [decide (RS.e s1 = (0 : Int)) = false, q0, q0, q0, false = RS.bad s1, q (List.length (RS.l s1)), ∀ (k : Nat), k < List.length (RS.l s1) → bl (RS.l s1) k = bl (RS.l s1) k, false = true → false = true, q (RS.e s1), q2, q k, q1, q1, q1, q1, q false, q0, q1, q1, q1, q1, q (32 : Nat), q z32, q1, q1, q1, q0, q0, q (32 : Nat), q z32, q1, q1, q1, q1, q (32 : Nat), q z32, q0, q ByteArray.empty, q0, q1, q1, q1, q1, q1, q false, q0, q1, q1, q1, q1, q (32 : Nat), q z32, q1, q1, q1, q0, q0, q (32 : Nat), q z32, q1, q1, q1, q1, q (32 : Nat), q z32, q0, q ByteArray.empty, q0, q0, q0, q0, q1, q0, q0, q0, q0, q0, q0, T zp 84 [.ptr (.o 5) 0 0 0 0, .ptr (.o 7) 0 0 0 0] [(.o 5, .flat [.ptr (.o 6) 0 0 0 0, .bool (RS.bad s1)]), (.o 6, rdB s1), (.o 7, .flat (SMsg.c (j2 k)))] (.tup []) [(.o 5, .flat [.ptr (.o 6) 0 0 0 0, .bool (RS.bad s2)]), (.o 6, rdB s2), (.o 7, .flat (SMsg.c m))], T zp 28 [.ptr (.o 6) 0 0 0 0] [(.o 6, rdB s2)] (.int .i64 d) [(.o 6, rdB s2)], RS.bad s2 = true, q1, q1, q1, q1, q1, q false, q0, q1, q1, q1, q1, q (32 : Nat), q z32, q1, q1, q1, q0, q0, q (32 : Nat), q z32, q1, q1, q1, q1, q (32 : Nat), q z32, q0, q ByteArray.empty, q0, q0, q0, q0, q (130 : Int)])) : Option (V × c5 × List Prop)) := by kernel_rfl
theorem aK0 (s : ByteArray) (k : Int) (s0 : RS) (s1 : RS) (s2 : RS) (m : SMsg) (d : Int) :
  f4 zp (bj3 s k s0 s1 s2 m d) [false, true, false, false, true] = (some (.tup [.agg [.int .i64 0, .int .i64 0, .int .i64 0, .int .i64 0, .int .i64 0, .bool false, rq 0 fun x => SReq.mk (0 : Int) (0 : Int) ByteArray.empty [], .int .i64 0, .int .i64 0, .int .i64 0, .int .i64 0, .seg .u8 32 z32, .int .i64 0, .int .i64 0, .int .i64 0, hl 0 fun x => SHeld.mk (SBatch.mk false 0 fun x => SReq.mk (0 : Int) (0 : Int) ByteArray.empty []) (SCert.mk (SVote.mk (0 : Int) (0 : Int) (0 : Int) (0 : Int) []) 0 fun x => SSign.mk (0 : Int) []), nw 0 fun x => SEnv.mk (0 : Int) ByteArray.empty [], .seg .u8 32 z32, .int .i64 0, .int .i64 0, .int .i64 0, .int .i64 0, .seg .u8 32 z32, sg 0 fun x => SSign.mk (0 : Int) [], .str ByteArray.empty, sg 0 fun x => SSign.mk (0 : Int) []], .int .i64 d], [], [decide ((4194304 : Int) < (↑(ByteArray.size s) : Int)) = false, T zp 24 [.ros 1 (ByteArray.size s) (fun q => [.int .u8 (B1 s q)]) false] [] (.ptr (.o 448) 0 0 0 0) [(.o 448, rdB s0)], T zp 25 [.ptr (.o 448) 0 0 0 0, .int .i64 8] [(.o 448, rdB s0)] (.int .i64 k) [(.o 448, rdB s1)], decide (k = (0 : Int)) = true, T zp 78 [.ptr (.o 448) 0 0 0 0] [(.o 448, rdB s1)] (.int .i64 (RS.e s1)) [(.o 448, rdB s1)], decide (RS.e s1 = (0 : Int)) = false, q0, q0, q0, false = RS.bad s1, q (List.length (RS.l s1)), ∀ (k : Nat), k < List.length (RS.l s1) → bl (RS.l s1) k = bl (RS.l s1) k, false = true → false = true, q (RS.e s1), q2, q k, q1, q1, q1, q1, q false, q0, q1, q1, q1, q1, q (32 : Nat), q z32, q1, q1, q1, q0, q0, q (32 : Nat), q z32, q1, q1, q1, q1, q (32 : Nat), q z32, q0, q ByteArray.empty, q0, q1, q1, q1, q1, q1, q false, q0, q1, q1, q1, q1, q (32 : Nat), q z32, q1, q1, q1, q0, q0, q (32 : Nat), q z32, q1, q1, q1, q1, q (32 : Nat), q z32, q0, q ByteArray.empty, q0, q0, q0, q0, q1, q0, q0, q0, q0, q0, q0, T zp 84 [.ptr (.o 5) 0 0 0 0, .ptr (.o 7) 0 0 0 0] [(.o 5, .flat [.ptr (.o 6) 0 0 0 0, .bool (RS.bad s1)]), (.o 6, rdB s1), (.o 7, .flat (SMsg.c (j2 k)))] (.tup []) [(.o 5, .flat [.ptr (.o 6) 0 0 0 0, .bool (RS.bad s2)]), (.o 6, rdB s2), (.o 7, .flat (SMsg.c m))], T zp 28 [.ptr (.o 6) 0 0 0 0] [(.o 6, rdB s2)] (.int .i64 d) [(.o 6, rdB s2)], RS.bad s2 = false, (!decide (d = (0 : Int))) = true, q1, q1, q1, q1, q1, q false, q0, q1, q1, q1, q1, q (32 : Nat), q z32, q1, q1, q1, q0, q0, q (32 : Nat), q z32, q1, q1, q1, q1, q (32 : Nat), q z32, q0, q ByteArray.empty, q0, q0, q0, q0, q d]) : Option (V × c5 × List Prop)) := by kernel_rfl
theorem aK2 (s : ByteArray) (k : Int) (s0 : RS) (s1 : RS) (s2 : RS) (m : SMsg) (d : Int) :
  f4 zp (bj4 s k s0 s1 s2 m d) [false, true, false, false, false] = (some (.tup [.agg (SMsg.c m), .int .i64 0], [], [decide ((4194304 : Int) < (↑(ByteArray.size s) : Int)) = false, T zp 24 [.ros 1 (ByteArray.size s) (fun q => [.int .u8 (B1 s q)]) false] [] (.ptr (.o 448) 0 0 0 0) [(.o 448, rdB s0)], T zp 25 [.ptr (.o 448) 0 0 0 0, .int .i64 8] [(.o 448, rdB s0)] (.int .i64 k) [(.o 448, rdB s1)], decide (k = (0 : Int)) = true, T zp 78 [.ptr (.o 448) 0 0 0 0] [(.o 448, rdB s1)] (.int .i64 (RS.e s1)) [(.o 448, rdB s1)], decide (RS.e s1 = (0 : Int)) = false, q0, q0, q0, false = RS.bad s1, q (List.length (RS.l s1)), ∀ (k : Nat), k < List.length (RS.l s1) → bl (RS.l s1) k = bl (RS.l s1) k, false = true → false = true, q (RS.e s1), q2, q k, q1, q1, q1, q1, q false, q0, q1, q1, q1, q1, q (32 : Nat), q z32, q1, q1, q1, q0, q0, q (32 : Nat), q z32, q1, q1, q1, q1, q (32 : Nat), q z32, q0, q ByteArray.empty, q0, q1, q1, q1, q1, q1, q false, q0, q1, q1, q1, q1, q (32 : Nat), q z32, q1, q1, q1, q0, q0, q (32 : Nat), q z32, q1, q1, q1, q1, q (32 : Nat), q z32, q0, q ByteArray.empty, q0, q0, q0, q0, q1, q0, q0, q0, q0, q0, q0, T zp 84 [.ptr (.o 5) 0 0 0 0, .ptr (.o 7) 0 0 0 0] [(.o 5, .flat [.ptr (.o 6) 0 0 0 0, .bool (RS.bad s1)]), (.o 6, rdB s1), (.o 7, .flat (SMsg.c (j2 k)))] (.tup []) [(.o 5, .flat [.ptr (.o 6) 0 0 0 0, .bool (RS.bad s2)]), (.o 6, rdB s2), (.o 7, .flat (SMsg.c m))], T zp 28 [.ptr (.o 6) 0 0 0 0] [(.o 6, rdB s2)] (.int .i64 d) [(.o 6, rdB s2)], RS.bad s2 = false, (!decide (d = (0 : Int))) = false, q (SMsg.kind m), q (SMsg.epoch m), q (SMsg.leader m), q (SMsg.view m), q (SMsg.slot m), q (SBatch.noop (SMsg.batch m)), q (SBatch.n (SMsg.batch m)), ∀ (k : Nat), k < SBatch.n (SMsg.batch m) → SReq.c (SBatch.req (SMsg.batch m) k) = SReq.c (SBatch.req (SMsg.batch m) k), false = true → false = true, q (SVote.kind (SMsg.vote m)), q (SVote.epoch (SMsg.vote m)), q (SVote.view (SMsg.vote m)), q (SVote.slot (SMsg.vote m)), q (32 : Nat), q (SVote.digest (SMsg.vote m)), q (SMsg.cepoch m), q (SMsg.cleader m), q (SMsg.cview m), q (SMsg.nheld m), ∀ (k : Nat), k < SMsg.nheld m → SHeld.c (SMsg.held m k) = SHeld.c (SMsg.held m k), false = true → false = true, q (SMsg.nnews m), ∀ (k : Nat), k < SMsg.nnews m → SEnv.c (SMsg.news m k) = SEnv.c (SMsg.news m k), false = true → false = true, q (32 : Nat), q (SMsg.digest m), q (SVote.kind (SCert.vote (SMsg.cert m))), q (SVote.epoch (SCert.vote (SMsg.cert m))), q (SVote.view (SCert.vote (SMsg.cert m))), q (SVote.slot (SCert.vote (SMsg.cert m))), q (32 : Nat), q (SVote.digest (SCert.vote (SMsg.cert m))), q (SCert.n (SMsg.cert m)), ∀ (k : Nat), k < SCert.n (SMsg.cert m) → SSign.c (SCert.sig (SMsg.cert m) k) = SSign.c (SCert.sig (SMsg.cert m) k), false = true → false = true, q (SMsg.state m), q (SMsg.n m), ∀ (k : Nat), k < SMsg.n m → SSign.c (SMsg.sig m k) = SSign.c (SMsg.sig m k), false = true → false = true, q0, q0, q0, q1]) : Option (V × c5 × List Prop)) := by kernel_rfl
theorem aO4 (s : ByteArray) (k : Int) (s0 : RS) (s1 : RS) (s2 : RS) (m : SMsg) (d : Int) :
 f4 zp (aO3 s k s0 s1 s2 m d) [false, false, false, true] = (some (.tup [.agg [.int .i64 0, .int .i64 0, .int .i64 0, .int .i64 0, .int .i64 0, .bool false, rq 0 fun x => SReq.mk (0 : Int) (0 : Int) ByteArray.empty [], .int .i64 0, .int .i64 0, .int .i64 0, .int .i64 0, .seg .u8 32 z32, .int .i64 0, .int .i64 0, .int .i64 0, hl 0 fun x => SHeld.mk (SBatch.mk false 0 fun x => SReq.mk (0 : Int) (0 : Int) ByteArray.empty []) (SCert.mk (SVote.mk (0 : Int) (0 : Int) (0 : Int) (0 : Int) []) 0 fun x => SSign.mk (0 : Int) []), nw 0 fun x => SEnv.mk (0 : Int) ByteArray.empty [], .seg .u8 32 z32, .int .i64 0, .int .i64 0, .int .i64 0, .int .i64 0, .seg .u8 32 z32, sg 0 fun x => SSign.mk (0 : Int) [], .str ByteArray.empty, sg 0 fun x => SSign.mk (0 : Int) []], .int .i64 130], [], P4 s k s0 s1 s2 m d 0 ++ [decide (k = (0 : Int)) = false, q false, q0, q0, q0, false = RS.bad s1, q (List.length (RS.l s1)), ∀ (k : Nat), k < List.length (RS.l s1) → bl (RS.l s1) k = bl (RS.l s1) k, false = true → false = true, q (RS.e s1), q2, q k, q1, q1, q1, q1, q false, q0, q1, q1, q1, q1, q (32 : Nat), q z32, q1, q1, q1, q0, q0, q (32 : Nat), q z32, q1, q1, q1, q1, q (32 : Nat), q z32, q0, q ByteArray.empty, q0, q1, q1, q1, q1, q1, q false, q0, q1, q1, q1, q1, q (32 : Nat), q z32, q1, q1, q1, q0, q0, q (32 : Nat), q z32, q1, q1, q1, q1, q (32 : Nat), q z32, q0, q ByteArray.empty, q0, q0, q0, q0, q1, q0, q0, q0, q0, q0, q0, T zp 84 [.ptr (.o 5) 0 0 0 0, .ptr (.o 7) 0 0 0 0] [(.o 5, .flat [.ptr (.o 6) 0 0 0 0, .bool (RS.bad s1)]), (.o 6, rdB s1), (.o 7, .flat (SMsg.c (j2 k)))] (.tup []) [(.o 5, .flat [.ptr (.o 6) 0 0 0 0, .bool (RS.bad s2)]), (.o 6, rdB s2), (.o 7, .flat (SMsg.c m))], T zp 28 [.ptr (.o 6) 0 0 0 0] [(.o 6, rdB s2)] (.int .i64 d) [(.o 6, rdB s2)], RS.bad s2 = true, q1, q1, q1, q1, q1, q false, q0, q1, q1, q1, q1, q (32 : Nat), q z32, q1, q1, q1, q0, q0, q (32 : Nat), q z32, q1, q1, q1, q1, q (32 : Nat), q z32, q0, q ByteArray.empty, q0, q0, q0, q0, q (130 : Int)]) : Option (V × c5 × List Prop)) := by kernel_rfl
theorem aJ_ (s : ByteArray) (k : Int) (s0 : RS) (s1 : RS) (s2 : RS) (m : SMsg) (d : Int) :
  f4 zp (bj3 s k s0 s1 s2 m d) [false, false, false, false, true] = (some (.tup [.agg [.int .i64 0, .int .i64 0, .int .i64 0, .int .i64 0, .int .i64 0, .bool false, rq 0 fun x => SReq.mk (0 : Int) (0 : Int) ByteArray.empty [], .int .i64 0, .int .i64 0, .int .i64 0, .int .i64 0, .seg .u8 32 z32, .int .i64 0, .int .i64 0, .int .i64 0, hl 0 fun x => SHeld.mk (SBatch.mk false 0 fun x => SReq.mk (0 : Int) (0 : Int) ByteArray.empty []) (SCert.mk (SVote.mk (0 : Int) (0 : Int) (0 : Int) (0 : Int) []) 0 fun x => SSign.mk (0 : Int) []), nw 0 fun x => SEnv.mk (0 : Int) ByteArray.empty [], .seg .u8 32 z32, .int .i64 0, .int .i64 0, .int .i64 0, .int .i64 0, .seg .u8 32 z32, sg 0 fun x => SSign.mk (0 : Int) [], .str ByteArray.empty, sg 0 fun x => SSign.mk (0 : Int) []], .int .i64 d], [], [decide ((4194304 : Int) < (↑(ByteArray.size s) : Int)) = false, T zp 24 [.ros 1 (ByteArray.size s) (fun q => [.int .u8 (B1 s q)]) false] [] (.ptr (.o 448) 0 0 0 0) [(.o 448, rdB s0)], T zp 25 [.ptr (.o 448) 0 0 0 0, .int .i64 8] [(.o 448, rdB s0)] (.int .i64 k) [(.o 448, rdB s1)], decide (k = (0 : Int)) = false, q false, q0, q0, q0, false = RS.bad s1, q (List.length (RS.l s1)), ∀ (k : Nat), k < List.length (RS.l s1) → bl (RS.l s1) k = bl (RS.l s1) k, false = true → false = true, q (RS.e s1), q2, q k, q1, q1, q1, q1, q false, q0, q1, q1, q1, q1, q (32 : Nat), q z32, q1, q1, q1, q0, q0, q (32 : Nat), q z32, q1, q1, q1, q1, q (32 : Nat), q z32, q0, q ByteArray.empty, q0, q1, q1, q1, q1, q1, q false, q0, q1, q1, q1, q1, q (32 : Nat), q z32, q1, q1, q1, q0, q0, q (32 : Nat), q z32, q1, q1, q1, q1, q (32 : Nat), q z32, q0, q ByteArray.empty, q0, q0, q0, q0, q1, q0, q0, q0, q0, q0, q0, T zp 84 [.ptr (.o 5) 0 0 0 0, .ptr (.o 7) 0 0 0 0] [(.o 5, .flat [.ptr (.o 6) 0 0 0 0, .bool (RS.bad s1)]), (.o 6, rdB s1), (.o 7, .flat (SMsg.c (j2 k)))] (.tup []) [(.o 5, .flat [.ptr (.o 6) 0 0 0 0, .bool (RS.bad s2)]), (.o 6, rdB s2), (.o 7, .flat (SMsg.c m))], T zp 28 [.ptr (.o 6) 0 0 0 0] [(.o 6, rdB s2)] (.int .i64 d) [(.o 6, rdB s2)], RS.bad s2 = false, (!decide (d = (0 : Int))) = true, q1, q1, q1, q1, q1, q false, q0, q1, q1, q1, q1, q (32 : Nat), q z32, q1, q1, q1, q0, q0, q (32 : Nat), q z32, q1, q1, q1, q1, q (32 : Nat), q z32, q0, q ByteArray.empty, q0, q0, q0, q0, q d]) : Option (V × c5 × List Prop)) := by kernel_rfl
theorem aK1 (s : ByteArray) (k : Int) (s0 : RS) (s1 : RS) (s2 : RS) (m : SMsg) (d : Int) :
  f4 zp (bj4 s k s0 s1 s2 m d) [false, false, false, false, false] = (some (.tup [.agg (SMsg.c m), .int .i64 0], [], [decide ((4194304 : Int) < (↑(ByteArray.size s) : Int)) = false, T zp 24 [.ros 1 (ByteArray.size s) (fun q => [.int .u8 (B1 s q)]) false] [] (.ptr (.o 448) 0 0 0 0) [(.o 448, rdB s0)], T zp 25 [.ptr (.o 448) 0 0 0 0, .int .i64 8] [(.o 448, rdB s0)] (.int .i64 k) [(.o 448, rdB s1)], decide (k = (0 : Int)) = false, q false, q0, q0, q0, false = RS.bad s1, q (List.length (RS.l s1)), ∀ (k : Nat), k < List.length (RS.l s1) → bl (RS.l s1) k = bl (RS.l s1) k, false = true → false = true, q (RS.e s1), q2, q k, q1, q1, q1, q1, q false, q0, q1, q1, q1, q1, q (32 : Nat), q z32, q1, q1, q1, q0, q0, q (32 : Nat), q z32, q1, q1, q1, q1, q (32 : Nat), q z32, q0, q ByteArray.empty, q0, q1, q1, q1, q1, q1, q false, q0, q1, q1, q1, q1, q (32 : Nat), q z32, q1, q1, q1, q0, q0, q (32 : Nat), q z32, q1, q1, q1, q1, q (32 : Nat), q z32, q0, q ByteArray.empty, q0, q0, q0, q0, q1, q0, q0, q0, q0, q0, q0, T zp 84 [.ptr (.o 5) 0 0 0 0, .ptr (.o 7) 0 0 0 0] [(.o 5, .flat [.ptr (.o 6) 0 0 0 0, .bool (RS.bad s1)]), (.o 6, rdB s1), (.o 7, .flat (SMsg.c (j2 k)))] (.tup []) [(.o 5, .flat [.ptr (.o 6) 0 0 0 0, .bool (RS.bad s2)]), (.o 6, rdB s2), (.o 7, .flat (SMsg.c m))], T zp 28 [.ptr (.o 6) 0 0 0 0] [(.o 6, rdB s2)] (.int .i64 d) [(.o 6, rdB s2)], RS.bad s2 = false, (!decide (d = (0 : Int))) = false, q (SMsg.kind m), q (SMsg.epoch m), q (SMsg.leader m), q (SMsg.view m), q (SMsg.slot m), q (SBatch.noop (SMsg.batch m)), q (SBatch.n (SMsg.batch m)), ∀ (k : Nat), k < SBatch.n (SMsg.batch m) → SReq.c (SBatch.req (SMsg.batch m) k) = SReq.c (SBatch.req (SMsg.batch m) k), false = true → false = true, q (SVote.kind (SMsg.vote m)), q (SVote.epoch (SMsg.vote m)), q (SVote.view (SMsg.vote m)), q (SVote.slot (SMsg.vote m)), q (32 : Nat), q (SVote.digest (SMsg.vote m)), q (SMsg.cepoch m), q (SMsg.cleader m), q (SMsg.cview m), q (SMsg.nheld m), ∀ (k : Nat), k < SMsg.nheld m → SHeld.c (SMsg.held m k) = SHeld.c (SMsg.held m k), false = true → false = true, q (SMsg.nnews m), ∀ (k : Nat), k < SMsg.nnews m → SEnv.c (SMsg.news m k) = SEnv.c (SMsg.news m k), false = true → false = true, q (32 : Nat), q (SMsg.digest m), q (SVote.kind (SCert.vote (SMsg.cert m))), q (SVote.epoch (SCert.vote (SMsg.cert m))), q (SVote.view (SCert.vote (SMsg.cert m))), q (SVote.slot (SCert.vote (SMsg.cert m))), q (32 : Nat), q (SVote.digest (SCert.vote (SMsg.cert m))), q (SCert.n (SMsg.cert m)), ∀ (k : Nat), k < SCert.n (SMsg.cert m) → SSign.c (SCert.sig (SMsg.cert m) k) = SSign.c (SCert.sig (SMsg.cert m) k), false = true → false = true, q (SMsg.state m), q (SMsg.n m), ∀ (k : Nat), k < SMsg.n m → SSign.c (SMsg.sig m k) = SSign.c (SMsg.sig m k), false = true → false = true, q0, q0, q0, q1]) : Option (V × c5 × List Prop)) := by kernel_rfl
theorem bh6 (m : SMsg) (s : RS) (hl : s.l.length ≤ 1000000000) {r a q : Nat} (hn : [Nm.o r, Nm.o a, Nm.o q].Nodup) : T Tryz.prog 84 [.ptr (.o r) 0 0 0 0, .ptr (.o q) 0 0 0 0] (mrH r a s ++ [(.o q, .flat m.c)]) (.tup []) (mrH r a (j9 m s).2 ++ [(.o q, .flat (j9 m s).1.c)]) := by
 obtain ⟨σ, hσ, h1⟩ := T.at (bh5 m s hl) [.o 0, .o 1, .o 2] [.o r, .o a, .o q] (by simp) hn rfl
 simp only [List.map_cons, List.map_nil, List.cons.injEq, and_true] at hσ
 simpa [V.rens, V.ren, p0, rdB, mrH, SMsg.c, SBatch.c, SVote.c, SCert.c, rq, Sy.hl, nw, sg, c5.ren, B.ren, hσ.1, hσ.2.1, hσ.2.2] using h1
theorem aQ_ (l : List UInt8) : D0 { l := l } (F7 l) := i9 8 _
theorem bC3 (l : List UInt8) : (F7 l).bad = false := (aQ_ l).2.1
theorem bJ9 (s : ByteArray) : T Tryz.prog 42 [.str s] [] (.tup [.agg (D4 (m4 s)).1.c, .int .i64 (D4 (m4 s)).2]) [] := by
 have hs := K4 s
 by_cases h0 : 4194304 < (m4 s).length
 ·have e : D4 (m4 s) = (j2 0, 3) := by simp only [D4, if_pos h0]
  rw [e]
  refine f5 (bj2 s) Tryz.func42 ?_
  simp only [All]; and_intros
  all_goals first | (rw [decide_eq_true_eq]; omega) | trivial
 have hl : (m4 s).length ≤ 1000000000 := by omega
 have hlen : decide ((4194304 : Int) < (s.size : Nat)) = false := by rw [decide_eq_false_iff_not]; omega
 have l1 : (F7 (m4 s)).l.length ≤ 1000000000 := Nat.le_trans (aQ_ _).1 hl
 have b1 := bC3 (m4 s)
 have hR : ∀ a, T Tryz.prog 24 [.ros 1 s.size (fun q => [.int .u8 (B1 s q)]) false] [] (.ptr (.o a) 0 0 0 0) [(.o a, rdB { l := m4 s })] := fun a => by
  have := ce6 a (m4 s) hl
  rw [roB, hs] at this; exact this
 have hF : T Tryz.prog 84 [.ptr (.o 5) 0 0 0 0, .ptr (.o 7) 0 0 0 0] (mrH 5 6 (F7 (m4 s)) ++ [(.o 7, .flat (j2 (J2 (m4 s))).c)]) (.tup []) (mrH 5 6 (w5 (m4 s)).2 ++ [(.o 7, .flat (w5 (m4 s)).1.c)]) := bh6 (j2 (J2 (m4 s))) (F7 (m4 s)) l1 (by decide)
 by_cases h1 : J2 (m4 s) = 0
 ·by_cases h2 : (F7 (m4 s)).e = 0
  ·have e : D4 (m4 s) = (j2 0, 130) := by simp only [D4, if_neg h0, h1, h2, and_self, if_true]
   rw [e]
   refine f5 (aV9 s (J2 (m4 s)) { l := m4 s } (F7 (m4 s)) (w5 (m4 s)).2 (w5 (m4 s)).1 (D6 (w5 (m4 s)).2)) Tryz.func42 ?_
   simp only [All, f3, P4]; and_intros
   all_goals first | exact hlen | exact hR _ | exact A6 448 8 { l := m4 s } | exact E8 448 (F7 (m4 s)) | (rw [decide_eq_true_eq]; assumption) | trivial
  ·by_cases h3 : (w5 (m4 s)).2.bad = true
   ·have e : D4 (m4 s) = (j2 0, 130) := by simp only [D4, if_neg h0, h2, and_false, if_false, if_pos h3]
    rw [e]
    refine f5 (aO5 s (J2 (m4 s)) { l := m4 s } (F7 (m4 s)) (w5 (m4 s)).2 (w5 (m4 s)).1 (D6 (w5 (m4 s)).2)) Tryz.func42 ?_
    simp only [All, f3, P4]; and_intros
    all_goals first | exact hlen | exact hR _ | exact A6 448 8 { l := m4 s } | exact E8 448 (F7 (m4 s)) | exact hF | exact ah_ 6 (w5 (m4 s)).2 | (rw [decide_eq_true_eq]; assumption) | (rw [decide_eq_false_iff_not]; assumption) | exact h3 | exact b1.symm | trivial | (intro _ _; trivial)
   ·by_cases h4 : D6 (w5 (m4 s)).2 = 0
    ·have e : D4 (m4 s) = ((w5 (m4 s)).1, 0) := by simp only [D4, if_neg h0, h2, and_false, if_false, if_neg h3, h4, ne_eq, not_true]
     rw [e]
     refine f5 (aK2 s (J2 (m4 s)) { l := m4 s } (F7 (m4 s)) (w5 (m4 s)).2 (w5 (m4 s)).1 (D6 (w5 (m4 s)).2)) Tryz.func42 ?_
     simp only [All]; and_intros
     all_goals first | exact hlen | exact hR _ | exact A6 448 8 { l := m4 s } | exact E8 448 (F7 (m4 s)) | exact hF | exact ah_ 6 (w5 (m4 s)).2 | (rw [decide_eq_true_eq]; assumption) | (rw [decide_eq_false_iff_not]; assumption) | exact Bool.eq_false_iff.mpr h3 | (simp [h4]; done) | exact b1.symm
    ·have e : D4 (m4 s) = (j2 0, D6 (w5 (m4 s)).2) := by simp only [D4, if_neg h0, h2, and_false, if_false, if_neg h3, ne_eq, h4, not_false_eq_true, if_true]
     rw [e]
     refine f5 (aK0 s (J2 (m4 s)) { l := m4 s } (F7 (m4 s)) (w5 (m4 s)).2 (w5 (m4 s)).1 (D6 (w5 (m4 s)).2)) Tryz.func42 ?_
     simp only [All]; and_intros
     all_goals first | exact hlen | exact hR _ | exact A6 448 8 { l := m4 s } | exact E8 448 (F7 (m4 s)) | exact hF | exact ah_ 6 (w5 (m4 s)).2 | (rw [decide_eq_true_eq]; assumption) | (rw [decide_eq_false_iff_not]; assumption) | exact Bool.eq_false_iff.mpr h3 | (simp [h4]; done) | exact b1.symm
 ·by_cases h3 : (w5 (m4 s)).2.bad = true
  ·have e : D4 (m4 s) = (j2 0, 130) := by simp only [D4, if_neg h0, h1, false_and, if_false, if_pos h3]
   rw [e]
   refine f5 (aO4 s (J2 (m4 s)) { l := m4 s } (F7 (m4 s)) (w5 (m4 s)).2 (w5 (m4 s)).1 (D6 (w5 (m4 s)).2)) Tryz.func42 ?_
   simp only [All, f3, P4]; and_intros
   all_goals first | exact hlen | exact hR _ | exact A6 448 8 { l := m4 s } | exact hF | exact ah_ 6 (w5 (m4 s)).2 | (rw [decide_eq_false_iff_not]; assumption) | exact h3 | exact b1.symm | trivial | (intro _ _; trivial)
  ·by_cases h4 : D6 (w5 (m4 s)).2 = 0
   ·have e : D4 (m4 s) = ((w5 (m4 s)).1, 0) := by simp only [D4, if_neg h0, h1, false_and, if_false, if_neg h3, h4, ne_eq, not_true]
    rw [e]
    refine f5 (aK1 s (J2 (m4 s)) { l := m4 s } (F7 (m4 s)) (w5 (m4 s)).2 (w5 (m4 s)).1 (D6 (w5 (m4 s)).2)) Tryz.func42 ?_
    simp only [All]; and_intros
    all_goals first | exact hlen | exact hR _ | exact A6 448 8 { l := m4 s } | exact hF | exact ah_ 6 (w5 (m4 s)).2 | (rw [decide_eq_false_iff_not]; assumption) | exact Bool.eq_false_iff.mpr h3 | (simp [h4]; done) | exact b1.symm
   ·have e : D4 (m4 s) = (j2 0, D6 (w5 (m4 s)).2) := by simp only [D4, if_neg h0, h1, false_and, if_false, if_neg h3, ne_eq, h4, not_false_eq_true, if_true]
    rw [e]
    refine f5 (aJ_ s (J2 (m4 s)) { l := m4 s } (F7 (m4 s)) (w5 (m4 s)).2 (w5 (m4 s)).1 (D6 (w5 (m4 s)).2)) Tryz.func42 ?_
    simp only [All]; and_intros
    all_goals first | exact hlen | exact hR _ | exact A6 448 8 { l := m4 s } | exact hF | exact ah_ 6 (w5 (m4 s)).2 | (rw [decide_eq_false_iff_not]; assumption) | exact Bool.eq_false_iff.mpr h3 | (simp [h4]; done) | exact b1.symm
def Rd {α : Type} (one : RS → α × RS) (E : α → Prop) (bytes : List UInt8) : Prop := ∀ (s : RS) (tail : List UInt8), s.e = 0 → s.l = bytes ++ tail → E (one s).1 ∧ (one s).2 = { s with l := tail }
def Wr {α : Type} (one : RS → α × RS) (enc : α → List UInt8) (ok : α → Prop) : Prop := ∀ s : RS, (one s).2.e = 0 → s.e = 0 ∧ s.l = enc (one s).1 ++ (one s).2.l ∧ ok (one s).1 ∧ (one s).2.bad = s.bad
theorem aQ0 : ∀ f n, n < 256 ^ f → beN (i4 f n) = n
 | 0, n, h => by simp at h; subst h; rfl
 | f + 1, n, h => by
  rw [i4]
  split
  ·rename_i h0; subst h0; rfl
  ·rw [aj9, aQ0 f (n / 256) (by rw [Nat.pow_succ] at h; omega), UInt8.toNat_ofNat']
   omega
theorem bT7 : ∀ (xs : List UInt8), (∀ x t, xs = x :: t → x.toNat ≠ 0) → xs ≠ [] → 0 < beN xs := by
 intro xs h hne
 cases xs with
 | nil => exact absurd rfl hne
 | cons x t =>
  have h0 := h x t rfl
  have : ∀ (t : List UInt8) (a : Nat), 0 < a → 0 < t.foldl (fun a x => a * 256 + x.toNat) a := by
   intro t
   induction t with
   | nil => intro a ha; exact ha
   | cons y t ih => intro a ha; exact ih _ (by show 0 < a * 256 + y.toNat; omega)
  exact this t _ (by show 0 < 0 * 256 + x.toNat; omega)
theorem aR0 : ∀ f (xs : List UInt8), xs.length ≤ f → (∀ x t, xs = x :: t → x.toNat ≠ 0) → i4 f (beN xs) = xs
 | 0, xs, h, _ => by
  have : xs = [] := List.eq_nil_of_length_eq_zero (by omega)
  subst this; rfl
 | f + 1, xs, h, hh => by
  rcases List.eq_nil_or_concat xs with rfl | ⟨ys, x, rfl⟩
  ·rfl
  ·rw [List.concat_eq_append] at h hh ⊢
   have hp : 0 < beN (ys ++ [x]) := bT7 _ hh (by simp)
   rw [i4, if_neg (by omega), aj9]
   have hx := x.toNat_lt
   have e1 : (beN ys * 256 + x.toNat) / 256 = beN ys := by omega
   have e2 : (beN ys * 256 + x.toNat) % 256 = x.toNat := by omega
   rw [e1, e2, aR0 f ys (by simp at h; omega) fun y t e => hh y (t ++ [x]) (by rw [e]; rfl)]
   congr 1
   simp
theorem bo6 {n : Nat} (h : n < 9223372036854775808) {x : UInt8} {t : List UInt8} (e : i4 8 n = x :: t) : x.toNat ≠ 0 ∧ ((i4 8 n).length = 8 → x.toNat ≤ 127) := by
 obtain ⟨h1, h2, h3⟩ := F1 8 n (K9 h)
 have hl : 0 < (i4 8 n).length := by rw [e]; simp
 have hg := ak1 8 n 0 (K9 h) hl
 rw [e] at hg
 simp only [List.getElem?_cons_zero, Option.some.injEq] at hg
 have h4 := h3 ((i4 8 n).length - 1) (by omega)
 have h5 : n / 256 ^ ((i4 8 n).length - 1) < 256 := by
  have e6 : (i4 8 n).length = (i4 8 n).length - 1 + 1 := by omega
  rw [e6, Nat.pow_succ, ← Nat.div_div_eq_div_mul] at h2
  omega
 have h6 : x.toNat = n / 256 ^ ((i4 8 n).length - 1) := by
  rw [hg, ← e]
  rw [UInt8.toNat_ofNat', Nat.sub_zero]
  omega
 refine ⟨by omega, fun e8 => ?_⟩
 rw [h6, e8]
 have : n / 256 ^ 7 < 128 := by
  rw [Nat.div_lt_iff_lt_mul (by decide)]; omega
 exact Nat.le_of_lt_succ this
theorem aG1 {n : Nat} (h : n < 9223372036854775808) (tail : List UInt8) : kOf (j8 n ++ tail) = (i4 8 n).length := by
 have h1 := (F1 8 n (K9 h)).1
 show (UInt8.ofNat (i4 8 n).length).toNat = _
 rw [UInt8.toNat_ofNat']; omega
theorem bW8 (n : Nat) (tail : List UInt8) : ((j8 n ++ tail).drop 1).take (i4 8 n).length = i4 8 n := by
 show (i4 8 n ++ tail).take _ = _
 rw [List.take_left']; rfl
theorem aB5 {n : Nat} (h : n < 9223372036854775808) (tail : List UInt8) : nE (j8 n ++ tail) = 0 := by
 have h1 := (F1 8 n (K9 h)).1
 have hk := aG1 h tail
 have hl : (j8 n ++ tail).length = (i4 8 n).length + 1 + tail.length := by simp [j8]; omega
 have hg : (j8 n ++ tail).getD 1 0 = (i4 8 n ++ tail).getD 0 0 := rfl
 unfold nE
 rw [if_neg (by omega), if_neg (by omega), if_neg (by omega), hk, hg]
 cases hd : i4 8 n with
 | nil => rw [if_neg (by simp), if_neg (by simp)]
 | cons x t =>
  have h2 := bo6 h hd
  rw [if_neg, if_neg]
  ·rintro ⟨h3, h4⟩
   have := h2.2 (by rw [hd]; exact h3)
   simp at h4; omega
  ·rintro ⟨_, h4⟩
   exact h2.1 (by simpa using h4)
theorem br2 {n : Nat} (h : n < 9223372036854775808) (tail : List UInt8) : nV (j8 n ++ tail) = n := by
 rw [nV, if_pos (aB5 h tail), aG1 h tail, bW8, aQ0 8 n (K9 h)]
theorem br1 {n : Nat} (h : n < 9223372036854775808) (tail : List UInt8) : nS (j8 n ++ tail) = ((j8 n).length : Nat) := by
 rw [nS, if_pos (aB5 h tail), aG1 h tail]; simp [j8]
theorem bW9 {l : List UInt8} (h : nE l = 0) (hk : 0 < kOf l) : (l.getD 1 0).toNat ≠ 0 := by
 intro h2
 unfold nE at h
 split at h
 ·cases h
 ·split at h
  ·cases h
  ·split at h
   ·cases h
   ·rw [if_pos ⟨hk, h2⟩] at h; cases h
theorem C0 {n most : Int} (h0 : 0 ≤ n) (h1 : n ≤ most) (h2 : most < 9223372036854775808) : Rd (f1 most) (fun x => x = n) (c6 n) := by
 intro s tail he hl
 have hn : n.toNat < 9223372036854775808 := by omega
 have hv : nV s.l = n := by rw [hl, c6, br2 hn]; omega
 have hE : nE s.l = 0 := by rw [hl, c6, aB5 hn]
 have hS : nS s.l = ((j8 n.toNat).length : Nat) := by rw [hl, c6, br1 hn]
 have h3 : nE1 most s.l = 0 := by rw [nE1, hv, if_neg (by omega), hE]
 unfold f1
 rw [if_neg (by simpa using he), if_neg (by simpa using h3)]
 refine ⟨hv, ?_⟩
 show RS.mk (s.l.drop (nS s.l).toNat) s.e s.bad = _
 rw [hS, Int.toNat_natCast]
 congr 1
 rw [hl, c6, List.drop_left']; rfl
theorem C1 (most : Int) : Wr (f1 most) c6 (fun n => 0 ≤ n ∧ n ≤ most ∧ n < 9223372036854775808) := by
 intro s he
 unfold f1 at he ⊢
 split at he
 ·contradiction
 ·rename_i h0
  have h0 : s.e = 0 := by simpa using h0
  split at he
  ·rename_i h1; exact absurd he (by simpa [RS.fail] using h1)
  ·rename_i h1
   have h1 : nE1 most s.l = 0 := by simpa using h1
   rw [if_neg (by simpa using h0), if_neg (by simpa using h1)]
   have hE : nE s.l = 0 ∧ nV s.l ≤ most := by
    unfold nE1 at h1
    split at h1
    ·cases h1
    ·rename_i h2; exact ⟨h1, by omega⟩
   obtain ⟨hE, hm⟩ := hE
   have hOk : NumOk s.l := be5 hE
   have hS : (nS s.l).toNat = kOf s.l + 1 := by rw [nS, if_pos hE]; omega
   have hV : nV s.l = (beN ((s.l.drop 1).take (kOf s.l)) : Nat) := by rw [nV, if_pos hE]
   have hlt := hOk.lt
   have hk := hOk.k
   have hlen := hOk.len
   have hx : ∀ x t, (s.l.drop 1).take (kOf s.l) = x :: t → x.toNat ≠ 0 := by
    intro x t e h5
    have h6 : 0 < kOf s.l := by
     rcases Nat.eq_zero_or_pos (kOf s.l) with h | h
     ·rw [h] at e; simp at e
     ·exact h
    have h7 : s.l.getD 1 0 = x := by
     have := congrArg (fun l => l[0]?) e
     simp only [List.getElem?_cons_zero] at this
     rw [List.getElem?_take_of_lt h6, List.getElem?_drop] at this
     rw [List.getD_eq_getElem?_getD]
     rw [show 1 + 0 = 1 from rfl] at this
     rw [this]; rfl
    have := bW9 hE h6
    rw [h7] at this; exact this h5
   have hd : i4 8 (beN ((s.l.drop 1).take (kOf s.l))) = (s.l.drop 1).take (kOf s.l) := aR0 8 _ (by rw [List.length_take]; omega) hx
   refine ⟨h0, ?_, ⟨by rw [hV]; omega, hm, by rw [hV]; omega⟩, rfl⟩
   show s.l = c6 (nV s.l) ++ s.l.drop (nS s.l).toNat
   rw [hS, hV, c6, Int.toNat_natCast, j8, hd]
   cases hl : s.l with
   | nil => rw [hl] at hlen; simp at hlen
   | cons a r =>
    have hka : kOf s.l = a.toNat := by rw [hl]; rfl
    rw [hl] at hlen hka hk
    rw [hka] at hlen hk ⊢
    simp only [List.drop_succ_cons, List.drop_zero, List.cons_append, List.length_take, List.length_cons] at hlen ⊢
    rw [Nat.min_eq_left (by omega)]
    congr 1
    ·simp
    ·rw [List.take_append_drop]
theorem bw7 (s : ByteArray) : baL (m4 s) = s := rfl
theorem ac3 (l : List UInt8) : m4 (baL l) = l := rfl
theorem aH0 {t : ByteArray} {most : Int} (h0 : (t.size : Int) ≤ most) (h1 : most < 9223372036854775808) : Rd (v6 most) (fun x => x = t) (j3 t) := by
 intro s tail he hl
 have hn : t.size < 9223372036854775808 := by omega
 have hl' : s.l = j8 t.size ++ (m4 t ++ tail) := by rw [hl, j3, List.append_assoc]
 have hv : nV s.l = (t.size : Nat) := by rw [hl', br2 hn]
 have hE : nE s.l = 0 := by rw [hl', aB5 hn]
 have hS : nS s.l = ((j8 t.size).length : Nat) := by rw [hl', br1 hn]
 have hlen : s.l.length = (j8 t.size).length + (t.size + tail.length) := by rw [hl', List.length_append, List.length_append, K4]
 have h3 : tE most s.l = 0 := by
  unfold tE
  rw [if_neg (by simpa using hE), if_neg (by omega), if_neg (by omega)]
 have hd : s.l.drop (nS s.l).toNat = m4 t ++ tail := by rw [hS, Int.toNat_natCast, hl', List.drop_left']; rfl
 unfold v6
 rw [if_neg (by simpa using he), if_neg (by simpa using h3)]
 refine ⟨?_, ?_⟩
 ·show baL ((s.l.drop (nS s.l).toNat).take (nV s.l).toNat) = t
  rw [hd, hv, Int.toNat_natCast, List.take_left' (K4 t), bw7]
 ·show RS.mk ((s.l.drop (nS s.l).toNat).drop (nV s.l).toNat) s.e s.bad = _
  rw [hd, hv, Int.toNat_natCast, List.drop_left' (K4 t)]
theorem br3 {l : List UInt8} (hE : nE l = 0) : l = c6 (nV l) ++ l.drop (nS l).toNat ∧ 0 ≤ nV l ∧ nV l < 9223372036854775808 := by
 have hv : nV l < 9223372036854775808 ∧ 0 ≤ nV l := by
  have hOk : NumOk l := be5 hE
  have hlt := hOk.lt
  rw [nV, if_pos hE]; omega
 have h1 : (f1 9223372036854775807 { l := l }) = (nV l, RS.drop { l := l } (nS l).toNat) := by
  unfold f1
  rw [if_neg (by simp), if_neg]
  ·simp only [ne_eq, nE1, Classical.not_not]
   rw [if_neg (by omega)]; exact hE
 have h2 := C1 9223372036854775807 { l := l } (by rw [h1]; rfl)
 rw [h1] at h2
 exact ⟨h2.2.1, hv.2, hv.1⟩
theorem aH1 (most : Int) (hm : most < 9223372036854775808) : Wr (v6 most) j3 (fun t => (t.size : Int) ≤ most) := by
 intro s he
 unfold v6 at he ⊢
 split at he
 ·contradiction
 ·rename_i h0
  have h0 : s.e = 0 := by simpa using h0
  split at he
  ·rename_i h1; exact absurd he (by simpa [RS.fail] using h1)
  ·rename_i h1
   have h1 : tE most s.l = 0 := by simpa using h1
   rw [if_neg (by simpa using h0), if_neg (by simpa using h1)]
   unfold tE at h1
   split at h1
   ·rename_i h2; exact absurd h1 h2
   ·rename_i h2
    have hE : nE s.l = 0 := by simpa using h2
    split at h1
    ·cases h1
    ·rename_i h3
     split at h1
     ·cases h1
     ·rename_i h4
      obtain ⟨p1, p2, p3⟩ := br3 hE
      have hS0 : 0 ≤ nS s.l := by rw [nS, if_pos hE]; omega
      have hlen : (s.l.drop (nS s.l).toNat).length = s.l.length - (nS s.l).toNat := by rw [List.length_drop]
      have hle : (nV s.l).toNat ≤ (s.l.drop (nS s.l).toNat).length := by rw [hlen]; omega
      have hsz : (baL ((s.l.drop (nS s.l).toNat).take (nV s.l).toNat)).size = (nV s.l).toNat := by
       rw [← K4, ac3, List.length_take]; omega
      refine ⟨h0, ?_, ?_, rfl⟩
      ·show s.l = j3 _ ++ (s.l.drop (nS s.l).toNat).drop (nV s.l).toNat
       rw [j3, hsz, ac3, List.append_assoc, List.take_append_drop]
       exact p1
      ·show ((baL ((s.l.drop (nS s.l).toNat).take (nV s.l).toNat)).size : Int) ≤ most
       rw [hsz]; omega
theorem aB1 {n : Nat} {xs : List Int} (h : SegOk n xs) : D1 (l9 xs) = xs := by
 unfold D1 l9
 rw [List.map_map]
 refine (List.map_congr_left fun x hx => ?_).trans (List.map_id xs)
 have := h.rng x hx
 simp only [Function.comp, UInt8.toNat_ofNat', id]
 omega
theorem bg8 (l : List UInt8) : l9 (D1 l) = l := by
 unfold D1 l9
 rw [List.map_map]
 refine (List.map_congr_left fun x _ => ?_).trans (List.map_id l)
 simp
theorem bD4 (l : List UInt8) : SegOk l.length (D1 l) := ⟨by simp [D1], fun x hx => by
 unfold D1 at hx
 rw [List.mem_map] at hx
 obtain ⟨y, _, rfl⟩ := hx
 have := y.toNat_lt
 omega⟩
theorem bu1 (xs : List UInt8) : Rd (l6 xs.length) (fun x => x = xs) xs := by
 intro s tail he hl
 have hlen : s.l.length = xs.length + tail.length := by rw [hl, List.length_append]
 unfold l6
 rw [if_neg (by simpa using he), if_neg (by omega), if_neg (by omega), Int.toNat_natCast]
 refine ⟨?_, ?_⟩
 ·show s.l.take xs.length = xs
  rw [hl, List.take_left']; rfl
 ·show RS.mk (s.l.drop xs.length) s.e s.bad = _
  rw [hl, List.drop_left']; rfl
theorem bi2 {n : Nat} {z xs : List Int} (h : SegOk n xs) : Rd (V4 n z) (fun x => x = xs) (l9 xs) := by
 intro s tail he hl
 have hn : (l9 xs).length = n := aj0 h
 have h1 := bu1 (l9 xs) s tail he hl
 rw [hn] at h1
 unfold V4
 rw [h1.2, if_pos he, h1.1]
 exact ⟨aB1 h, rfl⟩
theorem aN_ (n : Nat) (z : List Int) : Wr (V4 n z) l9 (SegOk n) := by
 intro s he
 have he' : (l6 n s).2.e = 0 := he
 have h1 := as0 he'
 have e1 : (V4 n z s).1 = D1 (l6 n s).1 := by simp [V4, he']
 rw [e1, bg8]
 have e2 : (V4 n z s).2 = (l6 n s).2 := rfl
 rw [e2]
 unfold l6 at he' h1 ⊢
 split at he'
 ·contradiction
 ·rename_i h0
  split at he'
  ·exact absurd he' (by simp [RS.fail])
  ·split at he'
   ·exact absurd he' (by simp [RS.fail])
   ·rename_i h2 h3
    rw [if_neg h0, if_neg h2, if_neg h3] at h1 ⊢
    refine ⟨by simpa using h0, ?_, ?_, rfl⟩
    ·show s.l = s.l.take _ ++ s.l.drop _
     rw [List.take_append_drop]
    ·have := bD4 (s.l.take ((n : Int)).toNat)
     rw [h1] at this; exact this
theorem bv2 {xs : List Int} (h : SegOk 16 xs) : Rd M1 (fun x => x = xs) (l9 xs) := bi2 h
theorem bo4 {xs : List Int} (h : SegOk 32 xs) : Rd J3 (fun x => x = xs) (l9 xs) := bi2 h
theorem bv3 : Wr M1 l9 (SegOk 16) := aN_ 16 z16
theorem bo5 : Wr J3 l9 (SegOk 32) := aN_ 32 z32
theorem F3 {n m : Int} : j5 n m = true ↔ 0 ≤ n ∧ n ≤ m := by simp [j5]
theorem co6 {r : SReq} (h : A0 r = true) (ht : SegOk 16 r.tag) : Rd i7 (fun x => x = r) (J5 r) := by
 intro s tail he hl
 simp only [A0, Bool.and_eq_true, decide_eq_true_eq, F3] at h
 obtain ⟨h1, h2, h3⟩ := h
 simp only [J5, List.append_assoc] at hl
 obtain ⟨a1, b1⟩ := C0 (most := 8) h1.1 h1.2 (by decide) s _ he hl
 obtain ⟨a2, b2⟩ := C0 (most := 1099511627776) h2.1 h2.2 (by decide) (f1 8 s).2 _ (by rw [b1]; exact he) (by rw [b1])
 obtain ⟨a3, b3⟩ := aH0 (most := 64) (t := r.data) (by omega) (by decide) (L3 s) _ (by show (f1 _ (f1 8 s).2).2.e = 0; rw [b2, b1]; exact he) (by show (f1 _ (f1 8 s).2).2.l = _; rw [b2])
 have b2' : L3 s = { s with l := j3 r.data ++ (l9 r.tag ++ tail) } := by show (f1 _ (f1 8 s).2).2 = _; rw [b2, b1]
 have b3' : D7 s = { s with l := l9 r.tag ++ tail } := by show (v6 64 (L3 s)).2 = _; rw [b3, b2']
 have hn : (l9 r.tag).length = 16 := aj0 ht
 obtain ⟨a4, b4⟩ := bu1 (l9 r.tag) (D7 s) tail (by rw [b3']; exact he) (by rw [b3'])
 rw [hn] at a4 b4
 have b4' : S5 s = { s with l := tail } := by show (l6 16 (D7 s)).2 = _; rw [show (16 : Int) = ((16 : Nat) : Int) from rfl, b4, b3']
 have a4' : (l6 16 (D7 s)).1 = l9 r.tag := a4
 unfold i7
 rw [b4', if_pos he]
 refine ⟨?_, rfl⟩
 show SReq.mk _ _ _ _ = r
 rw [show (f1 1099511627776 (Q7 s)).1 = r.num from a2, show (f1 8 s).1 = r.client from a1, show (v6 64 (L3 s)).1 = r.data from a3, a4', aB1 ht]
theorem co7 : Wr i7 J5 (fun r => A0 r = true ∧ SegOk 16 r.tag) := by
 intro s he
 have e4 : (S5 s).e = 0 := he
 have e1 : (i7 s).1 = bg6 s := by simp [i7, e4]
 have e2 : (i7 s).2 = S5 s := rfl
 obtain ⟨g4, l4, o4, b4⟩ := aN_ 16 z16 (D7 s) e4
 obtain ⟨g3, l3, o3, b3⟩ := aH1 64 (by decide) (L3 s) g4
 obtain ⟨g2, l2, o2, b2⟩ := C1 1099511627776 (Q7 s) g3
 obtain ⟨g1, l1, o1, b1⟩ := C1 8 s g2
 have ea : (V4 16 z16 (D7 s)).1 = D1 (l6 16 (D7 s)).1 := by
  show (if (l6 16 (D7 s)).2.e = 0 then _ else _) = _
  have e4' : (l6 16 (D7 s)).2.e = 0 := e4
  rw [if_pos e4']; rfl
 rw [ea] at l4 o4
 rw [e1, e2]
 refine ⟨g1, ?_, ⟨?_, o4⟩, ?_⟩
 ·have l1' : s.l = c6 (f1 8 s).1 ++ (Q7 s).l := l1
  have l2' : (Q7 s).l = c6 (f1 1099511627776 (Q7 s)).1 ++ (L3 s).l := l2
  have l3' : (L3 s).l = j3 (v6 64 (L3 s)).1 ++ (D7 s).l := l3
  have l4' : (D7 s).l = l9 (D1 (l6 16 (D7 s)).1) ++ (S5 s).l := l4
  show s.l = (c6 (f1 8 s).1 ++ (c6 (f1 1099511627776 (Q7 s)).1 ++ (j3 (v6 64 (L3 s)).1 ++ l9 (D1 (l6 16 (D7 s)).1)))) ++ (S5 s).l
  simp only [List.append_assoc]
  rw [← l4', ← l3', ← l2', ← l1']
 ·simp only [A0, Bool.and_eq_true, decide_eq_true_eq, F3]
  exact ⟨⟨o1.1, o1.2.1⟩, ⟨o2.1, o2.2.1⟩, by have : ((bg6 s).data.size : Int) ≤ 64 := o3; omega⟩
 ·exact b4.trans (b3.trans (b2.trans b1))
section
variable {α : Type} {one : RS → α × RS} {enc : α → List UInt8}
def I6 (enc : α → List UInt8) (el : Nat → α) : Nat → List UInt8
 | 0 => []
 | k + 1 => I6 enc el k ++ enc (el k)
theorem aA5 {enc : α → List UInt8} {el el' : Nat → α} : ∀ n, (∀ i, i < n → enc (el i) = enc (el' i)) → I6 enc el n = I6 enc el' n
 | 0, _ => rfl
 | n + 1, h => by rw [I6, I6, aA5 n fun i hi => h i (by omega), h n (by omega)]
theorem aD1 {rel : α → α → Prop} {el : Nat → α} {s : RS} (he : s.e = 0) : ∀ n, (∀ i, i < n → Rd one (fun x => rel x (el i)) (enc (el i))) → ∀ tail, s.l = I6 enc el n ++ tail → stR one s n = { s with l := tail } ∧ ∀ i, i < n → rel (one (stR one s i)).1 (el i)
 | 0, _, tail, hl => ⟨by show s = _; rw [I6, List.nil_append] at hl; rw [← hl], fun i hi => absurd hi (Nat.not_lt_zero i)⟩
 | n + 1, h, tail, hl => by
  rw [I6, List.append_assoc] at hl
  obtain ⟨h1, h2⟩ := aD1 he n (fun i hi => h i (by omega)) _ hl
  obtain ⟨h3, h4⟩ := h n (by omega) (stR one s n) tail (by rw [h1]; exact he) (by rw [h1])
  refine ⟨by show (one (stR one s n)).2 = _; rw [h4, h1], fun i hi => ?_⟩
  rcases Nat.lt_or_ge i n with h5 | h5
  ·exact h2 i h5
  ·obtain rfl : i = n := by omega
   exact h3
theorem aQ6 : ∀ n s, (∀ k, k < n → (stR one s k).e = 0) → V8 one n s = n
 | 0, _, _ => rfl
 | n + 1, s, h => by
  have h0 : s.e = 0 := h 0 (by omega)
  rw [V8, if_pos h0, aQ6 n _ fun k hk => by rw [X4]; exact h (k + 1) (by omega)]
theorem aV1 {ok : α → Prop} (h : Wr one enc ok) {s : RS} : ∀ n, (stR one s n).e = 0 → (∀ k, k ≤ n → (stR one s k).e = 0) ∧ s.l = I6 enc (fun i => (one (stR one s i)).1) n ++ (stR one s n).l ∧ (∀ i, i < n → ok (one (stR one s i)).1) ∧ (stR one s n).bad = s.bad
 | 0, h0 => ⟨fun k hk => (show k = 0 by omega) ▸ h0, rfl, fun i hi => absurd hi (Nat.not_lt_zero i), rfl⟩
 | n + 1, h0 => by
  obtain ⟨g1, g2, g3, g4⟩ := h (stR one s n) h0
  obtain ⟨k1, k2, k3, k4⟩ := aV1 h n g1
  refine ⟨fun k hk => ?_, ?_, fun i hi => ?_, g4.trans k4⟩
  ·rcases Nat.lt_or_ge k (n + 1) with h5 | h5
   ·exact k1 k (by omega)
   ·obtain rfl : k = n + 1 := by omega
    exact h0
  ·rw [I6, List.append_assoc]
   show s.l = _ ++ (enc (one (stR one s n)).1 ++ (one (stR one s n)).2.l)
   rw [← g2]; exact k2
  ·rcases Nat.lt_or_ge i n with h5 | h5
   ·exact k3 i h5
   ·obtain rfl : i = n := by omega
    exact g3
theorem aA8 {rel : α → α → Prop} {el : Nat → α} {n : Nat} {most : Int} (hn : (n : Int) ≤ most) (hm : most < 9223372036854775808) (h : ∀ i, i < n → Rd one (fun x => rel x (el i)) (enc (el i))) {s : RS} (he : s.e = 0) {tail : List UInt8} (hl : s.l = c9 [(n : Int)] ++ (I6 enc el n ++ tail)) :
  A3 one most s = n ∧ (∀ i, i < n → rel (C4 one most s i) (el i)) ∧ O9 one most s = { s with l := tail } := by
 simp only [c9, List.append_nil] at hl
 obtain ⟨a1, b1⟩ := C0 (most := most) (n := (n : Int)) (by omega) hn hm s _ he hl
 have hs1 : (f1 most s).2.e = 0 := by rw [b1]; exact he
 have key : ∀ k, k ≤ n → (stR one (f1 most s).2 k).e = 0 := by
  intro k hk
  have hsplit : ∀ j, k + j = n → ∃ rest, I6 enc el n = I6 enc el k ++ rest := by
   intro j
   induction j generalizing k with
   | zero =>
    intro e
    obtain rfl : k = n := by omega
    exact ⟨[], by simp⟩
   | succ j ih =>
    intro e
    obtain ⟨rest, hr⟩ := ih (k + 1) (by omega) (by omega)
    exact ⟨enc (el k) ++ rest, by rw [hr, I6, List.append_assoc]⟩
  obtain ⟨rest, hr⟩ := hsplit (n - k) (by omega)
  have := (aD1 (one := one) (enc := enc) (rel := rel) (el := el) hs1 k (fun i hi => h i (by omega)) (rest ++ tail) (by rw [b1, hr, List.append_assoc])).1
  rw [this]; exact hs1
 have hc : V8 one n (f1 most s).2 = n := aQ6 n _ fun k hk => key k (by omega)
 have hN : A3 one most s = n := by show V8 one (f1 most s).1.toNat (f1 most s).2 = n; rw [a1, Int.toNat_natCast]; exact hc
 obtain ⟨q1, q2⟩ := aD1 (one := one) (enc := enc) (rel := rel) (el := el) hs1 n h tail (by rw [b1])
 refine ⟨hN, q2, ?_⟩
 show stR one (f1 most s).2 (A3 one most s) = _
 rw [hN, q1, b1]
theorem aA9 {ok : α → Prop} (h : Wr one enc ok) {most : Int} {s : RS} (he : (O9 one most s).e = 0) :
  s.e = 0 ∧ s.l = c9 [((A3 one most s : Nat) : Int)] ++ (I6 enc (C4 one most s) (A3 one most s) ++ (O9 one most s).l) ∧ ((A3 one most s : Nat) : Int) ≤ most ∧ (∀ i, i < A3 one most s → ok (C4 one most s i)) ∧ (O9 one most s).bad = s.bad := by
 obtain ⟨k1, k2, k3, k4⟩ := aV1 h (s := (f1 most s).2) (A3 one most s) he
 have h0 : (f1 most s).2.e = 0 := k1 0 (Nat.zero_le _)
 obtain ⟨g1, g2, g3, g4⟩ := C1 most s h0
 have hN : A3 one most s = (f1 most s).1.toNat := by
  rcases ab8 one (f1 most s).1.toNat (f1 most s).2 with h1 | h1
  ·exact h1
  ·exact absurd he h1
 have hz : ((A3 one most s : Nat) : Int) = (f1 most s).1 := by rw [hN]; omega
 refine ⟨g1, ?_, by omega, k3, k4.trans g4⟩
 simp only [c9, List.append_nil]
 rw [hz, g2]
 congr 1
end
theorem S1 (s : Nat → SSign) : ∀ n, l8 s n = I6 D8 s n
 | 0 => rfl
 | n + 1 => by rw [l8, I6, S1 s n]
theorem ah2 (s : Nat → SHeld) : ∀ n, m6 s n = I6 E2 s n
 | 0 => rfl
 | n + 1 => by rw [m6, I6, ah2 s n]
theorem ak5 (s : Nat → SEnv) : ∀ n, n9 s n = I6 I7 s n
 | 0 => rfl
 | n + 1 => by rw [n9, I6, ak5 s n]
theorem al9 (s : Nat → SReq) : ∀ n, s9 s n = I6 J5 s n
 | 0 => rfl
 | n + 1 => by rw [s9, I6, al9 s n]
theorem a2_ {x : SSign} (h : r8 x = true) (ht : SegOk 16 x.tag) : Rd w4 (fun y => y = x) (D8 x) := by
 intro s tail he hl
 simp only [r8, F3] at h
 simp only [D8, c9, List.append_nil, List.append_assoc] at hl
 obtain ⟨a1, b1⟩ := C0 (most := 64) h.1 h.2 (by decide) s _ he hl
 obtain ⟨a2, b2⟩ := bv2 ht (f1 64 s).2 tail (by rw [b1]; exact he) (by rw [b1])
 refine ⟨?_, ?_⟩
 ·show SSign.mk _ _ = x
  rw [a1, a2]
 ·show (M1 (f1 64 s).2).2 = _
  rw [b2, b1]
theorem a3_ : Wr w4 D8 (fun x => r8 x = true ∧ SegOk 16 x.tag) := by
 intro s he
 obtain ⟨g2, l2, o2, b2⟩ := bv3 (f1 64 s).2 he
 obtain ⟨g1, l1, o1, b1⟩ := C1 64 s g2
 refine ⟨g1, ?_, ⟨F3.2 ⟨o1.1, o1.2.1⟩, o2⟩, b2.trans b1⟩
 show s.l = (c9 [(f1 64 s).1] ++ l9 (M1 (f1 64 s).2).1) ++ (M1 (f1 64 s).2).2.l
 simp only [c9, List.append_nil, List.append_assoc]
 rw [← l2, ← l1]
theorem ck_ {x : SEnv} (h : u4 x = true) (ht : SegOk 16 x.tag) : Rd E0 (fun y => y = x) (I7 x) := by
 intro s tail he hl
 simp only [u4, Bool.and_eq_true, decide_eq_true_eq, F3] at h
 obtain ⟨h1, h2⟩ := h
 simp only [I7, c9, List.append_nil, List.append_assoc] at hl
 obtain ⟨a1, b1⟩ := C0 (most := 64) h1.1 h1.2 (by decide) s _ he hl
 obtain ⟨a2, b2⟩ := aH0 (most := 4194304) (t := x.body) (by omega) (by decide) (X7 s) _ (by show (f1 64 s).2.e = 0; rw [b1]; exact he) (by show (f1 64 s).2.l = _; rw [b1])
 have b2' : S2 s = { s with l := l9 x.tag ++ tail } := by show (v6 4194304 (X7 s)).2 = _; rw [b2]; show RS.mk _ (f1 64 s).2.e (f1 64 s).2.bad = _; rw [b1]
 obtain ⟨a3, b3⟩ := bv2 ht (S2 s) tail (by rw [b2']; exact he) (by rw [b2'])
 refine ⟨?_, ?_⟩
 ·show SEnv.mk _ _ _ = x
  rw [a1, a2, a3]
 ·show (M1 (S2 s)).2 = _
  rw [b3, b2']
theorem cl0 : Wr E0 I7 (fun x => u4 x = true ∧ SegOk 16 x.tag) := by
 intro s he
 obtain ⟨g3, l3, o3, b3⟩ := bv3 (S2 s) he
 obtain ⟨g2, l2, o2, b2⟩ := aH1 4194304 (by decide) (X7 s) g3
 obtain ⟨g1, l1, o1, b1⟩ := C1 64 s g2
 refine ⟨g1, ?_, ⟨?_, o3⟩, b3.trans (b2.trans b1)⟩
 ·show s.l = (c9 [(f1 64 s).1] ++ (j3 (v6 4194304 (X7 s)).1 ++ l9 (M1 (S2 s)).1)) ++ (M1 (S2 s)).2.l
  simp only [c9, List.append_nil, List.append_assoc]
  rw [← l3, show (S2 s).l = (v6 4194304 (X7 s)).2.l from rfl, ← l2, show (X7 s).l = (f1 64 s).2.l from rfl, ← l1]
 ·simp only [u4, Bool.and_eq_true, decide_eq_true_eq, F3]
  have o2' : (((E0 s).1.body.size : Nat) : Int) ≤ 4194304 := o2
  exact ⟨⟨o1.1, o1.2.1⟩, by omega⟩
theorem a7_ {x : SVote} (h : u7 x = true) (ht : SegOk 32 x.digest) : Rd z9 (fun y => y = x) (r7 x) := by
 intro s tail he hl
 simp only [u7, Bool.and_eq_true, Bool.or_eq_true, decide_eq_true_eq, F3] at h
 obtain ⟨h1, h2, h3, h4⟩ := h
 simp only [r7, c9, List.append_nil, List.append_assoc] at hl
 obtain ⟨a1, b1⟩ := C0 (n := x.kind) (most := 2) (by omega) (by omega) (by decide) s _ he hl
 have e0 : A7 s = { s with l := c6 x.epoch ++ (c6 x.view ++ (c6 x.slot ++ (l9 x.digest ++ tail))) } := by
  unfold A7
  rw [if_neg (by rw [a1]; omega), b1]
 obtain ⟨a2, b2⟩ := C0 (most := 1048576) h2.1 h2.2 (by decide) (A7 s) _ (by rw [e0]; exact he) (by rw [e0])
 have e1 : M2 s = { s with l := c6 x.view ++ (c6 x.slot ++ (l9 x.digest ++ tail)) } := by show (f1 1048576 (A7 s)).2 = _; rw [b2, e0]
 obtain ⟨a3, b3⟩ := C0 (most := 1099511627776) h3.1 h3.2 (by decide) (M2 s) _ (by rw [e1]; exact he) (by rw [e1])
 have e2 : M3 s = { s with l := c6 x.slot ++ (l9 x.digest ++ tail) } := by show (f1 1099511627776 (M2 s)).2 = _; rw [b3, e1]
 obtain ⟨a4, b4⟩ := C0 (most := 1099511627776) h4.1 h4.2 (by decide) (M3 s) _ (by rw [e2]; exact he) (by rw [e2])
 have e3 : G2 s = { s with l := l9 x.digest ++ tail } := by show (f1 1099511627776 (M3 s)).2 = _; rw [b4, e2]
 obtain ⟨a5, b5⟩ := bo4 ht (G2 s) tail (by rw [e3]; exact he) (by rw [e3])
 refine ⟨?_, ?_⟩
 ·show SVote.mk _ _ _ _ _ = x
  rw [a1, a2, a3, a4, a5]
 ·show (J3 (G2 s)).2 = _
  rw [b5, e3]
theorem a8_ : Wr z9 r7 (fun x => u7 x = true ∧ SegOk 32 x.digest) := by
 intro s he
 obtain ⟨g5, l5, o5, b5⟩ := bo5 (G2 s) he
 obtain ⟨g4, l4, o4, b4⟩ := C1 1099511627776 (M3 s) g5
 obtain ⟨g3, l3, o3, b3⟩ := C1 1099511627776 (M2 s) g4
 obtain ⟨g2, l2, o2, b2⟩ := C1 1048576 (A7 s) g3
 have hk : ¬ ((f1 2 s).1 = 0 ∧ (f1 2 s).2.e = 0) := fun hh => by
  have : A7 s = (f1 2 s).2.spoil := by unfold A7; rw [if_pos hh]
  rw [this] at g2; exact absurd g2 (by simp [RS.spoil])
 have e0 : A7 s = (f1 2 s).2 := by unfold A7; rw [if_neg hk]
 rw [e0] at g2 l2
 obtain ⟨g1, l1, o1, b1⟩ := C1 2 s g2
 refine ⟨g1, ?_, ⟨?_, o5⟩, b5.trans (b4.trans (b3.trans (b2.trans (by rw [e0]; exact b1))))⟩
 ·show s.l = (c9 [(f1 2 s).1, (f1 1048576 (A7 s)).1, (f1 1099511627776 (M2 s)).1, (f1 1099511627776 (M3 s)).1] ++ l9 (J3 (G2 s)).1) ++ (J3 (G2 s)).2.l
  simp only [c9, List.append_nil, List.append_assoc]
  rw [← l5, show (G2 s).l = (f1 1099511627776 (M3 s)).2.l from rfl, ← l4, show (M3 s).l = (f1 1099511627776 (M2 s)).2.l from rfl, ← l3, show (M2 s).l = (f1 1048576 (A7 s)).2.l from rfl, e0, ← l2, ← l1]
 ·simp only [u7, Bool.and_eq_true, Bool.or_eq_true, decide_eq_true_eq, F3]
  have k0 : (f1 2 s).1 ≠ 0 := fun h => hk ⟨h, g2⟩
  have o1' := o1.1
  have o1'' := o1.2.1
  refine ⟨?_, ⟨o2.1, o2.2.1⟩, ⟨o3.1, o3.2.1⟩, ⟨o4.1, o4.2.1⟩⟩
  show (f1 2 s).1 = 1 ∨ (f1 2 s).1 = 2
  omega
theorem aG0 {α : Type} (one : RS → α × RS) : ∀ k s, (itR one k s).2 = stR one s k
 | 0, _ => rfl
 | k + 1, s => by show (itR one k (one s).2).2 = _; rw [aG0 one k, X4]
theorem aF_ {α : Type} (one : RS → α × RS) : ∀ k s, (itR one k s).1.length = k
 | 0, _ => rfl
 | k + 1, s => by show (_ :: (itR one k (one s).2).1).length = _; rw [List.length_cons, aF_ one k]
theorem aF9 {α : Type} (one : RS → α × RS) (d : α) : ∀ k s i, i < k → (itR one k s).1.getD i d = (one (stR one s i)).1
 | 0, _, i, h => absurd h (Nat.not_lt_zero i)
 | k + 1, s, 0, _ => rfl
 | k + 1, s, i + 1, h => by
  show (itR one k (one s).2).1.getD i d = _
  rw [aF9 one d k _ i (by omega), X4]
def X2 (b : SBatch) : Prop := ∀ i, i < b.n → SegOk 16 (b.req i).tag
theorem M7 {n most : Nat} {p : Nat → Bool} : u0 n most p = true ↔ n ≤ most ∧ ∀ i, i < n → p i = true := by simp [u0]
theorem aq4 {n n' : Nat} {p : Nat → Bool} : z0 n n' p = true ↔ n = n' ∧ ∀ i, i < n → p i = true := by simp [z0]
theorem bu2 {a b : SReq} : Q6 a b = true ↔ a = b := by
 constructor
 ·intro h
  obtain ⟨h1, h2, h3, h4⟩ := aI_ h
  cases a; cases b; simp_all
 ·rintro rfl; simp [Q6]
theorem aD0 {a b : SSign} : D5 a b = true ↔ a = b := by
 constructor
 ·intro h
  simp only [D5, Bool.and_true, Bool.and_eq_true, decide_eq_true_eq] at h
  cases a; cases b; simp_all
 ·rintro rfl; simp [D5]
theorem bo8 {a b : SEnv} : H9 a b = true ↔ a = b := by
 constructor
 ·intro h
  simp only [H9, Bool.and_true, Bool.and_eq_true, decide_eq_true_eq] at h
  cases a; cases b; simp_all
 ·rintro rfl; simp [H9]
theorem aD3 {a b : SVote} : ac7 a b = true ↔ a = b := by
 constructor
 ·intro h
  simp only [ac7, Bool.and_true, Bool.and_eq_true, decide_eq_true_eq] at h
  cases a; cases b; simp_all
 ·rintro rfl; simp [ac7]
theorem H5 {a b : SBatch} : q9 a b = true ↔ a.noop = b.noop ∧ a.n = b.n ∧ ∀ i, i < a.n → a.req i = b.req i := by
 simp only [q9, Bool.and_eq_true, aq4, bu2, beq_iff_eq]
theorem au3 {b : SBatch} (h : p8 b = true) (ht : X2 b) : Rd l7 (fun y => q9 y b = true) (j6 b) := by
 intro s tail he hl
 simp only [p8, Bool.and_eq_true, Bool.not_eq_true', Bool.and_eq_false_iff, decide_eq_false_iff_not, M7] at h
 obtain ⟨h1, h2, h3⟩ := h
 cases hno : b.noop with
 | true =>
  have hn0 : b.n = 0 := by
   rcases h1 with h1 | h1
   ·rw [hno] at h1; cases h1
   ·omega
  have hb : j6 b = c6 0 := by simp [j6, hno]
  rw [hb] at hl
  obtain ⟨a1, b1⟩ := C0 (n := 0) (most := 5) (by decide) (by decide) (by decide) s _ he hl
  have e1 : s8 s = ([], { s with l := tail }) := by unfold s8; rw [a1, b1]; rfl
  unfold l7
  rw [e1, if_pos he, a1]
  exact ⟨H5.2 ⟨by rw [hno]; rfl, hn0.symm, fun i hi => absurd hi (Nat.not_lt_zero i)⟩, rfl⟩
 | false =>
  have hb : j6 b = c6 ((b.n + 1 : Nat) : Int) ++ s9 b.req b.n := by simp [j6, hno]
  rw [hb, List.append_assoc] at hl
  obtain ⟨a1, b1⟩ := C0 (n := ((b.n + 1 : Nat) : Int)) (most := 5) (by omega) (by omega) (by decide) s _ he hl
  have hs1 : (f1 5 s).2.e = 0 := by rw [b1]; exact he
  obtain ⟨q1, q2⟩ := aD1 (one := i7) (enc := J5) (rel := fun x y => x = y) (el := b.req) hs1 b.n (fun i hi => co6 (h3 i hi) (ht i hi)) tail (by rw [b1, al9])
  have hk : (f1 5 s).1.toNat - 1 = b.n := by rw [a1]; omega
  have e2 : (s8 s).2 = { s with l := tail } := by
   show (itR i7 ((f1 5 s).1.toNat - 1) (f1 5 s).2).2 = _
   rw [hk, aG0, q1, b1]
  have e1 : (l7 s).1 = D3 (decide ((f1 5 s).1 = 0)) (s8 s).1 := by
   show (if (s8 s).2.e = 0 then _ else _) = _
   rw [if_pos (by rw [e2]; exact he)]
  refine ⟨?_, e2⟩
  rw [e1]
  have hlen : (s8 s).1.length = b.n := by
   show (itR i7 ((f1 5 s).1.toNat - 1) (f1 5 s).2).1.length = _
   rw [aF_, hk]
  refine H5.2 ⟨?_, hlen, fun i hi => ?_⟩
  ·show decide ((f1 5 s).1 = 0) = b.noop
   rw [hno, decide_eq_false_iff_not, a1]; omega
  ·have hi' : i < b.n := by rw [← hlen]; exact hi
   show (itR i7 ((f1 5 s).1.toNat - 1) (f1 5 s).2).1.getD i al8 = _
   rw [aF9 _ _ _ _ _ (by rw [hk]; exact hi')]
   exact q2 i hi'
theorem au4 : Wr l7 j6 (fun b => p8 b = true ∧ X2 b) := by
 intro s he
 have he' : (s8 s).2.e = 0 := he
 have e1 : (l7 s).1 = D3 (decide ((f1 5 s).1 = 0)) (s8 s).1 := by
  show (if (s8 s).2.e = 0 then _ else _) = _
  rw [if_pos he']
 have e2 : (l7 s).2 = stR i7 (f1 5 s).2 ((f1 5 s).1.toNat - 1) := aG0 _ _ _
 have e3 : (stR i7 (f1 5 s).2 ((f1 5 s).1.toNat - 1)).e = 0 := by rw [← e2]; exact he
 obtain ⟨k1, k2, k3, k4⟩ := aV1 co7 _ e3
 have g0 : (f1 5 s).2.e = 0 := k1 0 (Nat.zero_le _)
 obtain ⟨g1, l1, o1, b1⟩ := C1 5 s g0
 have hlen : (s8 s).1.length = (f1 5 s).1.toNat - 1 := aF_ _ _ _
 have hget : ∀ i, i < (f1 5 s).1.toNat - 1 → (s8 s).1.getD i al8 = (i7 (stR i7 (f1 5 s).2 i)).1 := fun i hi => aF9 _ _ _ _ _ hi
 rw [e1, e2]
 refine ⟨g1, ?_, ⟨?_, ?_⟩, k4.trans b1⟩
 ·by_cases h0 : (f1 5 s).1 = 0
  ·have hb : j6 (D3 (decide ((f1 5 s).1 = 0)) (s8 s).1) = c6 0 := by simp [j6, D3, h0]
   rw [hb]
   rw [h0] at l1 ⊢
   exact l1
  ·have hb : j6 (D3 (decide ((f1 5 s).1 = 0)) (s8 s).1) = c6 ((((s8 s).1.length + 1 : Nat)) : Int) ++ s9 (fun i => (s8 s).1.getD i al8) (s8 s).1.length := by simp [j6, D3, h0]
   rw [hb, hlen, al9, aA5 (el' := fun i => (i7 (stR i7 (f1 5 s).2 i)).1) _ (fun i hi => by rw [hget i hi]), List.append_assoc, ← k2]
   have o := o1.1
   rw [show ((((f1 5 s).1.toNat - 1 + 1 : Nat)) : Int) = (f1 5 s).1 by omega]
   exact l1
 ·simp only [p8, Bool.and_eq_true, Bool.not_eq_true', Bool.and_eq_false_iff, decide_eq_false_iff_not, M7]
  have hn : (D3 (decide ((f1 5 s).1 = 0)) (s8 s).1).n = (f1 5 s).1.toNat - 1 := hlen
  rw [hn]
  have o := o1.2.1
  refine ⟨?_, by omega, fun i hi => ?_⟩
  ·by_cases h0 : (f1 5 s).1 = 0
   ·right; omega
   ·left; show decide ((f1 5 s).1 = 0) = false; exact decide_eq_false h0
  ·show A0 ((s8 s).1.getD i al8) = true
   rw [hget i hi]; exact (k3 i hi).1
 ·intro i hi
  have hi' : i < (f1 5 s).1.toNat - 1 := by rw [← hlen]; exact hi
  show SegOk 16 ((s8 s).1.getD i al8).tag
  rw [hget i hi']; exact (k3 i hi').2
structure segCert (c : SCert) : Prop where
 vote : SegOk 32 c.vote.digest
 sig : ∀ i, i < c.n → SegOk 16 (c.sig i).tag
structure segHeld (h : SHeld) : Prop where
 batch : X2 h.batch
 cert : segCert h.cert
theorem I9 {a b : SCert} : v9 a b = true ↔ a.vote = b.vote ∧ a.n = b.n ∧ ∀ i, i < a.n → a.sig i = b.sig i := by
 simp only [v9, Bool.and_eq_true, aq4, aD0, aD3]
theorem aY8 {c : SCert} (h : A2 c = true) (ht : segCert c) : Rd G4 (fun y => v9 y c = true) (u9 c) := by
 intro s tail he hl
 simp only [A2, Bool.and_eq_true, M7] at h
 obtain ⟨h1, h2, h3⟩ := h
 simp only [u9, List.append_assoc] at hl
 obtain ⟨a1, b1⟩ := a7_ h1 ht.vote s _ he hl
 obtain ⟨q1, q2, q3⟩ := aA8 (one := w4) (enc := D8) (rel := fun x y => x = y) (el := c.sig) (n := c.n) (most := 64) (by omega) (by decide) (fun i hi => a2_ (h3 i hi) (ht.sig i hi)) (s := (z9 s).2) (by rw [b1]; exact he) (tail := tail) (by rw [b1, S1])
 refine ⟨?_, ?_⟩
 ·exact I9.2 ⟨a1, q1, fun i hi => q2 i (by rw [← q1]; exact hi)⟩
 ·show O9 w4 64 (z9 s).2 = _
  rw [q3, b1]
theorem aY9 : Wr G4 u9 (fun c => A2 c = true ∧ segCert c) := by
 intro s he
 obtain ⟨g2, l2, n2, o2, b2⟩ := aA9 a3_ (most := 64) (s := (z9 s).2) he
 obtain ⟨g1, l1, o1, b1⟩ := a8_ s g2
 refine ⟨g1, ?_, ⟨?_, o1.2, fun i hi => (o2 i hi).2⟩, b2.trans b1⟩
 ·show s.l = (r7 (z9 s).1 ++ (c9 [((A3 w4 64 (z9 s).2 : Nat) : Int)] ++ l8 (C4 w4 64 (z9 s).2) (A3 w4 64 (z9 s).2))) ++ (O9 w4 64 (z9 s).2).l
  simp only [List.append_assoc]
  rw [S1, ← l2, ← l1]
 ·simp only [A2, Bool.and_eq_true, M7]
  exact ⟨o1.1, by have : ((A3 w4 64 (z9 s).2 : Nat) : Int) ≤ 64 := n2; show A3 w4 64 (z9 s).2 ≤ 64; omega, fun i hi => (o2 i hi).1⟩
theorem bW1 {x : SHeld} (h : z8 x = true) (ht : segHeld x) : Rd B8 (fun y => u6 y x = true) (E2 x) := by
 intro s tail he hl
 simp only [z8, Bool.and_eq_true] at h
 simp only [E2, List.append_assoc] at hl
 obtain ⟨a1, b1⟩ := au3 h.1 ht.batch s _ he hl
 obtain ⟨a2, b2⟩ := aY8 h.2 ht.cert (l7 s).2 tail (by rw [b1]; exact he) (by rw [b1])
 refine ⟨?_, ?_⟩
 ·simp only [u6, Bool.and_eq_true]; exact ⟨a1, a2⟩
 ·show (G4 (l7 s).2).2 = _
  rw [b2, b1]
theorem bW2 : Wr B8 E2 (fun x => z8 x = true ∧ segHeld x) := by
 intro s he
 obtain ⟨g2, l2, o2, b2⟩ := aY9 (l7 s).2 he
 obtain ⟨g1, l1, o1, b1⟩ := au4 s g2
 refine ⟨g1, ?_, ⟨?_, o1.2, o2.2⟩, b2.trans b1⟩
 ·show s.l = (j6 (l7 s).1 ++ u9 (G4 (l7 s).2).1) ++ (G4 (l7 s).2).2.l
  rw [List.append_assoc, ← l2, ← l1]
 ·simp only [z8, Bool.and_eq_true]; exact ⟨o1.1, o2.1⟩
end Go.Proofs.YtnmccoincblecaaGreat
