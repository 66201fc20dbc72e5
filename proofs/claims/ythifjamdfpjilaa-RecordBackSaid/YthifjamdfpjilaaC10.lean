/-
  Contracts and laws that the claim's theorem leans on, joined out of the texts Tb3 Tb4D Tb4 Te0 Te1 Te2 (own work of this seat): Contracts: certs, what was held and a message's fields are read; Contracts: a message is read; Contracts: a message is read; The plain law: what is put is read again, what is read was put. Numbers, texts, raw bytes; The plain law: texts, raw bytes, requests, batches, signs, envelopes, votes, lists; The plain law: signs, envelopes, votes, batches, certs, what was held.
-/
import Derived.Test.YthifjamdfpjilaaC09
set_option linter.unusedVariables false
set_option linter.unusedSimpArgs false
namespace Go.Proofs.Ythifjamdfpjilaa
open Go Sy Go.Proofs
theorem bdCtR_p (s : RS) (s1 : RS) (s2 : RS) (v : SVote) (n : Nat) (g : Nat → SSign) :
  along Try.prog (bdCtR s s1 s2 v n g) [] = (some (.agg [.int .i64 (SVote.kind v), .int .i64 (SVote.epoch v), .int .i64 (SVote.view v), .int .i64 (SVote.slot v), .seg .u8 32 (SVote.digest v), sg n g], [(.o 0, .flat [.ptr (.o 1) 0 0 0 0, .bool (RS.bad s2)]), (.o 1, rdB s2)], [T Try.prog 99 [.ptr (.o 0) 0 0 0 0] [(.o 0, .flat [.ptr (.o 1) 0 0 0 0, .bool (RS.bad s)]), (.o 1, rdB s)] (.agg (SVote.c v)) [(.o 0, .flat [.ptr (.o 1) 0 0 0 0, .bool (RS.bad s1)]), (.o 1, rdB s1)], T Try.prog 106 [.ptr (.o 0) 0 0 0 0, .int .i64 64, .fn (.func 107) [.ptr (.o 0) 0 0 0 0] []] [(.o 0, .flat [.ptr (.o 1) 0 0 0 0, .bool (RS.bad s1)]), (.o 1, rdB s1)] (sg n g) [(.o 0, .flat [.ptr (.o 1) 0 0 0 0, .bool (RS.bad s2)]), (.o 1, rdB s2)], q0, q0, q0, q (RS.bad s2), q (List.length (RS.l s2)), ∀ (k : Nat), k < List.length (RS.l s2) → bl (RS.l s2) k = bl (RS.l s2) k, false = true → false = true, q (RS.e s2), q2, q (SVote.kind v), q (SVote.epoch v), q (SVote.view v), q (SVote.slot v), q (32 : Nat), q (SVote.digest v), q n, ∀ (k : Nat), k < n → SSign.c (g k) = SSign.c (g k), false = true → false = true, q0, q0, q0]) : Option (V × Heap × List Prop)) := by kernel_rfl

theorem bdHdR_p (s : RS) (s1 : RS) (s2 : RS) (b : SBatch) (c : SCert) :
  along Try.prog (bdHdR s s1 s2 b c) [] = (some (.agg [.bool (SBatch.noop b), rq (SBatch.n b) (SBatch.req b), .int .i64 (SVote.kind (SCert.vote c)), .int .i64 (SVote.epoch (SCert.vote c)), .int .i64 (SVote.view (SCert.vote c)), .int .i64 (SVote.slot (SCert.vote c)), .seg .u8 32 (SVote.digest (SCert.vote c)), sg (SCert.n c) (SCert.sig c)], [(.o 0, .flat [.ptr (.o 1) 0 0 0 0, .bool (RS.bad s2)]), (.o 1, rdB s2)], [T Try.prog 87 [.ptr (.o 1) 0 0 0 0] [(.o 1, rdB s)] (.agg (SBatch.c b)) [(.o 1, rdB s1)], T Try.prog 105 [.ptr (.o 0) 0 0 0 0] [(.o 0, .flat [.ptr (.o 1) 0 0 0 0, .bool (RS.bad s)]), (.o 1, rdB s1)] (.agg (SCert.c c)) [(.o 0, .flat [.ptr (.o 1) 0 0 0 0, .bool (RS.bad s2)]), (.o 1, rdB s2)], q0, q0, q0, q (RS.bad s2), q (List.length (RS.l s2)), ∀ (k : Nat), k < List.length (RS.l s2) → bl (RS.l s2) k = bl (RS.l s2) k, false = true → false = true, q (RS.e s2), q2, q (SBatch.noop b), q (SBatch.n b), ∀ (k : Nat), k < SBatch.n b → SReq.c (SBatch.req b k) = SReq.c (SBatch.req b k), false = true → false = true, q (SVote.kind (SCert.vote c)), q (SVote.epoch (SCert.vote c)), q (SVote.view (SCert.vote c)), q (SVote.slot (SCert.vote c)), q (32 : Nat), q (SVote.digest (SCert.vote c)), q (SCert.n c), ∀ (k : Nat), k < SCert.n c → SSign.c (SCert.sig c k) = SSign.c (SCert.sig c k), false = true → false = true, q0, q0, q0]) : Option (V × Heap × List Prop)) := by kernel_rfl

theorem bdF1_p1 (m : SMsg) (s : RS) (t1 : RS) (t2 : RS) (t3 : RS) (x0 : Int) (x1 : Int) (x2 : SBatch) :
  along Try.prog (bdF1 m s t1 t2 t3 x0 x1 x2) [true] = (some (.tup [], [(.o 0, .flat [.ptr (.o 1) 0 0 0 0, .bool (RS.bad t3)]), (.o 1, rdB t3), (.o 2, .flat (SMsg.c (SMsg.mk (SMsg.kind m) x0 (SMsg.leader m) (SMsg.view m) x1 x2 (SMsg.vote m) (SMsg.cepoch m) (SMsg.cleader m) (SMsg.cview m) (SMsg.nheld m) (SMsg.held m) (SMsg.nnews m) (SMsg.news m) (SMsg.digest m) (SMsg.cert m) (SMsg.state m) (SMsg.n m) (SMsg.sig m))))], [decide (SMsg.kind m = (1 : Int)) = true, T Try.prog 62 [.ptr (.o 1) 0 0 0 0, .int .i64 1048576] [(.o 1, rdB s)] (.int .i64 x0) [(.o 1, rdB t1)], T Try.prog 62 [.ptr (.o 1) 0 0 0 0, .int .i64 1099511627776] [(.o 1, rdB t1)] (.int .i64 x1) [(.o 1, rdB t2)], T Try.prog 87 [.ptr (.o 1) 0 0 0 0] [(.o 1, rdB t2)] (.agg (SBatch.c x2)) [(.o 1, rdB t3)], q0, q0, q0, RS.bad s = RS.bad t3, q (List.length (RS.l t3)), ∀ (k : Nat), k < List.length (RS.l t3) → bl (RS.l t3) k = bl (RS.l t3) k, false = true → false = true, q (RS.e t3), q2, q (SMsg.kind m), q x0, q (SMsg.leader m), q (SMsg.view m), q x1, q (SBatch.noop x2), q (SBatch.n x2), ∀ (k : Nat), k < SBatch.n x2 → SReq.c (SBatch.req x2 k) = SReq.c (SBatch.req x2 k), false = true → false = true, q (SVote.kind (SMsg.vote m)), q (SVote.epoch (SMsg.vote m)), q (SVote.view (SMsg.vote m)), q (SVote.slot (SMsg.vote m)), q (32 : Nat), q (SVote.digest (SMsg.vote m)), q (SMsg.cepoch m), q (SMsg.cleader m), q (SMsg.cview m), q (SMsg.nheld m), ∀ (k : Nat), k < SMsg.nheld m → SHeld.c (SMsg.held m k) = SHeld.c (SMsg.held (SMsg.mk (SMsg.kind m) x0 (SMsg.leader m) (SMsg.view m) x1 x2 (SMsg.vote m) (SMsg.cepoch m) (SMsg.cleader m) (SMsg.cview m) (SMsg.nheld m) (SMsg.held m) (SMsg.nnews m) (SMsg.news m) (SMsg.digest m) (SMsg.cert m) (SMsg.state m) (SMsg.n m) (SMsg.sig m)) k), false = true → false = true, q (SMsg.nnews m), ∀ (k : Nat), k < SMsg.nnews m → SEnv.c (SMsg.news m k) = SEnv.c (SMsg.news (SMsg.mk (SMsg.kind m) x0 (SMsg.leader m) (SMsg.view m) x1 x2 (SMsg.vote m) (SMsg.cepoch m) (SMsg.cleader m) (SMsg.cview m) (SMsg.nheld m) (SMsg.held m) (SMsg.nnews m) (SMsg.news m) (SMsg.digest m) (SMsg.cert m) (SMsg.state m) (SMsg.n m) (SMsg.sig m)) k), false = true → false = true, q (32 : Nat), q (SMsg.digest m), q (SVote.kind (SCert.vote (SMsg.cert m))), q (SVote.epoch (SCert.vote (SMsg.cert m))), q (SVote.view (SCert.vote (SMsg.cert m))), q (SVote.slot (SCert.vote (SMsg.cert m))), q (32 : Nat), q (SVote.digest (SCert.vote (SMsg.cert m))), q (SCert.n (SMsg.cert m)), ∀ (k : Nat), k < SCert.n (SMsg.cert m) → SSign.c (SCert.sig (SMsg.cert m) k) = SSign.c (SCert.sig (SMsg.cert m) k), false = true → false = true, q (SMsg.state m), q (SMsg.n m), ∀ (k : Nat), k < SMsg.n m → SSign.c (SMsg.sig m k) = SSign.c (SMsg.sig (SMsg.mk (SMsg.kind m) x0 (SMsg.leader m) (SMsg.view m) x1 x2 (SMsg.vote m) (SMsg.cepoch m) (SMsg.cleader m) (SMsg.cview m) (SMsg.nheld m) (SMsg.held m) (SMsg.nnews m) (SMsg.news m) (SMsg.digest m) (SMsg.cert m) (SMsg.state m) (SMsg.n m) (SMsg.sig m)) k), false = true → false = true]) : Option (V × Heap × List Prop)) := by kernel_rfl

theorem bdF2_p01 (m : SMsg) (s : RS) (t1 : RS) (x0 : SVote) :
  along Try.prog (bdF2 m s t1 x0) [false, true] = (some (.tup [], [(.o 0, .flat [.ptr (.o 1) 0 0 0 0, .bool (RS.bad t1)]), (.o 1, rdB t1), (.o 2, .flat (SMsg.c (SMsg.mk (SMsg.kind m) (SMsg.epoch m) (SMsg.leader m) (SMsg.view m) (SMsg.slot m) (SMsg.batch m) x0 (SMsg.cepoch m) (SMsg.cleader m) (SMsg.cview m) (SMsg.nheld m) (SMsg.held m) (SMsg.nnews m) (SMsg.news m) (SMsg.digest m) (SMsg.cert m) (SMsg.state m) (SMsg.n m) (SMsg.sig m))))], [decide (SMsg.kind m = (1 : Int)) = false, decide (SMsg.kind m = (2 : Int)) = true, T Try.prog 99 [.ptr (.o 0) 0 0 0 0] [(.o 0, .flat [.ptr (.o 1) 0 0 0 0, .bool (RS.bad s)]), (.o 1, rdB s)] (.agg (SVote.c x0)) [(.o 0, .flat [.ptr (.o 1) 0 0 0 0, .bool (RS.bad t1)]), (.o 1, rdB t1)], q0, q0, q0, q (RS.bad t1), q (List.length (RS.l t1)), ∀ (k : Nat), k < List.length (RS.l t1) → bl (RS.l t1) k = bl (RS.l t1) k, false = true → false = true, q (RS.e t1), q2, q (SMsg.kind m), q (SMsg.epoch m), q (SMsg.leader m), q (SMsg.view m), q (SMsg.slot m), q (SBatch.noop (SMsg.batch m)), q (SBatch.n (SMsg.batch m)), ∀ (k : Nat), k < SBatch.n (SMsg.batch m) → SReq.c (SBatch.req (SMsg.batch m) k) = SReq.c (SBatch.req (SMsg.batch m) k), false = true → false = true, q (SVote.kind x0), q (SVote.epoch x0), q (SVote.view x0), q (SVote.slot x0), q (32 : Nat), q (SVote.digest x0), q (SMsg.cepoch m), q (SMsg.cleader m), q (SMsg.cview m), q (SMsg.nheld m), ∀ (k : Nat), k < SMsg.nheld m → SHeld.c (SMsg.held m k) = SHeld.c (SMsg.held (SMsg.mk (SMsg.kind m) (SMsg.epoch m) (SMsg.leader m) (SMsg.view m) (SMsg.slot m) (SMsg.batch m) x0 (SMsg.cepoch m) (SMsg.cleader m) (SMsg.cview m) (SMsg.nheld m) (SMsg.held m) (SMsg.nnews m) (SMsg.news m) (SMsg.digest m) (SMsg.cert m) (SMsg.state m) (SMsg.n m) (SMsg.sig m)) k), false = true → false = true, q (SMsg.nnews m), ∀ (k : Nat), k < SMsg.nnews m → SEnv.c (SMsg.news m k) = SEnv.c (SMsg.news (SMsg.mk (SMsg.kind m) (SMsg.epoch m) (SMsg.leader m) (SMsg.view m) (SMsg.slot m) (SMsg.batch m) x0 (SMsg.cepoch m) (SMsg.cleader m) (SMsg.cview m) (SMsg.nheld m) (SMsg.held m) (SMsg.nnews m) (SMsg.news m) (SMsg.digest m) (SMsg.cert m) (SMsg.state m) (SMsg.n m) (SMsg.sig m)) k), false = true → false = true, q (32 : Nat), q (SMsg.digest m), q (SVote.kind (SCert.vote (SMsg.cert m))), q (SVote.epoch (SCert.vote (SMsg.cert m))), q (SVote.view (SCert.vote (SMsg.cert m))), q (SVote.slot (SCert.vote (SMsg.cert m))), q (32 : Nat), q (SVote.digest (SCert.vote (SMsg.cert m))), q (SCert.n (SMsg.cert m)), ∀ (k : Nat), k < SCert.n (SMsg.cert m) → SSign.c (SCert.sig (SMsg.cert m) k) = SSign.c (SCert.sig (SMsg.cert m) k), false = true → false = true, q (SMsg.state m), q (SMsg.n m), ∀ (k : Nat), k < SMsg.n m → SSign.c (SMsg.sig m k) = SSign.c (SMsg.sig (SMsg.mk (SMsg.kind m) (SMsg.epoch m) (SMsg.leader m) (SMsg.view m) (SMsg.slot m) (SMsg.batch m) x0 (SMsg.cepoch m) (SMsg.cleader m) (SMsg.cview m) (SMsg.nheld m) (SMsg.held m) (SMsg.nnews m) (SMsg.news m) (SMsg.digest m) (SMsg.cert m) (SMsg.state m) (SMsg.n m) (SMsg.sig m)) k), false = true → false = true]) : Option (V × Heap × List Prop)) := by kernel_rfl

theorem bdF3_p001 (m : SMsg) (s : RS) (t1 : RS) (t2 : RS) (t3 : RS) (t4 : RS) (n : Nat) (x0 : Int) (x1 : Int) (x2 : Int) (x3 : Nat → SHeld) :
  along Try.prog (bdF3 m s t1 t2 t3 t4 n x0 x1 x2 x3) [false, false, true] = (some (.tup [], [(.o 0, .flat [.ptr (.o 1) 0 0 0 0, .bool (RS.bad t4)]), (.o 1, rdB t4), (.o 2, .flat (SMsg.c (SMsg.mk (SMsg.kind m) (SMsg.epoch m) (SMsg.leader m) (SMsg.view m) (SMsg.slot m) (SMsg.batch m) (SMsg.vote m) x0 x1 x2 n x3 (SMsg.nnews m) (SMsg.news m) (SMsg.digest m) (SMsg.cert m) (SMsg.state m) (SMsg.n m) (SMsg.sig m))))], [decide (SMsg.kind m = (1 : Int)) = false, decide (SMsg.kind m = (2 : Int)) = false, decide (SMsg.kind m = (3 : Int)) = true, T Try.prog 62 [.ptr (.o 1) 0 0 0 0, .int .i64 1048576] [(.o 1, rdB s)] (.int .i64 x0) [(.o 1, rdB t1)], T Try.prog 62 [.ptr (.o 1) 0 0 0 0, .int .i64 64] [(.o 1, rdB t1)] (.int .i64 x1) [(.o 1, rdB t2)], T Try.prog 62 [.ptr (.o 1) 0 0 0 0, .int .i64 1099511627776] [(.o 1, rdB t2)] (.int .i64 x2) [(.o 1, rdB t3)], T Try.prog 100 [.ptr (.o 0) 0 0 0 0, .int .i64 4, .fn (.func 101) [.ptr (.o 0) 0 0 0 0] []] [(.o 0, .flat [.ptr (.o 1) 0 0 0 0, .bool (RS.bad s)]), (.o 1, rdB t3)] (hl n x3) [(.o 0, .flat [.ptr (.o 1) 0 0 0 0, .bool (RS.bad t4)]), (.o 1, rdB t4)], q0, q0, q0, q (RS.bad t4), q (List.length (RS.l t4)), ∀ (k : Nat), k < List.length (RS.l t4) → bl (RS.l t4) k = bl (RS.l t4) k, false = true → false = true, q (RS.e t4), q2, q (SMsg.kind m), q (SMsg.epoch m), q (SMsg.leader m), q (SMsg.view m), q (SMsg.slot m), q (SBatch.noop (SMsg.batch m)), q (SBatch.n (SMsg.batch m)), ∀ (k : Nat), k < SBatch.n (SMsg.batch m) → SReq.c (SBatch.req (SMsg.batch m) k) = SReq.c (SBatch.req (SMsg.batch m) k), false = true → false = true, q (SVote.kind (SMsg.vote m)), q (SVote.epoch (SMsg.vote m)), q (SVote.view (SMsg.vote m)), q (SVote.slot (SMsg.vote m)), q (32 : Nat), q (SVote.digest (SMsg.vote m)), q x0, q x1, q x2, q n, ∀ (k : Nat), k < n → SHeld.c (x3 k) = SHeld.c (SMsg.held (SMsg.mk (SMsg.kind m) (SMsg.epoch m) (SMsg.leader m) (SMsg.view m) (SMsg.slot m) (SMsg.batch m) (SMsg.vote m) x0 x1 x2 n x3 (SMsg.nnews m) (SMsg.news m) (SMsg.digest m) (SMsg.cert m) (SMsg.state m) (SMsg.n m) (SMsg.sig m)) k), false = true → false = true, q (SMsg.nnews m), ∀ (k : Nat), k < SMsg.nnews m → SEnv.c (SMsg.news m k) = SEnv.c (SMsg.news (SMsg.mk (SMsg.kind m) (SMsg.epoch m) (SMsg.leader m) (SMsg.view m) (SMsg.slot m) (SMsg.batch m) (SMsg.vote m) x0 x1 x2 n x3 (SMsg.nnews m) (SMsg.news m) (SMsg.digest m) (SMsg.cert m) (SMsg.state m) (SMsg.n m) (SMsg.sig m)) k), false = true → false = true, q (32 : Nat), q (SMsg.digest m), q (SVote.kind (SCert.vote (SMsg.cert m))), q (SVote.epoch (SCert.vote (SMsg.cert m))), q (SVote.view (SCert.vote (SMsg.cert m))), q (SVote.slot (SCert.vote (SMsg.cert m))), q (32 : Nat), q (SVote.digest (SCert.vote (SMsg.cert m))), q (SCert.n (SMsg.cert m)), ∀ (k : Nat), k < SCert.n (SMsg.cert m) → SSign.c (SCert.sig (SMsg.cert m) k) = SSign.c (SCert.sig (SMsg.cert m) k), false = true → false = true, q (SMsg.state m), q (SMsg.n m), ∀ (k : Nat), k < SMsg.n m → SSign.c (SMsg.sig m k) = SSign.c (SMsg.sig (SMsg.mk (SMsg.kind m) (SMsg.epoch m) (SMsg.leader m) (SMsg.view m) (SMsg.slot m) (SMsg.batch m) (SMsg.vote m) x0 x1 x2 n x3 (SMsg.nnews m) (SMsg.news m) (SMsg.digest m) (SMsg.cert m) (SMsg.state m) (SMsg.n m) (SMsg.sig m)) k), false = true → false = true]) : Option (V × Heap × List Prop)) := by kernel_rfl

theorem bdF4_p0001 (m : SMsg) (s : RS) (t1 : RS) (t2 : RS) (t3 : RS) (t4 : RS) (n : Nat) (x0 : Int) (x1 : Int) (x2 : Int) (x3 : Nat → SEnv) :
  along Try.prog (bdF4 m s t1 t2 t3 t4 n x0 x1 x2 x3) [false, false, false, true] = (some (.tup [], [(.o 0, .flat [.ptr (.o 1) 0 0 0 0, .bool (RS.bad t4)]), (.o 1, rdB t4), (.o 2, .flat (SMsg.c (SMsg.mk (SMsg.kind m) x0 x1 x2 (SMsg.slot m) (SMsg.batch m) (SMsg.vote m) (SMsg.cepoch m) (SMsg.cleader m) (SMsg.cview m) (SMsg.nheld m) (SMsg.held m) n x3 (SMsg.digest m) (SMsg.cert m) (SMsg.state m) (SMsg.n m) (SMsg.sig m))))], [decide (SMsg.kind m = (1 : Int)) = false, decide (SMsg.kind m = (2 : Int)) = false, decide (SMsg.kind m = (3 : Int)) = false, decide (SMsg.kind m = (4 : Int)) = true, T Try.prog 62 [.ptr (.o 1) 0 0 0 0, .int .i64 1048576] [(.o 1, rdB s)] (.int .i64 x0) [(.o 1, rdB t1)], T Try.prog 62 [.ptr (.o 1) 0 0 0 0, .int .i64 64] [(.o 1, rdB t1)] (.int .i64 x1) [(.o 1, rdB t2)], T Try.prog 62 [.ptr (.o 1) 0 0 0 0, .int .i64 1099511627776] [(.o 1, rdB t2)] (.int .i64 x2) [(.o 1, rdB t3)], T Try.prog 102 [.ptr (.o 0) 0 0 0 0, .int .i64 64, .fn (.func 103) [.ptr (.o 0) 0 0 0 0] []] [(.o 0, .flat [.ptr (.o 1) 0 0 0 0, .bool (RS.bad s)]), (.o 1, rdB t3)] (nw n x3) [(.o 0, .flat [.ptr (.o 1) 0 0 0 0, .bool (RS.bad t4)]), (.o 1, rdB t4)], q0, q0, q0, q (RS.bad t4), q (List.length (RS.l t4)), ∀ (k : Nat), k < List.length (RS.l t4) → bl (RS.l t4) k = bl (RS.l t4) k, false = true → false = true, q (RS.e t4), q2, q (SMsg.kind m), q x0, q x1, q x2, q (SMsg.slot m), q (SBatch.noop (SMsg.batch m)), q (SBatch.n (SMsg.batch m)), ∀ (k : Nat), k < SBatch.n (SMsg.batch m) → SReq.c (SBatch.req (SMsg.batch m) k) = SReq.c (SBatch.req (SMsg.batch m) k), false = true → false = true, q (SVote.kind (SMsg.vote m)), q (SVote.epoch (SMsg.vote m)), q (SVote.view (SMsg.vote m)), q (SVote.slot (SMsg.vote m)), q (32 : Nat), q (SVote.digest (SMsg.vote m)), q (SMsg.cepoch m), q (SMsg.cleader m), q (SMsg.cview m), q (SMsg.nheld m), ∀ (k : Nat), k < SMsg.nheld m → SHeld.c (SMsg.held m k) = SHeld.c (SMsg.held (SMsg.mk (SMsg.kind m) x0 x1 x2 (SMsg.slot m) (SMsg.batch m) (SMsg.vote m) (SMsg.cepoch m) (SMsg.cleader m) (SMsg.cview m) (SMsg.nheld m) (SMsg.held m) n x3 (SMsg.digest m) (SMsg.cert m) (SMsg.state m) (SMsg.n m) (SMsg.sig m)) k), false = true → false = true, q n, ∀ (k : Nat), k < n → SEnv.c (x3 k) = SEnv.c (SMsg.news (SMsg.mk (SMsg.kind m) x0 x1 x2 (SMsg.slot m) (SMsg.batch m) (SMsg.vote m) (SMsg.cepoch m) (SMsg.cleader m) (SMsg.cview m) (SMsg.nheld m) (SMsg.held m) n x3 (SMsg.digest m) (SMsg.cert m) (SMsg.state m) (SMsg.n m) (SMsg.sig m)) k), false = true → false = true, q (32 : Nat), q (SMsg.digest m), q (SVote.kind (SCert.vote (SMsg.cert m))), q (SVote.epoch (SCert.vote (SMsg.cert m))), q (SVote.view (SCert.vote (SMsg.cert m))), q (SVote.slot (SCert.vote (SMsg.cert m))), q (32 : Nat), q (SVote.digest (SCert.vote (SMsg.cert m))), q (SCert.n (SMsg.cert m)), ∀ (k : Nat), k < SCert.n (SMsg.cert m) → SSign.c (SCert.sig (SMsg.cert m) k) = SSign.c (SCert.sig (SMsg.cert m) k), false = true → false = true, q (SMsg.state m), q (SMsg.n m), ∀ (k : Nat), k < SMsg.n m → SSign.c (SMsg.sig m k) = SSign.c (SMsg.sig (SMsg.mk (SMsg.kind m) x0 x1 x2 (SMsg.slot m) (SMsg.batch m) (SMsg.vote m) (SMsg.cepoch m) (SMsg.cleader m) (SMsg.cview m) (SMsg.nheld m) (SMsg.held m) n x3 (SMsg.digest m) (SMsg.cert m) (SMsg.state m) (SMsg.n m) (SMsg.sig m)) k), false = true → false = true]) : Option (V × Heap × List Prop)) := by kernel_rfl

theorem bdF5_p00001 (m : SMsg) (s : RS) (t1 : RS) (t2 : RS) (x0 : Int) (x1 : List Int) :
  along Try.prog (bdF5 m s t1 t2 x0 x1) [false, false, false, false, true] = (some (.tup [], [(.o 0, .flat [.ptr (.o 1) 0 0 0 0, .bool (RS.bad t2)]), (.o 1, rdB t2), (.o 2, .flat (SMsg.c (SMsg.mk (SMsg.kind m) x0 (SMsg.leader m) (SMsg.view m) (SMsg.slot m) (SMsg.batch m) (SMsg.vote m) (SMsg.cepoch m) (SMsg.cleader m) (SMsg.cview m) (SMsg.nheld m) (SMsg.held m) (SMsg.nnews m) (SMsg.news m) x1 (SMsg.cert m) (SMsg.state m) (SMsg.n m) (SMsg.sig m))))], [decide (SMsg.kind m = (1 : Int)) = false, decide (SMsg.kind m = (2 : Int)) = false, decide (SMsg.kind m = (3 : Int)) = false, decide (SMsg.kind m = (4 : Int)) = false, decide (SMsg.kind m = (5 : Int)) = true, T Try.prog 62 [.ptr (.o 1) 0 0 0 0, .int .i64 1048576] [(.o 1, rdB s)] (.int .i64 x0) [(.o 1, rdB t1)], T Try.prog 104 [.ptr (.o 0) 0 0 0 0] [(.o 0, .flat [.ptr (.o 1) 0 0 0 0, .bool (RS.bad s)]), (.o 1, rdB t1)] (.agg [.seg .u8 32 x1]) [(.o 0, .flat [.ptr (.o 1) 0 0 0 0, .bool (RS.bad t2)]), (.o 1, rdB t2)], q0, q0, q0, q (RS.bad t2), q (List.length (RS.l t2)), ∀ (k : Nat), k < List.length (RS.l t2) → bl (RS.l t2) k = bl (RS.l t2) k, false = true → false = true, q (RS.e t2), q2, q (SMsg.kind m), q x0, q (SMsg.leader m), q (SMsg.view m), q (SMsg.slot m), q (SBatch.noop (SMsg.batch m)), q (SBatch.n (SMsg.batch m)), ∀ (k : Nat), k < SBatch.n (SMsg.batch m) → SReq.c (SBatch.req (SMsg.batch m) k) = SReq.c (SBatch.req (SMsg.batch m) k), false = true → false = true, q (SVote.kind (SMsg.vote m)), q (SVote.epoch (SMsg.vote m)), q (SVote.view (SMsg.vote m)), q (SVote.slot (SMsg.vote m)), q (32 : Nat), q (SVote.digest (SMsg.vote m)), q (SMsg.cepoch m), q (SMsg.cleader m), q (SMsg.cview m), q (SMsg.nheld m), ∀ (k : Nat), k < SMsg.nheld m → SHeld.c (SMsg.held m k) = SHeld.c (SMsg.held (SMsg.mk (SMsg.kind m) x0 (SMsg.leader m) (SMsg.view m) (SMsg.slot m) (SMsg.batch m) (SMsg.vote m) (SMsg.cepoch m) (SMsg.cleader m) (SMsg.cview m) (SMsg.nheld m) (SMsg.held m) (SMsg.nnews m) (SMsg.news m) x1 (SMsg.cert m) (SMsg.state m) (SMsg.n m) (SMsg.sig m)) k), false = true → false = true, q (SMsg.nnews m), ∀ (k : Nat), k < SMsg.nnews m → SEnv.c (SMsg.news m k) = SEnv.c (SMsg.news (SMsg.mk (SMsg.kind m) x0 (SMsg.leader m) (SMsg.view m) (SMsg.slot m) (SMsg.batch m) (SMsg.vote m) (SMsg.cepoch m) (SMsg.cleader m) (SMsg.cview m) (SMsg.nheld m) (SMsg.held m) (SMsg.nnews m) (SMsg.news m) x1 (SMsg.cert m) (SMsg.state m) (SMsg.n m) (SMsg.sig m)) k), false = true → false = true, q (32 : Nat), q x1, q (SVote.kind (SCert.vote (SMsg.cert m))), q (SVote.epoch (SCert.vote (SMsg.cert m))), q (SVote.view (SCert.vote (SMsg.cert m))), q (SVote.slot (SCert.vote (SMsg.cert m))), q (32 : Nat), q (SVote.digest (SCert.vote (SMsg.cert m))), q (SCert.n (SMsg.cert m)), ∀ (k : Nat), k < SCert.n (SMsg.cert m) → SSign.c (SCert.sig (SMsg.cert m) k) = SSign.c (SCert.sig (SMsg.cert m) k), false = true → false = true, q (SMsg.state m), q (SMsg.n m), ∀ (k : Nat), k < SMsg.n m → SSign.c (SMsg.sig m k) = SSign.c (SMsg.sig (SMsg.mk (SMsg.kind m) x0 (SMsg.leader m) (SMsg.view m) (SMsg.slot m) (SMsg.batch m) (SMsg.vote m) (SMsg.cepoch m) (SMsg.cleader m) (SMsg.cview m) (SMsg.nheld m) (SMsg.held m) (SMsg.nnews m) (SMsg.news m) x1 (SMsg.cert m) (SMsg.state m) (SMsg.n m) (SMsg.sig m)) k), false = true → false = true]) : Option (V × Heap × List Prop)) := by kernel_rfl

theorem bdF6_p000001 (m : SMsg) (s : RS) (t1 : RS) (t2 : RS) (x0 : Int) (x1 : Int) :
  along Try.prog (bdF6 m s t1 t2 x0 x1) [false, false, false, false, false, true] = (some (.tup [], [(.o 0, .flat [.ptr (.o 1) 0 0 0 0, .bool (RS.bad t2)]), (.o 1, rdB t2), (.o 2, .flat (SMsg.c (SMsg.mk (SMsg.kind m) x0 (SMsg.leader m) (SMsg.view m) x1 (SMsg.batch m) (SMsg.vote m) (SMsg.cepoch m) (SMsg.cleader m) (SMsg.cview m) (SMsg.nheld m) (SMsg.held m) (SMsg.nnews m) (SMsg.news m) (SMsg.digest m) (SMsg.cert m) (SMsg.state m) (SMsg.n m) (SMsg.sig m))))], [decide (SMsg.kind m = (1 : Int)) = false, decide (SMsg.kind m = (2 : Int)) = false, decide (SMsg.kind m = (3 : Int)) = false, decide (SMsg.kind m = (4 : Int)) = false, decide (SMsg.kind m = (5 : Int)) = false, decide (SMsg.kind m = (6 : Int)) = true, T Try.prog 62 [.ptr (.o 1) 0 0 0 0, .int .i64 1048576] [(.o 1, rdB s)] (.int .i64 x0) [(.o 1, rdB t1)], T Try.prog 62 [.ptr (.o 1) 0 0 0 0, .int .i64 1099511627776] [(.o 1, rdB t1)] (.int .i64 x1) [(.o 1, rdB t2)], q0, q0, q0, RS.bad s = RS.bad t2, q (List.length (RS.l t2)), ∀ (k : Nat), k < List.length (RS.l t2) → bl (RS.l t2) k = bl (RS.l t2) k, false = true → false = true, q (RS.e t2), q2, q (SMsg.kind m), q x0, q (SMsg.leader m), q (SMsg.view m), q x1, q (SBatch.noop (SMsg.batch m)), q (SBatch.n (SMsg.batch m)), ∀ (k : Nat), k < SBatch.n (SMsg.batch m) → SReq.c (SBatch.req (SMsg.batch m) k) = SReq.c (SBatch.req (SMsg.batch m) k), false = true → false = true, q (SVote.kind (SMsg.vote m)), q (SVote.epoch (SMsg.vote m)), q (SVote.view (SMsg.vote m)), q (SVote.slot (SMsg.vote m)), q (32 : Nat), q (SVote.digest (SMsg.vote m)), q (SMsg.cepoch m), q (SMsg.cleader m), q (SMsg.cview m), q (SMsg.nheld m), ∀ (k : Nat), k < SMsg.nheld m → SHeld.c (SMsg.held m k) = SHeld.c (SMsg.held (SMsg.mk (SMsg.kind m) x0 (SMsg.leader m) (SMsg.view m) x1 (SMsg.batch m) (SMsg.vote m) (SMsg.cepoch m) (SMsg.cleader m) (SMsg.cview m) (SMsg.nheld m) (SMsg.held m) (SMsg.nnews m) (SMsg.news m) (SMsg.digest m) (SMsg.cert m) (SMsg.state m) (SMsg.n m) (SMsg.sig m)) k), false = true → false = true, q (SMsg.nnews m), ∀ (k : Nat), k < SMsg.nnews m → SEnv.c (SMsg.news m k) = SEnv.c (SMsg.news (SMsg.mk (SMsg.kind m) x0 (SMsg.leader m) (SMsg.view m) x1 (SMsg.batch m) (SMsg.vote m) (SMsg.cepoch m) (SMsg.cleader m) (SMsg.cview m) (SMsg.nheld m) (SMsg.held m) (SMsg.nnews m) (SMsg.news m) (SMsg.digest m) (SMsg.cert m) (SMsg.state m) (SMsg.n m) (SMsg.sig m)) k), false = true → false = true, q (32 : Nat), q (SMsg.digest m), q (SVote.kind (SCert.vote (SMsg.cert m))), q (SVote.epoch (SCert.vote (SMsg.cert m))), q (SVote.view (SCert.vote (SMsg.cert m))), q (SVote.slot (SCert.vote (SMsg.cert m))), q (32 : Nat), q (SVote.digest (SCert.vote (SMsg.cert m))), q (SCert.n (SMsg.cert m)), ∀ (k : Nat), k < SCert.n (SMsg.cert m) → SSign.c (SCert.sig (SMsg.cert m) k) = SSign.c (SCert.sig (SMsg.cert m) k), false = true → false = true, q (SMsg.state m), q (SMsg.n m), ∀ (k : Nat), k < SMsg.n m → SSign.c (SMsg.sig m k) = SSign.c (SMsg.sig (SMsg.mk (SMsg.kind m) x0 (SMsg.leader m) (SMsg.view m) x1 (SMsg.batch m) (SMsg.vote m) (SMsg.cepoch m) (SMsg.cleader m) (SMsg.cview m) (SMsg.nheld m) (SMsg.held m) (SMsg.nnews m) (SMsg.news m) (SMsg.digest m) (SMsg.cert m) (SMsg.state m) (SMsg.n m) (SMsg.sig m)) k), false = true → false = true]) : Option (V × Heap × List Prop)) := by kernel_rfl

theorem bdF7_p0000001 (m : SMsg) (s : RS) (t1 : RS) (t2 : RS) (x0 : SBatch) (x1 : SCert) :
  along Try.prog (bdF7 m s t1 t2 x0 x1) [false, false, false, false, false, false, true] = (some (.tup [], [(.o 0, .flat [.ptr (.o 1) 0 0 0 0, .bool (RS.bad t2)]), (.o 1, rdB t2), (.o 2, .flat (SMsg.c (SMsg.mk (SMsg.kind m) (SMsg.epoch m) (SMsg.leader m) (SMsg.view m) (SMsg.slot m) x0 (SMsg.vote m) (SMsg.cepoch m) (SMsg.cleader m) (SMsg.cview m) (SMsg.nheld m) (SMsg.held m) (SMsg.nnews m) (SMsg.news m) (SMsg.digest m) x1 (SMsg.state m) (SMsg.n m) (SMsg.sig m))))], [decide (SMsg.kind m = (1 : Int)) = false, decide (SMsg.kind m = (2 : Int)) = false, decide (SMsg.kind m = (3 : Int)) = false, decide (SMsg.kind m = (4 : Int)) = false, decide (SMsg.kind m = (5 : Int)) = false, decide (SMsg.kind m = (6 : Int)) = false, decide (SMsg.kind m = (7 : Int)) = true, T Try.prog 87 [.ptr (.o 1) 0 0 0 0] [(.o 1, rdB s)] (.agg (SBatch.c x0)) [(.o 1, rdB t1)], T Try.prog 105 [.ptr (.o 0) 0 0 0 0] [(.o 0, .flat [.ptr (.o 1) 0 0 0 0, .bool (RS.bad s)]), (.o 1, rdB t1)] (.agg (SCert.c x1)) [(.o 0, .flat [.ptr (.o 1) 0 0 0 0, .bool (RS.bad t2)]), (.o 1, rdB t2)], q0, q0, q0, q (RS.bad t2), q (List.length (RS.l t2)), ∀ (k : Nat), k < List.length (RS.l t2) → bl (RS.l t2) k = bl (RS.l t2) k, false = true → false = true, q (RS.e t2), q2, q (SMsg.kind m), q (SMsg.epoch m), q (SMsg.leader m), q (SMsg.view m), q (SMsg.slot m), q (SBatch.noop x0), q (SBatch.n x0), ∀ (k : Nat), k < SBatch.n x0 → SReq.c (SBatch.req x0 k) = SReq.c (SBatch.req x0 k), false = true → false = true, q (SVote.kind (SMsg.vote m)), q (SVote.epoch (SMsg.vote m)), q (SVote.view (SMsg.vote m)), q (SVote.slot (SMsg.vote m)), q (32 : Nat), q (SVote.digest (SMsg.vote m)), q (SMsg.cepoch m), q (SMsg.cleader m), q (SMsg.cview m), q (SMsg.nheld m), ∀ (k : Nat), k < SMsg.nheld m → SHeld.c (SMsg.held m k) = SHeld.c (SMsg.held (SMsg.mk (SMsg.kind m) (SMsg.epoch m) (SMsg.leader m) (SMsg.view m) (SMsg.slot m) x0 (SMsg.vote m) (SMsg.cepoch m) (SMsg.cleader m) (SMsg.cview m) (SMsg.nheld m) (SMsg.held m) (SMsg.nnews m) (SMsg.news m) (SMsg.digest m) x1 (SMsg.state m) (SMsg.n m) (SMsg.sig m)) k), false = true → false = true, q (SMsg.nnews m), ∀ (k : Nat), k < SMsg.nnews m → SEnv.c (SMsg.news m k) = SEnv.c (SMsg.news (SMsg.mk (SMsg.kind m) (SMsg.epoch m) (SMsg.leader m) (SMsg.view m) (SMsg.slot m) x0 (SMsg.vote m) (SMsg.cepoch m) (SMsg.cleader m) (SMsg.cview m) (SMsg.nheld m) (SMsg.held m) (SMsg.nnews m) (SMsg.news m) (SMsg.digest m) x1 (SMsg.state m) (SMsg.n m) (SMsg.sig m)) k), false = true → false = true, q (32 : Nat), q (SMsg.digest m), q (SVote.kind (SCert.vote x1)), q (SVote.epoch (SCert.vote x1)), q (SVote.view (SCert.vote x1)), q (SVote.slot (SCert.vote x1)), q (32 : Nat), q (SVote.digest (SCert.vote x1)), q (SCert.n x1), ∀ (k : Nat), k < SCert.n x1 → SSign.c (SCert.sig x1 k) = SSign.c (SCert.sig x1 k), false = true → false = true, q (SMsg.state m), q (SMsg.n m), ∀ (k : Nat), k < SMsg.n m → SSign.c (SMsg.sig m k) = SSign.c (SMsg.sig (SMsg.mk (SMsg.kind m) (SMsg.epoch m) (SMsg.leader m) (SMsg.view m) (SMsg.slot m) x0 (SMsg.vote m) (SMsg.cepoch m) (SMsg.cleader m) (SMsg.cview m) (SMsg.nheld m) (SMsg.held m) (SMsg.nnews m) (SMsg.news m) (SMsg.digest m) x1 (SMsg.state m) (SMsg.n m) (SMsg.sig m)) k), false = true → false = true]) : Option (V × Heap × List Prop)) := by kernel_rfl

theorem bdF8_p00000001 (m : SMsg) (s : RS) (t1 : RS) (t2 : RS) (n : Nat) (x0 : ByteArray) (x1 : Nat → SSign) :
  along Try.prog (bdF8 m s t1 t2 n x0 x1) [false, false, false, false, false, false, false, true] = (some (.tup [], [(.o 0, .flat [.ptr (.o 1) 0 0 0 0, .bool (RS.bad t2)]), (.o 1, rdB t2), (.o 2, .flat (SMsg.c (SMsg.mk (SMsg.kind m) (SMsg.epoch m) (SMsg.leader m) (SMsg.view m) (SMsg.slot m) (SMsg.batch m) (SMsg.vote m) (SMsg.cepoch m) (SMsg.cleader m) (SMsg.cview m) (SMsg.nheld m) (SMsg.held m) (SMsg.nnews m) (SMsg.news m) (SMsg.digest m) (SMsg.cert m) x0 n x1)))], [decide (SMsg.kind m = (1 : Int)) = false, decide (SMsg.kind m = (2 : Int)) = false, decide (SMsg.kind m = (3 : Int)) = false, decide (SMsg.kind m = (4 : Int)) = false, decide (SMsg.kind m = (5 : Int)) = false, decide (SMsg.kind m = (6 : Int)) = false, decide (SMsg.kind m = (7 : Int)) = false, decide (SMsg.kind m = (8 : Int)) = true, T Try.prog 88 [.ptr (.o 1) 0 0 0 0, .int .i64 4194304] [(.o 1, rdB s)] (.str x0) [(.o 1, rdB t1)], T Try.prog 106 [.ptr (.o 0) 0 0 0 0, .int .i64 64, .fn (.func 107) [.ptr (.o 0) 0 0 0 0] []] [(.o 0, .flat [.ptr (.o 1) 0 0 0 0, .bool (RS.bad s)]), (.o 1, rdB t1)] (sg n x1) [(.o 0, .flat [.ptr (.o 1) 0 0 0 0, .bool (RS.bad t2)]), (.o 1, rdB t2)], q0, q0, q0, q (RS.bad t2), q (List.length (RS.l t2)), ∀ (k : Nat), k < List.length (RS.l t2) → bl (RS.l t2) k = bl (RS.l t2) k, false = true → false = true, q (RS.e t2), q2, q (SMsg.kind m), q (SMsg.epoch m), q (SMsg.leader m), q (SMsg.view m), q (SMsg.slot m), q (SBatch.noop (SMsg.batch m)), q (SBatch.n (SMsg.batch m)), ∀ (k : Nat), k < SBatch.n (SMsg.batch m) → SReq.c (SBatch.req (SMsg.batch m) k) = SReq.c (SBatch.req (SMsg.batch m) k), false = true → false = true, q (SVote.kind (SMsg.vote m)), q (SVote.epoch (SMsg.vote m)), q (SVote.view (SMsg.vote m)), q (SVote.slot (SMsg.vote m)), q (32 : Nat), q (SVote.digest (SMsg.vote m)), q (SMsg.cepoch m), q (SMsg.cleader m), q (SMsg.cview m), q (SMsg.nheld m), ∀ (k : Nat), k < SMsg.nheld m → SHeld.c (SMsg.held m k) = SHeld.c (SMsg.held (SMsg.mk (SMsg.kind m) (SMsg.epoch m) (SMsg.leader m) (SMsg.view m) (SMsg.slot m) (SMsg.batch m) (SMsg.vote m) (SMsg.cepoch m) (SMsg.cleader m) (SMsg.cview m) (SMsg.nheld m) (SMsg.held m) (SMsg.nnews m) (SMsg.news m) (SMsg.digest m) (SMsg.cert m) x0 n x1) k), false = true → false = true, q (SMsg.nnews m), ∀ (k : Nat), k < SMsg.nnews m → SEnv.c (SMsg.news m k) = SEnv.c (SMsg.news (SMsg.mk (SMsg.kind m) (SMsg.epoch m) (SMsg.leader m) (SMsg.view m) (SMsg.slot m) (SMsg.batch m) (SMsg.vote m) (SMsg.cepoch m) (SMsg.cleader m) (SMsg.cview m) (SMsg.nheld m) (SMsg.held m) (SMsg.nnews m) (SMsg.news m) (SMsg.digest m) (SMsg.cert m) x0 n x1) k), false = true → false = true, q (32 : Nat), q (SMsg.digest m), q (SVote.kind (SCert.vote (SMsg.cert m))), q (SVote.epoch (SCert.vote (SMsg.cert m))), q (SVote.view (SCert.vote (SMsg.cert m))), q (SVote.slot (SCert.vote (SMsg.cert m))), q (32 : Nat), q (SVote.digest (SCert.vote (SMsg.cert m))), q (SCert.n (SMsg.cert m)), ∀ (k : Nat), k < SCert.n (SMsg.cert m) → SSign.c (SCert.sig (SMsg.cert m) k) = SSign.c (SCert.sig (SMsg.cert m) k), false = true → false = true, q x0, q n, ∀ (k : Nat), k < n → SSign.c (x1 k) = SSign.c (SMsg.sig (SMsg.mk (SMsg.kind m) (SMsg.epoch m) (SMsg.leader m) (SMsg.view m) (SMsg.slot m) (SMsg.batch m) (SMsg.vote m) (SMsg.cepoch m) (SMsg.cleader m) (SMsg.cview m) (SMsg.nheld m) (SMsg.held m) (SMsg.nnews m) (SMsg.news m) (SMsg.digest m) (SMsg.cert m) x0 n x1) k), false = true → false = true]) : Option (V × Heap × List Prop)) := by kernel_rfl

theorem bdF9_p00000000 (m : SMsg) (s : RS) :
  along Try.prog (bdF9 m s) [false, false, false, false, false, false, false, false] = (some (.tup [], [(.o 0, .flat [.ptr (.o 1) 0 0 0 0, .bool (RS.bad s)]), (.o 1, rdB s), (.o 2, .flat (SMsg.c m))], [decide (SMsg.kind m = (1 : Int)) = false, decide (SMsg.kind m = (2 : Int)) = false, decide (SMsg.kind m = (3 : Int)) = false, decide (SMsg.kind m = (4 : Int)) = false, decide (SMsg.kind m = (5 : Int)) = false, decide (SMsg.kind m = (6 : Int)) = false, decide (SMsg.kind m = (7 : Int)) = false, decide (SMsg.kind m = (8 : Int)) = false, q0, q0, q0, q (RS.bad s), q (List.length (RS.l s)), ∀ (k : Nat), k < List.length (RS.l s) → bl (RS.l s) k = bl (RS.l s) k, false = true → false = true, q (RS.e s), q2, q (SMsg.kind m), q (SMsg.epoch m), q (SMsg.leader m), q (SMsg.view m), q (SMsg.slot m), q (SBatch.noop (SMsg.batch m)), q (SBatch.n (SMsg.batch m)), ∀ (k : Nat), k < SBatch.n (SMsg.batch m) → SReq.c (SBatch.req (SMsg.batch m) k) = SReq.c (SBatch.req (SMsg.batch m) k), false = true → false = true, q (SVote.kind (SMsg.vote m)), q (SVote.epoch (SMsg.vote m)), q (SVote.view (SMsg.vote m)), q (SVote.slot (SMsg.vote m)), q (32 : Nat), q (SVote.digest (SMsg.vote m)), q (SMsg.cepoch m), q (SMsg.cleader m), q (SMsg.cview m), q (SMsg.nheld m), ∀ (k : Nat), k < SMsg.nheld m → SHeld.c (SMsg.held m k) = SHeld.c (SMsg.held m k), false = true → false = true, q (SMsg.nnews m), ∀ (k : Nat), k < SMsg.nnews m → SEnv.c (SMsg.news m k) = SEnv.c (SMsg.news m k), false = true → false = true, q (32 : Nat), q (SMsg.digest m), q (SVote.kind (SCert.vote (SMsg.cert m))), q (SVote.epoch (SCert.vote (SMsg.cert m))), q (SVote.view (SCert.vote (SMsg.cert m))), q (SVote.slot (SCert.vote (SMsg.cert m))), q (32 : Nat), q (SVote.digest (SCert.vote (SMsg.cert m))), q (SCert.n (SMsg.cert m)), ∀ (k : Nat), k < SCert.n (SMsg.cert m) → SSign.c (SCert.sig (SMsg.cert m) k) = SSign.c (SCert.sig (SMsg.cert m) k), false = true → false = true, q (SMsg.state m), q (SMsg.n m), ∀ (k : Nat), k < SMsg.n m → SSign.c (SMsg.sig m k) = SSign.c (SMsg.sig m k), false = true → false = true]) : Option (V × Heap × List Prop)) := by kernel_rfl

theorem getS_aft {α : Type} {one : RS → α × RS} (h : ∀ s, Aft s (one s).2) (most : Int) (s : RS) : Aft s (getS one most s) :=
 (numR_after most s).aft.trans (stR_aft h _ _)
theorem T_getS {most : Int} (hm : 0 ≤ most ∧ most ≤ 1000) (s : RS) (hl : s.l.length ≤ 1000000000) : T Try.prog 106 [p0, .int .i64 most, .fn (.func 107) [p0] []] (mrH 0 1 s) (sg (getN signR most s) (getEl signR most s)) (mrH 0 1 (getS signR most s)) :=
 T_gtSg hm s hl (el := getEl signR most s) (st := stR signR (numR most s).2) rfl (fun k _ h => T_signR _ h) (fun k => Nat.le_trans (stR_aft (fun s => (signR_after s).aft) _ k).1 (Nat.le_trans (numR_after most s).1 hl)) (cntR_le _ _ _) (fun k h => cntR_ok _ _ _ k h) (cntR_end _ _ _)
theorem T_getE {most : Int} (hm : 0 ≤ most ∧ most ≤ 1000) (s : RS) (hl : s.l.length ≤ 1000000000) : T Try.prog 102 [p0, .int .i64 most, .fn (.func 103) [p0] []] (mrH 0 1 s) (nw (getN envR most s) (getEl envR most s)) (mrH 0 1 (getS envR most s)) :=
 T_gtNw hm s hl (el := getEl envR most s) (st := stR envR (numR most s).2) rfl (fun k _ h => T_envR _ h) (fun k => Nat.le_trans (stR_aft (fun s => (envR_after s).aft) _ k).1 (Nat.le_trans (numR_after most s).1 hl)) (cntR_le _ _ _) (fun k h => cntR_ok _ _ _ k h) (cntR_end _ _ _)
theorem certR_aft (s : RS) : Aft s (certR s).2 := (voteR_aft s).trans (getS_aft (fun s => (signR_after s).aft) _ _)
theorem T_certR (s : RS) (hl : s.l.length ≤ 1000000000) : T Try.prog 105 [p0] (mrH 0 1 s) (.agg (certR s).1.c) (mrH 0 1 (certR s).2) := by
 refine T_al (bdCtR_p s (voteR s).2 (certR s).2 (voteR s).1 (getN signR 64 (voteR s).2) (getEl signR 64 (voteR s).2)) Try.func105 ?_
 simp only [All]; and_intros
 all_goals first
  | exact T_voteR s hl
  | exact T_getS (by decide) _ (Nat.le_trans (voteR_aft s).1 hl)
  | trivial
  | rfl
  | (intro _ _; exact ⟨_, rfl⟩)
  | (intro _ _; rfl)
  | simp
theorem heldR_aft (s : RS) : Aft s (heldR s).2 := (batchR_after s).aft.trans (certR_aft _)
theorem T_heldR (s : RS) (hl : s.l.length ≤ 1000000000) : T Try.prog 101 [p0] (mrH 0 1 s) (.agg (heldR s).1.c) (mrH 0 1 (heldR s).2) := by
 have b := batchR_after s
 refine T_al (bdHdR_p s (batchR s).2 (heldR s).2 (batchR s).1 (certR (batchR s).2).1) Try.func101 ?_
 simp only [All]; and_intros
 all_goals first
  | exact T_batR 1 s hl
  | exact T.heap (T_certR _ (Nat.le_trans b.1 hl)) (mrHb_eq b.2.1).symm
  | trivial
  | rfl
  | (intro _ _; exact ⟨_, rfl⟩)
  | (intro _ _; rfl)
  | simp
theorem T_getH {most : Int} (hm : 0 ≤ most ∧ most ≤ 1000) (s : RS) (hl : s.l.length ≤ 1000000000) : T Try.prog 100 [p0, .int .i64 most, .fn (.func 101) [p0] []] (mrH 0 1 s) (Sy.hl (getN heldR most s) (getEl heldR most s)) (mrH 0 1 (getS heldR most s)) :=
 T_gtHl hm s hl (el := getEl heldR most s) (st := stR heldR (numR most s).2) rfl (fun k _ h => T_heldR _ h) (fun k => Nat.le_trans (stR_aft heldR_aft _ k).1 (Nat.le_trans (numR_after most s).1 hl)) (cntR_le _ _ _) (fun k h => cntR_ok _ _ _ k h) (cntR_end _ _ _)
theorem T_fl1 {m : SMsg} (s : RS) (hl : s.l.length ≤ 1000000000) (hk : m.kind = 1) : T Try.prog 64 [p0, .ptr (.o 2) 0 0 0 0] (mrH 0 1 s ++ [(.o 2, .flat m.c)]) (.tup []) (mrH 0 1 (fld1 m s).2 ++ [(.o 2, .flat (fld1 m s).1.c)]) := by
 have a1 : Aft s (f1S1 s) := ((numR_after _ _).aft : Aft s (f1S1 s))
 have l1 : (f1S1 s).l.length ≤ 1000000000 := Nat.le_trans a1.1 hl
 have a2 : Aft s (f1S2 s) := a1.trans ((numR_after _ _).aft)
 have l2 : (f1S2 s).l.length ≤ 1000000000 := Nat.le_trans a2.1 hl
 have a3 : Aft s (f1S3 s) := a2.trans ((batchR_after _).aft)
 have l3 : (f1S3 s).l.length ≤ 1000000000 := Nat.le_trans a3.1 hl
 have b1 : (f1S1 s).bad = s.bad := ((numR_after _ _).2.1 : (f1S1 s).bad = s.bad)
 have b2 : (f1S2 s).bad = s.bad := ((numR_after _ _).2.1 : (f1S2 s).bad = (f1S1 s).bad).trans b1
 have b3 : (f1S3 s).bad = s.bad := ((batchR_after _).2.1 : (f1S3 s).bad = (f1S2 s).bad).trans b2
 refine T_al (bdF1_p1 m s (f1S1 s) (f1S2 s) (f1S3 s)  ((numR 1048576 s).1) ((numR 1099511627776 (f1S1 s)).1) ((batchR (f1S2 s)).1)) Try.func64 ?_
 simp only [All]; and_intros
 all_goals first
  | exact T_num 1 _ _
  | exact T_num 1 _ _
  | exact T_batR 1 _ l2
  | exact b3.symm
  | (rw [hk]; rfl)
  | trivial
  | rfl
  | (intro _ _; exact ⟨_, rfl⟩)
  | (intro _ _; rfl)
  | (simp [hk]; done)
theorem T_fl2 {m : SMsg} (s : RS) (hl : s.l.length ≤ 1000000000) (hk : m.kind = 2) : T Try.prog 64 [p0, .ptr (.o 2) 0 0 0 0] (mrH 0 1 s ++ [(.o 2, .flat m.c)]) (.tup []) (mrH 0 1 (fld2 m s).2 ++ [(.o 2, .flat (fld2 m s).1.c)]) := by
 have a1 : Aft s (f2S1 s) := (voteR_aft _ : Aft s (f2S1 s))
 have l1 : (f2S1 s).l.length ≤ 1000000000 := Nat.le_trans a1.1 hl
 refine T_al (bdF2_p01 m s (f2S1 s)  ((voteR s).1)) Try.func64 ?_
 simp only [All]; and_intros
 all_goals first
  | exact T_voteR _ hl
  | (rw [hk]; rfl)
  | trivial
  | rfl
  | (intro _ _; exact ⟨_, rfl⟩)
  | (intro _ _; rfl)
  | (simp [hk]; done)
theorem T_fl3 {m : SMsg} (s : RS) (hl : s.l.length ≤ 1000000000) (hk : m.kind = 3) : T Try.prog 64 [p0, .ptr (.o 2) 0 0 0 0] (mrH 0 1 s ++ [(.o 2, .flat m.c)]) (.tup []) (mrH 0 1 (fld3 m s).2 ++ [(.o 2, .flat (fld3 m s).1.c)]) := by
 have a1 : Aft s (f3S1 s) := ((numR_after _ _).aft : Aft s (f3S1 s))
 have l1 : (f3S1 s).l.length ≤ 1000000000 := Nat.le_trans a1.1 hl
 have a2 : Aft s (f3S2 s) := a1.trans ((numR_after _ _).aft)
 have l2 : (f3S2 s).l.length ≤ 1000000000 := Nat.le_trans a2.1 hl
 have a3 : Aft s (f3S3 s) := a2.trans ((numR_after _ _).aft)
 have l3 : (f3S3 s).l.length ≤ 1000000000 := Nat.le_trans a3.1 hl
 have a4 : Aft s (f3S4 s) := a3.trans (getS_aft heldR_aft _ _)
 have l4 : (f3S4 s).l.length ≤ 1000000000 := Nat.le_trans a4.1 hl
 have b1 : (f3S1 s).bad = s.bad := ((numR_after _ _).2.1 : (f3S1 s).bad = s.bad)
 have b2 : (f3S2 s).bad = s.bad := ((numR_after _ _).2.1 : (f3S2 s).bad = (f3S1 s).bad).trans b1
 have b3 : (f3S3 s).bad = s.bad := ((numR_after _ _).2.1 : (f3S3 s).bad = (f3S2 s).bad).trans b2
 refine T_al (bdF3_p001 m s (f3S1 s) (f3S2 s) (f3S3 s) (f3S4 s) (getN heldR 4 (f3S3 s))  ((numR 1048576 s).1) ((numR 64 (f3S1 s)).1) ((numR 1099511627776 (f3S2 s)).1) (getEl heldR 4 (f3S3 s))) Try.func64 ?_
 simp only [All]; and_intros
 all_goals first
  | exact T_num 1 _ _
  | exact T_num 1 _ _
  | exact T_num 1 _ _
  | exact T.heap (T_getH (by decide) _ l3) (mrHb_eq b3).symm
  | (rw [hk]; rfl)
  | trivial
  | rfl
  | (intro _ _; exact ⟨_, rfl⟩)
  | (intro _ _; rfl)
  | (simp [hk]; done)
theorem T_fl4 {m : SMsg} (s : RS) (hl : s.l.length ≤ 1000000000) (hk : m.kind = 4) : T Try.prog 64 [p0, .ptr (.o 2) 0 0 0 0] (mrH 0 1 s ++ [(.o 2, .flat m.c)]) (.tup []) (mrH 0 1 (fld4 m s).2 ++ [(.o 2, .flat (fld4 m s).1.c)]) := by
 have a1 : Aft s (f4S1 s) := ((numR_after _ _).aft : Aft s (f4S1 s))
 have l1 : (f4S1 s).l.length ≤ 1000000000 := Nat.le_trans a1.1 hl
 have a2 : Aft s (f4S2 s) := a1.trans ((numR_after _ _).aft)
 have l2 : (f4S2 s).l.length ≤ 1000000000 := Nat.le_trans a2.1 hl
 have a3 : Aft s (f4S3 s) := a2.trans ((numR_after _ _).aft)
 have l3 : (f4S3 s).l.length ≤ 1000000000 := Nat.le_trans a3.1 hl
 have a4 : Aft s (f4S4 s) := a3.trans (getS_aft (fun s => (envR_after s).aft) _ _)
 have l4 : (f4S4 s).l.length ≤ 1000000000 := Nat.le_trans a4.1 hl
 have b1 : (f4S1 s).bad = s.bad := ((numR_after _ _).2.1 : (f4S1 s).bad = s.bad)
 have b2 : (f4S2 s).bad = s.bad := ((numR_after _ _).2.1 : (f4S2 s).bad = (f4S1 s).bad).trans b1
 have b3 : (f4S3 s).bad = s.bad := ((numR_after _ _).2.1 : (f4S3 s).bad = (f4S2 s).bad).trans b2
 refine T_al (bdF4_p0001 m s (f4S1 s) (f4S2 s) (f4S3 s) (f4S4 s) (getN envR 64 (f4S3 s))  ((numR 1048576 s).1) ((numR 64 (f4S1 s)).1) ((numR 1099511627776 (f4S2 s)).1) (getEl envR 64 (f4S3 s))) Try.func64 ?_
 simp only [All]; and_intros
 all_goals first
  | exact T_num 1 _ _
  | exact T_num 1 _ _
  | exact T_num 1 _ _
  | exact T.heap (T_getE (by decide) _ l3) (mrHb_eq b3).symm
  | (rw [hk]; rfl)
  | trivial
  | rfl
  | (intro _ _; exact ⟨_, rfl⟩)
  | (intro _ _; rfl)
  | (simp [hk]; done)
theorem T_fl5 {m : SMsg} (s : RS) (hl : s.l.length ≤ 1000000000) (hk : m.kind = 5) : T Try.prog 64 [p0, .ptr (.o 2) 0 0 0 0] (mrH 0 1 s ++ [(.o 2, .flat m.c)]) (.tup []) (mrH 0 1 (fld5 m s).2 ++ [(.o 2, .flat (fld5 m s).1.c)]) := by
 have a1 : Aft s (f5S1 s) := ((numR_after _ _).aft : Aft s (f5S1 s))
 have l1 : (f5S1 s).l.length ≤ 1000000000 := Nat.le_trans a1.1 hl
 have a2 : Aft s (f5S2 s) := a1.trans ((digR_after _).aft)
 have l2 : (f5S2 s).l.length ≤ 1000000000 := Nat.le_trans a2.1 hl
 have b1 : (f5S1 s).bad = s.bad := ((numR_after _ _).2.1 : (f5S1 s).bad = s.bad)
 refine T_al (bdF5_p00001 m s (f5S1 s) (f5S2 s)  ((numR 1048576 s).1) ((digR (f5S1 s)).1)) Try.func64 ?_
 simp only [All]; and_intros
 all_goals first
  | exact T_num 1 _ _
  | exact T.heap (T_digR _ l1) (mrHb_eq b1).symm
  | (rw [hk]; rfl)
  | trivial
  | rfl
  | (intro _ _; exact ⟨_, rfl⟩)
  | (intro _ _; rfl)
  | (simp [hk]; done)
theorem T_fl6 {m : SMsg} (s : RS) (hl : s.l.length ≤ 1000000000) (hk : m.kind = 6) : T Try.prog 64 [p0, .ptr (.o 2) 0 0 0 0] (mrH 0 1 s ++ [(.o 2, .flat m.c)]) (.tup []) (mrH 0 1 (fld6 m s).2 ++ [(.o 2, .flat (fld6 m s).1.c)]) := by
 have a1 : Aft s (f6S1 s) := ((numR_after _ _).aft : Aft s (f6S1 s))
 have l1 : (f6S1 s).l.length ≤ 1000000000 := Nat.le_trans a1.1 hl
 have a2 : Aft s (f6S2 s) := a1.trans ((numR_after _ _).aft)
 have l2 : (f6S2 s).l.length ≤ 1000000000 := Nat.le_trans a2.1 hl
 have b1 : (f6S1 s).bad = s.bad := ((numR_after _ _).2.1 : (f6S1 s).bad = s.bad)
 have b2 : (f6S2 s).bad = s.bad := ((numR_after _ _).2.1 : (f6S2 s).bad = (f6S1 s).bad).trans b1
 refine T_al (bdF6_p000001 m s (f6S1 s) (f6S2 s)  ((numR 1048576 s).1) ((numR 1099511627776 (f6S1 s)).1)) Try.func64 ?_
 simp only [All]; and_intros
 all_goals first
  | exact T_num 1 _ _
  | exact T_num 1 _ _
  | exact b2.symm
  | (rw [hk]; rfl)
  | trivial
  | rfl
  | (intro _ _; exact ⟨_, rfl⟩)
  | (intro _ _; rfl)
  | (simp [hk]; done)
theorem T_fl7 {m : SMsg} (s : RS) (hl : s.l.length ≤ 1000000000) (hk : m.kind = 7) : T Try.prog 64 [p0, .ptr (.o 2) 0 0 0 0] (mrH 0 1 s ++ [(.o 2, .flat m.c)]) (.tup []) (mrH 0 1 (fld7 m s).2 ++ [(.o 2, .flat (fld7 m s).1.c)]) := by
 have a1 : Aft s (f7S1 s) := ((batchR_after _).aft : Aft s (f7S1 s))
 have l1 : (f7S1 s).l.length ≤ 1000000000 := Nat.le_trans a1.1 hl
 have a2 : Aft s (f7S2 s) := a1.trans (certR_aft _)
 have l2 : (f7S2 s).l.length ≤ 1000000000 := Nat.le_trans a2.1 hl
 have b1 : (f7S1 s).bad = s.bad := ((batchR_after _).2.1 : (f7S1 s).bad = s.bad)
 refine T_al (bdF7_p0000001 m s (f7S1 s) (f7S2 s)  ((batchR s).1) ((certR (f7S1 s)).1)) Try.func64 ?_
 simp only [All]; and_intros
 all_goals first
  | exact T_batR 1 _ hl
  | exact T.heap (T_certR _ l1) (mrHb_eq b1).symm
  | (rw [hk]; rfl)
  | trivial
  | rfl
  | (intro _ _; exact ⟨_, rfl⟩)
  | (intro _ _; rfl)
  | (simp [hk]; done)
theorem T_fl8 {m : SMsg} (s : RS) (hl : s.l.length ≤ 1000000000) (hk : m.kind = 8) : T Try.prog 64 [p0, .ptr (.o 2) 0 0 0 0] (mrH 0 1 s ++ [(.o 2, .flat m.c)]) (.tup []) (mrH 0 1 (fld8 m s).2 ++ [(.o 2, .flat (fld8 m s).1.c)]) := by
 have a1 : Aft s (f8S1 s) := ((textR_after _ _).aft : Aft s (f8S1 s))
 have l1 : (f8S1 s).l.length ≤ 1000000000 := Nat.le_trans a1.1 hl
 have a2 : Aft s (f8S2 s) := a1.trans (getS_aft (fun s => (signR_after s).aft) _ _)
 have l2 : (f8S2 s).l.length ≤ 1000000000 := Nat.le_trans a2.1 hl
 have b1 : (f8S1 s).bad = s.bad := ((textR_after _ _).2.1 : (f8S1 s).bad = s.bad)
 refine T_al (bdF8_p00000001 m s (f8S1 s) (f8S2 s) (getN signR 64 (f8S1 s))  ((textR 4194304 s).1) (getEl signR 64 (f8S1 s))) Try.func64 ?_
 simp only [All]; and_intros
 all_goals first
  | exact T_textR 1 _ _ hl
  | exact T.heap (T_getS (by decide) _ l1) (mrHb_eq b1).symm
  | (rw [hk]; rfl)
  | trivial
  | rfl
  | (intro _ _; exact ⟨_, rfl⟩)
  | (intro _ _; rfl)
  | (simp [hk]; done)
theorem T_fl9 {m : SMsg} (s : RS) (hk : m.kind < 1 ∨ 8 < m.kind) : T Try.prog 64 [p0, .ptr (.o 2) 0 0 0 0] (mrH 0 1 s ++ [(.o 2, .flat m.c)]) (.tup []) (mrH 0 1 s ++ [(.o 2, .flat m.c)]) := by
 refine T_al (bdF9_p00000000 m s) Try.func64 ?_
 simp only [All]; and_intros
 all_goals first
  | (rw [decide_eq_false_iff_not]; omega)
  | trivial
  | rfl
  | (intro _ _; trivial)
  | (intro _ _; rfl)
theorem fieldsR_aft (m : SMsg) (s : RS) : Aft s (fieldsR m s).2 := by
 unfold fieldsR
 repeat' split
 ·exact (((numR_after _ _).aft).trans ((numR_after _ _).aft)).trans ((batchR_after _).aft)
 ·exact voteR_aft _
 ·exact ((((numR_after _ _).aft).trans ((numR_after _ _).aft)).trans ((numR_after _ _).aft)).trans (getS_aft heldR_aft _ _)
 ·exact ((((numR_after _ _).aft).trans ((numR_after _ _).aft)).trans ((numR_after _ _).aft)).trans (getS_aft (fun s => (envR_after s).aft) _ _)
 ·exact ((numR_after _ _).aft).trans ((digR_after _).aft)
 ·exact ((numR_after _ _).aft).trans ((numR_after _ _).aft)
 ·exact ((batchR_after _).aft).trans (certR_aft _)
 ·exact ((textR_after _ _).aft).trans (getS_aft (fun s => (signR_after s).aft) _ _)
 ·exact Aft.refl s
theorem T_fields0 (m : SMsg) (s : RS) (hl : s.l.length ≤ 1000000000) : T Try.prog 64 [p0, .ptr (.o 2) 0 0 0 0] (mrH 0 1 s ++ [(.o 2, .flat m.c)]) (.tup []) (mrH 0 1 (fieldsR m s).2 ++ [(.o 2, .flat (fieldsR m s).1.c)]) := by
 by_cases h1 : m.kind = 1
 ·have e : fieldsR m s = fld1 m s := by simp only [fieldsR, if_pos h1]
  rw [e]; exact T_fl1 s hl h1
 by_cases h2 : m.kind = 2
 ·have e : fieldsR m s = fld2 m s := by simp only [fieldsR, if_neg h1, if_pos h2]
  rw [e]; exact T_fl2 s hl h2
 by_cases h3 : m.kind = 3
 ·have e : fieldsR m s = fld3 m s := by simp only [fieldsR, if_neg h1, if_neg h2, if_pos h3]
  rw [e]; exact T_fl3 s hl h3
 by_cases h4 : m.kind = 4
 ·have e : fieldsR m s = fld4 m s := by simp only [fieldsR, if_neg h1, if_neg h2, if_neg h3, if_pos h4]
  rw [e]; exact T_fl4 s hl h4
 by_cases h5 : m.kind = 5
 ·have e : fieldsR m s = fld5 m s := by simp only [fieldsR, if_neg h1, if_neg h2, if_neg h3, if_neg h4, if_pos h5]
  rw [e]; exact T_fl5 s hl h5
 by_cases h6 : m.kind = 6
 ·have e : fieldsR m s = fld6 m s := by simp only [fieldsR, if_neg h1, if_neg h2, if_neg h3, if_neg h4, if_neg h5, if_pos h6]
  rw [e]; exact T_fl6 s hl h6
 by_cases h7 : m.kind = 7
 ·have e : fieldsR m s = fld7 m s := by simp only [fieldsR, if_neg h1, if_neg h2, if_neg h3, if_neg h4, if_neg h5, if_neg h6, if_pos h7]
  rw [e]; exact T_fl7 s hl h7
 by_cases h8 : m.kind = 8
 ·have e : fieldsR m s = fld8 m s := by simp only [fieldsR, if_neg h1, if_neg h2, if_neg h3, if_neg h4, if_neg h5, if_neg h6, if_neg h7, if_pos h8]
  rw [e]; exact T_fl8 s hl h8
 have e : fieldsR m s = (m, s) := by simp only [fieldsR, if_neg h1, if_neg h2, if_neg h3, if_neg h4, if_neg h5, if_neg h6, if_neg h7, if_neg h8]
 rw [e]; exact T_fl9 s (by omega)
end Go.Proofs.Ythifjamdfpjilaa
namespace Go.Proofs.Ythifjamdfpjilaa
open Go Sy Go.Proofs
def stD (k : Int) (s1 : RS) : St := ⟨mkT 53 [(2, .ptr (.o 8) 0 0 0 0), (3, .int .i64 0), (4, .ptr (.o 5) 0 0 0 0), (5, .ptr (.o 7) 0 0 0 0)], mrH 5 6 s1 ++ [(.o 7, .flat (msg0 k).c), (.o 8, .flat (msg0 0).c)], 9, []⟩
def fxD (k : Int) (s1 : RS) : Nat → St → List Hint := fun id t => bif Nat.beq id 7 then match getV t.tmps 4 with
  | .ptr r _ _ _ _ => match getV t.tmps 5 with
   | .ptr q _ _ _ _ => match getV t.tmps 2 with
    | .ptr c _ _ _ _ => match pull r t.heap with
     | some (.flat (.ptr a _ _ _ _ :: _), _) => [.wk (wToS [(.o 5, r), (.o 6, a), (.o 7, q), (.o 8, c)] (stD k s1))]
     | _ => []
    | _ => []
   | _ => []
  | _ => []
 else []
def kDec (r : SMsg) (e : Int) : Exit → St → Option W := fun _ t => match getV t.tmps 2 with
 | .ptr c _ _ _ _ => some ⟨[], [(2, .set (.ptr c 0 0 0 0)), (3, .set (.int .i64 e))], [(c, .set (.flat r.c))], none, t.next⟩
 | _ => none
noncomputable def bdDec (s : ByteArray) (k : Int) (s0 s1 s2 : RS) (m : SMsg) (d : Int) (r : SMsg) (e : Int) : Bd := { f := Try.f22, args := [.str s], kb := { db := dbSeqF 0 [(61, 7, fun _ _ lo => [{ val := .ptr (.o lo) 0 0 0 0, post := [(.o lo, rdB s0)] }]), (62, 15, cRd (.int .i64 k) s1), (63, 27, cRd (.int .i64 s1.e) s1), (64, 1, fun _ _ _ => [{ pre := [.o 5, .o 6, .o 7], val := .tup [], post := mrH 5 6 s2 ++ [(.o 7, .flat m.c)] }]), (65, 6, cRd (.int .i64 d) s2)], fx := fxD k s1 }, k := kDec r e }
noncomputable def bdDec3 (s : ByteArray) : Bd := bdDec s 0 {} {} {} {} 0 (msg0 0) 3
noncomputable def bdDecZ (s : ByteArray) (k : Int) (s0 s1 s2 : RS) (m : SMsg) (d : Int) : Bd := bdDec s k s0 s1 s2 m d (msg0 0) 130
noncomputable def bdDecE (s : ByteArray) (k : Int) (s0 s1 s2 : RS) (m : SMsg) (d : Int) : Bd := bdDec s k s0 s1 s2 m d (msg0 0) d
noncomputable def bdDecO (s : ByteArray) (k : Int) (s0 s1 s2 : RS) (m : SMsg) (d : Int) : Bd := bdDec s k s0 s1 s2 m d m 0
def dec1 (l : List UInt8) : RS := (numR 8 { l := l }).2
def decK (l : List UInt8) : Int := (numR 8 { l := l }).1
def decF (l : List UInt8) : SMsg × RS := fieldsR (msg0 (decK l)) (dec1 l)
def decR (l : List UInt8) : SMsg × Int :=
 if 4194304 < l.length then (msg0 0, 3) else if decK l = 0 ∧ (dec1 l).e = 0 then (msg0 0, 130) else if (decF l).2.bad = true then (msg0 0, 130) else if doneR (decF l).2 ≠ 0 then (msg0 0, doneR (decF l).2) else ((decF l).1, 0)
end Go.Proofs.Ythifjamdfpjilaa
namespace Go.Proofs.Ythifjamdfpjilaa
open Go Sy Go.Proofs
theorem bdDec3_p1 (s : ByteArray) :
  along Try.prog (bdDec3 s) [true] = (some (.tup [.agg [.int .i64 0, .int .i64 0, .int .i64 0, .int .i64 0, .int .i64 0, .bool false, rq 0 fun x => SReq.mk (0 : Int) (0 : Int) ByteArray.empty [], .int .i64 0, .int .i64 0, .int .i64 0, .int .i64 0, .seg .u8 32 z32, .int .i64 0, .int .i64 0, .int .i64 0, hl 0 fun x => SHeld.mk (SBatch.mk false 0 fun x => SReq.mk (0 : Int) (0 : Int) ByteArray.empty []) (SCert.mk (SVote.mk (0 : Int) (0 : Int) (0 : Int) (0 : Int) []) 0 fun x => SSign.mk (0 : Int) []), nw 0 fun x => SEnv.mk (0 : Int) ByteArray.empty [], .seg .u8 32 z32, .int .i64 0, .int .i64 0, .int .i64 0, .int .i64 0, .seg .u8 32 z32, sg 0 fun x => SSign.mk (0 : Int) [], .str ByteArray.empty, sg 0 fun x => SSign.mk (0 : Int) []], .int .i64 3], [], [decide ((4194304 : Int) < (↑(ByteArray.size s) : Int)) = true, q1, q1, q1, q1, q1, q false, q0, q1, q1, q1, q1, q (32 : Nat), q z32, q1, q1, q1, q0, q0, q (32 : Nat), q z32, q1, q1, q1, q1, q (32 : Nat), q z32, q0, q ByteArray.empty, q0, q0, q0, q0, q (3 : Int)]) : Option (V × Heap × List Prop)) := by kernel_rfl

theorem bdDecZ_p011 (s : ByteArray) (k : Int) (s0 : RS) (s1 : RS) (s2 : RS) (m : SMsg) (d : Int) :
  along Try.prog (bdDecZ s k s0 s1 s2 m d) [false, true, true] = (some (.tup [.agg [.int .i64 0, .int .i64 0, .int .i64 0, .int .i64 0, .int .i64 0, .bool false, rq 0 fun x => SReq.mk (0 : Int) (0 : Int) ByteArray.empty [], .int .i64 0, .int .i64 0, .int .i64 0, .int .i64 0, .seg .u8 32 z32, .int .i64 0, .int .i64 0, .int .i64 0, hl 0 fun x => SHeld.mk (SBatch.mk false 0 fun x => SReq.mk (0 : Int) (0 : Int) ByteArray.empty []) (SCert.mk (SVote.mk (0 : Int) (0 : Int) (0 : Int) (0 : Int) []) 0 fun x => SSign.mk (0 : Int) []), nw 0 fun x => SEnv.mk (0 : Int) ByteArray.empty [], .seg .u8 32 z32, .int .i64 0, .int .i64 0, .int .i64 0, .int .i64 0, .seg .u8 32 z32, sg 0 fun x => SSign.mk (0 : Int) [], .str ByteArray.empty, sg 0 fun x => SSign.mk (0 : Int) []], .int .i64 130], [], [decide ((4194304 : Int) < (↑(ByteArray.size s) : Int)) = false, T Try.prog 61 [.ros 1 (ByteArray.size s) (fun q => [.int .u8 (byteAt s q)]) false] [] (.ptr (.o 448) 0 0 0 0) [(.o 448, rdB s0)], T Try.prog 62 [.ptr (.o 448) 0 0 0 0, .int .i64 8] [(.o 448, rdB s0)] (.int .i64 k) [(.o 448, rdB s1)], decide (k = (0 : Int)) = true, T Try.prog 63 [.ptr (.o 448) 0 0 0 0] [(.o 448, rdB s1)] (.int .i64 (RS.e s1)) [(.o 448, rdB s1)], decide (RS.e s1 = (0 : Int)) = true, q1, q1, q1, q1, q1, q false, q0, q1, q1, q1, q1, q (32 : Nat), q z32, q1, q1, q1, q0, q0, q (32 : Nat), q z32, q1, q1, q1, q1, q (32 : Nat), q z32, q0, q ByteArray.empty, q0, q0, q0, q0, q (130 : Int)]) : Option (V × Heap × List Prop)) := by kernel_rfl

theorem bdDecZ_p0101 (s : ByteArray) (k : Int) (s0 : RS) (s1 : RS) (s2 : RS) (m : SMsg) (d : Int) :
  along Try.prog (bdDecZ s k s0 s1 s2 m d) [false, true, false, true] = (some (.tup [.agg [.int .i64 0, .int .i64 0, .int .i64 0, .int .i64 0, .int .i64 0, .bool false, rq 0 fun x => SReq.mk (0 : Int) (0 : Int) ByteArray.empty [], .int .i64 0, .int .i64 0, .int .i64 0, .int .i64 0, .seg .u8 32 z32, .int .i64 0, .int .i64 0, .int .i64 0, hl 0 fun x => SHeld.mk (SBatch.mk false 0 fun x => SReq.mk (0 : Int) (0 : Int) ByteArray.empty []) (SCert.mk (SVote.mk (0 : Int) (0 : Int) (0 : Int) (0 : Int) []) 0 fun x => SSign.mk (0 : Int) []), nw 0 fun x => SEnv.mk (0 : Int) ByteArray.empty [], .seg .u8 32 z32, .int .i64 0, .int .i64 0, .int .i64 0, .int .i64 0, .seg .u8 32 z32, sg 0 fun x => SSign.mk (0 : Int) [], .str ByteArray.empty, sg 0 fun x => SSign.mk (0 : Int) []], .int .i64 130], [], [decide ((4194304 : Int) < (↑(ByteArray.size s) : Int)) = false, T Try.prog 61 [.ros 1 (ByteArray.size s) (fun q => [.int .u8 (byteAt s q)]) false] [] (.ptr (.o 448) 0 0 0 0) [(.o 448, rdB s0)], T Try.prog 62 [.ptr (.o 448) 0 0 0 0, .int .i64 8] [(.o 448, rdB s0)] (.int .i64 k) [(.o 448, rdB s1)], decide (k = (0 : Int)) = true, T Try.prog 63 [.ptr (.o 448) 0 0 0 0] [(.o 448, rdB s1)] (.int .i64 (RS.e s1)) [(.o 448, rdB s1)], decide (RS.e s1 = (0 : Int)) = false, q0, q0, q0, false = RS.bad s1, q (List.length (RS.l s1)), ∀ (k : Nat), k < List.length (RS.l s1) → bl (RS.l s1) k = bl (RS.l s1) k, false = true → false = true, q (RS.e s1), q2, q k, q1, q1, q1, q1, q false, q0, q1, q1, q1, q1, q (32 : Nat), q z32, q1, q1, q1, q0, q0, q (32 : Nat), q z32, q1, q1, q1, q1, q (32 : Nat), q z32, q0, q ByteArray.empty, q0, q1, q1, q1, q1, q1, q false, q0, q1, q1, q1, q1, q (32 : Nat), q z32, q1, q1, q1, q0, q0, q (32 : Nat), q z32, q1, q1, q1, q1, q (32 : Nat), q z32, q0, q ByteArray.empty, q0, q0, q0, q0, q1, q0, q0, q0, q0, q0, q0, T Try.prog 64 [.ptr (.o 5) 0 0 0 0, .ptr (.o 7) 0 0 0 0] [(.o 5, .flat [.ptr (.o 6) 0 0 0 0, .bool (RS.bad s1)]), (.o 6, rdB s1), (.o 7, .flat (SMsg.c (msg0 k)))] (.tup []) [(.o 5, .flat [.ptr (.o 6) 0 0 0 0, .bool (RS.bad s2)]), (.o 6, rdB s2), (.o 7, .flat (SMsg.c m))], T Try.prog 65 [.ptr (.o 6) 0 0 0 0] [(.o 6, rdB s2)] (.int .i64 d) [(.o 6, rdB s2)], RS.bad s2 = true, q1, q1, q1, q1, q1, q false, q0, q1, q1, q1, q1, q (32 : Nat), q z32, q1, q1, q1, q0, q0, q (32 : Nat), q z32, q1, q1, q1, q1, q (32 : Nat), q z32, q0, q ByteArray.empty, q0, q0, q0, q0, q (130 : Int)]) : Option (V × Heap × List Prop)) := by kernel_rfl

theorem bdDecE_p01001 (s : ByteArray) (k : Int) (s0 : RS) (s1 : RS) (s2 : RS) (m : SMsg) (d : Int) :
  along Try.prog (bdDecE s k s0 s1 s2 m d) [false, true, false, false, true] = (some (.tup [.agg [.int .i64 0, .int .i64 0, .int .i64 0, .int .i64 0, .int .i64 0, .bool false, rq 0 fun x => SReq.mk (0 : Int) (0 : Int) ByteArray.empty [], .int .i64 0, .int .i64 0, .int .i64 0, .int .i64 0, .seg .u8 32 z32, .int .i64 0, .int .i64 0, .int .i64 0, hl 0 fun x => SHeld.mk (SBatch.mk false 0 fun x => SReq.mk (0 : Int) (0 : Int) ByteArray.empty []) (SCert.mk (SVote.mk (0 : Int) (0 : Int) (0 : Int) (0 : Int) []) 0 fun x => SSign.mk (0 : Int) []), nw 0 fun x => SEnv.mk (0 : Int) ByteArray.empty [], .seg .u8 32 z32, .int .i64 0, .int .i64 0, .int .i64 0, .int .i64 0, .seg .u8 32 z32, sg 0 fun x => SSign.mk (0 : Int) [], .str ByteArray.empty, sg 0 fun x => SSign.mk (0 : Int) []], .int .i64 d], [], [decide ((4194304 : Int) < (↑(ByteArray.size s) : Int)) = false, T Try.prog 61 [.ros 1 (ByteArray.size s) (fun q => [.int .u8 (byteAt s q)]) false] [] (.ptr (.o 448) 0 0 0 0) [(.o 448, rdB s0)], T Try.prog 62 [.ptr (.o 448) 0 0 0 0, .int .i64 8] [(.o 448, rdB s0)] (.int .i64 k) [(.o 448, rdB s1)], decide (k = (0 : Int)) = true, T Try.prog 63 [.ptr (.o 448) 0 0 0 0] [(.o 448, rdB s1)] (.int .i64 (RS.e s1)) [(.o 448, rdB s1)], decide (RS.e s1 = (0 : Int)) = false, q0, q0, q0, false = RS.bad s1, q (List.length (RS.l s1)), ∀ (k : Nat), k < List.length (RS.l s1) → bl (RS.l s1) k = bl (RS.l s1) k, false = true → false = true, q (RS.e s1), q2, q k, q1, q1, q1, q1, q false, q0, q1, q1, q1, q1, q (32 : Nat), q z32, q1, q1, q1, q0, q0, q (32 : Nat), q z32, q1, q1, q1, q1, q (32 : Nat), q z32, q0, q ByteArray.empty, q0, q1, q1, q1, q1, q1, q false, q0, q1, q1, q1, q1, q (32 : Nat), q z32, q1, q1, q1, q0, q0, q (32 : Nat), q z32, q1, q1, q1, q1, q (32 : Nat), q z32, q0, q ByteArray.empty, q0, q0, q0, q0, q1, q0, q0, q0, q0, q0, q0, T Try.prog 64 [.ptr (.o 5) 0 0 0 0, .ptr (.o 7) 0 0 0 0] [(.o 5, .flat [.ptr (.o 6) 0 0 0 0, .bool (RS.bad s1)]), (.o 6, rdB s1), (.o 7, .flat (SMsg.c (msg0 k)))] (.tup []) [(.o 5, .flat [.ptr (.o 6) 0 0 0 0, .bool (RS.bad s2)]), (.o 6, rdB s2), (.o 7, .flat (SMsg.c m))], T Try.prog 65 [.ptr (.o 6) 0 0 0 0] [(.o 6, rdB s2)] (.int .i64 d) [(.o 6, rdB s2)], RS.bad s2 = false, (!decide (d = (0 : Int))) = true, q1, q1, q1, q1, q1, q false, q0, q1, q1, q1, q1, q (32 : Nat), q z32, q1, q1, q1, q0, q0, q (32 : Nat), q z32, q1, q1, q1, q1, q (32 : Nat), q z32, q0, q ByteArray.empty, q0, q0, q0, q0, q d]) : Option (V × Heap × List Prop)) := by kernel_rfl

theorem bdDecO_p01000 (s : ByteArray) (k : Int) (s0 : RS) (s1 : RS) (s2 : RS) (m : SMsg) (d : Int) :
  along Try.prog (bdDecO s k s0 s1 s2 m d) [false, true, false, false, false] = (some (.tup [.agg (SMsg.c m), .int .i64 0], [], [decide ((4194304 : Int) < (↑(ByteArray.size s) : Int)) = false, T Try.prog 61 [.ros 1 (ByteArray.size s) (fun q => [.int .u8 (byteAt s q)]) false] [] (.ptr (.o 448) 0 0 0 0) [(.o 448, rdB s0)], T Try.prog 62 [.ptr (.o 448) 0 0 0 0, .int .i64 8] [(.o 448, rdB s0)] (.int .i64 k) [(.o 448, rdB s1)], decide (k = (0 : Int)) = true, T Try.prog 63 [.ptr (.o 448) 0 0 0 0] [(.o 448, rdB s1)] (.int .i64 (RS.e s1)) [(.o 448, rdB s1)], decide (RS.e s1 = (0 : Int)) = false, q0, q0, q0, false = RS.bad s1, q (List.length (RS.l s1)), ∀ (k : Nat), k < List.length (RS.l s1) → bl (RS.l s1) k = bl (RS.l s1) k, false = true → false = true, q (RS.e s1), q2, q k, q1, q1, q1, q1, q false, q0, q1, q1, q1, q1, q (32 : Nat), q z32, q1, q1, q1, q0, q0, q (32 : Nat), q z32, q1, q1, q1, q1, q (32 : Nat), q z32, q0, q ByteArray.empty, q0, q1, q1, q1, q1, q1, q false, q0, q1, q1, q1, q1, q (32 : Nat), q z32, q1, q1, q1, q0, q0, q (32 : Nat), q z32, q1, q1, q1, q1, q (32 : Nat), q z32, q0, q ByteArray.empty, q0, q0, q0, q0, q1, q0, q0, q0, q0, q0, q0, T Try.prog 64 [.ptr (.o 5) 0 0 0 0, .ptr (.o 7) 0 0 0 0] [(.o 5, .flat [.ptr (.o 6) 0 0 0 0, .bool (RS.bad s1)]), (.o 6, rdB s1), (.o 7, .flat (SMsg.c (msg0 k)))] (.tup []) [(.o 5, .flat [.ptr (.o 6) 0 0 0 0, .bool (RS.bad s2)]), (.o 6, rdB s2), (.o 7, .flat (SMsg.c m))], T Try.prog 65 [.ptr (.o 6) 0 0 0 0] [(.o 6, rdB s2)] (.int .i64 d) [(.o 6, rdB s2)], RS.bad s2 = false, (!decide (d = (0 : Int))) = false, q (SMsg.kind m), q (SMsg.epoch m), q (SMsg.leader m), q (SMsg.view m), q (SMsg.slot m), q (SBatch.noop (SMsg.batch m)), q (SBatch.n (SMsg.batch m)), ∀ (k : Nat), k < SBatch.n (SMsg.batch m) → SReq.c (SBatch.req (SMsg.batch m) k) = SReq.c (SBatch.req (SMsg.batch m) k), false = true → false = true, q (SVote.kind (SMsg.vote m)), q (SVote.epoch (SMsg.vote m)), q (SVote.view (SMsg.vote m)), q (SVote.slot (SMsg.vote m)), q (32 : Nat), q (SVote.digest (SMsg.vote m)), q (SMsg.cepoch m), q (SMsg.cleader m), q (SMsg.cview m), q (SMsg.nheld m), ∀ (k : Nat), k < SMsg.nheld m → SHeld.c (SMsg.held m k) = SHeld.c (SMsg.held m k), false = true → false = true, q (SMsg.nnews m), ∀ (k : Nat), k < SMsg.nnews m → SEnv.c (SMsg.news m k) = SEnv.c (SMsg.news m k), false = true → false = true, q (32 : Nat), q (SMsg.digest m), q (SVote.kind (SCert.vote (SMsg.cert m))), q (SVote.epoch (SCert.vote (SMsg.cert m))), q (SVote.view (SCert.vote (SMsg.cert m))), q (SVote.slot (SCert.vote (SMsg.cert m))), q (32 : Nat), q (SVote.digest (SCert.vote (SMsg.cert m))), q (SCert.n (SMsg.cert m)), ∀ (k : Nat), k < SCert.n (SMsg.cert m) → SSign.c (SCert.sig (SMsg.cert m) k) = SSign.c (SCert.sig (SMsg.cert m) k), false = true → false = true, q (SMsg.state m), q (SMsg.n m), ∀ (k : Nat), k < SMsg.n m → SSign.c (SMsg.sig m k) = SSign.c (SMsg.sig m k), false = true → false = true, q0, q0, q0, q1]) : Option (V × Heap × List Prop)) := by kernel_rfl

theorem bdDecZ_p0001 (s : ByteArray) (k : Int) (s0 : RS) (s1 : RS) (s2 : RS) (m : SMsg) (d : Int) :
  along Try.prog (bdDecZ s k s0 s1 s2 m d) [false, false, false, true] = (some (.tup [.agg [.int .i64 0, .int .i64 0, .int .i64 0, .int .i64 0, .int .i64 0, .bool false, rq 0 fun x => SReq.mk (0 : Int) (0 : Int) ByteArray.empty [], .int .i64 0, .int .i64 0, .int .i64 0, .int .i64 0, .seg .u8 32 z32, .int .i64 0, .int .i64 0, .int .i64 0, hl 0 fun x => SHeld.mk (SBatch.mk false 0 fun x => SReq.mk (0 : Int) (0 : Int) ByteArray.empty []) (SCert.mk (SVote.mk (0 : Int) (0 : Int) (0 : Int) (0 : Int) []) 0 fun x => SSign.mk (0 : Int) []), nw 0 fun x => SEnv.mk (0 : Int) ByteArray.empty [], .seg .u8 32 z32, .int .i64 0, .int .i64 0, .int .i64 0, .int .i64 0, .seg .u8 32 z32, sg 0 fun x => SSign.mk (0 : Int) [], .str ByteArray.empty, sg 0 fun x => SSign.mk (0 : Int) []], .int .i64 130], [], [decide ((4194304 : Int) < (↑(ByteArray.size s) : Int)) = false, T Try.prog 61 [.ros 1 (ByteArray.size s) (fun q => [.int .u8 (byteAt s q)]) false] [] (.ptr (.o 448) 0 0 0 0) [(.o 448, rdB s0)], T Try.prog 62 [.ptr (.o 448) 0 0 0 0, .int .i64 8] [(.o 448, rdB s0)] (.int .i64 k) [(.o 448, rdB s1)], decide (k = (0 : Int)) = false, q false, q0, q0, q0, false = RS.bad s1, q (List.length (RS.l s1)), ∀ (k : Nat), k < List.length (RS.l s1) → bl (RS.l s1) k = bl (RS.l s1) k, false = true → false = true, q (RS.e s1), q2, q k, q1, q1, q1, q1, q false, q0, q1, q1, q1, q1, q (32 : Nat), q z32, q1, q1, q1, q0, q0, q (32 : Nat), q z32, q1, q1, q1, q1, q (32 : Nat), q z32, q0, q ByteArray.empty, q0, q1, q1, q1, q1, q1, q false, q0, q1, q1, q1, q1, q (32 : Nat), q z32, q1, q1, q1, q0, q0, q (32 : Nat), q z32, q1, q1, q1, q1, q (32 : Nat), q z32, q0, q ByteArray.empty, q0, q0, q0, q0, q1, q0, q0, q0, q0, q0, q0, T Try.prog 64 [.ptr (.o 5) 0 0 0 0, .ptr (.o 7) 0 0 0 0] [(.o 5, .flat [.ptr (.o 6) 0 0 0 0, .bool (RS.bad s1)]), (.o 6, rdB s1), (.o 7, .flat (SMsg.c (msg0 k)))] (.tup []) [(.o 5, .flat [.ptr (.o 6) 0 0 0 0, .bool (RS.bad s2)]), (.o 6, rdB s2), (.o 7, .flat (SMsg.c m))], T Try.prog 65 [.ptr (.o 6) 0 0 0 0] [(.o 6, rdB s2)] (.int .i64 d) [(.o 6, rdB s2)], RS.bad s2 = true, q1, q1, q1, q1, q1, q false, q0, q1, q1, q1, q1, q (32 : Nat), q z32, q1, q1, q1, q0, q0, q (32 : Nat), q z32, q1, q1, q1, q1, q (32 : Nat), q z32, q0, q ByteArray.empty, q0, q0, q0, q0, q (130 : Int)]) : Option (V × Heap × List Prop)) := by kernel_rfl

theorem bdDecE_p00001 (s : ByteArray) (k : Int) (s0 : RS) (s1 : RS) (s2 : RS) (m : SMsg) (d : Int) :
  along Try.prog (bdDecE s k s0 s1 s2 m d) [false, false, false, false, true] = (some (.tup [.agg [.int .i64 0, .int .i64 0, .int .i64 0, .int .i64 0, .int .i64 0, .bool false, rq 0 fun x => SReq.mk (0 : Int) (0 : Int) ByteArray.empty [], .int .i64 0, .int .i64 0, .int .i64 0, .int .i64 0, .seg .u8 32 z32, .int .i64 0, .int .i64 0, .int .i64 0, hl 0 fun x => SHeld.mk (SBatch.mk false 0 fun x => SReq.mk (0 : Int) (0 : Int) ByteArray.empty []) (SCert.mk (SVote.mk (0 : Int) (0 : Int) (0 : Int) (0 : Int) []) 0 fun x => SSign.mk (0 : Int) []), nw 0 fun x => SEnv.mk (0 : Int) ByteArray.empty [], .seg .u8 32 z32, .int .i64 0, .int .i64 0, .int .i64 0, .int .i64 0, .seg .u8 32 z32, sg 0 fun x => SSign.mk (0 : Int) [], .str ByteArray.empty, sg 0 fun x => SSign.mk (0 : Int) []], .int .i64 d], [], [decide ((4194304 : Int) < (↑(ByteArray.size s) : Int)) = false, T Try.prog 61 [.ros 1 (ByteArray.size s) (fun q => [.int .u8 (byteAt s q)]) false] [] (.ptr (.o 448) 0 0 0 0) [(.o 448, rdB s0)], T Try.prog 62 [.ptr (.o 448) 0 0 0 0, .int .i64 8] [(.o 448, rdB s0)] (.int .i64 k) [(.o 448, rdB s1)], decide (k = (0 : Int)) = false, q false, q0, q0, q0, false = RS.bad s1, q (List.length (RS.l s1)), ∀ (k : Nat), k < List.length (RS.l s1) → bl (RS.l s1) k = bl (RS.l s1) k, false = true → false = true, q (RS.e s1), q2, q k, q1, q1, q1, q1, q false, q0, q1, q1, q1, q1, q (32 : Nat), q z32, q1, q1, q1, q0, q0, q (32 : Nat), q z32, q1, q1, q1, q1, q (32 : Nat), q z32, q0, q ByteArray.empty, q0, q1, q1, q1, q1, q1, q false, q0, q1, q1, q1, q1, q (32 : Nat), q z32, q1, q1, q1, q0, q0, q (32 : Nat), q z32, q1, q1, q1, q1, q (32 : Nat), q z32, q0, q ByteArray.empty, q0, q0, q0, q0, q1, q0, q0, q0, q0, q0, q0, T Try.prog 64 [.ptr (.o 5) 0 0 0 0, .ptr (.o 7) 0 0 0 0] [(.o 5, .flat [.ptr (.o 6) 0 0 0 0, .bool (RS.bad s1)]), (.o 6, rdB s1), (.o 7, .flat (SMsg.c (msg0 k)))] (.tup []) [(.o 5, .flat [.ptr (.o 6) 0 0 0 0, .bool (RS.bad s2)]), (.o 6, rdB s2), (.o 7, .flat (SMsg.c m))], T Try.prog 65 [.ptr (.o 6) 0 0 0 0] [(.o 6, rdB s2)] (.int .i64 d) [(.o 6, rdB s2)], RS.bad s2 = false, (!decide (d = (0 : Int))) = true, q1, q1, q1, q1, q1, q false, q0, q1, q1, q1, q1, q (32 : Nat), q z32, q1, q1, q1, q0, q0, q (32 : Nat), q z32, q1, q1, q1, q1, q (32 : Nat), q z32, q0, q ByteArray.empty, q0, q0, q0, q0, q d]) : Option (V × Heap × List Prop)) := by kernel_rfl

theorem bdDecO_p00000 (s : ByteArray) (k : Int) (s0 : RS) (s1 : RS) (s2 : RS) (m : SMsg) (d : Int) :
  along Try.prog (bdDecO s k s0 s1 s2 m d) [false, false, false, false, false] = (some (.tup [.agg (SMsg.c m), .int .i64 0], [], [decide ((4194304 : Int) < (↑(ByteArray.size s) : Int)) = false, T Try.prog 61 [.ros 1 (ByteArray.size s) (fun q => [.int .u8 (byteAt s q)]) false] [] (.ptr (.o 448) 0 0 0 0) [(.o 448, rdB s0)], T Try.prog 62 [.ptr (.o 448) 0 0 0 0, .int .i64 8] [(.o 448, rdB s0)] (.int .i64 k) [(.o 448, rdB s1)], decide (k = (0 : Int)) = false, q false, q0, q0, q0, false = RS.bad s1, q (List.length (RS.l s1)), ∀ (k : Nat), k < List.length (RS.l s1) → bl (RS.l s1) k = bl (RS.l s1) k, false = true → false = true, q (RS.e s1), q2, q k, q1, q1, q1, q1, q false, q0, q1, q1, q1, q1, q (32 : Nat), q z32, q1, q1, q1, q0, q0, q (32 : Nat), q z32, q1, q1, q1, q1, q (32 : Nat), q z32, q0, q ByteArray.empty, q0, q1, q1, q1, q1, q1, q false, q0, q1, q1, q1, q1, q (32 : Nat), q z32, q1, q1, q1, q0, q0, q (32 : Nat), q z32, q1, q1, q1, q1, q (32 : Nat), q z32, q0, q ByteArray.empty, q0, q0, q0, q0, q1, q0, q0, q0, q0, q0, q0, T Try.prog 64 [.ptr (.o 5) 0 0 0 0, .ptr (.o 7) 0 0 0 0] [(.o 5, .flat [.ptr (.o 6) 0 0 0 0, .bool (RS.bad s1)]), (.o 6, rdB s1), (.o 7, .flat (SMsg.c (msg0 k)))] (.tup []) [(.o 5, .flat [.ptr (.o 6) 0 0 0 0, .bool (RS.bad s2)]), (.o 6, rdB s2), (.o 7, .flat (SMsg.c m))], T Try.prog 65 [.ptr (.o 6) 0 0 0 0] [(.o 6, rdB s2)] (.int .i64 d) [(.o 6, rdB s2)], RS.bad s2 = false, (!decide (d = (0 : Int))) = false, q (SMsg.kind m), q (SMsg.epoch m), q (SMsg.leader m), q (SMsg.view m), q (SMsg.slot m), q (SBatch.noop (SMsg.batch m)), q (SBatch.n (SMsg.batch m)), ∀ (k : Nat), k < SBatch.n (SMsg.batch m) → SReq.c (SBatch.req (SMsg.batch m) k) = SReq.c (SBatch.req (SMsg.batch m) k), false = true → false = true, q (SVote.kind (SMsg.vote m)), q (SVote.epoch (SMsg.vote m)), q (SVote.view (SMsg.vote m)), q (SVote.slot (SMsg.vote m)), q (32 : Nat), q (SVote.digest (SMsg.vote m)), q (SMsg.cepoch m), q (SMsg.cleader m), q (SMsg.cview m), q (SMsg.nheld m), ∀ (k : Nat), k < SMsg.nheld m → SHeld.c (SMsg.held m k) = SHeld.c (SMsg.held m k), false = true → false = true, q (SMsg.nnews m), ∀ (k : Nat), k < SMsg.nnews m → SEnv.c (SMsg.news m k) = SEnv.c (SMsg.news m k), false = true → false = true, q (32 : Nat), q (SMsg.digest m), q (SVote.kind (SCert.vote (SMsg.cert m))), q (SVote.epoch (SCert.vote (SMsg.cert m))), q (SVote.view (SCert.vote (SMsg.cert m))), q (SVote.slot (SCert.vote (SMsg.cert m))), q (32 : Nat), q (SVote.digest (SCert.vote (SMsg.cert m))), q (SCert.n (SMsg.cert m)), ∀ (k : Nat), k < SCert.n (SMsg.cert m) → SSign.c (SCert.sig (SMsg.cert m) k) = SSign.c (SCert.sig (SMsg.cert m) k), false = true → false = true, q (SMsg.state m), q (SMsg.n m), ∀ (k : Nat), k < SMsg.n m → SSign.c (SMsg.sig m k) = SSign.c (SMsg.sig m k), false = true → false = true, q0, q0, q0, q1]) : Option (V × Heap × List Prop)) := by kernel_rfl

theorem T_fieldsN (m : SMsg) (s : RS) (hl : s.l.length ≤ 1000000000) {r a q : Nat} (hn : [Nm.o r, Nm.o a, Nm.o q].Nodup) : T Try.prog 64 [.ptr (.o r) 0 0 0 0, .ptr (.o q) 0 0 0 0] (mrH r a s ++ [(.o q, .flat m.c)]) (.tup []) (mrH r a (fieldsR m s).2 ++ [(.o q, .flat (fieldsR m s).1.c)]) := by
 obtain ⟨σ, hσ, h1⟩ := T.at (T_fields0 m s hl) [.o 0, .o 1, .o 2] [.o r, .o a, .o q] (by simp) hn rfl
 simp only [List.map_cons, List.map_nil, List.cons.injEq, and_true] at hσ
 simpa [V.rens, V.ren, p0, rdB, mrH, SMsg.c, SBatch.c, SVote.c, SCert.c, rq, Sy.hl, nw, sg, Heap.ren, B.ren, hσ.1, hσ.2.1, hσ.2.2] using h1
theorem dec1_aft (l : List UInt8) : After { l := l } (dec1 l) := numR_after 8 _
theorem dec1_bad (l : List UInt8) : (dec1 l).bad = false := (dec1_aft l).2.1
theorem T_dec (s : ByteArray) : T Try.prog 22 [.str s] [] (.tup [.agg (decR (strB s)).1.c, .int .i64 (decR (strB s)).2]) [] := by
 have hs := strB_len s
 by_cases h0 : 4194304 < (strB s).length
 ·have e : decR (strB s) = (msg0 0, 3) := by simp only [decR, if_pos h0]
  rw [e]
  refine T_al (bdDec3_p1 s) Try.func22 ?_
  simp only [All]; and_intros
  all_goals first
   | (rw [decide_eq_true_eq]; omega)
   | trivial
   | rfl
 have hl : (strB s).length ≤ 1000000000 := by omega
 have hlen : decide ((4194304 : Int) < (s.size : Nat)) = false := by rw [decide_eq_false_iff_not]; omega
 have l1 : (dec1 (strB s)).l.length ≤ 1000000000 := Nat.le_trans (dec1_aft _).1 hl
 have b1 := dec1_bad (strB s)
 have hR : ∀ a, T Try.prog 61 [.ros 1 s.size (fun q => [.int .u8 (byteAt s q)]) false] [] (.ptr (.o a) 0 0 0 0) [(.o a, rdB { l := strB s })] := fun a => by
  have := T_read a (strB s) hl
  rw [roB, hs] at this; exact this
 have hF : T Try.prog 64 [.ptr (.o 5) 0 0 0 0, .ptr (.o 7) 0 0 0 0] (mrH 5 6 (dec1 (strB s)) ++ [(.o 7, .flat (msg0 (decK (strB s))).c)]) (.tup []) (mrH 5 6 (decF (strB s)).2 ++ [(.o 7, .flat (decF (strB s)).1.c)]) := T_fieldsN (msg0 (decK (strB s))) (dec1 (strB s)) l1 (by decide)
 by_cases h1 : decK (strB s) = 0
 ·by_cases h2 : (dec1 (strB s)).e = 0
  ·have e : decR (strB s) = (msg0 0, 130) := by simp only [decR, if_neg h0, h1, h2, and_self, if_true]
   rw [e]
   refine T_al (bdDecZ_p011 s (decK (strB s)) { l := strB s } (dec1 (strB s)) (decF (strB s)).2 (decF (strB s)).1 (doneR (decF (strB s)).2)) Try.func22 ?_
   simp only [All]; and_intros
   all_goals first
    | exact hlen
    | exact hR _
    | exact T_num 448 8 { l := strB s }
    | exact T_err 448 (dec1 (strB s))
    | (rw [decide_eq_true_eq]; assumption)
    | trivial
    | rfl
  ·by_cases h3 : (decF (strB s)).2.bad = true
   ·have e : decR (strB s) = (msg0 0, 130) := by simp only [decR, if_neg h0, h2, and_false, if_false, if_pos h3]
    rw [e]
    refine T_al (bdDecZ_p0101 s (decK (strB s)) { l := strB s } (dec1 (strB s)) (decF (strB s)).2 (decF (strB s)).1 (doneR (decF (strB s)).2)) Try.func22 ?_
    simp only [All]; and_intros
    all_goals first
     | exact hlen
     | exact hR _
     | exact T_num 448 8 { l := strB s }
     | exact T_err 448 (dec1 (strB s))
     | exact hF
     | exact T_done 6 (decF (strB s)).2
     | (rw [decide_eq_true_eq]; assumption)
     | (rw [decide_eq_false_iff_not]; assumption)
     | exact h3
     | exact b1.symm
     | exact b1
     | trivial
     | rfl
     | (intro _ _; trivial)
     | (intro _ _; rfl)
   ·by_cases h4 : doneR (decF (strB s)).2 = 0
    ·have e : decR (strB s) = ((decF (strB s)).1, 0) := by simp only [decR, if_neg h0, h2, and_false, if_false, if_neg h3, h4, ne_eq, not_true]
     rw [e]
     refine T_al (bdDecO_p01000 s (decK (strB s)) { l := strB s } (dec1 (strB s)) (decF (strB s)).2 (decF (strB s)).1 (doneR (decF (strB s)).2)) Try.func22 ?_
     simp only [All]; and_intros
     all_goals first
      | exact hlen
      | exact hR _
      | exact T_num 448 8 { l := strB s }
      | exact T_err 448 (dec1 (strB s))
      | exact hF
      | exact T_done 6 (decF (strB s)).2
      | (rw [decide_eq_true_eq]; assumption)
      | (rw [decide_eq_false_iff_not]; assumption)
      | exact Bool.eq_false_iff.mpr h3
      | (simp [h4]; done)
      | exact b1.symm
      | exact b1
      | trivial
      | rfl
      | (intro _ _; trivial)
      | (intro _ _; rfl)
    ·have e : decR (strB s) = (msg0 0, doneR (decF (strB s)).2) := by simp only [decR, if_neg h0, h2, and_false, if_false, if_neg h3, ne_eq, h4, not_false_eq_true, if_true]
     rw [e]
     refine T_al (bdDecE_p01001 s (decK (strB s)) { l := strB s } (dec1 (strB s)) (decF (strB s)).2 (decF (strB s)).1 (doneR (decF (strB s)).2)) Try.func22 ?_
     simp only [All]; and_intros
     all_goals first
      | exact hlen
      | exact hR _
      | exact T_num 448 8 { l := strB s }
      | exact T_err 448 (dec1 (strB s))
      | exact hF
      | exact T_done 6 (decF (strB s)).2
      | (rw [decide_eq_true_eq]; assumption)
      | (rw [decide_eq_false_iff_not]; assumption)
      | exact Bool.eq_false_iff.mpr h3
      | (simp [h4]; done)
      | exact b1.symm
      | exact b1
      | trivial
      | rfl
      | (intro _ _; trivial)
      | (intro _ _; rfl)
 ·by_cases h3 : (decF (strB s)).2.bad = true
  ·have e : decR (strB s) = (msg0 0, 130) := by simp only [decR, if_neg h0, h1, false_and, if_false, if_pos h3]
   rw [e]
   refine T_al (bdDecZ_p0001 s (decK (strB s)) { l := strB s } (dec1 (strB s)) (decF (strB s)).2 (decF (strB s)).1 (doneR (decF (strB s)).2)) Try.func22 ?_
   simp only [All]; and_intros
   all_goals first
    | exact hlen
    | exact hR _
    | exact T_num 448 8 { l := strB s }
    | exact T_err 448 (dec1 (strB s))
    | exact hF
    | exact T_done 6 (decF (strB s)).2
    | (rw [decide_eq_false_iff_not]; assumption)
    | exact h3
    | exact b1.symm
    | exact b1
    | trivial
    | rfl
    | (intro _ _; trivial)
    | (intro _ _; rfl)
  ·by_cases h4 : doneR (decF (strB s)).2 = 0
   ·have e : decR (strB s) = ((decF (strB s)).1, 0) := by simp only [decR, if_neg h0, h1, false_and, if_false, if_neg h3, h4, ne_eq, not_true]
    rw [e]
    refine T_al (bdDecO_p00000 s (decK (strB s)) { l := strB s } (dec1 (strB s)) (decF (strB s)).2 (decF (strB s)).1 (doneR (decF (strB s)).2)) Try.func22 ?_
    simp only [All]; and_intros
    all_goals first
     | exact hlen
     | exact hR _
     | exact T_num 448 8 { l := strB s }
     | exact T_err 448 (dec1 (strB s))
     | exact hF
     | exact T_done 6 (decF (strB s)).2
     | (rw [decide_eq_false_iff_not]; assumption)
     | exact Bool.eq_false_iff.mpr h3
     | (simp [h4]; done)
     | exact b1.symm
     | exact b1
     | trivial
     | rfl
     | (intro _ _; trivial)
     | (intro _ _; rfl)
   ·have e : decR (strB s) = (msg0 0, doneR (decF (strB s)).2) := by simp only [decR, if_neg h0, h1, false_and, if_false, if_neg h3, ne_eq, h4, not_false_eq_true, if_true]
    rw [e]
    refine T_al (bdDecE_p00001 s (decK (strB s)) { l := strB s } (dec1 (strB s)) (decF (strB s)).2 (decF (strB s)).1 (doneR (decF (strB s)).2)) Try.func22 ?_
    simp only [All]; and_intros
    all_goals first
     | exact hlen
     | exact hR _
     | exact T_num 448 8 { l := strB s }
     | exact T_err 448 (dec1 (strB s))
     | exact hF
     | exact T_done 6 (decF (strB s)).2
     | (rw [decide_eq_false_iff_not]; assumption)
     | exact Bool.eq_false_iff.mpr h3
     | (simp [h4]; done)
     | exact b1.symm
     | exact b1
     | trivial
     | rfl
     | (intro _ _; trivial)
     | (intro _ _; rfl)
end Go.Proofs.Ythifjamdfpjilaa
namespace Go.Proofs.Ythifjamdfpjilaa
open Go Sy Go.Proofs
/-- Read, there is this, and just these bytes are gone. -/
def Rd {α : Type} (one : RS → α × RS) (E : α → Prop) (bytes : List UInt8) : Prop := ∀ (s : RS) (tail : List UInt8), s.e = 0 → s.l = bytes ++ tail → E (one s).1 ∧ (one s).2 = { s with l := tail }
/-- What was read without an error was put so. -/
def Wr {α : Type} (one : RS → α × RS) (enc : α → List UInt8) (ok : α → Prop) : Prop := ∀ s : RS, (one s).2.e = 0 → s.e = 0 ∧ s.l = enc (one s).1 ++ (one s).2.l ∧ ok (one s).1 ∧ (one s).2.bad = s.bad
theorem beN_digs : ∀ f n, n < 256 ^ f → beN (digs f n) = n
 | 0, n, h => by simp at h; subst h; rfl
 | f + 1, n, h => by
  rw [digs]
  split
  ·rename_i h0; subst h0; rfl
  ·rw [beN_snoc, beN_digs f (n / 256) (by rw [Nat.pow_succ] at h; omega), UInt8.toNat_ofNat']
   omega
theorem beN_pos : ∀ (xs : List UInt8), (∀ x t, xs = x :: t → x.toNat ≠ 0) → xs ≠ [] → 0 < beN xs := by
 intro xs h hne
 cases xs with
 | nil => exact absurd rfl hne
 | cons x t =>
  have h0 := h x t rfl
  have : ∀ (t : List UInt8) (a : Nat), 0 < a → 0 < t.foldl (fun a x => a * 256 + x.toNat) a := by
   intro t
   induction t with
   | nil => intro a ha; exact ha
   | cons y t ih => intro a ha; exact ih _ (by show 0 < a * 256 + y.toNat; omega)
  exact this t _ (by show 0 < 0 * 256 + x.toNat; omega)
theorem digs_beN : ∀ f (xs : List UInt8), xs.length ≤ f → (∀ x t, xs = x :: t → x.toNat ≠ 0) → digs f (beN xs) = xs
 | 0, xs, h, _ => by
  have : xs = [] := List.eq_nil_of_length_eq_zero (by omega)
  subst this; rfl
 | f + 1, xs, h, hh => by
  rcases List.eq_nil_or_concat xs with rfl | ⟨ys, x, rfl⟩
  ·rfl
  ·rw [List.concat_eq_append] at h hh ⊢
   have hp : 0 < beN (ys ++ [x]) := beN_pos _ hh (by simp)
   rw [digs, if_neg (by omega), beN_snoc]
   have hx := x.toNat_lt
   have e1 : (beN ys * 256 + x.toNat) / 256 = beN ys := by omega
   have e2 : (beN ys * 256 + x.toNat) % 256 = x.toNat := by omega
   rw [e1, e2, digs_beN f ys (by simp at h; omega) fun y t e => hh y (t ++ [x]) (by rw [e]; rfl)]
   congr 1
   simp
theorem digs_head {n : Nat} (h : n < 9223372036854775808) {x : UInt8} {t : List UInt8} (e : digs 8 n = x :: t) : x.toNat ≠ 0 ∧ ((digs 8 n).length = 8 → x.toNat ≤ 127) := by
 obtain ⟨h1, h2, h3⟩ := digs_len 8 n (digs8 h)
 have hl : 0 < (digs 8 n).length := by rw [e]; simp
 have hg := digs_get 8 n 0 (digs8 h) hl
 rw [e] at hg
 simp only [List.getElem?_cons_zero, Option.some.injEq] at hg
 have h4 := h3 ((digs 8 n).length - 1) (by omega)
 have h5 : n / 256 ^ ((digs 8 n).length - 1) < 256 := by
  have e6 : (digs 8 n).length = (digs 8 n).length - 1 + 1 := by omega
  rw [e6, Nat.pow_succ, ← Nat.div_div_eq_div_mul] at h2
  omega
 have h6 : x.toNat = n / 256 ^ ((digs 8 n).length - 1) := by
  rw [hg, ← e]
  rw [UInt8.toNat_ofNat', Nat.sub_zero]
  omega
 refine ⟨by omega, fun e8 => ?_⟩
 rw [h6, e8]
 have : n / 256 ^ 7 < 128 := by
  rw [Nat.div_lt_iff_lt_mul (by decide)]; omega
 exact Nat.le_of_lt_succ this
theorem kOf_put {n : Nat} (h : n < 9223372036854775808) (tail : List UInt8) : kOf (putN n ++ tail) = (digs 8 n).length := by
 have h1 := (digs_len 8 n (digs8 h)).1
 show (UInt8.ofNat (digs 8 n).length).toNat = _
 rw [UInt8.toNat_ofNat']; omega
theorem mid_put (n : Nat) (tail : List UInt8) : ((putN n ++ tail).drop 1).take (digs 8 n).length = digs 8 n := by
 show (digs 8 n ++ tail).take _ = _
 rw [List.take_left']; rfl
theorem nE_put {n : Nat} (h : n < 9223372036854775808) (tail : List UInt8) : nE (putN n ++ tail) = 0 := by
 have h1 := (digs_len 8 n (digs8 h)).1
 have hk := kOf_put h tail
 have hl : (putN n ++ tail).length = (digs 8 n).length + 1 + tail.length := by simp [putN]; omega
 have hg : (putN n ++ tail).getD 1 0 = (digs 8 n ++ tail).getD 0 0 := rfl
 unfold nE
 rw [if_neg (by omega), if_neg (by omega), if_neg (by omega), hk, hg]
 cases hd : digs 8 n with
 | nil => rw [if_neg (by simp), if_neg (by simp)]
 | cons x t =>
  have h2 := digs_head h hd
  rw [if_neg, if_neg]
  ·rintro ⟨h3, h4⟩
   have := h2.2 (by rw [hd]; exact h3)
   simp at h4; omega
  ·rintro ⟨_, h4⟩
   exact h2.1 (by simpa using h4)
theorem nV_put {n : Nat} (h : n < 9223372036854775808) (tail : List UInt8) : nV (putN n ++ tail) = n := by
 rw [nV, if_pos (nE_put h tail), kOf_put h tail, mid_put, beN_digs 8 n (digs8 h)]
theorem nS_put {n : Nat} (h : n < 9223372036854775808) (tail : List UInt8) : nS (putN n ++ tail) = ((putN n).length : Nat) := by
 rw [nS, if_pos (nE_put h tail), kOf_put h tail]; simp [putN]
theorem nE_head {l : List UInt8} (h : nE l = 0) (hk : 0 < kOf l) : (l.getD 1 0).toNat ≠ 0 := by
 intro h2
 unfold nE at h
 split at h
 ·cases h
 ·split at h
  ·cases h
  ·split at h
   ·cases h
   ·rw [if_pos ⟨hk, h2⟩] at h; cases h
theorem num_rd {n most : Int} (h0 : 0 ≤ n) (h1 : n ≤ most) (h2 : most < 9223372036854775808) : Rd (numR most) (fun x => x = n) (putZ n) := by
 intro s tail he hl
 have hn : n.toNat < 9223372036854775808 := by omega
 have hv : nV s.l = n := by rw [hl, putZ, nV_put hn]; omega
 have hE : nE s.l = 0 := by rw [hl, putZ, nE_put hn]
 have hS : nS s.l = ((putN n.toNat).length : Nat) := by rw [hl, putZ, nS_put hn]
 have h3 : nE1 most s.l = 0 := by rw [nE1, hv, if_neg (by omega), hE]
 unfold numR
 rw [if_neg (by simpa using he), if_neg (by simpa using h3)]
 refine ⟨hv, ?_⟩
 show RS.mk (s.l.drop (nS s.l).toNat) s.e s.bad = _
 rw [hS, Int.toNat_natCast]
 congr 1
 rw [hl, putZ, List.drop_left']; rfl
theorem num_wr (most : Int) : Wr (numR most) putZ (fun n => 0 ≤ n ∧ n ≤ most ∧ n < 9223372036854775808) := by
 intro s he
 unfold numR at he ⊢
 split at he
 ·contradiction
 ·rename_i h0
  have h0 : s.e = 0 := by simpa using h0
  split at he
  ·rename_i h1; exact absurd he (by simpa [RS.fail] using h1)
  ·rename_i h1
   have h1 : nE1 most s.l = 0 := by simpa using h1
   rw [if_neg (by simpa using h0), if_neg (by simpa using h1)]
   have hE : nE s.l = 0 ∧ nV s.l ≤ most := by
    unfold nE1 at h1
    split at h1
    ·cases h1
    ·rename_i h2; exact ⟨h1, by omega⟩
   obtain ⟨hE, hm⟩ := hE
   have hOk : NumOk s.l := nE_ok hE
   have hS : (nS s.l).toNat = kOf s.l + 1 := by rw [nS, if_pos hE]; omega
   have hV : nV s.l = (beN ((s.l.drop 1).take (kOf s.l)) : Nat) := by rw [nV, if_pos hE]
   have hlt := hOk.lt
   have hk := hOk.k
   have hlen := hOk.len
   have hx : ∀ x t, (s.l.drop 1).take (kOf s.l) = x :: t → x.toNat ≠ 0 := by
    intro x t e h5
    have h6 : 0 < kOf s.l := by
     rcases Nat.eq_zero_or_pos (kOf s.l) with h | h
     ·rw [h] at e; simp at e
     ·exact h
    have h7 : s.l.getD 1 0 = x := by
     have := congrArg (fun l => l[0]?) e
     simp only [List.getElem?_cons_zero] at this
     rw [List.getElem?_take_of_lt h6, List.getElem?_drop] at this
     rw [List.getD_eq_getElem?_getD]
     rw [show 1 + 0 = 1 from rfl] at this
     rw [this]; rfl
    have := nE_head hE h6
    rw [h7] at this; exact this h5
   have hd : digs 8 (beN ((s.l.drop 1).take (kOf s.l))) = (s.l.drop 1).take (kOf s.l) := digs_beN 8 _ (by rw [List.length_take]; omega) hx
   refine ⟨h0, ?_, ⟨by rw [hV]; omega, hm, by rw [hV]; omega⟩, rfl⟩
   show s.l = putZ (nV s.l) ++ s.l.drop (nS s.l).toNat
   rw [hS, hV, putZ, Int.toNat_natCast, putN, hd]
   cases hl : s.l with
   | nil => rw [hl] at hlen; simp at hlen
   | cons a r =>
    have hka : kOf s.l = a.toNat := by rw [hl]; rfl
    rw [hl] at hlen hka hk
    rw [hka] at hlen hk ⊢
    simp only [List.drop_succ_cons, List.drop_zero, List.cons_append, List.length_take, List.length_cons] at hlen ⊢
    rw [Nat.min_eq_left (by omega)]
    congr 1
    ·simp
    ·rw [List.take_append_drop]
end Go.Proofs.Ythifjamdfpjilaa
namespace Go.Proofs.Ythifjamdfpjilaa
open Go Sy Go.Proofs
theorem baL_strB (s : ByteArray) : baL (strB s) = s := rfl
theorem strB_baL (l : List UInt8) : strB (baL l) = l := rfl
theorem text_rd {t : ByteArray} {most : Int} (h0 : (t.size : Int) ≤ most) (h1 : most < 9223372036854775808) : Rd (textR most) (fun x => x = t) (textB t) := by
 intro s tail he hl
 have hn : t.size < 9223372036854775808 := by omega
 have hl' : s.l = putN t.size ++ (strB t ++ tail) := by rw [hl, textB, List.append_assoc]
 have hv : nV s.l = (t.size : Nat) := by rw [hl', nV_put hn]
 have hE : nE s.l = 0 := by rw [hl', nE_put hn]
 have hS : nS s.l = ((putN t.size).length : Nat) := by rw [hl', nS_put hn]
 have hlen : s.l.length = (putN t.size).length + (t.size + tail.length) := by rw [hl', List.length_append, List.length_append, strB_len]
 have h3 : tE most s.l = 0 := by
  unfold tE
  rw [if_neg (by simpa using hE), if_neg (by omega), if_neg (by omega)]
 have hd : s.l.drop (nS s.l).toNat = strB t ++ tail := by rw [hS, Int.toNat_natCast, hl', List.drop_left']; rfl
 unfold textR
 rw [if_neg (by simpa using he), if_neg (by simpa using h3)]
 refine ⟨?_, ?_⟩
 ·show baL ((s.l.drop (nS s.l).toNat).take (nV s.l).toNat) = t
  rw [hd, hv, Int.toNat_natCast, List.take_left' (strB_len t), baL_strB]
 ·show RS.mk ((s.l.drop (nS s.l).toNat).drop (nV s.l).toNat) s.e s.bad = _
  rw [hd, hv, Int.toNat_natCast, List.drop_left' (strB_len t)]
/-- What is read of a number, apart. -/
theorem num_parts {l : List UInt8} (hE : nE l = 0) : l = putZ (nV l) ++ l.drop (nS l).toNat ∧ 0 ≤ nV l ∧ nV l < 9223372036854775808 := by
 have hv : nV l < 9223372036854775808 ∧ 0 ≤ nV l := by
  have hOk : NumOk l := nE_ok hE
  have hlt := hOk.lt
  rw [nV, if_pos hE]; omega
 have h1 : (numR 9223372036854775807 { l := l }) = (nV l, RS.drop { l := l } (nS l).toNat) := by
  unfold numR
  rw [if_neg (by simp), if_neg]
  ·simp only [ne_eq, nE1, Classical.not_not]
   rw [if_neg (by omega)]; exact hE
 have h2 := num_wr 9223372036854775807 { l := l } (by rw [h1]; rfl)
 rw [h1] at h2
 exact ⟨h2.2.1, hv.2, hv.1⟩
theorem text_wr (most : Int) (hm : most < 9223372036854775808) : Wr (textR most) textB (fun t => (t.size : Int) ≤ most) := by
 intro s he
 unfold textR at he ⊢
 split at he
 ·contradiction
 ·rename_i h0
  have h0 : s.e = 0 := by simpa using h0
  split at he
  ·rename_i h1; exact absurd he (by simpa [RS.fail] using h1)
  ·rename_i h1
   have h1 : tE most s.l = 0 := by simpa using h1
   rw [if_neg (by simpa using h0), if_neg (by simpa using h1)]
   unfold tE at h1
   split at h1
   ·rename_i h2; exact absurd h1 h2
   ·rename_i h2
    have hE : nE s.l = 0 := by simpa using h2
    split at h1
    ·cases h1
    ·rename_i h3
     split at h1
     ·cases h1
     ·rename_i h4
      obtain ⟨p1, p2, p3⟩ := num_parts hE
      have hS0 : 0 ≤ nS s.l := by rw [nS, if_pos hE]; omega
      have hlen : (s.l.drop (nS s.l).toNat).length = s.l.length - (nS s.l).toNat := by rw [List.length_drop]
      have hle : (nV s.l).toNat ≤ (s.l.drop (nS s.l).toNat).length := by rw [hlen]; omega
      have hsz : (baL ((s.l.drop (nS s.l).toNat).take (nV s.l).toNat)).size = (nV s.l).toNat := by
       rw [← strB_len, strB_baL, List.length_take]; omega
      refine ⟨h0, ?_, ?_, rfl⟩
      ·show s.l = textB _ ++ (s.l.drop (nS s.l).toNat).drop (nV s.l).toNat
       rw [textB, hsz, strB_baL, List.append_assoc, List.take_append_drop]
       exact p1
      ·show ((baL ((s.l.drop (nS s.l).toNat).take (nV s.l).toNat)).size : Int) ≤ most
       rw [hsz]; omega
theorem intsB_segB {n : Nat} {xs : List Int} (h : SegOk n xs) : intsB (segB xs) = xs := by
 unfold intsB segB
 rw [List.map_map]
 refine (List.map_congr_left fun x hx => ?_).trans (List.map_id xs)
 have := h.rng x hx
 simp only [Function.comp, UInt8.toNat_ofNat', id]
 omega
theorem segB_intsB (l : List UInt8) : segB (intsB l) = l := by
 unfold intsB segB
 rw [List.map_map]
 refine (List.map_congr_left fun x _ => ?_).trans (List.map_id l)
 simp
theorem intsB_ok (l : List UInt8) : SegOk l.length (intsB l) := ⟨by simp [intsB], fun x hx => by
 unfold intsB at hx
 rw [List.mem_map] at hx
 obtain ⟨y, _, rfl⟩ := hx
 have := y.toNat_lt
 omega⟩
theorem raw_rd (xs : List UInt8) : Rd (rawR xs.length) (fun x => x = xs) xs := by
 intro s tail he hl
 have hlen : s.l.length = xs.length + tail.length := by rw [hl, List.length_append]
 unfold rawR
 rw [if_neg (by simpa using he), if_neg (by omega), if_neg (by omega), Int.toNat_natCast]
 refine ⟨?_, ?_⟩
 ·show s.l.take xs.length = xs
  rw [hl, List.take_left']; rfl
 ·show RS.mk (s.l.drop xs.length) s.e s.bad = _
  rw [hl, List.drop_left']; rfl
theorem arr_rd {n : Nat} {z xs : List Int} (h : SegOk n xs) : Rd (arrR n z) (fun x => x = xs) (segB xs) := by
 intro s tail he hl
 have hn : (segB xs).length = n := segB_le h
 have h1 := raw_rd (segB xs) s tail he hl
 rw [hn] at h1
 unfold arrR
 rw [h1.2, if_pos he, h1.1]
 exact ⟨intsB_segB h, rfl⟩
theorem arr_wr (n : Nat) (z : List Int) : Wr (arrR n z) segB (SegOk n) := by
 intro s he
 have he' : (rawR n s).2.e = 0 := he
 have h1 := rawR_ok he'
 have e1 : (arrR n z s).1 = intsB (rawR n s).1 := by simp [arrR, he']
 rw [e1, segB_intsB]
 have e2 : (arrR n z s).2 = (rawR n s).2 := rfl
 rw [e2]
 unfold rawR at he' h1 ⊢
 split at he'
 ·contradiction
 ·rename_i h0
  split at he'
  ·exact absurd he' (by simp [RS.fail])
  ·split at he'
   ·exact absurd he' (by simp [RS.fail])
   ·rename_i h2 h3
    rw [if_neg h0, if_neg h2, if_neg h3] at h1 ⊢
    refine ⟨by simpa using h0, ?_, ?_, rfl⟩
    ·show s.l = s.l.take _ ++ s.l.drop _
     rw [List.take_append_drop]
    ·have := intsB_ok (s.l.take ((n : Int)).toNat)
     rw [h1] at this; exact this
theorem tag_rd {xs : List Int} (h : SegOk 16 xs) : Rd tagR (fun x => x = xs) (segB xs) := arr_rd h
theorem dig_rd {xs : List Int} (h : SegOk 32 xs) : Rd digR (fun x => x = xs) (segB xs) := arr_rd h
theorem tag_wr : Wr tagR segB (SegOk 16) := arr_wr 16 z16
theorem dig_wr : Wr digR segB (SegOk 32) := arr_wr 32 z32
theorem upto_iff {n m : Int} : uptoS n m = true ↔ 0 ≤ n ∧ n ≤ m := by simp [uptoS]
/-! ### Requests -/
theorem req_rd {r : SReq} (h : mayReqS r = true) (ht : SegOk 16 r.tag) : Rd reqR (fun x => x = r) (reqB r) := by
 intro s tail he hl
 simp only [mayReqS, Bool.and_eq_true, decide_eq_true_eq, upto_iff] at h
 obtain ⟨h1, h2, h3⟩ := h
 simp only [reqB, List.append_assoc] at hl
 obtain ⟨a1, b1⟩ := num_rd (most := 8) h1.1 h1.2 (by decide) s _ he hl
 obtain ⟨a2, b2⟩ := num_rd (most := 1099511627776) h2.1 h2.2 (by decide) (numR 8 s).2 _ (by rw [b1]; exact he) (by rw [b1])
 obtain ⟨a3, b3⟩ := text_rd (most := 64) (t := r.data) (by omega) (by decide) (reqR2 s) _ (by show (numR _ (numR 8 s).2).2.e = 0; rw [b2, b1]; exact he) (by show (numR _ (numR 8 s).2).2.l = _; rw [b2])
 have b2' : reqR2 s = { s with l := textB r.data ++ (segB r.tag ++ tail) } := by show (numR _ (numR 8 s).2).2 = _; rw [b2, b1]
 have b3' : reqR3 s = { s with l := segB r.tag ++ tail } := by show (textR 64 (reqR2 s)).2 = _; rw [b3, b2']
 have hn : (segB r.tag).length = 16 := segB_le ht
 obtain ⟨a4, b4⟩ := raw_rd (segB r.tag) (reqR3 s) tail (by rw [b3']; exact he) (by rw [b3'])
 rw [hn] at a4 b4
 have b4' : reqR4 s = { s with l := tail } := by show (rawR 16 (reqR3 s)).2 = _; rw [show (16 : Int) = ((16 : Nat) : Int) from rfl, b4, b3']
 have a4' : (rawR 16 (reqR3 s)).1 = segB r.tag := a4
 unfold reqR
 rw [b4', if_pos he]
 refine ⟨?_, rfl⟩
 show SReq.mk _ _ _ _ = r
 rw [show (numR 1099511627776 (reqR1 s)).1 = r.num from a2, show (numR 8 s).1 = r.client from a1, show (textR 64 (reqR2 s)).1 = r.data from a3, a4', intsB_segB ht]
theorem req_wr : Wr reqR reqB (fun r => mayReqS r = true ∧ SegOk 16 r.tag) := by
 intro s he
 have e4 : (reqR4 s).e = 0 := he
 have e1 : (reqR s).1 = reqV s := by simp [reqR, e4]
 have e2 : (reqR s).2 = reqR4 s := rfl
 obtain ⟨g4, l4, o4, b4⟩ := arr_wr 16 z16 (reqR3 s) e4
 obtain ⟨g3, l3, o3, b3⟩ := text_wr 64 (by decide) (reqR2 s) g4
 obtain ⟨g2, l2, o2, b2⟩ := num_wr 1099511627776 (reqR1 s) g3
 obtain ⟨g1, l1, o1, b1⟩ := num_wr 8 s g2
 have ea : (arrR 16 z16 (reqR3 s)).1 = intsB (rawR 16 (reqR3 s)).1 := by
  show (if (rawR 16 (reqR3 s)).2.e = 0 then _ else _) = _
  have e4' : (rawR 16 (reqR3 s)).2.e = 0 := e4
  rw [if_pos e4']; rfl
 rw [ea] at l4 o4
 rw [e1, e2]
 refine ⟨g1, ?_, ⟨?_, o4⟩, ?_⟩
 ·have l1' : s.l = putZ (numR 8 s).1 ++ (reqR1 s).l := l1
  have l2' : (reqR1 s).l = putZ (numR 1099511627776 (reqR1 s)).1 ++ (reqR2 s).l := l2
  have l3' : (reqR2 s).l = textB (textR 64 (reqR2 s)).1 ++ (reqR3 s).l := l3
  have l4' : (reqR3 s).l = segB (intsB (rawR 16 (reqR3 s)).1) ++ (reqR4 s).l := l4
  show s.l = (putZ (numR 8 s).1 ++ (putZ (numR 1099511627776 (reqR1 s)).1 ++ (textB (textR 64 (reqR2 s)).1 ++ segB (intsB (rawR 16 (reqR3 s)).1)))) ++ (reqR4 s).l
  simp only [List.append_assoc]
  rw [← l4', ← l3', ← l2', ← l1']
 ·simp only [mayReqS, Bool.and_eq_true, decide_eq_true_eq, upto_iff]
  exact ⟨⟨o1.1, o1.2.1⟩, ⟨o2.1, o2.2.1⟩, by have : ((reqV s).data.size : Int) ≤ 64 := o3; omega⟩
 ·exact b4.trans (b3.trans (b2.trans b1))
/-! ### Lists -/
section
variable {α : Type} {one : RS → α × RS} {enc : α → List UInt8}
def encs (enc : α → List UInt8) (el : Nat → α) : Nat → List UInt8
 | 0 => []
 | k + 1 => encs enc el k ++ enc (el k)
theorem encs_congr {enc : α → List UInt8} {el el' : Nat → α} : ∀ n, (∀ i, i < n → enc (el i) = enc (el' i)) → encs enc el n = encs enc el' n
 | 0, _ => rfl
 | n + 1, h => by rw [encs, encs, encs_congr n fun i hi => h i (by omega), h n (by omega)]
theorem stR_rd {rel : α → α → Prop} {el : Nat → α} {s : RS} (he : s.e = 0) : ∀ n, (∀ i, i < n → Rd one (fun x => rel x (el i)) (enc (el i))) → ∀ tail, s.l = encs enc el n ++ tail → stR one s n = { s with l := tail } ∧ ∀ i, i < n → rel (one (stR one s i)).1 (el i)
 | 0, _, tail, hl => ⟨by show s = _; rw [encs, List.nil_append] at hl; rw [← hl], fun i hi => absurd hi (Nat.not_lt_zero i)⟩
 | n + 1, h, tail, hl => by
  rw [encs, List.append_assoc] at hl
  obtain ⟨h1, h2⟩ := stR_rd he n (fun i hi => h i (by omega)) _ hl
  obtain ⟨h3, h4⟩ := h n (by omega) (stR one s n) tail (by rw [h1]; exact he) (by rw [h1])
  refine ⟨by show (one (stR one s n)).2 = _; rw [h4, h1], fun i hi => ?_⟩
  rcases Nat.lt_or_ge i n with h5 | h5
  ·exact h2 i h5
  ·obtain rfl : i = n := by omega
   exact h3
theorem cntR_all : ∀ n s, (∀ k, k < n → (stR one s k).e = 0) → cntR one n s = n
 | 0, _, _ => rfl
 | n + 1, s, h => by
  have h0 : s.e = 0 := h 0 (by omega)
  rw [cntR, if_pos h0, cntR_all n _ fun k hk => by rw [stR_succ]; exact h (k + 1) (by omega)]
theorem stR_wr {ok : α → Prop} (h : Wr one enc ok) {s : RS} : ∀ n, (stR one s n).e = 0 → (∀ k, k ≤ n → (stR one s k).e = 0) ∧ s.l = encs enc (fun i => (one (stR one s i)).1) n ++ (stR one s n).l ∧ (∀ i, i < n → ok (one (stR one s i)).1) ∧ (stR one s n).bad = s.bad
 | 0, h0 => ⟨fun k hk => (show k = 0 by omega) ▸ h0, rfl, fun i hi => absurd hi (Nat.not_lt_zero i), rfl⟩
 | n + 1, h0 => by
  obtain ⟨g1, g2, g3, g4⟩ := h (stR one s n) h0
  obtain ⟨k1, k2, k3, k4⟩ := stR_wr h n g1
  refine ⟨fun k hk => ?_, ?_, fun i hi => ?_, g4.trans k4⟩
  ·rcases Nat.lt_or_ge k (n + 1) with h5 | h5
   ·exact k1 k (by omega)
   ·obtain rfl : k = n + 1 := by omega
    exact h0
  ·rw [encs, List.append_assoc]
   show s.l = _ ++ (enc (one (stR one s n)).1 ++ (one (stR one s n)).2.l)
   rw [← g2]; exact k2
  ·rcases Nat.lt_or_ge i n with h5 | h5
   ·exact k3 i h5
   ·obtain rfl : i = n := by omega
    exact g3
theorem get_rd {rel : α → α → Prop} {el : Nat → α} {n : Nat} {most : Int} (hn : (n : Int) ≤ most) (hm : most < 9223372036854775808) (h : ∀ i, i < n → Rd one (fun x => rel x (el i)) (enc (el i))) {s : RS} (he : s.e = 0) {tail : List UInt8} (hl : s.l = numsB [(n : Int)] ++ (encs enc el n ++ tail)) :
  getN one most s = n ∧ (∀ i, i < n → rel (getEl one most s i) (el i)) ∧ getS one most s = { s with l := tail } := by
 simp only [numsB, List.append_nil] at hl
 obtain ⟨a1, b1⟩ := num_rd (most := most) (n := (n : Int)) (by omega) hn hm s _ he hl
 have hs1 : (numR most s).2.e = 0 := by rw [b1]; exact he
 have key : ∀ k, k ≤ n → (stR one (numR most s).2 k).e = 0 := by
  intro k hk
  have hsplit : ∀ j, k + j = n → ∃ rest, encs enc el n = encs enc el k ++ rest := by
   intro j
   induction j generalizing k with
   | zero =>
    intro e
    obtain rfl : k = n := by omega
    exact ⟨[], by simp⟩
   | succ j ih =>
    intro e
    obtain ⟨rest, hr⟩ := ih (k + 1) (by omega) (by omega)
    exact ⟨enc (el k) ++ rest, by rw [hr, encs, List.append_assoc]⟩
  obtain ⟨rest, hr⟩ := hsplit (n - k) (by omega)
  have := (stR_rd (one := one) (enc := enc) (rel := rel) (el := el) hs1 k (fun i hi => h i (by omega)) (rest ++ tail) (by rw [b1, hr, List.append_assoc])).1
  rw [this]; exact hs1
 have hc : cntR one n (numR most s).2 = n := cntR_all n _ fun k hk => key k (by omega)
 have hN : getN one most s = n := by show cntR one (numR most s).1.toNat (numR most s).2 = n; rw [a1, Int.toNat_natCast]; exact hc
 obtain ⟨q1, q2⟩ := stR_rd (one := one) (enc := enc) (rel := rel) (el := el) hs1 n h tail (by rw [b1])
 refine ⟨hN, q2, ?_⟩
 show stR one (numR most s).2 (getN one most s) = _
 rw [hN, q1, b1]
theorem get_wr {ok : α → Prop} (h : Wr one enc ok) {most : Int} {s : RS} (he : (getS one most s).e = 0) :
  s.e = 0 ∧ s.l = numsB [((getN one most s : Nat) : Int)] ++ (encs enc (getEl one most s) (getN one most s) ++ (getS one most s).l) ∧ ((getN one most s : Nat) : Int) ≤ most ∧ (∀ i, i < getN one most s → ok (getEl one most s i)) ∧ (getS one most s).bad = s.bad := by
 obtain ⟨k1, k2, k3, k4⟩ := stR_wr h (s := (numR most s).2) (getN one most s) he
 have h0 : (numR most s).2.e = 0 := k1 0 (Nat.zero_le _)
 obtain ⟨g1, g2, g3, g4⟩ := num_wr most s h0
 have hN : getN one most s = (numR most s).1.toNat := by
  rcases cntR_end one (numR most s).1.toNat (numR most s).2 with h1 | h1
  ·exact h1
  ·exact absurd he h1
 have hz : ((getN one most s : Nat) : Int) = (numR most s).1 := by rw [hN]; omega
 refine ⟨g1, ?_, by omega, k3, k4.trans g4⟩
 simp only [numsB, List.append_nil]
 rw [hz, g2]
 congr 1
end
theorem signsB_encs (s : Nat → SSign) : ∀ n, signsB s n = encs signB s n
 | 0 => rfl
 | n + 1 => by rw [signsB, encs, signsB_encs s n]
theorem heldsB_encs (s : Nat → SHeld) : ∀ n, heldsB s n = encs heldB s n
 | 0 => rfl
 | n + 1 => by rw [heldsB, encs, heldsB_encs s n]
theorem envsB_encs (s : Nat → SEnv) : ∀ n, envsB s n = encs envB s n
 | 0 => rfl
 | n + 1 => by rw [envsB, encs, envsB_encs s n]
theorem reqsB_encs (s : Nat → SReq) : ∀ n, reqsB s n = encs reqB s n
 | 0 => rfl
 | n + 1 => by rw [reqsB, encs, reqsB_encs s n]
end Go.Proofs.Ythifjamdfpjilaa
namespace Go.Proofs.Ythifjamdfpjilaa
open Go Sy Go.Proofs
theorem sign_rd {x : SSign} (h : maySignS x = true) (ht : SegOk 16 x.tag) : Rd signR (fun y => y = x) (signB x) := by
 intro s tail he hl
 simp only [maySignS, upto_iff] at h
 simp only [signB, numsB, List.append_nil, List.append_assoc] at hl
 obtain ⟨a1, b1⟩ := num_rd (most := 64) h.1 h.2 (by decide) s _ he hl
 obtain ⟨a2, b2⟩ := tag_rd ht (numR 64 s).2 tail (by rw [b1]; exact he) (by rw [b1])
 refine ⟨?_, ?_⟩
 ·show SSign.mk _ _ = x
  rw [a1, a2]
 ·show (tagR (numR 64 s).2).2 = _
  rw [b2, b1]
theorem sign_wr : Wr signR signB (fun x => maySignS x = true ∧ SegOk 16 x.tag) := by
 intro s he
 obtain ⟨g2, l2, o2, b2⟩ := tag_wr (numR 64 s).2 he
 obtain ⟨g1, l1, o1, b1⟩ := num_wr 64 s g2
 refine ⟨g1, ?_, ⟨upto_iff.2 ⟨o1.1, o1.2.1⟩, o2⟩, b2.trans b1⟩
 show s.l = (numsB [(numR 64 s).1] ++ segB (tagR (numR 64 s).2).1) ++ (tagR (numR 64 s).2).2.l
 simp only [numsB, List.append_nil, List.append_assoc]
 rw [← l2, ← l1]
theorem env_rd {x : SEnv} (h : mayEnvS x = true) (ht : SegOk 16 x.tag) : Rd envR (fun y => y = x) (envB x) := by
 intro s tail he hl
 simp only [mayEnvS, Bool.and_eq_true, decide_eq_true_eq, upto_iff] at h
 obtain ⟨h1, h2⟩ := h
 simp only [envB, numsB, List.append_nil, List.append_assoc] at hl
 obtain ⟨a1, b1⟩ := num_rd (most := 64) h1.1 h1.2 (by decide) s _ he hl
 obtain ⟨a2, b2⟩ := text_rd (most := 4194304) (t := x.body) (by omega) (by decide) (envR1 s) _ (by show (numR 64 s).2.e = 0; rw [b1]; exact he) (by show (numR 64 s).2.l = _; rw [b1])
 have b2' : envR2 s = { s with l := segB x.tag ++ tail } := by show (textR 4194304 (envR1 s)).2 = _; rw [b2]; show RS.mk _ (numR 64 s).2.e (numR 64 s).2.bad = _; rw [b1]
 obtain ⟨a3, b3⟩ := tag_rd ht (envR2 s) tail (by rw [b2']; exact he) (by rw [b2'])
 refine ⟨?_, ?_⟩
 ·show SEnv.mk _ _ _ = x
  rw [a1, a2, a3]
 ·show (tagR (envR2 s)).2 = _
  rw [b3, b2']
theorem env_wr : Wr envR envB (fun x => mayEnvS x = true ∧ SegOk 16 x.tag) := by
 intro s he
 obtain ⟨g3, l3, o3, b3⟩ := tag_wr (envR2 s) he
 obtain ⟨g2, l2, o2, b2⟩ := text_wr 4194304 (by decide) (envR1 s) g3
 obtain ⟨g1, l1, o1, b1⟩ := num_wr 64 s g2
 refine ⟨g1, ?_, ⟨?_, o3⟩, b3.trans (b2.trans b1)⟩
 ·show s.l = (numsB [(numR 64 s).1] ++ (textB (textR 4194304 (envR1 s)).1 ++ segB (tagR (envR2 s)).1)) ++ (tagR (envR2 s)).2.l
  simp only [numsB, List.append_nil, List.append_assoc]
  rw [← l3, show (envR2 s).l = (textR 4194304 (envR1 s)).2.l from rfl, ← l2, show (envR1 s).l = (numR 64 s).2.l from rfl, ← l1]
 ·simp only [mayEnvS, Bool.and_eq_true, decide_eq_true_eq, upto_iff]
  have o2' : (((envR s).1.body.size : Nat) : Int) ≤ 4194304 := o2
  exact ⟨⟨o1.1, o1.2.1⟩, by omega⟩
theorem vote_rd {x : SVote} (h : mayVoteS x = true) (ht : SegOk 32 x.digest) : Rd voteR (fun y => y = x) (voteB x) := by
 intro s tail he hl
 simp only [mayVoteS, Bool.and_eq_true, Bool.or_eq_true, decide_eq_true_eq, upto_iff] at h
 obtain ⟨h1, h2, h3, h4⟩ := h
 simp only [voteB, numsB, List.append_nil, List.append_assoc] at hl
 obtain ⟨a1, b1⟩ := num_rd (n := x.kind) (most := 2) (by omega) (by omega) (by decide) s _ he hl
 have e0 : voteR0 s = { s with l := putZ x.epoch ++ (putZ x.view ++ (putZ x.slot ++ (segB x.digest ++ tail))) } := by
  unfold voteR0
  rw [if_neg (by rw [a1]; omega), b1]
 obtain ⟨a2, b2⟩ := num_rd (most := 1048576) h2.1 h2.2 (by decide) (voteR0 s) _ (by rw [e0]; exact he) (by rw [e0])
 have e1 : voteR1 s = { s with l := putZ x.view ++ (putZ x.slot ++ (segB x.digest ++ tail)) } := by show (numR 1048576 (voteR0 s)).2 = _; rw [b2, e0]
 obtain ⟨a3, b3⟩ := num_rd (most := 1099511627776) h3.1 h3.2 (by decide) (voteR1 s) _ (by rw [e1]; exact he) (by rw [e1])
 have e2 : voteR2 s = { s with l := putZ x.slot ++ (segB x.digest ++ tail) } := by show (numR 1099511627776 (voteR1 s)).2 = _; rw [b3, e1]
 obtain ⟨a4, b4⟩ := num_rd (most := 1099511627776) h4.1 h4.2 (by decide) (voteR2 s) _ (by rw [e2]; exact he) (by rw [e2])
 have e3 : voteR3 s = { s with l := segB x.digest ++ tail } := by show (numR 1099511627776 (voteR2 s)).2 = _; rw [b4, e2]
 obtain ⟨a5, b5⟩ := dig_rd ht (voteR3 s) tail (by rw [e3]; exact he) (by rw [e3])
 refine ⟨?_, ?_⟩
 ·show SVote.mk _ _ _ _ _ = x
  rw [a1, a2, a3, a4, a5]
 ·show (digR (voteR3 s)).2 = _
  rw [b5, e3]
theorem vote_wr : Wr voteR voteB (fun x => mayVoteS x = true ∧ SegOk 32 x.digest) := by
 intro s he
 obtain ⟨g5, l5, o5, b5⟩ := dig_wr (voteR3 s) he
 obtain ⟨g4, l4, o4, b4⟩ := num_wr 1099511627776 (voteR2 s) g5
 obtain ⟨g3, l3, o3, b3⟩ := num_wr 1099511627776 (voteR1 s) g4
 obtain ⟨g2, l2, o2, b2⟩ := num_wr 1048576 (voteR0 s) g3
 have hk : ¬ ((numR 2 s).1 = 0 ∧ (numR 2 s).2.e = 0) := fun hh => by
  have : voteR0 s = (numR 2 s).2.spoil := by unfold voteR0; rw [if_pos hh]
  rw [this] at g2; exact absurd g2 (by simp [RS.spoil])
 have e0 : voteR0 s = (numR 2 s).2 := by unfold voteR0; rw [if_neg hk]
 rw [e0] at g2 l2
 obtain ⟨g1, l1, o1, b1⟩ := num_wr 2 s g2
 refine ⟨g1, ?_, ⟨?_, o5⟩, b5.trans (b4.trans (b3.trans (b2.trans (by rw [e0]; exact b1))))⟩
 ·show s.l = (numsB [(numR 2 s).1, (numR 1048576 (voteR0 s)).1, (numR 1099511627776 (voteR1 s)).1, (numR 1099511627776 (voteR2 s)).1] ++ segB (digR (voteR3 s)).1) ++ (digR (voteR3 s)).2.l
  simp only [numsB, List.append_nil, List.append_assoc]
  rw [← l5, show (voteR3 s).l = (numR 1099511627776 (voteR2 s)).2.l from rfl, ← l4, show (voteR2 s).l = (numR 1099511627776 (voteR1 s)).2.l from rfl, ← l3, show (voteR1 s).l = (numR 1048576 (voteR0 s)).2.l from rfl, e0, ← l2, ← l1]
 ·simp only [mayVoteS, Bool.and_eq_true, Bool.or_eq_true, decide_eq_true_eq, upto_iff]
  have k0 : (numR 2 s).1 ≠ 0 := fun h => hk ⟨h, g2⟩
  have o1' := o1.1
  have o1'' := o1.2.1
  refine ⟨?_, ⟨o2.1, o2.2.1⟩, ⟨o3.1, o3.2.1⟩, ⟨o4.1, o4.2.1⟩⟩
  show (numR 2 s).1 = 1 ∨ (numR 2 s).1 = 2
  omega
/-! ### Batches -/
theorem itR_stR {α : Type} (one : RS → α × RS) : ∀ k s, (itR one k s).2 = stR one s k
 | 0, _ => rfl
 | k + 1, s => by show (itR one k (one s).2).2 = _; rw [itR_stR one k, stR_succ]
theorem itR_len {α : Type} (one : RS → α × RS) : ∀ k s, (itR one k s).1.length = k
 | 0, _ => rfl
 | k + 1, s => by show (_ :: (itR one k (one s).2).1).length = _; rw [List.length_cons, itR_len one k]
theorem itR_get {α : Type} (one : RS → α × RS) (d : α) : ∀ k s i, i < k → (itR one k s).1.getD i d = (one (stR one s i)).1
 | 0, _, i, h => absurd h (Nat.not_lt_zero i)
 | k + 1, s, 0, _ => rfl
 | k + 1, s, i + 1, h => by
  show (itR one k (one s).2).1.getD i d = _
  rw [itR_get one d k _ i (by omega), stR_succ]
def segBatch (b : SBatch) : Prop := ∀ i, i < b.n → SegOk 16 (b.req i).tag
theorem allS_iff {n most : Nat} {p : Nat → Bool} : allS n most p = true ↔ n ≤ most ∧ ∀ i, i < n → p i = true := by simp [allS]
theorem sameL_iff {n n' : Nat} {p : Nat → Bool} : sameL n n' p = true ↔ n = n' ∧ ∀ i, i < n → p i = true := by simp [sameL]
theorem reqEq_iff {a b : SReq} : reqEq a b = true ↔ a = b := by
 constructor
 ·intro h
  obtain ⟨h1, h2, h3, h4⟩ := reqEq_neg h
  cases a; cases b; simp_all
 ·rintro rfl; simp [reqEq]
theorem signEq_iff {a b : SSign} : signEq a b = true ↔ a = b := by
 constructor
 ·intro h
  simp only [signEq, Bool.and_true, Bool.and_eq_true, decide_eq_true_eq] at h
  cases a; cases b; simp_all
 ·rintro rfl; simp [signEq]
theorem envEq_iff {a b : SEnv} : envEq a b = true ↔ a = b := by
 constructor
 ·intro h
  simp only [envEq, Bool.and_true, Bool.and_eq_true, decide_eq_true_eq] at h
  cases a; cases b; simp_all
 ·rintro rfl; simp [envEq]
theorem voteEq_iff {a b : SVote} : voteEq a b = true ↔ a = b := by
 constructor
 ·intro h
  simp only [voteEq, Bool.and_true, Bool.and_eq_true, decide_eq_true_eq] at h
  cases a; cases b; simp_all
 ·rintro rfl; simp [voteEq]
theorem sameBatch_iff {a b : SBatch} : sameBatchS a b = true ↔ a.noop = b.noop ∧ a.n = b.n ∧ ∀ i, i < a.n → a.req i = b.req i := by
 simp only [sameBatchS, Bool.and_eq_true, sameL_iff, reqEq_iff, beq_iff_eq]
theorem batch_rd {b : SBatch} (h : mayBatchS b = true) (ht : segBatch b) : Rd batchR (fun y => sameBatchS y b = true) (batchB b) := by
 intro s tail he hl
 simp only [mayBatchS, Bool.and_eq_true, Bool.not_eq_true', Bool.and_eq_false_iff, decide_eq_false_iff_not, allS_iff] at h
 obtain ⟨h1, h2, h3⟩ := h
 cases hno : b.noop with
 | true =>
  have hn0 : b.n = 0 := by
   rcases h1 with h1 | h1
   ·rw [hno] at h1; cases h1
   ·omega
  have hb : batchB b = putZ 0 := by simp [batchB, hno]
  rw [hb] at hl
  obtain ⟨a1, b1⟩ := num_rd (n := 0) (most := 5) (by decide) (by decide) (by decide) s _ he hl
  have e1 : batch1 s = ([], { s with l := tail }) := by unfold batch1; rw [a1, b1]; rfl
  unfold batchR
  rw [e1, if_pos he, a1]
  exact ⟨sameBatch_iff.2 ⟨by rw [hno]; rfl, hn0.symm, fun i hi => absurd hi (Nat.not_lt_zero i)⟩, rfl⟩
 | false =>
  have hb : batchB b = putZ ((b.n + 1 : Nat) : Int) ++ reqsB b.req b.n := by simp [batchB, hno]
  rw [hb, List.append_assoc] at hl
  obtain ⟨a1, b1⟩ := num_rd (n := ((b.n + 1 : Nat) : Int)) (most := 5) (by omega) (by omega) (by decide) s _ he hl
  have hs1 : (numR 5 s).2.e = 0 := by rw [b1]; exact he
  obtain ⟨q1, q2⟩ := stR_rd (one := reqR) (enc := reqB) (rel := fun x y => x = y) (el := b.req) hs1 b.n (fun i hi => req_rd (h3 i hi) (ht i hi)) tail (by rw [b1, reqsB_encs])
  have hk : (numR 5 s).1.toNat - 1 = b.n := by rw [a1]; omega
  have e2 : (batch1 s).2 = { s with l := tail } := by
   show (itR reqR ((numR 5 s).1.toNat - 1) (numR 5 s).2).2 = _
   rw [hk, itR_stR, q1, b1]
  have e1 : (batchR s).1 = batchOf (decide ((numR 5 s).1 = 0)) (batch1 s).1 := by
   show (if (batch1 s).2.e = 0 then _ else _) = _
   rw [if_pos (by rw [e2]; exact he)]
  refine ⟨?_, e2⟩
  rw [e1]
  have hlen : (batch1 s).1.length = b.n := by
   show (itR reqR ((numR 5 s).1.toNat - 1) (numR 5 s).2).1.length = _
   rw [itR_len, hk]
  refine sameBatch_iff.2 ⟨?_, hlen, fun i hi => ?_⟩
  ·show decide ((numR 5 s).1 = 0) = b.noop
   rw [hno, decide_eq_false_iff_not, a1]; omega
  ·have hi' : i < b.n := by rw [← hlen]; exact hi
   show (itR reqR ((numR 5 s).1.toNat - 1) (numR 5 s).2).1.getD i req0 = _
   rw [itR_get _ _ _ _ _ (by rw [hk]; exact hi')]
   exact q2 i hi'
theorem batch_wr : Wr batchR batchB (fun b => mayBatchS b = true ∧ segBatch b) := by
 intro s he
 have he' : (batch1 s).2.e = 0 := he
 have e1 : (batchR s).1 = batchOf (decide ((numR 5 s).1 = 0)) (batch1 s).1 := by
  show (if (batch1 s).2.e = 0 then _ else _) = _
  rw [if_pos he']
 have e2 : (batchR s).2 = stR reqR (numR 5 s).2 ((numR 5 s).1.toNat - 1) := itR_stR _ _ _
 have e3 : (stR reqR (numR 5 s).2 ((numR 5 s).1.toNat - 1)).e = 0 := by rw [← e2]; exact he
 obtain ⟨k1, k2, k3, k4⟩ := stR_wr req_wr _ e3
 have g0 : (numR 5 s).2.e = 0 := k1 0 (Nat.zero_le _)
 obtain ⟨g1, l1, o1, b1⟩ := num_wr 5 s g0
 have hlen : (batch1 s).1.length = (numR 5 s).1.toNat - 1 := itR_len _ _ _
 have hget : ∀ i, i < (numR 5 s).1.toNat - 1 → (batch1 s).1.getD i req0 = (reqR (stR reqR (numR 5 s).2 i)).1 := fun i hi => itR_get _ _ _ _ _ hi
 rw [e1, e2]
 refine ⟨g1, ?_, ⟨?_, ?_⟩, k4.trans b1⟩
 ·by_cases h0 : (numR 5 s).1 = 0
  ·have hb : batchB (batchOf (decide ((numR 5 s).1 = 0)) (batch1 s).1) = putZ 0 := by simp [batchB, batchOf, h0]
   rw [hb]
   rw [h0] at l1 ⊢
   exact l1
  ·have hb : batchB (batchOf (decide ((numR 5 s).1 = 0)) (batch1 s).1) = putZ ((((batch1 s).1.length + 1 : Nat)) : Int) ++ reqsB (fun i => (batch1 s).1.getD i req0) (batch1 s).1.length := by simp [batchB, batchOf, h0]
   rw [hb, hlen, reqsB_encs, encs_congr (el' := fun i => (reqR (stR reqR (numR 5 s).2 i)).1) _ (fun i hi => by rw [hget i hi]), List.append_assoc, ← k2]
   have o := o1.1
   rw [show ((((numR 5 s).1.toNat - 1 + 1 : Nat)) : Int) = (numR 5 s).1 by omega]
   exact l1
 ·simp only [mayBatchS, Bool.and_eq_true, Bool.not_eq_true', Bool.and_eq_false_iff, decide_eq_false_iff_not, allS_iff]
  have hn : (batchOf (decide ((numR 5 s).1 = 0)) (batch1 s).1).n = (numR 5 s).1.toNat - 1 := hlen
  rw [hn]
  have o := o1.2.1
  refine ⟨?_, by omega, fun i hi => ?_⟩
  ·by_cases h0 : (numR 5 s).1 = 0
   ·right; omega
   ·left; show decide ((numR 5 s).1 = 0) = false; exact decide_eq_false h0
  ·show mayReqS ((batch1 s).1.getD i req0) = true
   rw [hget i hi]; exact (k3 i hi).1
 ·intro i hi
  have hi' : i < (numR 5 s).1.toNat - 1 := by rw [← hlen]; exact hi
  show SegOk 16 ((batch1 s).1.getD i req0).tag
  rw [hget i hi']; exact (k3 i hi').2
/-! ### Certs, what was held -/
structure segCert (c : SCert) : Prop where
 vote : SegOk 32 c.vote.digest
 sig : ∀ i, i < c.n → SegOk 16 (c.sig i).tag
structure segHeld (h : SHeld) : Prop where
 batch : segBatch h.batch
 cert : segCert h.cert
theorem sameCert_iff {a b : SCert} : sameCertS a b = true ↔ a.vote = b.vote ∧ a.n = b.n ∧ ∀ i, i < a.n → a.sig i = b.sig i := by
 simp only [sameCertS, Bool.and_eq_true, sameL_iff, signEq_iff, voteEq_iff]
theorem cert_rd {c : SCert} (h : mayCertS c = true) (ht : segCert c) : Rd certR (fun y => sameCertS y c = true) (certB c) := by
 intro s tail he hl
 simp only [mayCertS, Bool.and_eq_true, allS_iff] at h
 obtain ⟨h1, h2, h3⟩ := h
 simp only [certB, List.append_assoc] at hl
 obtain ⟨a1, b1⟩ := vote_rd h1 ht.vote s _ he hl
 obtain ⟨q1, q2, q3⟩ := get_rd (one := signR) (enc := signB) (rel := fun x y => x = y) (el := c.sig) (n := c.n) (most := 64) (by omega) (by decide) (fun i hi => sign_rd (h3 i hi) (ht.sig i hi)) (s := (voteR s).2) (by rw [b1]; exact he) (tail := tail) (by rw [b1, signsB_encs])
 refine ⟨?_, ?_⟩
 ·exact sameCert_iff.2 ⟨a1, q1, fun i hi => q2 i (by rw [← q1]; exact hi)⟩
 ·show getS signR 64 (voteR s).2 = _
  rw [q3, b1]
theorem cert_wr : Wr certR certB (fun c => mayCertS c = true ∧ segCert c) := by
 intro s he
 obtain ⟨g2, l2, n2, o2, b2⟩ := get_wr sign_wr (most := 64) (s := (voteR s).2) he
 obtain ⟨g1, l1, o1, b1⟩ := vote_wr s g2
 refine ⟨g1, ?_, ⟨?_, o1.2, fun i hi => (o2 i hi).2⟩, b2.trans b1⟩
 ·show s.l = (voteB (voteR s).1 ++ (numsB [((getN signR 64 (voteR s).2 : Nat) : Int)] ++ signsB (getEl signR 64 (voteR s).2) (getN signR 64 (voteR s).2))) ++ (getS signR 64 (voteR s).2).l
  simp only [List.append_assoc]
  rw [signsB_encs, ← l2, ← l1]
 ·simp only [mayCertS, Bool.and_eq_true, allS_iff]
  exact ⟨o1.1, by have : ((getN signR 64 (voteR s).2 : Nat) : Int) ≤ 64 := n2; show getN signR 64 (voteR s).2 ≤ 64; omega, fun i hi => (o2 i hi).1⟩
theorem held_rd {x : SHeld} (h : mayHeldS x = true) (ht : segHeld x) : Rd heldR (fun y => sameHeldS y x = true) (heldB x) := by
 intro s tail he hl
 simp only [mayHeldS, Bool.and_eq_true] at h
 simp only [heldB, List.append_assoc] at hl
 obtain ⟨a1, b1⟩ := batch_rd h.1 ht.batch s _ he hl
 obtain ⟨a2, b2⟩ := cert_rd h.2 ht.cert (batchR s).2 tail (by rw [b1]; exact he) (by rw [b1])
 refine ⟨?_, ?_⟩
 ·simp only [sameHeldS, Bool.and_eq_true]; exact ⟨a1, a2⟩
 ·show (certR (batchR s).2).2 = _
  rw [b2, b1]
theorem held_wr : Wr heldR heldB (fun x => mayHeldS x = true ∧ segHeld x) := by
 intro s he
 obtain ⟨g2, l2, o2, b2⟩ := cert_wr (batchR s).2 he
 obtain ⟨g1, l1, o1, b1⟩ := batch_wr s g2
 refine ⟨g1, ?_, ⟨?_, o1.2, o2.2⟩, b2.trans b1⟩
 ·show s.l = (batchB (batchR s).1 ++ certB (certR (batchR s).2).1) ++ (certR (batchR s).2).2.l
  rw [List.append_assoc, ← l2, ← l1]
 ·simp only [mayHeldS, Bool.and_eq_true]; exact ⟨o1.1, o2.1⟩
end Go.Proofs.Ythifjamdfpjilaa
