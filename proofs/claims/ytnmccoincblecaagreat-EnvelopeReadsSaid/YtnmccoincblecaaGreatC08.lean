/-
  Contracts and laws that the claim's theorem leans on, joined out of the texts Tb0 Tb1D Tb1 Tb2D Tb2 Tb3D (own work of this seat): Contracts: what is read of bytes; Contracts: the message's reader: digests, tags, signs, envelopes, votes; Contracts: the message's reader: digests, tags, signs, envelopes, votes; Contracts: lists, certs and what was held are read; Contracts: lists, certs and what was held are read; Contracts: certs, what was held and a message's fields are read.
-/
import Derived.Test.YtnmccoincblecaaGreatC07
set_option linter.unusedVariables false
set_option linter.unusedSimpArgs false
set_option maxHeartbeats 1000000
namespace Go.Proofs.YtnmccoincblecaaGreat
open Go Sy Go.Proofs
theorem bdReqT_p10 (s : RS) (s1 : RS) (s2 : RS) (s3 : RS) (s4 : RS) (a : Int) (b : Int) (d : ByteArray) (xs : List UInt8) :
  along Tryz.prog (bdReqT s s1 s2 s3 s4 a b d xs) [true, false] = (some (.agg [.int .i64 a, .int .i64 b, .str d, .seg .u8 16 (intsB xs)], [(.o 0, rdB s4)], [T Tryz.prog 25 [.ptr (.o 0) 0 0 0 0, .int .i64 8] [(.o 0, rdB s)] (.int .i64 a) [(.o 0, rdB s1)], T Tryz.prog 25 [.ptr (.o 0) 0 0 0 0, .int .i64 1099511627776] [(.o 0, rdB s1)] (.int .i64 b) [(.o 0, rdB s2)], T Tryz.prog 26 [.ptr (.o 0) 0 0 0 0, .int .i64 64] [(.o 0, rdB s2)] (.str d) [(.o 0, rdB s3)], T Tryz.prog 27 [.ptr (.o 0) 0 0 0 0, .int .i64 16] [(.o 0, rdB s3)] (.ros 1 16 (bl xs) false) [(.o 0, rdB s4)], nat_lit 16 ≤ (16 : Nat), ∀ (q : Nat), q < (16 : Nat) → true = true, q false, q (List.length (RS.l s4)), ∀ (k : Nat), k < List.length (RS.l s4) → bl (RS.l s4) k = bl (RS.l s4) k, false = true → false = true, q (RS.e s4), q2, q a, q b, q d, q (16 : Nat), segSet (16 : Nat) z16 (nat_lit 0) (nat_lit 16) (bl xs) = intsB xs, q0, q0, q0]) : Option (V × Heap × List Prop)) := by kernel_rfl

theorem bdReqF_p01 (s : RS) (s1 : RS) (s2 : RS) (s3 : RS) (s4 : RS) (a : Int) (b : Int) (d : ByteArray) (xs : List UInt8) :
  along Tryz.prog (bdReqF s s1 s2 s3 s4 a b d xs) [false, true] = (some (.agg [.int .i64 0, .int .i64 0, .str (baL []), .seg .u8 16 z16], [(.o 0, rdB s4)], [T Tryz.prog 25 [.ptr (.o 0) 0 0 0 0, .int .i64 8] [(.o 0, rdB s)] (.int .i64 a) [(.o 0, rdB s1)], T Tryz.prog 25 [.ptr (.o 0) 0 0 0 0, .int .i64 1099511627776] [(.o 0, rdB s1)] (.int .i64 b) [(.o 0, rdB s2)], T Tryz.prog 26 [.ptr (.o 0) 0 0 0 0, .int .i64 64] [(.o 0, rdB s2)] (.str d) [(.o 0, rdB s3)], T Tryz.prog 27 [.ptr (.o 0) 0 0 0 0, .int .i64 16] [(.o 0, rdB s3)] (.ros 1 0 (bl []) false) [(.o 0, rdB s4)], nat_lit 16 ≤ (16 : Nat), ∀ (q : Nat), q < (0 : Nat) → true = true, q2, q (List.length (RS.l s4)), ∀ (k : Nat), k < List.length (RS.l s4) → bl (RS.l s4) k = bl (RS.l s4) k, false = true → false = true, q (RS.e s4), q2, q1, q1, ByteArray.empty = baL [], q (16 : Nat), q z16, q0, q0, q0]) : Option (V × Heap × List Prop)) := by kernel_rfl

theorem bdBat0_p00 (s : RS) (s0 : RS) (n : Int) :
  along Tryz.prog (bdBat0 s s0 n) [false, false] = (some (.agg [.bool (decide (n = (0 : Int))), rq 0 fun i => SReq.mk (0 : Int) (0 : Int) (baL []) z16], [(.o 0, rdB s0)], [T Tryz.prog 25 [.ptr (.o 0) 0 0 0 0, .int .i64 5] [(.o 0, rdB s)] (.int .i64 n) [(.o 0, rdB s0)], decide ((1 : Int) < n) = false, T Tryz.prog 78 [.ptr (.o 0) 0 0 0 0] [(.o 0, rdB s0)] (.int .i64 (RS.e s0)) [(.o 0, rdB s0)], (!decide (RS.e s0 = (0 : Int))) = false, q (List.length (RS.l s0)), ∀ (k : Nat), k < List.length (RS.l s0) → bl (RS.l s0) k = bl (RS.l s0) k, false = true → false = true, q (RS.e s0), q2, q (decide (n = (0 : Int))), nat_lit 0 = (0 : Nat), q0, q0, q0]) : Option (V × Heap × List Prop)) := by kernel_rfl

theorem bdBad0_p01 (s : RS) (s0 : RS) (n : Int) :
  along Tryz.prog (bdBad0 s s0 n) [false, true] = (some (.agg [.bool false, rq 0 fun x => SReq.mk (0 : Int) (0 : Int) ByteArray.empty []], [(.o 0, rdB s0)], [T Tryz.prog 25 [.ptr (.o 0) 0 0 0 0, .int .i64 5] [(.o 0, rdB s)] (.int .i64 n) [(.o 0, rdB s0)], decide ((1 : Int) < n) = false, T Tryz.prog 78 [.ptr (.o 0) 0 0 0 0] [(.o 0, rdB s0)] (.int .i64 (RS.e s0)) [(.o 0, rdB s0)], (!decide (RS.e s0 = (0 : Int))) = true, q (List.length (RS.l s0)), ∀ (k : Nat), k < List.length (RS.l s0) → bl (RS.l s0) k = bl (RS.l s0) k, false = true → false = true, q (RS.e s0), q2, q false, q0, q0, q0, q0]) : Option (V × Heap × List Prop)) := by kernel_rfl

theorem bdBat1_p100 (s : RS) (s0 : RS) (s1 : RS) (n : Int) (r1 : SReq) :
  along Tryz.prog (bdBat1 s s0 s1 n r1) [true, false, false] = some (V.agg [V.bool (decide (n = (0 : Int))), rq (nat_lit 1) fun i => List.getD [r1] i (SReq.mk (0 : Int) (0 : Int) (baL []) z16)], [(Nm.o (0 : Nat), rdB s1)], [T Tryz.prog (25 : Nat) [V.ptr (Nm.o (0 : Nat)) (0 : Nat) (0 : Nat) (0 : Nat) (0 : Nat), V.int IntKind.i64 (5 : Int)] [(Nm.o (0 : Nat), rdB s)] (V.int IntKind.i64 n) [(Nm.o (0 : Nat), rdB s0)], decide ((1 : Int) < n) = true, T Tryz.prog (139 : Nat) [V.ptr (Nm.o (0 : Nat)) (0 : Nat) (0 : Nat) (0 : Nat) (0 : Nat)] [(Nm.o (0 : Nat), rdB s0)] (V.agg (SReq.c r1)) [(Nm.o (0 : Nat), rdB s1)], nat_lit 1 ≤ (1 : Nat), ∀ (k : Nat), k < (1 : Nat) → solid (getL [(SReq.c r1)] ((0 : Nat) + k)) = true, nat_lit 48 ≤ (140737488355328 : Nat), InR IntKind.i64 (2 : Int), decide ((2 : Int) < n) = false, T Tryz.prog (78 : Nat) [V.ptr (Nm.o (0 : Nat)) (0 : Nat) (0 : Nat) (0 : Nat) (0 : Nat)] [(Nm.o (0 : Nat), rdB s1)] (V.int IntKind.i64 (RS.e s1)) [(Nm.o (0 : Nat), rdB s1)], (!decide (RS.e s1 = (0 : Int))) = false, List.length (RS.l s1) = List.length (RS.l s1), ∀ (k : Nat), k < List.length (RS.l s1) → bl (RS.l s1) k = bl (RS.l s1) k, false = true → false = true, RS.e s1 = RS.e s1, true = true, decide (n = (0 : Int)) = decide (n = (0 : Int)), nat_lit 1 = nat_lit 1, nat_lit 1 ≤ nat_lit 1, ∀ (k : Nat), k < nat_lit 1 → catF (0 : Nat) (fun x => []) (fun k => getL [(SReq.c r1)] ((0 : Nat) + k)) ((0 : Nat) + k) = SReq.c (SBatch.req (SBatch.mk (decide (n = (0 : Int))) (nat_lit 1) fun i => List.getD [r1] i (SReq.mk (0 : Int) (0 : Int) (baL []) z16)) k), false = true → none = some (nat_lit 1), (0 : Nat) = (0 : Nat), (0 : Nat) = (0 : Nat), (0 : Nat) = (0 : Nat)]) := by kernel_rfl

theorem bdBad1_p101 (s : RS) (s0 : RS) (s1 : RS) (n : Int) (r1 : SReq) :
  along Tryz.prog (bdBad1 s s0 s1 n r1) [true, false, true] = (some (.agg [.bool false, rq 0 fun x => SReq.mk (0 : Int) (0 : Int) ByteArray.empty []], [(.o 0, rdB s1)], [T Tryz.prog 25 [.ptr (.o 0) 0 0 0 0, .int .i64 5] [(.o 0, rdB s)] (.int .i64 n) [(.o 0, rdB s0)], decide ((1 : Int) < n) = true, T Tryz.prog 139 [.ptr (.o 0) 0 0 0 0] [(.o 0, rdB s0)] (.agg (SReq.c r1)) [(.o 0, rdB s1)], nat_lit 1 ≤ (1 : Nat), ∀ (k : Nat), k < (1 : Nat) → solid (getL [(SReq.c r1)] ((0 : Nat) + k)) = true, nat_lit 48 ≤ (140737488355328 : Nat), InR IntKind.i64 (2 : Int), decide ((2 : Int) < n) = false, T Tryz.prog 78 [.ptr (.o 0) 0 0 0 0] [(.o 0, rdB s1)] (.int .i64 (RS.e s1)) [(.o 0, rdB s1)], (!decide (RS.e s1 = (0 : Int))) = true, q (List.length (RS.l s1)), ∀ (k : Nat), k < List.length (RS.l s1) → bl (RS.l s1) k = bl (RS.l s1) k, false = true → false = true, q (RS.e s1), q2, q false, q0, q0, q0, q0]) : Option (V × Heap × List Prop)) := by kernel_rfl

theorem bdBat2_p1100 (s : RS) (s0 : RS) (s1 : RS) (s2 : RS) (n : Int) (r1 : SReq) (r2 : SReq) :
  along Tryz.prog (bdBat2 s s0 s1 s2 n r1 r2) [true, true, false, false] = some (V.agg [V.bool (decide (n = (0 : Int))), rq (nat_lit 2) fun i => List.getD [r1, r2] i (SReq.mk (0 : Int) (0 : Int) (baL []) z16)], [(Nm.o (0 : Nat), rdB s2)], [T Tryz.prog (25 : Nat) [V.ptr (Nm.o (0 : Nat)) (0 : Nat) (0 : Nat) (0 : Nat) (0 : Nat), V.int IntKind.i64 (5 : Int)] [(Nm.o (0 : Nat), rdB s)] (V.int IntKind.i64 n) [(Nm.o (0 : Nat), rdB s0)], decide ((1 : Int) < n) = true, T Tryz.prog (139 : Nat) [V.ptr (Nm.o (0 : Nat)) (0 : Nat) (0 : Nat) (0 : Nat) (0 : Nat)] [(Nm.o (0 : Nat), rdB s0)] (V.agg (SReq.c r1)) [(Nm.o (0 : Nat), rdB s1)], nat_lit 1 ≤ (1 : Nat), ∀ (k : Nat), k < (1 : Nat) → solid (getL [(SReq.c r1)] ((0 : Nat) + k)) = true, nat_lit 48 ≤ (140737488355328 : Nat), InR IntKind.i64 (2 : Int), decide ((2 : Int) < n) = true, T Tryz.prog (139 : Nat) [V.ptr (Nm.o (0 : Nat)) (0 : Nat) (0 : Nat) (0 : Nat) (0 : Nat)] [(Nm.o (0 : Nat), rdB s1)] (V.agg (SReq.c r2)) [(Nm.o (0 : Nat), rdB s2)], nat_lit 1 = nat_lit 1, nat_lit 1 ≤ (1 : Nat), ∀ (k : Nat), k < (1 : Nat) → solid (getL [(SReq.c r2)] ((0 : Nat) + k)) = true, nat_lit 96 ≤ (140737488355328 : Nat), InR IntKind.i64 (3 : Int), decide ((3 : Int) < n) = false, T Tryz.prog (78 : Nat) [V.ptr (Nm.o (0 : Nat)) (0 : Nat) (0 : Nat) (0 : Nat) (0 : Nat)] [(Nm.o (0 : Nat), rdB s2)] (V.int IntKind.i64 (RS.e s2)) [(Nm.o (0 : Nat), rdB s2)], (!decide (RS.e s2 = (0 : Int))) = false, List.length (RS.l s2) = List.length (RS.l s2), ∀ (k : Nat), k < List.length (RS.l s2) → bl (RS.l s2) k = bl (RS.l s2) k, false = true → false = true, RS.e s2 = RS.e s2, true = true, decide (n = (0 : Int)) = decide (n = (0 : Int)), nat_lit 2 = nat_lit 2, nat_lit 2 ≤ nat_lit 2, ∀ (k : Nat), k < nat_lit 2 → catF (nat_lit 1) (catF (0 : Nat) (fun x => []) fun k => getL [(SReq.c r1)] ((0 : Nat) + k)) (fun k => getL [(SReq.c r2)] ((0 : Nat) + k)) ((0 : Nat) + k) = SReq.c (SBatch.req (SBatch.mk (decide (n = (0 : Int))) (nat_lit 2) fun i => List.getD [r1, r2] i (SReq.mk (0 : Int) (0 : Int) (baL []) z16)) k), false = true → none = some (nat_lit 2), (0 : Nat) = (0 : Nat), (0 : Nat) = (0 : Nat), (0 : Nat) = (0 : Nat)]) := by kernel_rfl

theorem bdBad2_p1101 (s : RS) (s0 : RS) (s1 : RS) (s2 : RS) (n : Int) (r1 : SReq) (r2 : SReq) :
  along Tryz.prog (bdBad2 s s0 s1 s2 n r1 r2) [true, true, false, true] = (some (.agg [.bool false, rq 0 fun x => SReq.mk (0 : Int) (0 : Int) ByteArray.empty []], [(.o 0, rdB s2)], [T Tryz.prog 25 [.ptr (.o 0) 0 0 0 0, .int .i64 5] [(.o 0, rdB s)] (.int .i64 n) [(.o 0, rdB s0)], decide ((1 : Int) < n) = true, T Tryz.prog 139 [.ptr (.o 0) 0 0 0 0] [(.o 0, rdB s0)] (.agg (SReq.c r1)) [(.o 0, rdB s1)], nat_lit 1 ≤ (1 : Nat), ∀ (k : Nat), k < (1 : Nat) → solid (getL [(SReq.c r1)] ((0 : Nat) + k)) = true, nat_lit 48 ≤ (140737488355328 : Nat), InR IntKind.i64 (2 : Int), decide ((2 : Int) < n) = true, T Tryz.prog 139 [.ptr (.o 0) 0 0 0 0] [(.o 0, rdB s1)] (.agg (SReq.c r2)) [(.o 0, rdB s2)], q (nat_lit 1), nat_lit 1 ≤ (1 : Nat), ∀ (k : Nat), k < (1 : Nat) → solid (getL [(SReq.c r2)] ((0 : Nat) + k)) = true, nat_lit 96 ≤ (140737488355328 : Nat), InR IntKind.i64 (3 : Int), decide ((3 : Int) < n) = false, T Tryz.prog 78 [.ptr (.o 0) 0 0 0 0] [(.o 0, rdB s2)] (.int .i64 (RS.e s2)) [(.o 0, rdB s2)], (!decide (RS.e s2 = (0 : Int))) = true, q (List.length (RS.l s2)), ∀ (k : Nat), k < List.length (RS.l s2) → bl (RS.l s2) k = bl (RS.l s2) k, false = true → false = true, q (RS.e s2), q2, q false, q0, q0, q0, q0]) : Option (V × Heap × List Prop)) := by kernel_rfl

theorem bdBat3_p11100 (s : RS) (s0 : RS) (s1 : RS) (s2 : RS) (s3 : RS) (n : Int) (r1 : SReq) (r2 : SReq) (r3 : SReq) :
  along Tryz.prog (bdBat3 s s0 s1 s2 s3 n r1 r2 r3) [true, true, true, false, false] = some (V.agg [V.bool (decide (n = (0 : Int))), rq (nat_lit 3) fun i => List.getD [r1, r2, r3] i (SReq.mk (0 : Int) (0 : Int) (baL []) z16)], [(Nm.o (0 : Nat), rdB s3)], [T Tryz.prog (25 : Nat) [V.ptr (Nm.o (0 : Nat)) (0 : Nat) (0 : Nat) (0 : Nat) (0 : Nat), V.int IntKind.i64 (5 : Int)] [(Nm.o (0 : Nat), rdB s)] (V.int IntKind.i64 n) [(Nm.o (0 : Nat), rdB s0)], decide ((1 : Int) < n) = true, T Tryz.prog (139 : Nat) [V.ptr (Nm.o (0 : Nat)) (0 : Nat) (0 : Nat) (0 : Nat) (0 : Nat)] [(Nm.o (0 : Nat), rdB s0)] (V.agg (SReq.c r1)) [(Nm.o (0 : Nat), rdB s1)], nat_lit 1 ≤ (1 : Nat), ∀ (k : Nat), k < (1 : Nat) → solid (getL [(SReq.c r1)] ((0 : Nat) + k)) = true, nat_lit 48 ≤ (140737488355328 : Nat), InR IntKind.i64 (2 : Int), decide ((2 : Int) < n) = true, T Tryz.prog (139 : Nat) [V.ptr (Nm.o (0 : Nat)) (0 : Nat) (0 : Nat) (0 : Nat) (0 : Nat)] [(Nm.o (0 : Nat), rdB s1)] (V.agg (SReq.c r2)) [(Nm.o (0 : Nat), rdB s2)], nat_lit 1 = nat_lit 1, nat_lit 1 ≤ (1 : Nat), ∀ (k : Nat), k < (1 : Nat) → solid (getL [(SReq.c r2)] ((0 : Nat) + k)) = true, nat_lit 96 ≤ (140737488355328 : Nat), InR IntKind.i64 (3 : Int), decide ((3 : Int) < n) = true, T Tryz.prog (139 : Nat) [V.ptr (Nm.o (0 : Nat)) (0 : Nat) (0 : Nat) (0 : Nat) (0 : Nat)] [(Nm.o (0 : Nat), rdB s2)] (V.agg (SReq.c r3)) [(Nm.o (0 : Nat), rdB s3)], nat_lit 2 = nat_lit 2, nat_lit 1 ≤ (1 : Nat), ∀ (k : Nat), k < (1 : Nat) → solid (getL [(SReq.c r3)] ((0 : Nat) + k)) = true, nat_lit 144 ≤ (140737488355328 : Nat), InR IntKind.i64 (4 : Int), decide ((4 : Int) < n) = false, T Tryz.prog (78 : Nat) [V.ptr (Nm.o (0 : Nat)) (0 : Nat) (0 : Nat) (0 : Nat) (0 : Nat)] [(Nm.o (0 : Nat), rdB s3)] (V.int IntKind.i64 (RS.e s3)) [(Nm.o (0 : Nat), rdB s3)], (!decide (RS.e s3 = (0 : Int))) = false, List.length (RS.l s3) = List.length (RS.l s3), ∀ (k : Nat), k < List.length (RS.l s3) → bl (RS.l s3) k = bl (RS.l s3) k, false = true → false = true, RS.e s3 = RS.e s3, true = true, decide (n = (0 : Int)) = decide (n = (0 : Int)), nat_lit 3 = nat_lit 3, nat_lit 3 ≤ nat_lit 3, ∀ (k : Nat), k < nat_lit 3 → catF (nat_lit 2) (catF (nat_lit 1) (catF (0 : Nat) (fun x => []) fun k => getL [(SReq.c r1)] ((0 : Nat) + k)) fun k => getL [(SReq.c r2)] ((0 : Nat) + k)) (fun k => getL [(SReq.c r3)] ((0 : Nat) + k)) ((0 : Nat) + k) = SReq.c (SBatch.req (SBatch.mk (decide (n = (0 : Int))) (nat_lit 3) fun i => List.getD [r1, r2, r3] i (SReq.mk (0 : Int) (0 : Int) (baL []) z16)) k), false = true → none = some (nat_lit 3), (0 : Nat) = (0 : Nat), (0 : Nat) = (0 : Nat), (0 : Nat) = (0 : Nat)]) := by kernel_rfl

theorem bdBad3_p11101 (s : RS) (s0 : RS) (s1 : RS) (s2 : RS) (s3 : RS) (n : Int) (r1 : SReq) (r2 : SReq) (r3 : SReq) :
  along Tryz.prog (bdBad3 s s0 s1 s2 s3 n r1 r2 r3) [true, true, true, false, true] = (some (.agg [.bool false, rq 0 fun x => SReq.mk (0 : Int) (0 : Int) ByteArray.empty []], [(.o 0, rdB s3)], [T Tryz.prog 25 [.ptr (.o 0) 0 0 0 0, .int .i64 5] [(.o 0, rdB s)] (.int .i64 n) [(.o 0, rdB s0)], decide ((1 : Int) < n) = true, T Tryz.prog 139 [.ptr (.o 0) 0 0 0 0] [(.o 0, rdB s0)] (.agg (SReq.c r1)) [(.o 0, rdB s1)], nat_lit 1 ≤ (1 : Nat), ∀ (k : Nat), k < (1 : Nat) → solid (getL [(SReq.c r1)] ((0 : Nat) + k)) = true, nat_lit 48 ≤ (140737488355328 : Nat), InR IntKind.i64 (2 : Int), decide ((2 : Int) < n) = true, T Tryz.prog 139 [.ptr (.o 0) 0 0 0 0] [(.o 0, rdB s1)] (.agg (SReq.c r2)) [(.o 0, rdB s2)], q (nat_lit 1), nat_lit 1 ≤ (1 : Nat), ∀ (k : Nat), k < (1 : Nat) → solid (getL [(SReq.c r2)] ((0 : Nat) + k)) = true, nat_lit 96 ≤ (140737488355328 : Nat), InR IntKind.i64 (3 : Int), decide ((3 : Int) < n) = true, T Tryz.prog 139 [.ptr (.o 0) 0 0 0 0] [(.o 0, rdB s2)] (.agg (SReq.c r3)) [(.o 0, rdB s3)], q (nat_lit 2), nat_lit 1 ≤ (1 : Nat), ∀ (k : Nat), k < (1 : Nat) → solid (getL [(SReq.c r3)] ((0 : Nat) + k)) = true, nat_lit 144 ≤ (140737488355328 : Nat), InR IntKind.i64 (4 : Int), decide ((4 : Int) < n) = false, T Tryz.prog 78 [.ptr (.o 0) 0 0 0 0] [(.o 0, rdB s3)] (.int .i64 (RS.e s3)) [(.o 0, rdB s3)], (!decide (RS.e s3 = (0 : Int))) = true, q (List.length (RS.l s3)), ∀ (k : Nat), k < List.length (RS.l s3) → bl (RS.l s3) k = bl (RS.l s3) k, false = true → false = true, q (RS.e s3), q2, q false, q0, q0, q0, q0]) : Option (V × Heap × List Prop)) := by kernel_rfl

theorem bdBat4_p111100 (s : RS) (s0 : RS) (s1 : RS) (s2 : RS) (s3 : RS) (s4 : RS) (n : Int) (r1 : SReq) (r2 : SReq) (r3 : SReq) (r4 : SReq) :
  along Tryz.prog (bdBat4 s s0 s1 s2 s3 s4 n r1 r2 r3 r4) [true, true, true, true, false, false] = some (V.agg [V.bool (decide (n = (0 : Int))), rq (nat_lit 4) fun i => List.getD [r1, r2, r3, r4] i (SReq.mk (0 : Int) (0 : Int) (baL []) z16)], [(Nm.o (0 : Nat), rdB s4)], [T Tryz.prog (25 : Nat) [V.ptr (Nm.o (0 : Nat)) (0 : Nat) (0 : Nat) (0 : Nat) (0 : Nat), V.int IntKind.i64 (5 : Int)] [(Nm.o (0 : Nat), rdB s)] (V.int IntKind.i64 n) [(Nm.o (0 : Nat), rdB s0)], decide ((1 : Int) < n) = true, T Tryz.prog (139 : Nat) [V.ptr (Nm.o (0 : Nat)) (0 : Nat) (0 : Nat) (0 : Nat) (0 : Nat)] [(Nm.o (0 : Nat), rdB s0)] (V.agg (SReq.c r1)) [(Nm.o (0 : Nat), rdB s1)], nat_lit 1 ≤ (1 : Nat), ∀ (k : Nat), k < (1 : Nat) → solid (getL [(SReq.c r1)] ((0 : Nat) + k)) = true, nat_lit 48 ≤ (140737488355328 : Nat), InR IntKind.i64 (2 : Int), decide ((2 : Int) < n) = true, T Tryz.prog (139 : Nat) [V.ptr (Nm.o (0 : Nat)) (0 : Nat) (0 : Nat) (0 : Nat) (0 : Nat)] [(Nm.o (0 : Nat), rdB s1)] (V.agg (SReq.c r2)) [(Nm.o (0 : Nat), rdB s2)], nat_lit 1 = nat_lit 1, nat_lit 1 ≤ (1 : Nat), ∀ (k : Nat), k < (1 : Nat) → solid (getL [(SReq.c r2)] ((0 : Nat) + k)) = true, nat_lit 96 ≤ (140737488355328 : Nat), InR IntKind.i64 (3 : Int), decide ((3 : Int) < n) = true, T Tryz.prog (139 : Nat) [V.ptr (Nm.o (0 : Nat)) (0 : Nat) (0 : Nat) (0 : Nat) (0 : Nat)] [(Nm.o (0 : Nat), rdB s2)] (V.agg (SReq.c r3)) [(Nm.o (0 : Nat), rdB s3)], nat_lit 2 = nat_lit 2, nat_lit 1 ≤ (1 : Nat), ∀ (k : Nat), k < (1 : Nat) → solid (getL [(SReq.c r3)] ((0 : Nat) + k)) = true, nat_lit 144 ≤ (140737488355328 : Nat), InR IntKind.i64 (4 : Int), decide ((4 : Int) < n) = true, T Tryz.prog (139 : Nat) [V.ptr (Nm.o (0 : Nat)) (0 : Nat) (0 : Nat) (0 : Nat) (0 : Nat)] [(Nm.o (0 : Nat), rdB s3)] (V.agg (SReq.c r4)) [(Nm.o (0 : Nat), rdB s4)], nat_lit 3 = nat_lit 3, nat_lit 1 ≤ (1 : Nat), ∀ (k : Nat), k < (1 : Nat) → solid (getL [(SReq.c r4)] ((0 : Nat) + k)) = true, nat_lit 192 ≤ (140737488355328 : Nat), InR IntKind.i64 (5 : Int), decide ((5 : Int) < n) = false, T Tryz.prog (78 : Nat) [V.ptr (Nm.o (0 : Nat)) (0 : Nat) (0 : Nat) (0 : Nat) (0 : Nat)] [(Nm.o (0 : Nat), rdB s4)] (V.int IntKind.i64 (RS.e s4)) [(Nm.o (0 : Nat), rdB s4)], (!decide (RS.e s4 = (0 : Int))) = false, List.length (RS.l s4) = List.length (RS.l s4), ∀ (k : Nat), k < List.length (RS.l s4) → bl (RS.l s4) k = bl (RS.l s4) k, false = true → false = true, RS.e s4 = RS.e s4, true = true, decide (n = (0 : Int)) = decide (n = (0 : Int)), nat_lit 4 = nat_lit 4, nat_lit 4 ≤ nat_lit 4, ∀ (k : Nat), k < nat_lit 4 → catF (nat_lit 3) (catF (nat_lit 2) (catF (nat_lit 1) (catF (0 : Nat) (fun x => []) fun k => getL [(SReq.c r1)] ((0 : Nat) + k)) fun k => getL [(SReq.c r2)] ((0 : Nat) + k)) fun k => getL [(SReq.c r3)] ((0 : Nat) + k)) (fun k => getL [(SReq.c r4)] ((0 : Nat) + k)) ((0 : Nat) + k) = SReq.c (SBatch.req (SBatch.mk (decide (n = (0 : Int))) (nat_lit 4) fun i => List.getD [r1, r2, r3, r4] i (SReq.mk (0 : Int) (0 : Int) (baL []) z16)) k), false = true → none = some (nat_lit 4), (0 : Nat) = (0 : Nat), (0 : Nat) = (0 : Nat), (0 : Nat) = (0 : Nat)]) := by kernel_rfl

theorem bdBad4_p111101 (s : RS) (s0 : RS) (s1 : RS) (s2 : RS) (s3 : RS) (s4 : RS) (n : Int) (r1 : SReq) (r2 : SReq) (r3 : SReq) (r4 : SReq) :
  along Tryz.prog (bdBad4 s s0 s1 s2 s3 s4 n r1 r2 r3 r4) [true, true, true, true, false, true] = (some (.agg [.bool false, rq 0 fun x => SReq.mk (0 : Int) (0 : Int) ByteArray.empty []], [(.o 0, rdB s4)], [T Tryz.prog 25 [.ptr (.o 0) 0 0 0 0, .int .i64 5] [(.o 0, rdB s)] (.int .i64 n) [(.o 0, rdB s0)], decide ((1 : Int) < n) = true, T Tryz.prog 139 [.ptr (.o 0) 0 0 0 0] [(.o 0, rdB s0)] (.agg (SReq.c r1)) [(.o 0, rdB s1)], nat_lit 1 ≤ (1 : Nat), ∀ (k : Nat), k < (1 : Nat) → solid (getL [(SReq.c r1)] ((0 : Nat) + k)) = true, nat_lit 48 ≤ (140737488355328 : Nat), InR IntKind.i64 (2 : Int), decide ((2 : Int) < n) = true, T Tryz.prog 139 [.ptr (.o 0) 0 0 0 0] [(.o 0, rdB s1)] (.agg (SReq.c r2)) [(.o 0, rdB s2)], q (nat_lit 1), nat_lit 1 ≤ (1 : Nat), ∀ (k : Nat), k < (1 : Nat) → solid (getL [(SReq.c r2)] ((0 : Nat) + k)) = true, nat_lit 96 ≤ (140737488355328 : Nat), InR IntKind.i64 (3 : Int), decide ((3 : Int) < n) = true, T Tryz.prog 139 [.ptr (.o 0) 0 0 0 0] [(.o 0, rdB s2)] (.agg (SReq.c r3)) [(.o 0, rdB s3)], q (nat_lit 2), nat_lit 1 ≤ (1 : Nat), ∀ (k : Nat), k < (1 : Nat) → solid (getL [(SReq.c r3)] ((0 : Nat) + k)) = true, nat_lit 144 ≤ (140737488355328 : Nat), InR IntKind.i64 (4 : Int), decide ((4 : Int) < n) = true, T Tryz.prog 139 [.ptr (.o 0) 0 0 0 0] [(.o 0, rdB s3)] (.agg (SReq.c r4)) [(.o 0, rdB s4)], q (nat_lit 3), nat_lit 1 ≤ (1 : Nat), ∀ (k : Nat), k < (1 : Nat) → solid (getL [(SReq.c r4)] ((0 : Nat) + k)) = true, nat_lit 192 ≤ (140737488355328 : Nat), InR IntKind.i64 (5 : Int), decide ((5 : Int) < n) = false, T Tryz.prog 78 [.ptr (.o 0) 0 0 0 0] [(.o 0, rdB s4)] (.int .i64 (RS.e s4)) [(.o 0, rdB s4)], (!decide (RS.e s4 = (0 : Int))) = true, q (List.length (RS.l s4)), ∀ (k : Nat), k < List.length (RS.l s4) → bl (RS.l s4) k = bl (RS.l s4) k, false = true → false = true, q (RS.e s4), q2, q false, q0, q0, q0, q0]) : Option (V × Heap × List Prop)) := by kernel_rfl

theorem T.at1 {P : Program} {f : FuncId} {args : List V} {s s' : RS} {val : V} (h : T P f (p0 :: args) [(.o 0, rdB s)] val [(.o 0, rdB s')]) (ha : ∀ σ, V.rens σ args = args) (hv : ∀ σ, V.ren σ val = val) (a : Nat) : T P f (.ptr (.o a) 0 0 0 0 :: args) [(.o a, rdB s)] val [(.o a, rdB s')] := by
 obtain ⟨σ, hσ, h1⟩ := T.at h [.o 0] [.o a] (by simp) (by simp) rfl
 simp only [List.map_cons, List.map_nil, List.cons.injEq, and_true] at hσ
 simpa [V.rens, V.ren, p0, rdB, Heap.ren, B.ren, hσ, ha, hv] using h1
theorem T_num (a : Nat) (most : Int) (s : RS) : T Tryz.prog 25 [.ptr (.o a) 0 0 0 0, .int .i64 most] [(.o a, rdB s)] (.int .i64 (numR most s).1) [(.o a, rdB (numR most s).2)] :=
 T.at1 (T_num0 most s) (fun _ => rfl) (fun _ => rfl) a
theorem T_err (a : Nat) (s : RS) : T Tryz.prog 78 [.ptr (.o a) 0 0 0 0] [(.o a, rdB s)] (.int .i64 s.e) [(.o a, rdB s)] :=
 T.at1 (T_err0 s) (fun _ => rfl) (fun _ => rfl) a
theorem T_done (a : Nat) (s : RS) : T Tryz.prog 28 [.ptr (.o a) 0 0 0 0] [(.o a, rdB s)] (.int .i64 (doneR s)) [(.o a, rdB s)] :=
 T.at1 (T_done0 s) (fun _ => rfl) (fun _ => rfl) a
theorem T_textR (a : Nat) (most : Int) (s : RS) (hl : s.l.length ≤ 1000000000) : T Tryz.prog 26 [.ptr (.o a) 0 0 0 0, .int .i64 most] [(.o a, rdB s)] (.str (textR most s).1) [(.o a, rdB (textR most s).2)] :=
 T.at1 (T_textR0 most s hl) (fun _ => rfl) (fun _ => rfl) a
theorem T_rawR (a : Nat) (n : Int) (s : RS) (hl : s.l.length ≤ 1000000000) : T Tryz.prog 27 [.ptr (.o a) 0 0 0 0, .int .i64 n] [(.o a, rdB s)] (roB (rawR n s).1) [(.o a, rdB (rawR n s).2)] :=
 T.at1 (T_rawR0 n s hl) (fun _ => rfl) (fun _ => rfl) a
theorem T_read (a : Nat) (l : List UInt8) (hl : l.length ≤ 1000000000) : T Tryz.prog 24 [roB l] [] (.ptr (.o a) 0 0 0 0) [(.o a, rdB { l := l })] := by
 obtain ⟨σ, hσ, h1⟩ := T.at (T_read0 l hl) [.o 63] [.o a] (by simp) (by simp) rfl
 simp only [List.map_cons, List.map_nil, List.cons.injEq, and_true] at hσ
 simpa [V.rens, V.ren, roB, rdB, Heap.ren, B.ren, hσ] using h1
/-- What reading leaves. -/
def After (s s' : RS) : Prop := s'.l.length ≤ s.l.length ∧ s'.bad = s.bad ∧ (s.e ≠ 0 → s'.e ≠ 0)
theorem After.refl (s : RS) : After s s := ⟨Nat.le_refl _, rfl, id⟩
theorem After.trans {a b c : RS} (h : After a b) (h' : After b c) : After a c := ⟨Nat.le_trans h'.1 h.1, h'.2.1.trans h.2.1, fun e => h'.2.2 (h.2.2 e)⟩
theorem numR_after (m : Int) (s : RS) : After s (numR m s).2 := by
 unfold numR
 split
 ·exact After.refl s
 ·split
  ·exact ⟨Nat.zero_le _, rfl, fun e => absurd e (by simpa using ‹¬ s.e ≠ 0›)⟩
  ·exact ⟨by simp [RS.drop], rfl, fun e => e⟩
theorem textR_after (m : Int) (s : RS) : After s (textR m s).2 := by
 unfold textR
 split
 ·exact After.refl s
 ·split
  ·exact ⟨Nat.zero_le _, rfl, fun e => absurd e (by simpa using ‹¬ s.e ≠ 0›)⟩
  ·exact ⟨by simp [RS.drop], rfl, fun e => e⟩
theorem rawR_after (n : Int) (s : RS) : After s (rawR n s).2 := by
 unfold rawR
 split
 ·exact After.refl s
 ·split
  ·exact ⟨Nat.zero_le _, rfl, fun e => absurd e (by simpa using ‹¬ s.e ≠ 0›)⟩
  ·split
   ·exact ⟨Nat.zero_le _, rfl, fun e => absurd e (by simpa using ‹¬ s.e ≠ 0›)⟩
   ·exact ⟨by simp [RS.drop], rfl, fun e => e⟩
theorem rawR_ok {n : Nat} {s : RS} (h : (rawR n s).2.e = 0) : (rawR n s).1.length = n := by
 unfold rawR at h ⊢
 split at h
 ·contradiction
 ·rename_i h1
  split at h
  ·exact absurd h (by simp [RS.fail])
  ·split at h
   ·exact absurd h (by simp [RS.fail])
   ·rename_i h2 h3
    rw [if_neg h1, if_neg h2, if_neg h3, List.length_take]; omega
theorem rawR_bad {n : Nat} {s : RS} (h : (rawR n s).2.e ≠ 0) : (rawR n s).1 = [] := by
 unfold rawR at h ⊢
 split
 ·rfl
 ·rename_i h1
  split
  ·rfl
  ·split
   ·rfl
   ·rename_i h2 h3
    rw [if_neg h1, if_neg h2, if_neg h3] at h
    exact absurd h (by simpa [RS.drop] using h1)
theorem int16 {xs : List UInt8} (h : xs.length = 16) : [intOf (bl xs 0), intOf (bl xs 1), intOf (bl xs 2), intOf (bl xs 3), intOf (bl xs 4), intOf (bl xs 5), intOf (bl xs 6), intOf (bl xs 7), intOf (bl xs 8), intOf (bl xs 9), intOf (bl xs 10), intOf (bl xs 11), intOf (bl xs 12), intOf (bl xs 13), intOf (bl xs 14), intOf (bl xs 15)] = intsB xs := by
 match xs, h with
 | [a0, a1, a2, a3, a4, a5, a6, a7, a8, a9, a10, a11, a12, a13, a14, a15], _ => rfl
theorem T_reqR0 (s : RS) (hl : s.l.length ≤ 1000000000) : T Tryz.prog 139 [p0] [(.o 0, rdB s)] (.agg (reqR s).1.c) [(.o 0, rdB (reqR s).2)] := by
 have l1 : (reqR1 s).l.length ≤ 1000000000 := Nat.le_trans (numR_after 8 s).1 hl
 have l2 : (reqR2 s).l.length ≤ 1000000000 := Nat.le_trans (numR_after _ _).1 l1
 have l3 : (reqR3 s).l.length ≤ 1000000000 := Nat.le_trans (textR_after _ _).1 l2
 by_cases h : (reqR4 s).e = 0
 ·have e : reqR s = (reqV s, reqR4 s) := by simp [reqR, h]
  have h16 : (rawR 16 (reqR3 s)).1.length = 16 := rawR_ok (n := 16) h
  rw [e]
  refine T_al (bdReqT_p10 s (reqR1 s) (reqR2 s) (reqR3 s) (reqR4 s) (numR 8 s).1 (numR 1099511627776 (reqR1 s)).1 (textR 64 (reqR2 s)).1 (rawR 16 (reqR3 s)).1) Tryz.func139 ?_
  simp only [All]; and_intros
  all_goals first | exact T_num 0 _ _ | exact T_textR 0 _ _ l2 | (have := T_rawR 0 16 (reqR3 s) l3; rw [roB, h16] at this; exact this) | exact int16 h16 | trivial | (simp [h16]; done)
 ·have e : reqR s = (req0, reqR4 s) := by simp [reqR, h]
  have h0 : (rawR 16 (reqR3 s)).1 = [] := rawR_bad (n := 16) h
  rw [e]
  refine T_al (bdReqF_p01 s (reqR1 s) (reqR2 s) (reqR3 s) (reqR4 s) (numR 8 s).1 (numR 1099511627776 (reqR1 s)).1 (textR 64 (reqR2 s)).1 (rawR 16 (reqR3 s)).1) Tryz.func139 ?_
  simp only [All]; and_intros
  all_goals first | exact T_num 0 _ _ | exact T_textR 0 _ _ l2 | (have := T_rawR 0 16 (reqR3 s) l3; rw [roB, h0] at this; exact this) | trivial | simp
theorem reqR_after (s : RS) : After s (reqR s).2 := (((numR_after 8 s).trans (numR_after _ _)).trans (textR_after _ _)).trans (rawR_after _ _)
theorem itR_after {α : Type} {one : RS → α × RS} (h : ∀ s, After s (one s).2) : ∀ k s, After s (itR one k s).2
 | 0, s => After.refl s
 | k + 1, s => (h s).trans (itR_after h k _)
theorem numR_rng {m : Int} (hm : 0 ≤ m) (s : RS) : 0 ≤ (numR m s).1 ∧ (numR m s).1 ≤ m := by
 unfold numR
 split
 ·exact ⟨Int.le_refl _, hm⟩
 ·split
  ·exact ⟨Int.le_refl _, hm⟩
  ·rename_i h1 h2
   refine ⟨nV_le.1, ?_⟩
   have h2 : nE1 m s.l = 0 := by simpa using h2
   unfold nE1 at h2
   split at h2
   ·cases h2
   ·show nV s.l ≤ m
    omega
theorem T_reqRe {s s' : RS} {r : SReq} (hl : s.l.length ≤ 1000000000) (h1 : r = (reqR s).1) (h2 : s' = (reqR s).2) : T Tryz.prog 139 [p0] [(.o 0, rdB s)] (.agg r.c) [(.o 0, rdB s')] := by
 subst h1; subst h2; exact T_reqR0 s hl
theorem T_batg0 {s : RS} (hl : s.l.length ≤ 1000000000) (hk : (numR 5 s).1.toNat - 1 = 0) (h :  (itR reqR 0 (numR 5 s).2).2.e = 0) : T Tryz.prog 107 [p0] [(.o 0, rdB s)] (.agg (batchR s).1.c) [(.o 0, rdB (batchR s).2)] := by
 have hr := numR_rng (m := 5) (by decide) s
 have l0 : ∀ j, (itR reqR j (numR 5 s).2).2.l.length ≤ 1000000000 := fun j => Nat.le_trans (itR_after reqR_after j _).1 (Nat.le_trans (numR_after 5 s).1 hl)
 have e1 : batch1 s = ([], (itR reqR 0 (numR 5 s).2).2) := by unfold batch1; rw [hk]; rfl
 have e : batchR s = (batchOf (decide ((numR 5 s).1 = 0)) [], (itR reqR 0 (numR 5 s).2).2) := by simp only [batchR, e1, h, if_true, if_false]
 rw [e]
 refine T_al (bdBat0_p00 s (itR reqR 0 (numR 5 s).2).2 (numR 5 s).1 ) Tryz.func107 ?_
 simp only [All]; and_intros
 all_goals first
  | exact T_num 0 5 s
  | exact T_err 0 _
  | exact T_reqRe (l0 _) rfl rfl
  | trivial
  | exact inR1 (by decide) (by decide)
  | exact inR2 (by decide) (by decide)
  | (rw [decide_eq_true_eq]; omega)
  | (rw [decide_eq_false_iff_not]; omega)
  | (simp [h]; done)
  | (intro j hj; have hj0 : j = 0 := by omega
     subst hj0; rfl)
  | (intro j hj; have hj0 : j = 0 := by omega
     rcases hj0 with rfl <;> rfl)
  | decide
  | rfl
theorem T_bate0 {s : RS} (hl : s.l.length ≤ 1000000000) (hk : (numR 5 s).1.toNat - 1 = 0) (h : ¬ (itR reqR 0 (numR 5 s).2).2.e = 0) : T Tryz.prog 107 [p0] [(.o 0, rdB s)] (.agg (batchR s).1.c) [(.o 0, rdB (batchR s).2)] := by
 have hr := numR_rng (m := 5) (by decide) s
 have l0 : ∀ j, (itR reqR j (numR 5 s).2).2.l.length ≤ 1000000000 := fun j => Nat.le_trans (itR_after reqR_after j _).1 (Nat.le_trans (numR_after 5 s).1 hl)
 have e1 : batch1 s = ([], (itR reqR 0 (numR 5 s).2).2) := by unfold batch1; rw [hk]; rfl
 have e : batchR s = (({} : SBatch), (itR reqR 0 (numR 5 s).2).2) := by simp only [batchR, e1, h, if_true, if_false]
 rw [e]
 refine T_al (bdBad0_p01 s (itR reqR 0 (numR 5 s).2).2 (numR 5 s).1 ) Tryz.func107 ?_
 simp only [All]; and_intros
 all_goals first
  | exact T_num 0 5 s
  | exact T_err 0 _
  | exact T_reqRe (l0 _) rfl rfl
  | trivial
  | exact inR1 (by decide) (by decide)
  | exact inR2 (by decide) (by decide)
  | (rw [decide_eq_true_eq]; omega)
  | (rw [decide_eq_false_iff_not]; omega)
  | (simp [h]; done)
  | (intro j hj; have hj0 : j = 0 := by omega
     subst hj0; rfl)
  | (intro j hj; have hj0 : j = 0 := by omega
     rcases hj0 with rfl <;> rfl)
  | decide
  | rfl
theorem T_batg1 {s : RS} (hl : s.l.length ≤ 1000000000) (hk : (numR 5 s).1.toNat - 1 = 1) (h :  (itR reqR 1 (numR 5 s).2).2.e = 0) : T Tryz.prog 107 [p0] [(.o 0, rdB s)] (.agg (batchR s).1.c) [(.o 0, rdB (batchR s).2)] := by
 have hr := numR_rng (m := 5) (by decide) s
 have l0 : ∀ j, (itR reqR j (numR 5 s).2).2.l.length ≤ 1000000000 := fun j => Nat.le_trans (itR_after reqR_after j _).1 (Nat.le_trans (numR_after 5 s).1 hl)
 have e1 : batch1 s = ([(reqR (itR reqR 0 (numR 5 s).2).2).1], (itR reqR 1 (numR 5 s).2).2) := by unfold batch1; rw [hk]; rfl
 have e : batchR s = (batchOf (decide ((numR 5 s).1 = 0)) [(reqR (itR reqR 0 (numR 5 s).2).2).1], (itR reqR 1 (numR 5 s).2).2) := by simp only [batchR, e1, h, if_true, if_false]
 rw [e]
 refine T_al (bdBat1_p100 s (itR reqR 0 (numR 5 s).2).2 (itR reqR 1 (numR 5 s).2).2 (numR 5 s).1 (reqR (itR reqR 0 (numR 5 s).2).2).1) Tryz.func107 ?_
 simp only [All]; and_intros
 all_goals first
  | exact T_num 0 5 s
  | exact T_err 0 _
  | exact T_reqRe (l0 _) rfl rfl
  | trivial
  | exact inR1 (by decide) (by decide)
  | exact inR2 (by decide) (by decide)
  | (rw [decide_eq_true_eq]; omega)
  | (rw [decide_eq_false_iff_not]; omega)
  | (simp [h]; done)
  | (intro j hj; have hj0 : j = 0 := by omega
     subst hj0; rfl)
  | (intro j hj; have hj0 : j = 0 := by omega
     rcases hj0 with rfl <;> rfl)
  | decide
  | rfl
theorem T_bate1 {s : RS} (hl : s.l.length ≤ 1000000000) (hk : (numR 5 s).1.toNat - 1 = 1) (h : ¬ (itR reqR 1 (numR 5 s).2).2.e = 0) : T Tryz.prog 107 [p0] [(.o 0, rdB s)] (.agg (batchR s).1.c) [(.o 0, rdB (batchR s).2)] := by
 have hr := numR_rng (m := 5) (by decide) s
 have l0 : ∀ j, (itR reqR j (numR 5 s).2).2.l.length ≤ 1000000000 := fun j => Nat.le_trans (itR_after reqR_after j _).1 (Nat.le_trans (numR_after 5 s).1 hl)
 have e1 : batch1 s = ([(reqR (itR reqR 0 (numR 5 s).2).2).1], (itR reqR 1 (numR 5 s).2).2) := by unfold batch1; rw [hk]; rfl
 have e : batchR s = (({} : SBatch), (itR reqR 1 (numR 5 s).2).2) := by simp only [batchR, e1, h, if_true, if_false]
 rw [e]
 refine T_al (bdBad1_p101 s (itR reqR 0 (numR 5 s).2).2 (itR reqR 1 (numR 5 s).2).2 (numR 5 s).1 (reqR (itR reqR 0 (numR 5 s).2).2).1) Tryz.func107 ?_
 simp only [All]; and_intros
 all_goals first
  | exact T_num 0 5 s
  | exact T_err 0 _
  | exact T_reqRe (l0 _) rfl rfl
  | trivial
  | exact inR1 (by decide) (by decide)
  | exact inR2 (by decide) (by decide)
  | (rw [decide_eq_true_eq]; omega)
  | (rw [decide_eq_false_iff_not]; omega)
  | (simp [h]; done)
  | (intro j hj; have hj0 : j = 0 := by omega
     subst hj0; rfl)
  | (intro j hj; have hj0 : j = 0 := by omega
     rcases hj0 with rfl <;> rfl)
  | decide
  | rfl
theorem T_batg2 {s : RS} (hl : s.l.length ≤ 1000000000) (hk : (numR 5 s).1.toNat - 1 = 2) (h :  (itR reqR 2 (numR 5 s).2).2.e = 0) : T Tryz.prog 107 [p0] [(.o 0, rdB s)] (.agg (batchR s).1.c) [(.o 0, rdB (batchR s).2)] := by
 have hr := numR_rng (m := 5) (by decide) s
 have l0 : ∀ j, (itR reqR j (numR 5 s).2).2.l.length ≤ 1000000000 := fun j => Nat.le_trans (itR_after reqR_after j _).1 (Nat.le_trans (numR_after 5 s).1 hl)
 have e1 : batch1 s = ([(reqR (itR reqR 0 (numR 5 s).2).2).1, (reqR (itR reqR 1 (numR 5 s).2).2).1], (itR reqR 2 (numR 5 s).2).2) := by unfold batch1; rw [hk]; rfl
 have e : batchR s = (batchOf (decide ((numR 5 s).1 = 0)) [(reqR (itR reqR 0 (numR 5 s).2).2).1, (reqR (itR reqR 1 (numR 5 s).2).2).1], (itR reqR 2 (numR 5 s).2).2) := by simp only [batchR, e1, h, if_true, if_false]
 rw [e]
 refine T_al (bdBat2_p1100 s (itR reqR 0 (numR 5 s).2).2 (itR reqR 1 (numR 5 s).2).2 (itR reqR 2 (numR 5 s).2).2 (numR 5 s).1 (reqR (itR reqR 0 (numR 5 s).2).2).1 (reqR (itR reqR 1 (numR 5 s).2).2).1) Tryz.func107 ?_
 simp only [All]; and_intros
 all_goals first
  | exact T_num 0 5 s
  | exact T_err 0 _
  | exact T_reqRe (l0 _) rfl rfl
  | trivial
  | exact inR1 (by decide) (by decide)
  | exact inR2 (by decide) (by decide)
  | (rw [decide_eq_true_eq]; omega)
  | (rw [decide_eq_false_iff_not]; omega)
  | (simp [h]; done)
  | (intro j hj; have hj0 : j = 0 := by omega
     subst hj0; rfl)
  | (intro j hj; have hj0 : j = 0 ∨ j = 1 := by omega
     rcases hj0 with rfl | rfl <;> rfl)
  | decide
  | rfl
theorem T_bate2 {s : RS} (hl : s.l.length ≤ 1000000000) (hk : (numR 5 s).1.toNat - 1 = 2) (h : ¬ (itR reqR 2 (numR 5 s).2).2.e = 0) : T Tryz.prog 107 [p0] [(.o 0, rdB s)] (.agg (batchR s).1.c) [(.o 0, rdB (batchR s).2)] := by
 have hr := numR_rng (m := 5) (by decide) s
 have l0 : ∀ j, (itR reqR j (numR 5 s).2).2.l.length ≤ 1000000000 := fun j => Nat.le_trans (itR_after reqR_after j _).1 (Nat.le_trans (numR_after 5 s).1 hl)
 have e1 : batch1 s = ([(reqR (itR reqR 0 (numR 5 s).2).2).1, (reqR (itR reqR 1 (numR 5 s).2).2).1], (itR reqR 2 (numR 5 s).2).2) := by unfold batch1; rw [hk]; rfl
 have e : batchR s = (({} : SBatch), (itR reqR 2 (numR 5 s).2).2) := by simp only [batchR, e1, h, if_true, if_false]
 rw [e]
 refine T_al (bdBad2_p1101 s (itR reqR 0 (numR 5 s).2).2 (itR reqR 1 (numR 5 s).2).2 (itR reqR 2 (numR 5 s).2).2 (numR 5 s).1 (reqR (itR reqR 0 (numR 5 s).2).2).1 (reqR (itR reqR 1 (numR 5 s).2).2).1) Tryz.func107 ?_
 simp only [All]; and_intros
 all_goals first
  | exact T_num 0 5 s
  | exact T_err 0 _
  | exact T_reqRe (l0 _) rfl rfl
  | trivial
  | exact inR1 (by decide) (by decide)
  | exact inR2 (by decide) (by decide)
  | (rw [decide_eq_true_eq]; omega)
  | (rw [decide_eq_false_iff_not]; omega)
  | (simp [h]; done)
  | (intro j hj; have hj0 : j = 0 := by omega
     subst hj0; rfl)
  | (intro j hj; have hj0 : j = 0 ∨ j = 1 := by omega
     rcases hj0 with rfl | rfl <;> rfl)
  | decide
  | rfl
theorem T_batg3 {s : RS} (hl : s.l.length ≤ 1000000000) (hk : (numR 5 s).1.toNat - 1 = 3) (h :  (itR reqR 3 (numR 5 s).2).2.e = 0) : T Tryz.prog 107 [p0] [(.o 0, rdB s)] (.agg (batchR s).1.c) [(.o 0, rdB (batchR s).2)] := by
 have hr := numR_rng (m := 5) (by decide) s
 have l0 : ∀ j, (itR reqR j (numR 5 s).2).2.l.length ≤ 1000000000 := fun j => Nat.le_trans (itR_after reqR_after j _).1 (Nat.le_trans (numR_after 5 s).1 hl)
 have e1 : batch1 s = ([(reqR (itR reqR 0 (numR 5 s).2).2).1, (reqR (itR reqR 1 (numR 5 s).2).2).1, (reqR (itR reqR 2 (numR 5 s).2).2).1], (itR reqR 3 (numR 5 s).2).2) := by unfold batch1; rw [hk]; rfl
 have e : batchR s = (batchOf (decide ((numR 5 s).1 = 0)) [(reqR (itR reqR 0 (numR 5 s).2).2).1, (reqR (itR reqR 1 (numR 5 s).2).2).1, (reqR (itR reqR 2 (numR 5 s).2).2).1], (itR reqR 3 (numR 5 s).2).2) := by simp only [batchR, e1, h, if_true, if_false]
 rw [e]
 refine T_al (bdBat3_p11100 s (itR reqR 0 (numR 5 s).2).2 (itR reqR 1 (numR 5 s).2).2 (itR reqR 2 (numR 5 s).2).2 (itR reqR 3 (numR 5 s).2).2 (numR 5 s).1 (reqR (itR reqR 0 (numR 5 s).2).2).1 (reqR (itR reqR 1 (numR 5 s).2).2).1 (reqR (itR reqR 2 (numR 5 s).2).2).1) Tryz.func107 ?_
 simp only [All]; and_intros
 all_goals first
  | exact T_num 0 5 s
  | exact T_err 0 _
  | exact T_reqRe (l0 _) rfl rfl
  | trivial
  | exact inR1 (by decide) (by decide)
  | exact inR2 (by decide) (by decide)
  | (rw [decide_eq_true_eq]; omega)
  | (rw [decide_eq_false_iff_not]; omega)
  | (simp [h]; done)
  | (intro j hj; have hj0 : j = 0 := by omega
     subst hj0; rfl)
  | (intro j hj; have hj0 : j = 0 ∨ j = 1 ∨ j = 2 := by omega
     rcases hj0 with rfl | rfl | rfl <;> rfl)
  | decide
  | rfl
theorem T_bate3 {s : RS} (hl : s.l.length ≤ 1000000000) (hk : (numR 5 s).1.toNat - 1 = 3) (h : ¬ (itR reqR 3 (numR 5 s).2).2.e = 0) : T Tryz.prog 107 [p0] [(.o 0, rdB s)] (.agg (batchR s).1.c) [(.o 0, rdB (batchR s).2)] := by
 have hr := numR_rng (m := 5) (by decide) s
 have l0 : ∀ j, (itR reqR j (numR 5 s).2).2.l.length ≤ 1000000000 := fun j => Nat.le_trans (itR_after reqR_after j _).1 (Nat.le_trans (numR_after 5 s).1 hl)
 have e1 : batch1 s = ([(reqR (itR reqR 0 (numR 5 s).2).2).1, (reqR (itR reqR 1 (numR 5 s).2).2).1, (reqR (itR reqR 2 (numR 5 s).2).2).1], (itR reqR 3 (numR 5 s).2).2) := by unfold batch1; rw [hk]; rfl
 have e : batchR s = (({} : SBatch), (itR reqR 3 (numR 5 s).2).2) := by simp only [batchR, e1, h, if_true, if_false]
 rw [e]
 refine T_al (bdBad3_p11101 s (itR reqR 0 (numR 5 s).2).2 (itR reqR 1 (numR 5 s).2).2 (itR reqR 2 (numR 5 s).2).2 (itR reqR 3 (numR 5 s).2).2 (numR 5 s).1 (reqR (itR reqR 0 (numR 5 s).2).2).1 (reqR (itR reqR 1 (numR 5 s).2).2).1 (reqR (itR reqR 2 (numR 5 s).2).2).1) Tryz.func107 ?_
 simp only [All]; and_intros
 all_goals first
  | exact T_num 0 5 s
  | exact T_err 0 _
  | exact T_reqRe (l0 _) rfl rfl
  | trivial
  | exact inR1 (by decide) (by decide)
  | exact inR2 (by decide) (by decide)
  | (rw [decide_eq_true_eq]; omega)
  | (rw [decide_eq_false_iff_not]; omega)
  | (simp [h]; done)
  | (intro j hj; have hj0 : j = 0 := by omega
     subst hj0; rfl)
  | (intro j hj; have hj0 : j = 0 ∨ j = 1 ∨ j = 2 := by omega
     rcases hj0 with rfl | rfl | rfl <;> rfl)
  | decide
  | rfl
theorem T_batg4 {s : RS} (hl : s.l.length ≤ 1000000000) (hk : (numR 5 s).1.toNat - 1 = 4) (h :  (itR reqR 4 (numR 5 s).2).2.e = 0) : T Tryz.prog 107 [p0] [(.o 0, rdB s)] (.agg (batchR s).1.c) [(.o 0, rdB (batchR s).2)] := by
 have hr := numR_rng (m := 5) (by decide) s
 have l0 : ∀ j, (itR reqR j (numR 5 s).2).2.l.length ≤ 1000000000 := fun j => Nat.le_trans (itR_after reqR_after j _).1 (Nat.le_trans (numR_after 5 s).1 hl)
 have e1 : batch1 s = ([(reqR (itR reqR 0 (numR 5 s).2).2).1, (reqR (itR reqR 1 (numR 5 s).2).2).1, (reqR (itR reqR 2 (numR 5 s).2).2).1, (reqR (itR reqR 3 (numR 5 s).2).2).1], (itR reqR 4 (numR 5 s).2).2) := by unfold batch1; rw [hk]; rfl
 have e : batchR s = (batchOf (decide ((numR 5 s).1 = 0)) [(reqR (itR reqR 0 (numR 5 s).2).2).1, (reqR (itR reqR 1 (numR 5 s).2).2).1, (reqR (itR reqR 2 (numR 5 s).2).2).1, (reqR (itR reqR 3 (numR 5 s).2).2).1], (itR reqR 4 (numR 5 s).2).2) := by simp only [batchR, e1, h, if_true, if_false]
 rw [e]
 refine T_al (bdBat4_p111100 s (itR reqR 0 (numR 5 s).2).2 (itR reqR 1 (numR 5 s).2).2 (itR reqR 2 (numR 5 s).2).2 (itR reqR 3 (numR 5 s).2).2 (itR reqR 4 (numR 5 s).2).2 (numR 5 s).1 (reqR (itR reqR 0 (numR 5 s).2).2).1 (reqR (itR reqR 1 (numR 5 s).2).2).1 (reqR (itR reqR 2 (numR 5 s).2).2).1 (reqR (itR reqR 3 (numR 5 s).2).2).1) Tryz.func107 ?_
 simp only [All]; and_intros
 all_goals first
  | exact T_num 0 5 s
  | exact T_err 0 _
  | exact T_reqRe (l0 _) rfl rfl
  | trivial
  | exact inR1 (by decide) (by decide)
  | exact inR2 (by decide) (by decide)
  | (rw [decide_eq_true_eq]; omega)
  | (rw [decide_eq_false_iff_not]; omega)
  | (simp [h]; done)
  | (intro j hj; have hj0 : j = 0 := by omega
     subst hj0; rfl)
  | (intro j hj; have hj0 : j = 0 ∨ j = 1 ∨ j = 2 ∨ j = 3 := by omega
     rcases hj0 with rfl | rfl | rfl | rfl <;> rfl)
  | decide
  | rfl
theorem T_bate4 {s : RS} (hl : s.l.length ≤ 1000000000) (hk : (numR 5 s).1.toNat - 1 = 4) (h : ¬ (itR reqR 4 (numR 5 s).2).2.e = 0) : T Tryz.prog 107 [p0] [(.o 0, rdB s)] (.agg (batchR s).1.c) [(.o 0, rdB (batchR s).2)] := by
 have hr := numR_rng (m := 5) (by decide) s
 have l0 : ∀ j, (itR reqR j (numR 5 s).2).2.l.length ≤ 1000000000 := fun j => Nat.le_trans (itR_after reqR_after j _).1 (Nat.le_trans (numR_after 5 s).1 hl)
 have e1 : batch1 s = ([(reqR (itR reqR 0 (numR 5 s).2).2).1, (reqR (itR reqR 1 (numR 5 s).2).2).1, (reqR (itR reqR 2 (numR 5 s).2).2).1, (reqR (itR reqR 3 (numR 5 s).2).2).1], (itR reqR 4 (numR 5 s).2).2) := by unfold batch1; rw [hk]; rfl
 have e : batchR s = (({} : SBatch), (itR reqR 4 (numR 5 s).2).2) := by simp only [batchR, e1, h, if_true, if_false]
 rw [e]
 refine T_al (bdBad4_p111101 s (itR reqR 0 (numR 5 s).2).2 (itR reqR 1 (numR 5 s).2).2 (itR reqR 2 (numR 5 s).2).2 (itR reqR 3 (numR 5 s).2).2 (itR reqR 4 (numR 5 s).2).2 (numR 5 s).1 (reqR (itR reqR 0 (numR 5 s).2).2).1 (reqR (itR reqR 1 (numR 5 s).2).2).1 (reqR (itR reqR 2 (numR 5 s).2).2).1 (reqR (itR reqR 3 (numR 5 s).2).2).1) Tryz.func107 ?_
 simp only [All]; and_intros
 all_goals first
  | exact T_num 0 5 s
  | exact T_err 0 _
  | exact T_reqRe (l0 _) rfl rfl
  | trivial
  | exact inR1 (by decide) (by decide)
  | exact inR2 (by decide) (by decide)
  | (rw [decide_eq_true_eq]; omega)
  | (rw [decide_eq_false_iff_not]; omega)
  | (simp [h]; done)
  | (intro j hj; have hj0 : j = 0 := by omega
     subst hj0; rfl)
  | (intro j hj; have hj0 : j = 0 ∨ j = 1 ∨ j = 2 ∨ j = 3 := by omega
     rcases hj0 with rfl | rfl | rfl | rfl <;> rfl)
  | decide
  | rfl
theorem T_batR0 (s : RS) (hl : s.l.length ≤ 1000000000) : T Tryz.prog 107 [p0] [(.o 0, rdB s)] (.agg (batchR s).1.c) [(.o 0, rdB (batchR s).2)] := by
 have hr := numR_rng (m := 5) (by decide) s
 have hc : (numR 5 s).1.toNat - 1 = 0 ∨ (numR 5 s).1.toNat - 1 = 1 ∨ (numR 5 s).1.toNat - 1 = 2 ∨ (numR 5 s).1.toNat - 1 = 3 ∨ (numR 5 s).1.toNat - 1 = 4 := by omega
 rcases hc with hc | hc | hc | hc | hc
 ·by_cases h : (itR reqR 0 (numR 5 s).2).2.e = 0
  ·exact T_batg0 hl hc h
  ·exact T_bate0 hl hc h
 ·by_cases h : (itR reqR 1 (numR 5 s).2).2.e = 0
  ·exact T_batg1 hl hc h
  ·exact T_bate1 hl hc h
 ·by_cases h : (itR reqR 2 (numR 5 s).2).2.e = 0
  ·exact T_batg2 hl hc h
  ·exact T_bate2 hl hc h
 ·by_cases h : (itR reqR 3 (numR 5 s).2).2.e = 0
  ·exact T_batg3 hl hc h
  ·exact T_bate3 hl hc h
 ·by_cases h : (itR reqR 4 (numR 5 s).2).2.e = 0
  ·exact T_batg4 hl hc h
  ·exact T_bate4 hl hc h
theorem batchR_after (s : RS) : After s (batchR s).2 := (numR_after 5 s).trans (itR_after reqR_after _ _)
theorem T_batR (a : Nat) (s : RS) (hl : s.l.length ≤ 1000000000) : T Tryz.prog 107 [.ptr (.o a) 0 0 0 0] [(.o a, rdB s)] (.agg (batchR s).1.c) [(.o a, rdB (batchR s).2)] :=
 T.at1 (T_batR0 s hl) (fun _ => rfl) (fun _ => rfl) a
end Go.Proofs.YtnmccoincblecaaGreat
namespace Go.Proofs.YtnmccoincblecaaGreat
open Go Sy Go.Proofs
def mrH (r a : Nat) (s : RS) : Heap := [(.o r, .flat [.ptr (.o a) 0 0 0 0, .bool s.bad]), (.o a, rdB s)]
def n01 : St → List Nm := fun _ => [.o 0, .o 1]
/-- The message's reader's own methods. -/
def cMr (v : V) (s : RS) : List V → Heap → Nat → List Cl := fun _ _ _ => [{ pre := [.o 0, .o 1], val := v, post := mrH 0 1 s }]
def arrR (n : Nat) (z : List Int) (s : RS) : List Int × RS := (if (rawR n s).2.e = 0 then intsB (rawR n s).1 else z, (rawR n s).2)
def digR (s : RS) : List Int × RS := arrR 32 z32 s
def tagR (s : RS) : List Int × RS := arrR 16 z16 s
def signR (s : RS) : SSign × RS := ({ node := (numR 64 s).1, tag := (tagR (numR 64 s).2).1 }, (tagR (numR 64 s).2).2)
def envR1 (s : RS) : RS := (numR 64 s).2
def envR2 (s : RS) : RS := (textR 4194304 (envR1 s)).2
def envR (s : RS) : SEnv × RS := ({ src := (numR 64 s).1, body := (textR 4194304 (envR1 s)).1, tag := (tagR (envR2 s)).1 }, (tagR (envR2 s)).2)
def RS.spoil (s : RS) : RS := { l := [], e := 2, bad := true }
def voteR0 (s : RS) : RS := if (numR 2 s).1 = 0 ∧ (numR 2 s).2.e = 0 then (numR 2 s).2.spoil else (numR 2 s).2
def voteR1 (s : RS) : RS := (numR 1048576 (voteR0 s)).2
def voteR2 (s : RS) : RS := (numR 1099511627776 (voteR1 s)).2
def voteR3 (s : RS) : RS := (numR 1099511627776 (voteR2 s)).2
def voteR (s : RS) : SVote × RS := ({ kind := (numR 2 s).1, epoch := (numR 1048576 (voteR0 s)).1, view := (numR 1099511627776 (voteR1 s)).1, slot := (numR 1099511627776 (voteR2 s)).1, digest := (digR (voteR3 s)).1 }, (digR (voteR3 s)).2)
noncomputable def bdMr (f : Func) (x : List V) (s : RS) (db : List (Nat × Nat × (List V → Heap → Nat → List Cl))) (cs : List V) (s' : RS) : Bd := { f := f, args := p0 :: x, pre := mrH 0 1 s, base := 2, kb := { db := dbSeqF 2 db }, names := n01, k := kCell cs (mrH 0 1 s') }
noncomputable def bdDgT (s s' : RS) (xs : List UInt8) : Bd := bdMr Tryz.f113 [] s [(27, 6, cRdS (rawCl 32 xs s'))] [.seg .u8 32 (intsB xs)] s'
noncomputable def bdDgF (s s' : RS) (xs : List UInt8) : Bd := bdMr Tryz.f113 [] s [(27, 6, cRdS (rawCl 32 xs s'))] [.seg .u8 32 z32] s'
noncomputable def bdTgT (s s' : RS) (xs : List UInt8) : Bd := bdMr Tryz.f140 [] s [(27, 6, cRdS (rawCl 16 xs s'))] [.seg .u8 16 (intsB xs)] s'
noncomputable def bdTgF (s s' : RS) (xs : List UInt8) : Bd := bdMr Tryz.f140 [] s [(27, 6, cRdS (rawCl 16 xs s'))] [.seg .u8 16 z16] s'
noncomputable def bdSgR (s s1 s2 : RS) (r : SSign) : Bd := bdMr Tryz.f116 [] s [(25, 5, cRd (.int .i64 r.node) s1), (140, 7, cMr (.agg [.seg .u8 16 r.tag]) s2)] r.c s2
noncomputable def bdEvR (s s1 s2 s3 : RS) (r : SEnv) : Bd := bdMr Tryz.f112 [] s [(25, 5, cRd (.int .i64 r.src) s1), (26, 10, cRd (.str r.body) s2), (140, 12, cMr (.agg [.seg .u8 16 r.tag]) s3)] r.c s3
noncomputable def bdVtR (s s0 sb s1 s2 s3 s4 : RS) (r : SVote) : Bd := bdMr Tryz.f108 [] s [(25, 5, cRd (.int .i64 r.kind) s0), (78, 16, cRd (.int .i64 s0.e) s0), (27, 27, fun _ _ _ => [{ pre := [.o 1], val := roB [], post := [(.o 1, rdB sb)] }]), (25, 23, cRd (.int .i64 r.epoch) s1), (25, 28, cRd (.int .i64 r.view) s2), (25, 33, cRd (.int .i64 r.slot) s3), (113, 41, cMr (.agg [.seg .u8 32 r.digest]) s4), (25, 32, cRd (.int .i64 r.epoch) s1), (25, 37, cRd (.int .i64 r.view) s2), (25, 42, cRd (.int .i64 r.slot) s3), (113, 50, cMr (.agg [.seg .u8 32 r.digest]) s4)] r.c s4
end Go.Proofs.YtnmccoincblecaaGreat
namespace Go.Proofs.YtnmccoincblecaaGreat
open Go Sy Go.Proofs
theorem bdDgT_p1 (s : RS) (s' : RS) (xs : List UInt8) :
  along Tryz.prog (bdDgT s s' xs) [true] = (some (.agg [.seg .u8 32 (intsB xs)], [(.o 0, .flat [.ptr (.o 1) 0 0 0 0, .bool (RS.bad s')]), (.o 1, rdB s')], [T Tryz.prog 27 [.ptr (.o 1) 0 0 0 0, .int .i64 32] [(.o 1, rdB s)] (.ros 1 32 (bl xs) false) [(.o 1, rdB s')], nat_lit 32 ≤ (32 : Nat), ∀ (q : Nat), q < (32 : Nat) → true = true, q0, q0, q0, RS.bad s = RS.bad s', q (List.length (RS.l s')), ∀ (k : Nat), k < List.length (RS.l s') → bl (RS.l s') k = bl (RS.l s') k, false = true → false = true, q (RS.e s'), q2, q (32 : Nat), segSet (32 : Nat) z32 (nat_lit 0) (nat_lit 32) (bl xs) = intsB xs, q0, q0, q0]) : Option (V × Heap × List Prop)) := by kernel_rfl

theorem bdDgF_p0 (s : RS) (s' : RS) (xs : List UInt8) :
  along Tryz.prog (bdDgF s s' xs) [false] = (some (.agg [.seg .u8 32 z32], [(.o 0, .flat [.ptr (.o 1) 0 0 0 0, .bool (RS.bad s')]), (.o 1, rdB s')], [T Tryz.prog 27 [.ptr (.o 1) 0 0 0 0, .int .i64 32] [(.o 1, rdB s)] (.ros 1 0 (bl []) false) [(.o 1, rdB s')], nat_lit 32 ≤ (32 : Nat), ∀ (q : Nat), q < (0 : Nat) → true = true, q0, q0, q0, RS.bad s = RS.bad s', q (List.length (RS.l s')), ∀ (k : Nat), k < List.length (RS.l s') → bl (RS.l s') k = bl (RS.l s') k, false = true → false = true, q (RS.e s'), q2, q (32 : Nat), segSet (32 : Nat) z32 (nat_lit 0) (nat_lit 0) (bl []) = z32, q0, q0, q0]) : Option (V × Heap × List Prop)) := by kernel_rfl

theorem bdTgT_p1 (s : RS) (s' : RS) (xs : List UInt8) :
  along Tryz.prog (bdTgT s s' xs) [true] = (some (.agg [.seg .u8 16 (intsB xs)], [(.o 0, .flat [.ptr (.o 1) 0 0 0 0, .bool (RS.bad s')]), (.o 1, rdB s')], [T Tryz.prog 27 [.ptr (.o 1) 0 0 0 0, .int .i64 16] [(.o 1, rdB s)] (.ros 1 16 (bl xs) false) [(.o 1, rdB s')], nat_lit 16 ≤ (16 : Nat), ∀ (q : Nat), q < (16 : Nat) → true = true, q0, q0, q0, RS.bad s = RS.bad s', q (List.length (RS.l s')), ∀ (k : Nat), k < List.length (RS.l s') → bl (RS.l s') k = bl (RS.l s') k, false = true → false = true, q (RS.e s'), q2, q (16 : Nat), segSet (16 : Nat) z16 (nat_lit 0) (nat_lit 16) (bl xs) = intsB xs, q0, q0, q0]) : Option (V × Heap × List Prop)) := by kernel_rfl

theorem bdTgF_p0 (s : RS) (s' : RS) (xs : List UInt8) :
  along Tryz.prog (bdTgF s s' xs) [false] = (some (.agg [.seg .u8 16 z16], [(.o 0, .flat [.ptr (.o 1) 0 0 0 0, .bool (RS.bad s')]), (.o 1, rdB s')], [T Tryz.prog 27 [.ptr (.o 1) 0 0 0 0, .int .i64 16] [(.o 1, rdB s)] (.ros 1 0 (bl []) false) [(.o 1, rdB s')], nat_lit 16 ≤ (16 : Nat), ∀ (q : Nat), q < (0 : Nat) → true = true, q0, q0, q0, RS.bad s = RS.bad s', q (List.length (RS.l s')), ∀ (k : Nat), k < List.length (RS.l s') → bl (RS.l s') k = bl (RS.l s') k, false = true → false = true, q (RS.e s'), q2, q (16 : Nat), segSet (16 : Nat) z16 (nat_lit 0) (nat_lit 0) (bl []) = z16, q0, q0, q0]) : Option (V × Heap × List Prop)) := by kernel_rfl

theorem bdSgR_p (s : RS) (s1 : RS) (s2 : RS) (r : SSign) :
  along Tryz.prog (bdSgR s s1 s2 r) [] = (some (.agg (SSign.c r), [(.o 0, .flat [.ptr (.o 1) 0 0 0 0, .bool (RS.bad s2)]), (.o 1, rdB s2)], [T Tryz.prog 25 [.ptr (.o 1) 0 0 0 0, .int .i64 64] [(.o 1, rdB s)] (.int .i64 (SSign.node r)) [(.o 1, rdB s1)], T Tryz.prog 140 [.ptr (.o 0) 0 0 0 0] [(.o 0, .flat [.ptr (.o 1) 0 0 0 0, .bool (RS.bad s)]), (.o 1, rdB s1)] (.agg [.seg .u8 16 (SSign.tag r)]) [(.o 0, .flat [.ptr (.o 1) 0 0 0 0, .bool (RS.bad s2)]), (.o 1, rdB s2)], q0, q0, q0, q (RS.bad s2), q (List.length (RS.l s2)), ∀ (k : Nat), k < List.length (RS.l s2) → bl (RS.l s2) k = bl (RS.l s2) k, false = true → false = true, q (RS.e s2), q2, q (SSign.node r), q (16 : Nat), q (SSign.tag r), q0, q0, q0]) : Option (V × Heap × List Prop)) := by kernel_rfl

theorem bdEvR_p (s : RS) (s1 : RS) (s2 : RS) (s3 : RS) (r : SEnv) :
  along Tryz.prog (bdEvR s s1 s2 s3 r) [] = (some (.agg (SEnv.c r), [(.o 0, .flat [.ptr (.o 1) 0 0 0 0, .bool (RS.bad s3)]), (.o 1, rdB s3)], [T Tryz.prog 25 [.ptr (.o 1) 0 0 0 0, .int .i64 64] [(.o 1, rdB s)] (.int .i64 (SEnv.src r)) [(.o 1, rdB s1)], T Tryz.prog 26 [.ptr (.o 1) 0 0 0 0, .int .i64 4194304] [(.o 1, rdB s1)] (.str (SEnv.body r)) [(.o 1, rdB s2)], T Tryz.prog 140 [.ptr (.o 0) 0 0 0 0] [(.o 0, .flat [.ptr (.o 1) 0 0 0 0, .bool (RS.bad s)]), (.o 1, rdB s2)] (.agg [.seg .u8 16 (SEnv.tag r)]) [(.o 0, .flat [.ptr (.o 1) 0 0 0 0, .bool (RS.bad s3)]), (.o 1, rdB s3)], q0, q0, q0, q (RS.bad s3), q (List.length (RS.l s3)), ∀ (k : Nat), k < List.length (RS.l s3) → bl (RS.l s3) k = bl (RS.l s3) k, false = true → false = true, q (RS.e s3), q2, q (SEnv.src r), q (SEnv.body r), q (16 : Nat), q (SEnv.tag r), q0, q0, q0]) : Option (V × Heap × List Prop)) := by kernel_rfl

noncomputable def bdVtR_c (s : RS) (s0 : RS) (sb : RS) (s1 : RS) (s2 : RS) (s3 : RS) (s4 : RS) (r : SVote) : Nat → List Prop
 | 0 => [T Tryz.prog 25 [.ptr (.o 1) 0 0 0 0, .int .i64 2] [(.o 1, rdB s)] (.int .i64 (SVote.kind r)) [(.o 1, rdB s0)]]
 | 1 => [decide (SVote.kind r = (0 : Int)) = true, T Tryz.prog 78 [.ptr (.o 1) 0 0 0 0] [(.o 1, rdB s0)] (.int .i64 (RS.e s0)) [(.o 1, rdB s0)]]
 | _ => []
theorem bdVtR_p11 (s : RS) (s0 : RS) (sb : RS) (s1 : RS) (s2 : RS) (s3 : RS) (s4 : RS) (r : SVote) :
 along Tryz.prog (bdVtR s s0 sb s1 s2 s3 s4 r) [true, true] = (some (.agg (SVote.c r), [(.o 0, .flat [.ptr (.o 1) 0 0 0 0, .bool (RS.bad s4)]), (.o 1, rdB s4)], bdVtR_c s s0 sb s1 s2 s3 s4 r 0 ++ (bdVtR_c s s0 sb s1 s2 s3 s4 r 1 ++ [decide (RS.e s0 = (0 : Int)) = true, T Tryz.prog 27 [.ptr (.o 1) 0 0 0 0, .int .i64 (-1 : Int)] [(.o 1, rdB s0)] (.ros 1 0 (bl []) false) [(.o 1, rdB sb)], T Tryz.prog 25 [.ptr (.o 1) 0 0 0 0, .int .i64 1048576] [(.o 1, rdB sb)] (.int .i64 (SVote.epoch r)) [(.o 1, rdB s1)], T Tryz.prog 25 [.ptr (.o 1) 0 0 0 0, .int .i64 1099511627776] [(.o 1, rdB s1)] (.int .i64 (SVote.view r)) [(.o 1, rdB s2)], T Tryz.prog 25 [.ptr (.o 1) 0 0 0 0, .int .i64 1099511627776] [(.o 1, rdB s2)] (.int .i64 (SVote.slot r)) [(.o 1, rdB s3)], T Tryz.prog 113 [.ptr (.o 0) 0 0 0 0] [(.o 0, .flat [.ptr (.o 1) 0 0 0 0, .bool true]), (.o 1, rdB s3)] (.agg [.seg .u8 32 (SVote.digest r)]) [(.o 0, .flat [.ptr (.o 1) 0 0 0 0, .bool (RS.bad s4)]), (.o 1, rdB s4)], q0, q0, q0, q (RS.bad s4), q (List.length (RS.l s4)), ∀ (k : Nat), k < List.length (RS.l s4) → bl (RS.l s4) k = bl (RS.l s4) k, false = true → false = true, q (RS.e s4), q2, q (SVote.kind r), q (SVote.epoch r), q (SVote.view r), q (SVote.slot r), q (32 : Nat), q (SVote.digest r), q0, q0, q0])) : Option (V × Heap × List Prop)) := by kernel_rfl
theorem bdVtR_p10 (s : RS) (s0 : RS) (sb : RS) (s1 : RS) (s2 : RS) (s3 : RS) (s4 : RS) (r : SVote) :
 along Tryz.prog (bdVtR s s0 sb s1 s2 s3 s4 r) [true, false] = (some (.agg (SVote.c r), [(.o 0, .flat [.ptr (.o 1) 0 0 0 0, .bool (RS.bad s4)]), (.o 1, rdB s4)], bdVtR_c s s0 sb s1 s2 s3 s4 r 0 ++ (bdVtR_c s s0 sb s1 s2 s3 s4 r 1 ++ [decide (RS.e s0 = (0 : Int)) = false, T Tryz.prog 25 [.ptr (.o 1) 0 0 0 0, .int .i64 1048576] [(.o 1, rdB s0)] (.int .i64 (SVote.epoch r)) [(.o 1, rdB s1)], T Tryz.prog 25 [.ptr (.o 1) 0 0 0 0, .int .i64 1099511627776] [(.o 1, rdB s1)] (.int .i64 (SVote.view r)) [(.o 1, rdB s2)], T Tryz.prog 25 [.ptr (.o 1) 0 0 0 0, .int .i64 1099511627776] [(.o 1, rdB s2)] (.int .i64 (SVote.slot r)) [(.o 1, rdB s3)], T Tryz.prog 113 [.ptr (.o 0) 0 0 0 0] [(.o 0, .flat [.ptr (.o 1) 0 0 0 0, .bool (RS.bad s)]), (.o 1, rdB s3)] (.agg [.seg .u8 32 (SVote.digest r)]) [(.o 0, .flat [.ptr (.o 1) 0 0 0 0, .bool (RS.bad s4)]), (.o 1, rdB s4)], q0, q0, q0, q (RS.bad s4), q (List.length (RS.l s4)), ∀ (k : Nat), k < List.length (RS.l s4) → bl (RS.l s4) k = bl (RS.l s4) k, false = true → false = true, q (RS.e s4), q2, q (SVote.kind r), q (SVote.epoch r), q (SVote.view r), q (SVote.slot r), q (32 : Nat), q (SVote.digest r), q0, q0, q0])) : Option (V × Heap × List Prop)) := by kernel_rfl
theorem bdVtR_p00 (s : RS) (s0 : RS) (sb : RS) (s1 : RS) (s2 : RS) (s3 : RS) (s4 : RS) (r : SVote) :
 along Tryz.prog (bdVtR s s0 sb s1 s2 s3 s4 r) [false, false] = (some (.agg (SVote.c r), [(.o 0, .flat [.ptr (.o 1) 0 0 0 0, .bool (RS.bad s4)]), (.o 1, rdB s4)], bdVtR_c s s0 sb s1 s2 s3 s4 r 0 ++ [decide (SVote.kind r = (0 : Int)) = false, q false, T Tryz.prog 25 [.ptr (.o 1) 0 0 0 0, .int .i64 1048576] [(.o 1, rdB s0)] (.int .i64 (SVote.epoch r)) [(.o 1, rdB s1)], T Tryz.prog 25 [.ptr (.o 1) 0 0 0 0, .int .i64 1099511627776] [(.o 1, rdB s1)] (.int .i64 (SVote.view r)) [(.o 1, rdB s2)], T Tryz.prog 25 [.ptr (.o 1) 0 0 0 0, .int .i64 1099511627776] [(.o 1, rdB s2)] (.int .i64 (SVote.slot r)) [(.o 1, rdB s3)], T Tryz.prog 113 [.ptr (.o 0) 0 0 0 0] [(.o 0, .flat [.ptr (.o 1) 0 0 0 0, .bool (RS.bad s)]), (.o 1, rdB s3)] (.agg [.seg .u8 32 (SVote.digest r)]) [(.o 0, .flat [.ptr (.o 1) 0 0 0 0, .bool (RS.bad s4)]), (.o 1, rdB s4)], q0, q0, q0, q (RS.bad s4), q (List.length (RS.l s4)), ∀ (k : Nat), k < List.length (RS.l s4) → bl (RS.l s4) k = bl (RS.l s4) k, false = true → false = true, q (RS.e s4), q2, q (SVote.kind r), q (SVote.epoch r), q (SVote.view r), q (SVote.slot r), q (32 : Nat), q (SVote.digest r), q0, q0, q0]) : Option (V × Heap × List Prop)) := by kernel_rfl

/-- The same names, the reader's mark given apart. -/
def mrHb (b : Bool) (s : RS) : Heap := [(.o 0, .flat [.ptr (.o 1) 0 0 0 0, .bool b]), (.o 1, rdB s)]
theorem mrHb_eq {b : Bool} {s : RS} (h : s.bad = b) : mrHb b s = mrH 0 1 s := by subst h; rfl
theorem int32 {xs : List UInt8} (h : xs.length = 32) : [intOf (bl xs 0), intOf (bl xs 1), intOf (bl xs 2), intOf (bl xs 3), intOf (bl xs 4), intOf (bl xs 5), intOf (bl xs 6), intOf (bl xs 7), intOf (bl xs 8), intOf (bl xs 9), intOf (bl xs 10), intOf (bl xs 11), intOf (bl xs 12), intOf (bl xs 13), intOf (bl xs 14), intOf (bl xs 15), intOf (bl xs 16), intOf (bl xs 17), intOf (bl xs 18), intOf (bl xs 19), intOf (bl xs 20), intOf (bl xs 21), intOf (bl xs 22), intOf (bl xs 23), intOf (bl xs 24), intOf (bl xs 25), intOf (bl xs 26), intOf (bl xs 27), intOf (bl xs 28), intOf (bl xs 29), intOf (bl xs 30), intOf (bl xs 31)] = intsB xs := by
 match xs, h with
 | [a0, a1, a2, a3, a4, a5, a6, a7, a8, a9, a10, a11, a12, a13, a14, a15, b0, b1, b2, b3, b4, b5, b6, b7, b8, b9, b10, b11, b12, b13, b14, b15], _ => rfl
theorem T_digR (s : RS) (hl : s.l.length ≤ 1000000000) : T Tryz.prog 113 [p0] (mrH 0 1 s) (.agg [.seg .u8 32 (digR s).1]) (mrH 0 1 (digR s).2) := by
 by_cases h : (rawR 32 s).2.e = 0
 ·have hn : (rawR 32 s).1.length = 32 := rawR_ok (n := 32) h
  have e : digR s = (intsB (rawR 32 s).1, (rawR 32 s).2) := by simp [digR, arrR, h]
  rw [e]
  refine T_al (bdDgT_p1 s (rawR 32 s).2 (rawR 32 s).1) Tryz.func113 ?_
  simp only [All, All_append, bdVtR_c]; and_intros
  all_goals first | (have := T_rawR 1 32 s hl; rw [roB, hn] at this; exact this) | exact int32 hn | exact (rawR_after 32 s).2.1.symm | trivial | (simp [hn]; done)
 ·have hn : (rawR 32 s).1 = [] := rawR_bad (n := 32) h
  have e : digR s = (z32, (rawR 32 s).2) := by simp [digR, arrR, h]
  rw [e]
  refine T_al (bdDgF_p0 s (rawR 32 s).2 (rawR 32 s).1) Tryz.func113 ?_
  simp only [All, All_append, bdVtR_c]; and_intros
  all_goals first | (have := T_rawR 1 32 s hl; rw [roB, hn] at this; exact this) | exact (rawR_after 32 s).2.1.symm | trivial | simp
theorem T_tagR (s : RS) (hl : s.l.length ≤ 1000000000) : T Tryz.prog 140 [p0] (mrH 0 1 s) (.agg [.seg .u8 16 (tagR s).1]) (mrH 0 1 (tagR s).2) := by
 by_cases h : (rawR 16 s).2.e = 0
 ·have hn : (rawR 16 s).1.length = 16 := rawR_ok (n := 16) h
  have e : tagR s = (intsB (rawR 16 s).1, (rawR 16 s).2) := by simp [tagR, arrR, h]
  rw [e]
  refine T_al (bdTgT_p1 s (rawR 16 s).2 (rawR 16 s).1) Tryz.func140 ?_
  simp only [All, All_append, bdVtR_c]; and_intros
  all_goals first | (have := T_rawR 1 16 s hl; rw [roB, hn] at this; exact this) | exact int16 hn | exact (rawR_after 16 s).2.1.symm | trivial | (simp [hn]; done)
 ·have hn : (rawR 16 s).1 = [] := rawR_bad (n := 16) h
  have e : tagR s = (z16, (rawR 16 s).2) := by simp [tagR, arrR, h]
  rw [e]
  refine T_al (bdTgF_p0 s (rawR 16 s).2 (rawR 16 s).1) Tryz.func140 ?_
  simp only [All, All_append, bdVtR_c]; and_intros
  all_goals first | (have := T_rawR 1 16 s hl; rw [roB, hn] at this; exact this) | exact (rawR_after 16 s).2.1.symm | trivial | simp
theorem tagR_after (s : RS) : After s (tagR s).2 := rawR_after 16 s
theorem digR_after (s : RS) : After s (digR s).2 := rawR_after 32 s
theorem T.heap {P : Program} {f : FuncId} {args : List V} {pre pre' : Heap} {val : V} {post : Heap} (h : T P f args pre val post) (e : pre = pre') : T P f args pre' val post := by subst e; exact h
theorem T_signR (s : RS) (hl : s.l.length ≤ 1000000000) : T Tryz.prog 116 [p0] (mrH 0 1 s) (.agg (signR s).1.c) (mrH 0 1 (signR s).2) := by
 have a1 := numR_after 64 s
 refine T_al (bdSgR_p s (numR 64 s).2 (signR s).2 (signR s).1) Tryz.func116 ?_
 simp only [All, All_append, bdVtR_c]; and_intros
 all_goals first | exact T_num 1 64 s | exact T.heap (T_tagR (numR 64 s).2 (Nat.le_trans a1.1 hl)) (mrHb_eq a1.2.1).symm | trivial | simp
theorem signR_after (s : RS) : After s (signR s).2 := (numR_after 64 s).trans (tagR_after _)
theorem T_envR (s : RS) (hl : s.l.length ≤ 1000000000) : T Tryz.prog 112 [p0] (mrH 0 1 s) (.agg (envR s).1.c) (mrH 0 1 (envR s).2) := by
 have a1 : After s (envR1 s) := numR_after 64 s
 have a2 : After s (envR2 s) := a1.trans (textR_after _ _)
 refine T_al (bdEvR_p s (envR1 s) (envR2 s) (envR s).2 (envR s).1) Tryz.func112 ?_
 simp only [All, All_append, bdVtR_c]; and_intros
 all_goals first | exact T_num 1 64 s | exact T_textR 1 _ _ (Nat.le_trans a1.1 hl) | exact T.heap (T_tagR (envR2 s) (Nat.le_trans a2.1 hl)) (mrHb_eq a2.2.1).symm | trivial | simp
theorem envR_after (s : RS) : After s (envR s).2 := ((numR_after 64 s).trans (textR_after _ _)).trans (tagR_after _)
/-- What reading leaves, the mark aside. -/
def Aft (s s' : RS) : Prop := s'.l.length ≤ s.l.length ∧ (s.e ≠ 0 → s'.e ≠ 0)
theorem After.aft {s s' : RS} (h : After s s') : Aft s s' := ⟨h.1, h.2.2⟩
theorem Aft.refl (s : RS) : Aft s s := ⟨Nat.le_refl _, id⟩
theorem Aft.trans {a b c : RS} (h : Aft a b) (h' : Aft b c) : Aft a c := ⟨Nat.le_trans h'.1 h.1, fun e => h'.2 (h.2 e)⟩
theorem voteR0_aft (s : RS) : Aft s (voteR0 s) := by
 unfold voteR0
 split
 ·exact ⟨Nat.zero_le _, fun _ => by simp [RS.spoil]⟩
 ·exact (numR_after 2 s).aft
theorem voteR_aft (s : RS) : Aft s (voteR s).2 := ((((voteR0_aft s).trans (numR_after _ _).aft).trans (numR_after _ _).aft).trans (numR_after _ _).aft).trans (digR_after _).aft
theorem voteR3_bad (s : RS) : (voteR3 s).bad = (voteR0 s).bad := (((numR_after 1048576 (voteR0 s)).trans (numR_after 1099511627776 (voteR1 s))).trans (numR_after 1099511627776 (voteR2 s))).2.1
theorem T_voteR (s : RS) (hl : s.l.length ≤ 1000000000) : T Tryz.prog 108 [p0] (mrH 0 1 s) (.agg (voteR s).1.c) (mrH 0 1 (voteR s).2) := by
 have b := voteR3_bad s
 have a0 := numR_after 2 s
 have l3 : (voteR3 s).l.length ≤ 1000000000 := Nat.le_trans ((((voteR0_aft s).trans (numR_after _ _).aft).trans (numR_after _ _).aft).trans (numR_after _ _).aft).1 hl
 by_cases h1 : (numR 2 s).1 = 0
 ·by_cases h2 : (numR 2 s).2.e = 0
  ·have e0 : voteR0 s = (numR 2 s).2.spoil := by simp [voteR0, h1, h2]
   have hr : (rawR (-1) (numR 2 s).2) = ([], (numR 2 s).2.fail 2) := by simp [rawR, h2]
   refine T_al (bdVtR_p11 s (numR 2 s).2 (voteR0 s) (voteR1 s) (voteR2 s) (voteR3 s) (voteR s).2 (voteR s).1) Tryz.func108 ?_
   simp only [All, All_append, bdVtR_c]; and_intros
   all_goals first | exact T_num 1 _ _ | exact T_err 1 _ | (have := T_rawR 1 (-1) (numR 2 s).2 (Nat.le_trans a0.1 hl); rw [hr] at this; rw [e0]; exact this) | exact T.heap (T_digR (voteR3 s) l3) (mrHb_eq (b.trans (by rw [e0]; rfl))).symm | (rw [decide_eq_true_eq]; assumption) | trivial | simp
  ·have e0 : voteR0 s = (numR 2 s).2 := by simp [voteR0, h2]
   refine T_al (bdVtR_p10 s (numR 2 s).2 (voteR0 s) (voteR1 s) (voteR2 s) (voteR3 s) (voteR s).2 (voteR s).1) Tryz.func108 ?_
   simp only [All, All_append, bdVtR_c]; and_intros
   all_goals first | exact T_num 1 _ _ | exact T_err 1 _ | (rw [← e0]; exact T_num 1 _ _) | exact T.heap (T_digR (voteR3 s) l3) (mrHb_eq (b.trans (by rw [e0]; exact a0.2.1))).symm | (rw [decide_eq_true_eq]; assumption) | (rw [decide_eq_false_iff_not]; assumption) | trivial | simp
 ·have e0 : voteR0 s = (numR 2 s).2 := by simp [voteR0, h1]
  refine T_al (bdVtR_p00 s (numR 2 s).2 (voteR0 s) (voteR1 s) (voteR2 s) (voteR3 s) (voteR s).2 (voteR s).1) Tryz.func108 ?_
  simp only [All, All_append, bdVtR_c]; and_intros
  all_goals first | exact T_num 1 _ _ | (rw [← e0]; exact T_num 1 _ _) | exact T.heap (T_digR (voteR3 s) l3) (mrHb_eq (b.trans (by rw [e0]; exact a0.2.1))).symm | (rw [decide_eq_false_iff_not]; assumption) | trivial | simp
end Go.Proofs.YtnmccoincblecaaGreat
namespace Go.Proofs.YtnmccoincblecaaGreat
open Go Sy Go.Proofs
/-- The reader's state behind so many. -/
def stR {α : Type} (one : RS → α × RS) (s : RS) : Nat → RS
 | 0 => s
 | k + 1 => (one (stR one s k)).2
/-- How many are read, as long as nothing is wrong. -/
def cntR {α : Type} (one : RS → α × RS) : Nat → RS → Nat
 | 0, _ => 0
 | n + 1, s => if s.e = 0 then cntR one n (one s).2 + 1 else 0
def gtSgI (n : Nat) (el : Nat → SSign) (st : Nat → RS) (k : Nat) : St := ⟨mkT 28 [(0, p0), (2, .fn (.func 116) [p0] []), (6, .sl (.o 2) 17 0 0 0 k none), (12, .int .i64 n), (13, .int .i64 k)], mrH 0 1 (st k) ++ [(.o 2, .rows 17 k (fun i => (el i).c) true)], 3, []⟩
noncomputable def bdGtSg (most : Int) (n m : Nat) (el : Nat → SSign) (st : Nat → RS) (s : RS) : Bd := { f := Tryz.f115, args := [p0, .int .i64 most, .fn (.func 116) [p0] []], pre := mrH 0 1 s, base := 2, kb := { db := dbF [(25, cRd (.int .i64 n) (st 0))], lp := fun _ t => match getV t.tmps 6 with | .sl a _ _ _ _ _ _ => [(True, .loop (m + 1) (wToS [(.o 2, a)] (gtSgI n el st 0)) (.exit 0) (gtSgI n el st m))] | _ => [], fx := fun id _ => bif Nat.beq id 2 then [.virt 6 17] else [] }, names := n01, k := fun _ t => some ⟨[], [(6, .set (.ros 17 m (fun i => (el i).c) false))], hsetsOf (mrH 0 1 (st m)), none, t.next⟩ }
noncomputable def pcGtSg (n : Nat) (el : Nat → SSign) (st : Nat → RS) (k : Nat) : Pc := { c := cB (cB (cR (cL (cR (bodyOf Tryz.f115))))), st := gtSgI n el st k, p := 2, kb := { db := dbF [(78, cRd (.int .i64 (st k).e) (st k)), (116, cMr (.agg (el k).c) (st (k + 1)))] }, k := fun e t => match e with
 | .normal => match getV t.tmps 6 with
  | .sl a _ _ _ _ _ _ => some (wToS [(.o 2, a)] (gtSgI n el st (k + 1)))
  | _ => none
 | _ => some (wTo (gtSgI n el st k)) }
def gtNwI (n : Nat) (el : Nat → SEnv) (st : Nat → RS) (k : Nat) : St := ⟨mkT 28 [(0, p0), (2, .fn (.func 112) [p0] []), (6, .sl (.o 2) 18 0 0 0 k none), (12, .int .i64 n), (13, .int .i64 k)], mrH 0 1 (st k) ++ [(.o 2, .rows 18 k (fun i => (el i).c) true)], 3, []⟩
noncomputable def bdGtNw (most : Int) (n m : Nat) (el : Nat → SEnv) (st : Nat → RS) (s : RS) : Bd := { f := Tryz.f111, args := [p0, .int .i64 most, .fn (.func 112) [p0] []], pre := mrH 0 1 s, base := 2, kb := { db := dbF [(25, cRd (.int .i64 n) (st 0))], lp := fun _ t => match getV t.tmps 6 with | .sl a _ _ _ _ _ _ => [(True, .loop (m + 1) (wToS [(.o 2, a)] (gtNwI n el st 0)) (.exit 0) (gtNwI n el st m))] | _ => [], fx := fun id _ => bif Nat.beq id 2 then [.virt 6 18] else [] }, names := n01, k := fun _ t => some ⟨[], [(6, .set (.ros 18 m (fun i => (el i).c) false))], hsetsOf (mrH 0 1 (st m)), none, t.next⟩ }
noncomputable def pcGtNw (n : Nat) (el : Nat → SEnv) (st : Nat → RS) (k : Nat) : Pc := { c := cB (cB (cR (cL (cR (bodyOf Tryz.f111))))), st := gtNwI n el st k, p := 2, kb := { db := dbF [(78, cRd (.int .i64 (st k).e) (st k)), (112, cMr (.agg (el k).c) (st (k + 1)))] }, k := fun e t => match e with
 | .normal => match getV t.tmps 6 with
  | .sl a _ _ _ _ _ _ => some (wToS [(.o 2, a)] (gtNwI n el st (k + 1)))
  | _ => none
 | _ => some (wTo (gtNwI n el st k)) }
def gtHlI (n : Nat) (el : Nat → SHeld) (st : Nat → RS) (k : Nat) : St := ⟨mkT 28 [(0, p0), (2, .fn (.func 110) [p0] []), (6, .sl (.o 2) 39 0 0 0 k none), (12, .int .i64 n), (13, .int .i64 k)], mrH 0 1 (st k) ++ [(.o 2, .rows 39 k (fun i => (el i).c) true)], 3, []⟩
noncomputable def bdGtHl (most : Int) (n m : Nat) (el : Nat → SHeld) (st : Nat → RS) (s : RS) : Bd := { f := Tryz.f109, args := [p0, .int .i64 most, .fn (.func 110) [p0] []], pre := mrH 0 1 s, base := 2, kb := { db := dbF [(25, cRd (.int .i64 n) (st 0))], lp := fun _ t => match getV t.tmps 6 with | .sl a _ _ _ _ _ _ => [(True, .loop (m + 1) (wToS [(.o 2, a)] (gtHlI n el st 0)) (.exit 0) (gtHlI n el st m))] | _ => [], fx := fun id _ => bif Nat.beq id 2 then [.virt 6 39] else [] }, names := n01, k := fun _ t => some ⟨[], [(6, .set (.ros 39 m (fun i => (el i).c) false))], hsetsOf (mrH 0 1 (st m)), none, t.next⟩ }
noncomputable def pcGtHl (n : Nat) (el : Nat → SHeld) (st : Nat → RS) (k : Nat) : Pc := { c := cB (cB (cR (cL (cR (bodyOf Tryz.f109))))), st := gtHlI n el st k, p := 2, kb := { db := dbF [(78, cRd (.int .i64 (st k).e) (st k)), (110, cMr (.agg (el k).c) (st (k + 1)))] }, k := fun e t => match e with
 | .normal => match getV t.tmps 6 with
  | .sl a _ _ _ _ _ _ => some (wToS [(.o 2, a)] (gtHlI n el st (k + 1)))
  | _ => none
 | _ => some (wTo (gtHlI n el st k)) }
end Go.Proofs.YtnmccoincblecaaGreat
namespace Go.Proofs.YtnmccoincblecaaGreat
open Go Sy Go.Proofs
theorem bdGtSg_p (most : Int) (n : Nat) (m : Nat) (el : Nat → SSign) (st : Nat → RS) (s : RS) :
  along Tryz.prog (bdGtSg most n m el st s) [] = (some (.ros 17 m (fun i => SSign.c (el i)) false, [(.o 0, .flat [.ptr (.o 1) 0 0 0 0, .bool (RS.bad (st m))]), (.o 1, rdB (st m))], [T Tryz.prog 25 [.ptr (.o 1) 0 0 0 0, .int .i64 most] [(.o 1, rdB s)] (.int .i64 ↑n) [(.o 1, rdB (st 0))], RLoop Tryz.prog none 2 (cB (cB (cR (cL (cR (bodyOf (Bd.f (bdGtSg most n m el st s)))))))) (m + 1) (St.mk (mkT 28 [(0, .ptr (.o 0) 0 0 0 0), (2, .fn (.func (116 : FuncId)) [.ptr (.o 0) 0 0 0 0] []), (6, .sl (.o 2) 17 0 0 0 0 none), (12, .int .i64 ↑n), (13, .int .i64 0)]) [(.o 0, .flat [.ptr (.o 1) 0 0 0 0, .bool (RS.bad (st 0))]), (.o 1, rdB (st 0)), (.o 2, .rows 17 0 (fun i => SSign.c (el i)) true)] 3 []) (.exit 0) (St.mk (mkT 28 [(0, .ptr (.o 0) 0 0 0 0), (2, .fn (.func (116 : FuncId)) [.ptr (.o 0) 0 0 0 0] []), (6, .sl (.o 2) 17 0 0 0 m none), (12, .int .i64 ↑n), (13, .int .i64 ↑m)]) [(.o 0, .flat [.ptr (.o 1) 0 0 0 0, .bool (RS.bad (st m))]), (.o 1, rdB (st m)), (.o 2, .rows 17 m (fun i => SSign.c (el i)) true)] 3 []), q0, q0, q0, RS.bad s = RS.bad (st (0 : Nat)), q (List.length (RS.l (st (0 : Nat)))), ∀ (k : Nat), k < List.length (RS.l (st (0 : Nat))) → bl (RS.l (st (0 : Nat))) k = bl (RS.l (st (0 : Nat))) k, false = true → false = true, q (RS.e (st (0 : Nat))), q2, q0, ∀ (k : Nat), k < (0 : Nat) → [] = SSign.c (el k), true = false → true = false, q0, q0, q0, q0, q0, q0, q0, q0, q0, q0, (none : Option Nat) = none ∨ (none : Option Nat) = none, q (↑n : Int), q1, q0, q0, q0, q (RS.bad (st m)), q (List.length (RS.l (st m))), ∀ (k : Nat), k < List.length (RS.l (st m)) → bl (RS.l (st m)) k = bl (RS.l (st m)) k, false = true → false = true, q (RS.e (st m)), q2, q m, (0 : Nat) + m ≤ m, ∀ (k : Nat), k < m → SSign.c (el ((0 : Nat) + k)) = SSign.c (el k), false = true → none = some m]) : Option (V × Heap × List Prop)) := by kernel_rfl

theorem pcGtSg_p11 (n : Nat) (el : Nat → SSign) (st : Nat → RS) (k : Nat) :
  alongPc Tryz.prog (pcGtSg n el st k) [true, true] = (some (.exit 0, St.mk (mkT 28 [(0, .ptr (.o 0) 0 0 0 0), (2, .fn (.func (116 : FuncId)) [.ptr (.o 0) 0 0 0 0] []), (6, .sl (.o 2) 17 0 0 0 k none), (12, .int .i64 ↑n), (13, .int .i64 ↑k)]) [(.o 0, .flat [.ptr (.o 1) 0 0 0 0, .bool (RS.bad (st k))]), (.o 1, rdB (st k)), (.o 2, .rows 17 k (fun i => SSign.c (el i)) true)] 3 [], [decide ((↑k : Int) < (↑n : Int)) = true, T Tryz.prog 78 [.ptr (.o 1) 0 0 0 0] [(.o 1, rdB (st k))] (.int .i64 (RS.e (st k))) [(.o 1, rdB (st k))], (!decide (RS.e (st k) = (0 : Int))) = true, q0, q0, q0, q (RS.bad (st k)), q (List.length (RS.l (st k))), ∀ (k_1 : Nat), k_1 < List.length (RS.l (st k)) → bl (RS.l (st k)) k_1 = bl (RS.l (st k)) k_1, false = true → false = true, q (RS.e (st k)), q2, q k, ∀ (k_1 : Nat), k_1 < k → SSign.c (el k_1) = SSign.c (el k_1), true = false → true = false, q0, q0, q0, q0, q0, q0, q0, q0, q0, q k, (none : Option Nat) = none ∨ (none : Option Nat) = none, q (↑n : Int), q (↑k : Int)]) : Option (Exit × St × List Prop)) := by kernel_rfl
theorem pcGtSg_p10 (n : Nat) (el : Nat → SSign) (st : Nat → RS) (k : Nat) :
  alongPc Tryz.prog (pcGtSg n el st k) [true, false] = (some (.normal, St.mk (mkT 28 [(0, .ptr (.o 0) 0 0 0 0), (2, .fn (.func (116 : FuncId)) [.ptr (.o 0) 0 0 0 0] []), (6, .sl (.o 2) 17 0 0 0 (k + 1) none), (12, .int .i64 ↑n), (13, .int .i64 (↑(k + 1) : Int))]) [(.o 0, .flat [.ptr (.o 1) 0 0 0 0, .bool (RS.bad (st (k + 1)))]), (.o 1, rdB (st (k + 1))), (.o 2, .rows 17 (k + 1) (fun i => SSign.c (el i)) true)] 3 [], [decide ((↑k : Int) < (↑n : Int)) = true, T Tryz.prog 78 [.ptr (.o 1) 0 0 0 0] [(.o 1, rdB (st k))] (.int .i64 (RS.e (st k))) [(.o 1, rdB (st k))], (!decide (RS.e (st k) = (0 : Int))) = false, T Tryz.prog (116 : FuncId) [.ptr (.o 0) 0 0 0 0] [(.o 0, .flat [.ptr (.o 1) 0 0 0 0, .bool (RS.bad (st k))]), (.o 1, rdB (st k))] (.agg (SSign.c (el k))) [(.o 0, .flat [.ptr (.o 1) 0 0 0 0, .bool (RS.bad (st (k + 1)))]), (.o 1, rdB (st (k + 1)))], q k, nat_lit 1 ≤ (1 : Nat), ∀ (k_1 : Nat), k_1 < (1 : Nat) → solid (getL [(SSign.c (el k))] ((0 : Nat) + k_1)) = true, (k + (1 : Nat)) * (24 : Nat) ≤ (140737488355328 : Nat), InR IntKind.i64 ((↑k : Int) + (1 : Int)), q0, q0, q0, q (RS.bad (st (k + (1 : Nat)))), q (List.length (RS.l (st (k + (1 : Nat))))), ∀ (k_1 : Nat), k_1 < List.length (RS.l (st (k + (1 : Nat)))) → bl (RS.l (st (k + (1 : Nat)))) k_1 = bl (RS.l (st (k + (1 : Nat)))) k_1, false = true → false = true, q (RS.e (st (k + (1 : Nat)))), q2, q (k + (1 : Nat)), ∀ (k_1 : Nat), k_1 < k + (1 : Nat) → catF k (fun i => SSign.c (el i)) (fun k_2 => getL [(SSign.c (el k))] ((0 : Nat) + k_2)) k_1 = SSign.c (el k_1), true = false → true = false, q0, q0, q0, q0, q0, q0, q0, q0, q0, q (k + (1 : Nat)), (none : Option Nat) = none ∨ (none : Option Nat) = none, q (↑n : Int), (↑k : Int) + (1 : Int) = (↑(k + (1 : Nat)) : Int)]) : Option (Exit × St × List Prop)) := by kernel_rfl
theorem pcGtSg_p0 (n : Nat) (el : Nat → SSign) (st : Nat → RS) (k : Nat) :
  alongPc Tryz.prog (pcGtSg n el st k) [false] = (some (.exit 0, St.mk (mkT 28 [(0, .ptr (.o 0) 0 0 0 0), (2, .fn (.func (116 : FuncId)) [.ptr (.o 0) 0 0 0 0] []), (6, .sl (.o 2) 17 0 0 0 k none), (12, .int .i64 ↑n), (13, .int .i64 ↑k)]) [(.o 0, .flat [.ptr (.o 1) 0 0 0 0, .bool (RS.bad (st k))]), (.o 1, rdB (st k)), (.o 2, .rows 17 k (fun i => SSign.c (el i)) true)] 3 [], [decide ((↑k : Int) < (↑n : Int)) = false, q0, q0, q0, q (RS.bad (st k)), q (List.length (RS.l (st k))), ∀ (k_1 : Nat), k_1 < List.length (RS.l (st k)) → bl (RS.l (st k)) k_1 = bl (RS.l (st k)) k_1, false = true → false = true, q (RS.e (st k)), q2, q k, ∀ (k_1 : Nat), k_1 < k → SSign.c (el k_1) = SSign.c (el k_1), true = false → true = false, q0, q0, q0, q0, q0, q0, q0, q0, q0, q k, (none : Option Nat) = none ∨ (none : Option Nat) = none, q (↑n : Int), q (↑k : Int)]) : Option (Exit × St × List Prop)) := by kernel_rfl

theorem bdGtNw_p (most : Int) (n : Nat) (m : Nat) (el : Nat → SEnv) (st : Nat → RS) (s : RS) :
  along Tryz.prog (bdGtNw most n m el st s) [] = (some (.ros 18 m (fun i => SEnv.c (el i)) false, [(.o 0, .flat [.ptr (.o 1) 0 0 0 0, .bool (RS.bad (st m))]), (.o 1, rdB (st m))], [T Tryz.prog 25 [.ptr (.o 1) 0 0 0 0, .int .i64 most] [(.o 1, rdB s)] (.int .i64 ↑n) [(.o 1, rdB (st 0))], RLoop Tryz.prog none 2 (cB (cB (cR (cL (cR (bodyOf (Bd.f (bdGtNw most n m el st s)))))))) (m + 1) (St.mk (mkT 28 [(0, .ptr (.o 0) 0 0 0 0), (2, .fn (.func (112 : FuncId)) [.ptr (.o 0) 0 0 0 0] []), (6, .sl (.o 2) 18 0 0 0 0 none), (12, .int .i64 ↑n), (13, .int .i64 0)]) [(.o 0, .flat [.ptr (.o 1) 0 0 0 0, .bool (RS.bad (st 0))]), (.o 1, rdB (st 0)), (.o 2, .rows 18 0 (fun i => SEnv.c (el i)) true)] 3 []) (.exit 0) (St.mk (mkT 28 [(0, .ptr (.o 0) 0 0 0 0), (2, .fn (.func (112 : FuncId)) [.ptr (.o 0) 0 0 0 0] []), (6, .sl (.o 2) 18 0 0 0 m none), (12, .int .i64 ↑n), (13, .int .i64 ↑m)]) [(.o 0, .flat [.ptr (.o 1) 0 0 0 0, .bool (RS.bad (st m))]), (.o 1, rdB (st m)), (.o 2, .rows 18 m (fun i => SEnv.c (el i)) true)] 3 []), q0, q0, q0, RS.bad s = RS.bad (st (0 : Nat)), q (List.length (RS.l (st (0 : Nat)))), ∀ (k : Nat), k < List.length (RS.l (st (0 : Nat))) → bl (RS.l (st (0 : Nat))) k = bl (RS.l (st (0 : Nat))) k, false = true → false = true, q (RS.e (st (0 : Nat))), q2, q0, ∀ (k : Nat), k < (0 : Nat) → [] = SEnv.c (el k), true = false → true = false, q0, q0, q0, q0, q0, q0, q0, q0, q0, q0, (none : Option Nat) = none ∨ (none : Option Nat) = none, q (↑n : Int), q1, q0, q0, q0, q (RS.bad (st m)), q (List.length (RS.l (st m))), ∀ (k : Nat), k < List.length (RS.l (st m)) → bl (RS.l (st m)) k = bl (RS.l (st m)) k, false = true → false = true, q (RS.e (st m)), q2, q m, (0 : Nat) + m ≤ m, ∀ (k : Nat), k < m → SEnv.c (el ((0 : Nat) + k)) = SEnv.c (el k), false = true → none = some m]) : Option (V × Heap × List Prop)) := by kernel_rfl

theorem pcGtNw_p11 (n : Nat) (el : Nat → SEnv) (st : Nat → RS) (k : Nat) :
  alongPc Tryz.prog (pcGtNw n el st k) [true, true] = (some (.exit 0, St.mk (mkT 28 [(0, .ptr (.o 0) 0 0 0 0), (2, .fn (.func (112 : FuncId)) [.ptr (.o 0) 0 0 0 0] []), (6, .sl (.o 2) 18 0 0 0 k none), (12, .int .i64 ↑n), (13, .int .i64 ↑k)]) [(.o 0, .flat [.ptr (.o 1) 0 0 0 0, .bool (RS.bad (st k))]), (.o 1, rdB (st k)), (.o 2, .rows 18 k (fun i => SEnv.c (el i)) true)] 3 [], [decide ((↑k : Int) < (↑n : Int)) = true, T Tryz.prog 78 [.ptr (.o 1) 0 0 0 0] [(.o 1, rdB (st k))] (.int .i64 (RS.e (st k))) [(.o 1, rdB (st k))], (!decide (RS.e (st k) = (0 : Int))) = true, q0, q0, q0, q (RS.bad (st k)), q (List.length (RS.l (st k))), ∀ (k_1 : Nat), k_1 < List.length (RS.l (st k)) → bl (RS.l (st k)) k_1 = bl (RS.l (st k)) k_1, false = true → false = true, q (RS.e (st k)), q2, q k, ∀ (k_1 : Nat), k_1 < k → SEnv.c (el k_1) = SEnv.c (el k_1), true = false → true = false, q0, q0, q0, q0, q0, q0, q0, q0, q0, q k, (none : Option Nat) = none ∨ (none : Option Nat) = none, q (↑n : Int), q (↑k : Int)]) : Option (Exit × St × List Prop)) := by kernel_rfl
theorem pcGtNw_p10 (n : Nat) (el : Nat → SEnv) (st : Nat → RS) (k : Nat) :
  alongPc Tryz.prog (pcGtNw n el st k) [true, false] = (some (.normal, St.mk (mkT 28 [(0, .ptr (.o 0) 0 0 0 0), (2, .fn (.func (112 : FuncId)) [.ptr (.o 0) 0 0 0 0] []), (6, .sl (.o 2) 18 0 0 0 (k + 1) none), (12, .int .i64 ↑n), (13, .int .i64 (↑(k + 1) : Int))]) [(.o 0, .flat [.ptr (.o 1) 0 0 0 0, .bool (RS.bad (st (k + 1)))]), (.o 1, rdB (st (k + 1))), (.o 2, .rows 18 (k + 1) (fun i => SEnv.c (el i)) true)] 3 [], [decide ((↑k : Int) < (↑n : Int)) = true, T Tryz.prog 78 [.ptr (.o 1) 0 0 0 0] [(.o 1, rdB (st k))] (.int .i64 (RS.e (st k))) [(.o 1, rdB (st k))], (!decide (RS.e (st k) = (0 : Int))) = false, T Tryz.prog (112 : FuncId) [.ptr (.o 0) 0 0 0 0] [(.o 0, .flat [.ptr (.o 1) 0 0 0 0, .bool (RS.bad (st k))]), (.o 1, rdB (st k))] (.agg (SEnv.c (el k))) [(.o 0, .flat [.ptr (.o 1) 0 0 0 0, .bool (RS.bad (st (k + 1)))]), (.o 1, rdB (st (k + 1)))], q k, nat_lit 1 ≤ (1 : Nat), ∀ (k_1 : Nat), k_1 < (1 : Nat) → solid (getL [(SEnv.c (el k))] ((0 : Nat) + k_1)) = true, (k + (1 : Nat)) * (40 : Nat) ≤ (140737488355328 : Nat), InR IntKind.i64 ((↑k : Int) + (1 : Int)), q0, q0, q0, q (RS.bad (st (k + (1 : Nat)))), q (List.length (RS.l (st (k + (1 : Nat))))), ∀ (k_1 : Nat), k_1 < List.length (RS.l (st (k + (1 : Nat)))) → bl (RS.l (st (k + (1 : Nat)))) k_1 = bl (RS.l (st (k + (1 : Nat)))) k_1, false = true → false = true, q (RS.e (st (k + (1 : Nat)))), q2, q (k + (1 : Nat)), ∀ (k_1 : Nat), k_1 < k + (1 : Nat) → catF k (fun i => SEnv.c (el i)) (fun k_2 => getL [(SEnv.c (el k))] ((0 : Nat) + k_2)) k_1 = SEnv.c (el k_1), true = false → true = false, q0, q0, q0, q0, q0, q0, q0, q0, q0, q (k + (1 : Nat)), (none : Option Nat) = none ∨ (none : Option Nat) = none, q (↑n : Int), (↑k : Int) + (1 : Int) = (↑(k + (1 : Nat)) : Int)]) : Option (Exit × St × List Prop)) := by kernel_rfl
theorem pcGtNw_p0 (n : Nat) (el : Nat → SEnv) (st : Nat → RS) (k : Nat) :
  alongPc Tryz.prog (pcGtNw n el st k) [false] = (some (.exit 0, St.mk (mkT 28 [(0, .ptr (.o 0) 0 0 0 0), (2, .fn (.func (112 : FuncId)) [.ptr (.o 0) 0 0 0 0] []), (6, .sl (.o 2) 18 0 0 0 k none), (12, .int .i64 ↑n), (13, .int .i64 ↑k)]) [(.o 0, .flat [.ptr (.o 1) 0 0 0 0, .bool (RS.bad (st k))]), (.o 1, rdB (st k)), (.o 2, .rows 18 k (fun i => SEnv.c (el i)) true)] 3 [], [decide ((↑k : Int) < (↑n : Int)) = false, q0, q0, q0, q (RS.bad (st k)), q (List.length (RS.l (st k))), ∀ (k_1 : Nat), k_1 < List.length (RS.l (st k)) → bl (RS.l (st k)) k_1 = bl (RS.l (st k)) k_1, false = true → false = true, q (RS.e (st k)), q2, q k, ∀ (k_1 : Nat), k_1 < k → SEnv.c (el k_1) = SEnv.c (el k_1), true = false → true = false, q0, q0, q0, q0, q0, q0, q0, q0, q0, q k, (none : Option Nat) = none ∨ (none : Option Nat) = none, q (↑n : Int), q (↑k : Int)]) : Option (Exit × St × List Prop)) := by kernel_rfl

theorem bdGtHl_p (most : Int) (n : Nat) (m : Nat) (el : Nat → SHeld) (st : Nat → RS) (s : RS) :
  along Tryz.prog (bdGtHl most n m el st s) [] = (some (.ros 39 m (fun i => SHeld.c (el i)) false, [(.o 0, .flat [.ptr (.o 1) 0 0 0 0, .bool (RS.bad (st m))]), (.o 1, rdB (st m))], [T Tryz.prog 25 [.ptr (.o 1) 0 0 0 0, .int .i64 most] [(.o 1, rdB s)] (.int .i64 ↑n) [(.o 1, rdB (st 0))], RLoop Tryz.prog none 2 (cB (cB (cR (cL (cR (bodyOf (Bd.f (bdGtHl most n m el st s)))))))) (m + 1) (St.mk (mkT 28 [(0, .ptr (.o 0) 0 0 0 0), (2, .fn (.func (110 : FuncId)) [.ptr (.o 0) 0 0 0 0] []), (6, .sl (.o 2) 39 0 0 0 0 none), (12, .int .i64 ↑n), (13, .int .i64 0)]) [(.o 0, .flat [.ptr (.o 1) 0 0 0 0, .bool (RS.bad (st 0))]), (.o 1, rdB (st 0)), (.o 2, .rows 39 0 (fun i => SHeld.c (el i)) true)] 3 []) (.exit 0) (St.mk (mkT 28 [(0, .ptr (.o 0) 0 0 0 0), (2, .fn (.func (110 : FuncId)) [.ptr (.o 0) 0 0 0 0] []), (6, .sl (.o 2) 39 0 0 0 m none), (12, .int .i64 ↑n), (13, .int .i64 ↑m)]) [(.o 0, .flat [.ptr (.o 1) 0 0 0 0, .bool (RS.bad (st m))]), (.o 1, rdB (st m)), (.o 2, .rows 39 m (fun i => SHeld.c (el i)) true)] 3 []), q0, q0, q0, RS.bad s = RS.bad (st (0 : Nat)), q (List.length (RS.l (st (0 : Nat)))), ∀ (k : Nat), k < List.length (RS.l (st (0 : Nat))) → bl (RS.l (st (0 : Nat))) k = bl (RS.l (st (0 : Nat))) k, false = true → false = true, q (RS.e (st (0 : Nat))), q2, q0, ∀ (k : Nat), k < (0 : Nat) → [] = SHeld.c (el k), true = false → true = false, q0, q0, q0, q0, q0, q0, q0, q0, q0, q0, (none : Option Nat) = none ∨ (none : Option Nat) = none, q (↑n : Int), q1, q0, q0, q0, q (RS.bad (st m)), q (List.length (RS.l (st m))), ∀ (k : Nat), k < List.length (RS.l (st m)) → bl (RS.l (st m)) k = bl (RS.l (st m)) k, false = true → false = true, q (RS.e (st m)), q2, q m, (0 : Nat) + m ≤ m, ∀ (k : Nat), k < m → SHeld.c (el ((0 : Nat) + k)) = SHeld.c (el k), false = true → none = some m]) : Option (V × Heap × List Prop)) := by kernel_rfl

theorem pcGtHl_p11 (n : Nat) (el : Nat → SHeld) (st : Nat → RS) (k : Nat) :
  alongPc Tryz.prog (pcGtHl n el st k) [true, true] = (some (.exit 0, St.mk (mkT 28 [(0, .ptr (.o 0) 0 0 0 0), (2, .fn (.func (110 : FuncId)) [.ptr (.o 0) 0 0 0 0] []), (6, .sl (.o 2) 39 0 0 0 k none), (12, .int .i64 ↑n), (13, .int .i64 ↑k)]) [(.o 0, .flat [.ptr (.o 1) 0 0 0 0, .bool (RS.bad (st k))]), (.o 1, rdB (st k)), (.o 2, .rows 39 k (fun i => SHeld.c (el i)) true)] 3 [], [decide ((↑k : Int) < (↑n : Int)) = true, T Tryz.prog 78 [.ptr (.o 1) 0 0 0 0] [(.o 1, rdB (st k))] (.int .i64 (RS.e (st k))) [(.o 1, rdB (st k))], (!decide (RS.e (st k) = (0 : Int))) = true, q0, q0, q0, q (RS.bad (st k)), q (List.length (RS.l (st k))), ∀ (k_1 : Nat), k_1 < List.length (RS.l (st k)) → bl (RS.l (st k)) k_1 = bl (RS.l (st k)) k_1, false = true → false = true, q (RS.e (st k)), q2, q k, ∀ (k_1 : Nat), k_1 < k → SHeld.c (el k_1) = SHeld.c (el k_1), true = false → true = false, q0, q0, q0, q0, q0, q0, q0, q0, q0, q k, (none : Option Nat) = none ∨ (none : Option Nat) = none, q (↑n : Int), q (↑k : Int)]) : Option (Exit × St × List Prop)) := by kernel_rfl
theorem pcGtHl_p10 (n : Nat) (el : Nat → SHeld) (st : Nat → RS) (k : Nat) :
  alongPc Tryz.prog (pcGtHl n el st k) [true, false] = (some (.normal, St.mk (mkT 28 [(0, .ptr (.o 0) 0 0 0 0), (2, .fn (.func (110 : FuncId)) [.ptr (.o 0) 0 0 0 0] []), (6, .sl (.o 2) 39 0 0 0 (k + 1) none), (12, .int .i64 ↑n), (13, .int .i64 (↑(k + 1) : Int))]) [(.o 0, .flat [.ptr (.o 1) 0 0 0 0, .bool (RS.bad (st (k + 1)))]), (.o 1, rdB (st (k + 1))), (.o 2, .rows 39 (k + 1) (fun i => SHeld.c (el i)) true)] 3 [], [decide ((↑k : Int) < (↑n : Int)) = true, T Tryz.prog 78 [.ptr (.o 1) 0 0 0 0] [(.o 1, rdB (st k))] (.int .i64 (RS.e (st k))) [(.o 1, rdB (st k))], (!decide (RS.e (st k) = (0 : Int))) = false, T Tryz.prog (110 : FuncId) [.ptr (.o 0) 0 0 0 0] [(.o 0, .flat [.ptr (.o 1) 0 0 0 0, .bool (RS.bad (st k))]), (.o 1, rdB (st k))] (.agg (SHeld.c (el k))) [(.o 0, .flat [.ptr (.o 1) 0 0 0 0, .bool (RS.bad (st (k + 1)))]), (.o 1, rdB (st (k + 1)))], q k, nat_lit 1 ≤ (1 : Nat), ∀ (k_1 : Nat), k_1 < (1 : Nat) → solid (getL [[V.bool (SBatch.noop (SHeld.batch (el k))), rq (SBatch.n (SHeld.batch (el k))) (SBatch.req (SHeld.batch (el k))), V.int IntKind.i64 (SVote.kind (SCert.vote (SHeld.cert (el k)))), V.int IntKind.i64 (SVote.epoch (SCert.vote (SHeld.cert (el k)))), V.int IntKind.i64 (SVote.view (SCert.vote (SHeld.cert (el k)))), V.int IntKind.i64 (SVote.slot (SCert.vote (SHeld.cert (el k)))), V.seg IntKind.u8 (32 : Nat) (SVote.digest (SCert.vote (SHeld.cert (el k)))), sg (SCert.n (SHeld.cert (el k))) (SCert.sig (SHeld.cert (el k)))]] ((0 : Nat) + k_1)) = true, (k + (1 : Nat)) * (120 : Nat) ≤ (140737488355328 : Nat), InR IntKind.i64 ((↑k : Int) + (1 : Int)), q0, q0, q0, q (RS.bad (st (k + (1 : Nat)))), q (List.length (RS.l (st (k + (1 : Nat))))), ∀ (k_1 : Nat), k_1 < List.length (RS.l (st (k + (1 : Nat)))) → bl (RS.l (st (k + (1 : Nat)))) k_1 = bl (RS.l (st (k + (1 : Nat)))) k_1, false = true → false = true, q (RS.e (st (k + (1 : Nat)))), q2, q (k + (1 : Nat)), ∀ (k_1 : Nat), k_1 < k + (1 : Nat) → catF k (fun i => SHeld.c (el i)) (fun k_2 => getL [[V.bool (SBatch.noop (SHeld.batch (el k))), rq (SBatch.n (SHeld.batch (el k))) (SBatch.req (SHeld.batch (el k))), V.int IntKind.i64 (SVote.kind (SCert.vote (SHeld.cert (el k)))), V.int IntKind.i64 (SVote.epoch (SCert.vote (SHeld.cert (el k)))), V.int IntKind.i64 (SVote.view (SCert.vote (SHeld.cert (el k)))), V.int IntKind.i64 (SVote.slot (SCert.vote (SHeld.cert (el k)))), V.seg IntKind.u8 (32 : Nat) (SVote.digest (SCert.vote (SHeld.cert (el k)))), sg (SCert.n (SHeld.cert (el k))) (SCert.sig (SHeld.cert (el k)))]] ((0 : Nat) + k_2)) k_1 = SHeld.c (el k_1), true = false → true = false, q0, q0, q0, q0, q0, q0, q0, q0, q0, q (k + (1 : Nat)), (none : Option Nat) = none ∨ (none : Option Nat) = none, q (↑n : Int), (↑k : Int) + (1 : Int) = (↑(k + (1 : Nat)) : Int)]) : Option (Exit × St × List Prop)) := by kernel_rfl
theorem pcGtHl_p0 (n : Nat) (el : Nat → SHeld) (st : Nat → RS) (k : Nat) :
  alongPc Tryz.prog (pcGtHl n el st k) [false] = (some (.exit 0, St.mk (mkT 28 [(0, .ptr (.o 0) 0 0 0 0), (2, .fn (.func (110 : FuncId)) [.ptr (.o 0) 0 0 0 0] []), (6, .sl (.o 2) 39 0 0 0 k none), (12, .int .i64 ↑n), (13, .int .i64 ↑k)]) [(.o 0, .flat [.ptr (.o 1) 0 0 0 0, .bool (RS.bad (st k))]), (.o 1, rdB (st k)), (.o 2, .rows 39 k (fun i => SHeld.c (el i)) true)] 3 [], [decide ((↑k : Int) < (↑n : Int)) = false, q0, q0, q0, q (RS.bad (st k)), q (List.length (RS.l (st k))), ∀ (k_1 : Nat), k_1 < List.length (RS.l (st k)) → bl (RS.l (st k)) k_1 = bl (RS.l (st k)) k_1, false = true → false = true, q (RS.e (st k)), q2, q k, ∀ (k_1 : Nat), k_1 < k → SHeld.c (el k_1) = SHeld.c (el k_1), true = false → true = false, q0, q0, q0, q0, q0, q0, q0, q0, q0, q k, (none : Option Nat) = none ∨ (none : Option Nat) = none, q (↑n : Int), q (↑k : Int)]) : Option (Exit × St × List Prop)) := by kernel_rfl

theorem cntR_le {α : Type} (one : RS → α × RS) : ∀ n s, cntR one n s ≤ n
 | 0, _ => Nat.le_refl _
 | n + 1, s => by
  unfold cntR
  split
  ·have := cntR_le one n (one s).2; omega
  ·omega
theorem stR_succ {α : Type} (one : RS → α × RS) (s : RS) : ∀ k, stR one (one s).2 k = stR one s (k + 1)
 | 0 => rfl
 | k + 1 => by show (one (stR one (one s).2 k)).2 = _; rw [stR_succ one s k]; rfl
theorem cntR_ok {α : Type} (one : RS → α × RS) : ∀ n s k, k < cntR one n s → (stR one s k).e = 0
 | 0, _, k, h => absurd h (Nat.not_lt_zero k)
 | n + 1, s, k, h => by
  unfold cntR at h
  split at h
  ·rename_i h1
   cases k with
   | zero => exact h1
   | succ k => rw [← stR_succ]; exact cntR_ok one n _ k (by omega)
  ·omega
theorem cntR_end {α : Type} (one : RS → α × RS) : ∀ n s, cntR one n s = n ∨ (stR one s (cntR one n s)).e ≠ 0
 | 0, _ => .inl rfl
 | n + 1, s => by
  unfold cntR
  split
  ·rcases cntR_end one n (one s).2 with h | h
   ·exact .inl (by omega)
   ·rw [stR_succ] at h; exact .inr h
  ·exact .inr ‹_›
theorem stR_aft {α : Type} {one : RS → α × RS} (h : ∀ s, Aft s (one s).2) (s : RS) : ∀ k, Aft s (stR one s k)
 | 0 => Aft.refl s
 | k + 1 => (stR_aft h s k).trans (h _)
theorem natZ {z : Int} (h : 0 ≤ z) : ((z.toNat : Nat) : Int) = z := Int.toNat_of_nonneg h
theorem catF_c1 {c : Nat → List V} {k : Nat} : ∀ j, j < k + 1 → catF k c (fun q => getL [c k] (0 + q)) j = c j := by
 intro j hj
 unfold catF
 cases hb : Nat.blt j k
 ·have h1 : k ≤ j := by
   rcases Nat.lt_or_ge j k with h2 | h2
   ·rw [← Nat.blt_eq] at h2; rw [h2] at hb; cases hb
   ·exact h2
  have e : j = k := by omega
  subst e
  simp [getL]
 ·rfl
theorem T_gtSg {most : Int} (hm : 0 ≤ most ∧ most ≤ 1000) (s : RS) (hl : s.l.length ≤ 1000000000) {el : Nat → SSign} {st : Nat → RS} (h0 : st 0 = (numR most s).2) (hs : ∀ k, k < (numR most s).1.toNat → (st k).l.length ≤ 1000000000 → T Tryz.prog 116 [p0] (mrH 0 1 (st k)) (.agg (el k).c) (mrH 0 1 (st (k + 1)))) (hle : ∀ k, (st k).l.length ≤ 1000000000) {m : Nat} (hmn : m ≤ (numR most s).1.toNat) (hz : ∀ k, k < m → (st k).e = 0) (hend : m = (numR most s).1.toNat ∨ (st m).e ≠ 0) :
  T Tryz.prog 115 [p0, .int .i64 most, .fn (.func 116) [p0] []] (mrH 0 1 s) (.ros 17 m (fun i => (el i).c) false) (mrH 0 1 (st m)) := by
 have hr := numR_rng hm.1 s
 have hn := natZ hr.1
 have hT := T_num 1 most s
 rw [← hn] at hT
 rw [← h0] at hT
 have hn64 : (numR most s).1.toNat ≤ 1000 := by omega
 have hb0 : (st 0).bad = s.bad := by rw [h0]; exact (numR_after most s).2.1
 refine T_al (bdGtSg_p most (numR most s).1.toNat m el st s) Tryz.func115 ?_
 have hL : RLoop Tryz.prog none 2 (cB (cB (cR (cL (cR (bodyOf Tryz.f115)))))) (m + 1) (gtSgI (numR most s).1.toNat el st 0) (.exit 0) (gtSgI (numR most s).1.toNat el st m) := by
  refine RLoop.inv (gtSgI (numR most s).1.toNat el st) m (fun k hk => ?_) ?_ (by simp)
  ·refine R_alongPc NG MO _ (pcGtSg_p10 (numR most s).1.toNat el st k) ?_ (show 2 ≤ 3 by decide)
   simp only [All, Int.toNat_natCast]; and_intros
   all_goals first | exact T_err 1 _ | exact hs k (by omega) (hle k) | exact catF_c1 | (rw [decide_eq_true_eq]; omega) | (simp [hz k hk]; done) | omega | (intro j hj; rw [show j = 0 by omega]; rfl) | (simp [IntKind.min, IntKind.max, IntKind.signed, IntKind.bits] <;> omega)
  ·rcases hend with he | he
   ·refine R_alongPc NG MO _ (pcGtSg_p0 (numR most s).1.toNat el st m) ?_ (show 2 ≤ 3 by decide)
    simp only [All, Int.toNat_natCast]; and_intros
    all_goals first | (rw [decide_eq_false_iff_not]; omega) | trivial | (simp; done)
   ·by_cases he2 : m = (numR most s).1.toNat
    ·refine R_alongPc NG MO _ (pcGtSg_p0 (numR most s).1.toNat el st m) ?_ (show 2 ≤ 3 by decide)
     simp only [All, Int.toNat_natCast]; and_intros
     all_goals first | (rw [decide_eq_false_iff_not]; omega) | trivial | (simp; done)
    ·refine R_alongPc NG MO _ (pcGtSg_p11 (numR most s).1.toNat el st m) ?_ (show 2 ≤ 3 by decide)
     simp only [All, Int.toNat_natCast]; and_intros
     all_goals first | exact T_err 1 _ | (rw [decide_eq_true_eq]; omega) | (simp [he]; done)
 simp only [All, Int.toNat_natCast]; and_intros
 all_goals first | exact hT | exact hL | exact hb0.symm | omega | trivial | (simp; done)
theorem T_gtNw {most : Int} (hm : 0 ≤ most ∧ most ≤ 1000) (s : RS) (hl : s.l.length ≤ 1000000000) {el : Nat → SEnv} {st : Nat → RS} (h0 : st 0 = (numR most s).2) (hs : ∀ k, k < (numR most s).1.toNat → (st k).l.length ≤ 1000000000 → T Tryz.prog 112 [p0] (mrH 0 1 (st k)) (.agg (el k).c) (mrH 0 1 (st (k + 1)))) (hle : ∀ k, (st k).l.length ≤ 1000000000) {m : Nat} (hmn : m ≤ (numR most s).1.toNat) (hz : ∀ k, k < m → (st k).e = 0) (hend : m = (numR most s).1.toNat ∨ (st m).e ≠ 0) :
  T Tryz.prog 111 [p0, .int .i64 most, .fn (.func 112) [p0] []] (mrH 0 1 s) (.ros 18 m (fun i => (el i).c) false) (mrH 0 1 (st m)) := by
 have hr := numR_rng hm.1 s
 have hn := natZ hr.1
 have hT := T_num 1 most s
 rw [← hn] at hT
 rw [← h0] at hT
 have hn64 : (numR most s).1.toNat ≤ 1000 := by omega
 have hb0 : (st 0).bad = s.bad := by rw [h0]; exact (numR_after most s).2.1
 refine T_al (bdGtNw_p most (numR most s).1.toNat m el st s) Tryz.func111 ?_
 have hL : RLoop Tryz.prog none 2 (cB (cB (cR (cL (cR (bodyOf Tryz.f111)))))) (m + 1) (gtNwI (numR most s).1.toNat el st 0) (.exit 0) (gtNwI (numR most s).1.toNat el st m) := by
  refine RLoop.inv (gtNwI (numR most s).1.toNat el st) m (fun k hk => ?_) ?_ (by simp)
  ·refine R_alongPc NG MO _ (pcGtNw_p10 (numR most s).1.toNat el st k) ?_ (show 2 ≤ 3 by decide)
   simp only [All, Int.toNat_natCast]; and_intros
   all_goals first | exact T_err 1 _ | exact hs k (by omega) (hle k) | exact catF_c1 | (rw [decide_eq_true_eq]; omega) | (simp [hz k hk]; done) | omega | (intro j hj; rw [show j = 0 by omega]; rfl) | (simp [IntKind.min, IntKind.max, IntKind.signed, IntKind.bits] <;> omega)
  ·rcases hend with he | he
   ·refine R_alongPc NG MO _ (pcGtNw_p0 (numR most s).1.toNat el st m) ?_ (show 2 ≤ 3 by decide)
    simp only [All, Int.toNat_natCast]; and_intros
    all_goals first | (rw [decide_eq_false_iff_not]; omega) | trivial | (simp; done)
   ·by_cases he2 : m = (numR most s).1.toNat
    ·refine R_alongPc NG MO _ (pcGtNw_p0 (numR most s).1.toNat el st m) ?_ (show 2 ≤ 3 by decide)
     simp only [All, Int.toNat_natCast]; and_intros
     all_goals first | (rw [decide_eq_false_iff_not]; omega) | trivial | (simp; done)
    ·refine R_alongPc NG MO _ (pcGtNw_p11 (numR most s).1.toNat el st m) ?_ (show 2 ≤ 3 by decide)
     simp only [All, Int.toNat_natCast]; and_intros
     all_goals first | exact T_err 1 _ | (rw [decide_eq_true_eq]; omega) | (simp [he]; done)
 simp only [All, Int.toNat_natCast]; and_intros
 all_goals first | exact hT | exact hL | exact hb0.symm | omega | trivial | (simp; done)
theorem T_gtHl {most : Int} (hm : 0 ≤ most ∧ most ≤ 1000) (s : RS) (hl : s.l.length ≤ 1000000000) {el : Nat → SHeld} {st : Nat → RS} (h0 : st 0 = (numR most s).2) (hs : ∀ k, k < (numR most s).1.toNat → (st k).l.length ≤ 1000000000 → T Tryz.prog 110 [p0] (mrH 0 1 (st k)) (.agg (el k).c) (mrH 0 1 (st (k + 1)))) (hle : ∀ k, (st k).l.length ≤ 1000000000) {m : Nat} (hmn : m ≤ (numR most s).1.toNat) (hz : ∀ k, k < m → (st k).e = 0) (hend : m = (numR most s).1.toNat ∨ (st m).e ≠ 0) :
  T Tryz.prog 109 [p0, .int .i64 most, .fn (.func 110) [p0] []] (mrH 0 1 s) (.ros 39 m (fun i => (el i).c) false) (mrH 0 1 (st m)) := by
 have hr := numR_rng hm.1 s
 have hn := natZ hr.1
 have hT := T_num 1 most s
 rw [← hn] at hT
 rw [← h0] at hT
 have hn64 : (numR most s).1.toNat ≤ 1000 := by omega
 have hb0 : (st 0).bad = s.bad := by rw [h0]; exact (numR_after most s).2.1
 refine T_al (bdGtHl_p most (numR most s).1.toNat m el st s) Tryz.func109 ?_
 have hL : RLoop Tryz.prog none 2 (cB (cB (cR (cL (cR (bodyOf Tryz.f109)))))) (m + 1) (gtHlI (numR most s).1.toNat el st 0) (.exit 0) (gtHlI (numR most s).1.toNat el st m) := by
  refine RLoop.inv (gtHlI (numR most s).1.toNat el st) m (fun k hk => ?_) ?_ (by simp)
  ·refine R_alongPc NG MO _ (pcGtHl_p10 (numR most s).1.toNat el st k) ?_ (show 2 ≤ 3 by decide)
   simp only [All, Int.toNat_natCast]; and_intros
   all_goals first | exact T_err 1 _ | exact hs k (by omega) (hle k) | exact catF_c1 | (rw [decide_eq_true_eq]; omega) | (simp [hz k hk]; done) | omega | (intro j hj; rw [show j = 0 by omega]; rfl) | (simp [IntKind.min, IntKind.max, IntKind.signed, IntKind.bits] <;> omega)
  ·rcases hend with he | he
   ·refine R_alongPc NG MO _ (pcGtHl_p0 (numR most s).1.toNat el st m) ?_ (show 2 ≤ 3 by decide)
    simp only [All, Int.toNat_natCast]; and_intros
    all_goals first | (rw [decide_eq_false_iff_not]; omega) | trivial | (simp; done)
   ·by_cases he2 : m = (numR most s).1.toNat
    ·refine R_alongPc NG MO _ (pcGtHl_p0 (numR most s).1.toNat el st m) ?_ (show 2 ≤ 3 by decide)
     simp only [All, Int.toNat_natCast]; and_intros
     all_goals first | (rw [decide_eq_false_iff_not]; omega) | trivial | (simp; done)
    ·refine R_alongPc NG MO _ (pcGtHl_p11 (numR most s).1.toNat el st m) ?_ (show 2 ≤ 3 by decide)
     simp only [All, Int.toNat_natCast]; and_intros
     all_goals first | exact T_err 1 _ | (rw [decide_eq_true_eq]; omega) | (simp [he]; done)
 simp only [All, Int.toNat_natCast]; and_intros
 all_goals first | exact hT | exact hL | exact hb0.symm | omega | trivial | (simp; done)
end Go.Proofs.YtnmccoincblecaaGreat
namespace Go.Proofs.YtnmccoincblecaaGreat
open Go Sy Go.Proofs
def getN {α : Type} (one : RS → α × RS) (most : Int) (s : RS) : Nat := cntR one (numR most s).1.toNat (numR most s).2
def getEl {α : Type} (one : RS → α × RS) (most : Int) (s : RS) (i : Nat) : α := (one (stR one (numR most s).2 i)).1
def getS {α : Type} (one : RS → α × RS) (most : Int) (s : RS) : RS := stR one (numR most s).2 (getN one most s)
def certR (s : RS) : SCert × RS := ({ vote := (voteR s).1, n := getN signR 64 (voteR s).2, sig := getEl signR 64 (voteR s).2 }, getS signR 64 (voteR s).2)
def heldR (s : RS) : SHeld × RS := ({ batch := (batchR s).1, cert := (certR (batchR s).2).1 }, (certR (batchR s).2).2)
noncomputable def bdCtR (s s1 s2 : RS) (v : SVote) (n : Nat) (g : Nat → SSign) : Bd := bdMr Tryz.f114 [] s [(108, 2, cMr (.agg v.c) s1), (115, 6, cMr (sg n g) s2)] (v.c ++ [sg n g]) s2
noncomputable def bdHdR (s s1 s2 : RS) (b : SBatch) (c : SCert) : Bd := bdMr Tryz.f110 [] s [(107, 5, cRd (.agg b.c) s1), (114, 7, cMr (.agg c.c) s2)] (b.c ++ c.c) s2
def n012 : St → List Nm := fun _ => [.o 0, .o 1, .o 2]
noncomputable def bdFl (m m' : SMsg) (s s' : RS) (db : List (Nat × Nat × (List V → Heap → Nat → List Cl))) : Bd := { f := Tryz.f84, args := [p0, .ptr (.o 2) 0 0 0 0], pre := mrH 0 1 s ++ [(.o 2, .flat m.c)], base := 3, kb := { db := dbSeqF 3 db }, names := n012, k := fun _ t => some ⟨[], [], hsetsOf (mrH 0 1 s' ++ [(.o 2, .flat m'.c)]), none, t.next⟩ }
def f1S1 (s : RS) : RS := (numR 1048576 s).2
def f1S2 (s : RS) : RS := (numR 1099511627776 (f1S1 s)).2
def f1S3 (s : RS) : RS := (batchR (f1S2 s)).2
def fld1 (m : SMsg) (s : RS) : SMsg × RS := ({ m with epoch := (numR 1048576 s).1, slot := (numR 1099511627776 (f1S1 s)).1, batch := (batchR (f1S2 s)).1 }, f1S3 s)
noncomputable def bdF1 (m : SMsg) (s t1 t2 t3 : RS) (x0 : Int) (x1 : Int) (x2 : SBatch) : Bd := bdFl m { m with epoch := x0, slot := x1, batch := x2 } s t3 [(25, 12, cRd (.int .i64 x0) t1), (25, 17, cRd (.int .i64 x1) t2), (107, 29, cRd (.agg x2.c) t3)]
def f2S1 (s : RS) : RS := (voteR s).2
def fld2 (m : SMsg) (s : RS) : SMsg × RS := ({ m with vote := (voteR s).1 }, f2S1 s)
noncomputable def bdF2 (m : SMsg) (s t1 : RS) (x0 : SVote) : Bd := bdFl m { m with vote := x0 } s t1 [(108, 10, cMr (.agg x0.c) t1)]
def f3S1 (s : RS) : RS := (numR 1048576 s).2
def f3S2 (s : RS) : RS := (numR 64 (f3S1 s)).2
def f3S3 (s : RS) : RS := (numR 1099511627776 (f3S2 s)).2
def f3S4 (s : RS) : RS := getS heldR 4 (f3S3 s)
def fld3 (m : SMsg) (s : RS) : SMsg × RS := ({ m with cepoch := (numR 1048576 s).1, cleader := (numR 64 (f3S1 s)).1, cview := (numR 1099511627776 (f3S2 s)).1, nheld := getN heldR 4 (f3S3 s), held := getEl heldR 4 (f3S3 s) }, f3S4 s)
noncomputable def bdF3 (m : SMsg) (s t1 t2 t3 t4 : RS) (n : Nat) (x0 : Int) (x1 : Int) (x2 : Int) (x3 : Nat → SHeld) : Bd := bdFl m { m with cepoch := x0, cleader := x1, cview := x2, nheld := n, held := x3 } s t4 [(25, 17, cRd (.int .i64 x0) t1), (25, 22, cRd (.int .i64 x1) t2), (25, 27, cRd (.int .i64 x2) t3), (109, 44, cMr (hl n x3) t4)]
def f4S1 (s : RS) : RS := (numR 1048576 s).2
def f4S2 (s : RS) : RS := (numR 64 (f4S1 s)).2
def f4S3 (s : RS) : RS := (numR 1099511627776 (f4S2 s)).2
def f4S4 (s : RS) : RS := getS envR 64 (f4S3 s)
def fld4 (m : SMsg) (s : RS) : SMsg × RS := ({ m with epoch := (numR 1048576 s).1, leader := (numR 64 (f4S1 s)).1, view := (numR 1099511627776 (f4S2 s)).1, nnews := getN envR 64 (f4S3 s), news := getEl envR 64 (f4S3 s) }, f4S4 s)
noncomputable def bdF4 (m : SMsg) (s t1 t2 t3 t4 : RS) (n : Nat) (x0 : Int) (x1 : Int) (x2 : Int) (x3 : Nat → SEnv) : Bd := bdFl m { m with epoch := x0, leader := x1, view := x2, nnews := n, news := x3 } s t4 [(25, 19, cRd (.int .i64 x0) t1), (25, 24, cRd (.int .i64 x1) t2), (25, 29, cRd (.int .i64 x2) t3), (111, 43, cMr (nw n x3) t4)]
def f5S1 (s : RS) : RS := (numR 1048576 s).2
def f5S2 (s : RS) : RS := (digR (f5S1 s)).2
def fld5 (m : SMsg) (s : RS) : SMsg × RS := ({ m with epoch := (numR 1048576 s).1, digest := (digR (f5S1 s)).1 }, f5S2 s)
noncomputable def bdF5 (m : SMsg) (s t1 t2 : RS) (x0 : Int) (x1 : List Int) : Bd := bdFl m { m with epoch := x0, digest := x1 } s t2 [(25, 19, cRd (.int .i64 x0) t1), (113, 25, cMr (.agg [.seg .u8 32 x1]) t2)]
def f6S1 (s : RS) : RS := (numR 1048576 s).2
def f6S2 (s : RS) : RS := (numR 1099511627776 (f6S1 s)).2
def fld6 (m : SMsg) (s : RS) : SMsg × RS := ({ m with epoch := (numR 1048576 s).1, slot := (numR 1099511627776 (f6S1 s)).1 }, f6S2 s)
noncomputable def bdF6 (m : SMsg) (s t1 t2 : RS) (x0 : Int) (x1 : Int) : Bd := bdFl m { m with epoch := x0, slot := x1 } s t2 [(25, 22, cRd (.int .i64 x0) t1), (25, 27, cRd (.int .i64 x1) t2)]
def f7S1 (s : RS) : RS := (batchR s).2
def f7S2 (s : RS) : RS := (certR (f7S1 s)).2
def fld7 (m : SMsg) (s : RS) : SMsg × RS := ({ m with batch := (batchR s).1, cert := (certR (f7S1 s)).1 }, f7S2 s)
noncomputable def bdF7 (m : SMsg) (s t1 t2 : RS) (x0 : SBatch) (x1 : SCert) : Bd := bdFl m { m with batch := x0, cert := x1 } s t2 [(107, 23, cRd (.agg x0.c) t1), (114, 29, cMr (.agg x1.c) t2)]
def f8S1 (s : RS) : RS := (textR 4194304 s).2
def f8S2 (s : RS) : RS := getS signR 64 (f8S1 s)
def fld8 (m : SMsg) (s : RS) : SMsg × RS := ({ m with state := (textR 4194304 s).1, n := getN signR 64 (f8S1 s), sig := getEl signR 64 (f8S1 s) }, f8S2 s)
noncomputable def bdF8 (m : SMsg) (s t1 t2 : RS) (n : Nat) (x0 : ByteArray) (x1 : Nat → SSign) : Bd := bdFl m { m with state := x0, n := n, sig := x1 } s t2 [(26, 25, cRd (.str x0) t1), (115, 33, cMr (sg n x1) t2)]
noncomputable def bdF9 (m : SMsg) (s : RS) : Bd := bdFl m m s s []
def fieldsR (m : SMsg) (s : RS) : SMsg × RS :=
 if m.kind = 1 then fld1 m s else if m.kind = 2 then fld2 m s else if m.kind = 3 then fld3 m s else if m.kind = 4 then fld4 m s else if m.kind = 5 then fld5 m s else if m.kind = 6 then fld6 m s else if m.kind = 7 then fld7 m s else if m.kind = 8 then fld8 m s else (m, s)
end Go.Proofs.YtnmccoincblecaaGreat
