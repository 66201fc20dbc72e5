/-
  Contracts and laws that the claim's theorem leans on, joined out of the texts Tb0 Tb1D Tb1 Tb2D Tb2 Tb3D (own work of this seat): Contracts: what is read of bytes; Contracts: the message's reader: digests, tags, signs, envelopes, votes; Contracts: the message's reader: digests, tags, signs, envelopes, votes; Contracts: lists, certs and what was held are read; Contracts: lists, certs and what was held are read; Contracts: certs, what was held and a message's fields are read.
-/
import Derived.Test.YtnmccoincblecaaGreatC07
set_option linter.unusedVariables false
set_option linter.unusedSimpArgs false
set_option maxHeartbeats 1000000
namespace Go.Proofs.YtnmccoincblecaaGreat
open Go Sy Go.Proofs
theorem bc8 (s : RS) (s1 : RS) (s2 : RS) (s3 : RS) (s4 : RS) (a : Int) (b : Int) (d : ByteArray) (xs : List UInt8) :
  f4 zp (cj2 s s1 s2 s3 s4 a b d xs) [true, false] = (some (.agg [.int .i64 a, .int .i64 b, .str d, .seg .u8 16 (D1 xs)], [(.o 0, rdB s4)], [T zp 25 [.ptr (.o 0) 0 0 0 0, .int .i64 8] [(.o 0, rdB s)] (.int .i64 a) [(.o 0, rdB s1)], T zp 25 [.ptr (.o 0) 0 0 0 0, .int .i64 1099511627776] [(.o 0, rdB s1)] (.int .i64 b) [(.o 0, rdB s2)], T zp 26 [.ptr (.o 0) 0 0 0 0, .int .i64 64] [(.o 0, rdB s2)] (.str d) [(.o 0, rdB s3)], T zp 27 [.ptr (.o 0) 0 0 0 0, .int .i64 16] [(.o 0, rdB s3)] (.ros 1 16 (bl xs) false) [(.o 0, rdB s4)], 16 ≤ (16 : Nat), ∀ (q : Nat), q < (16 : Nat) → true = true, q false, q (List.length (RS.l s4)), ∀ (k : Nat), k < List.length (RS.l s4) → bl (RS.l s4) k = bl (RS.l s4) k, false = true → false = true, q (RS.e s4), q2, q a, q b, q d, q (16 : Nat), z5 (16 : Nat) z16 0 16 (bl xs) = D1 xs, q0, q0, q0]) : Option (V × c5 × List Prop)) := by kernel_rfl
theorem bc7 (s : RS) (s1 : RS) (s2 : RS) (s3 : RS) (s4 : RS) (a : Int) (b : Int) (d : ByteArray) (xs : List UInt8) :
  f4 zp (cj1 s s1 s2 s3 s4 a b d xs) [false, true] = (some (.agg [.int .i64 0, .int .i64 0, .str (baL []), .seg .u8 16 z16], [(.o 0, rdB s4)], [T zp 25 [.ptr (.o 0) 0 0 0 0, .int .i64 8] [(.o 0, rdB s)] (.int .i64 a) [(.o 0, rdB s1)], T zp 25 [.ptr (.o 0) 0 0 0 0, .int .i64 1099511627776] [(.o 0, rdB s1)] (.int .i64 b) [(.o 0, rdB s2)], T zp 26 [.ptr (.o 0) 0 0 0 0, .int .i64 64] [(.o 0, rdB s2)] (.str d) [(.o 0, rdB s3)], T zp 27 [.ptr (.o 0) 0 0 0 0, .int .i64 16] [(.o 0, rdB s3)] (.ros 1 0 (bl []) false) [(.o 0, rdB s4)], 16 ≤ (16 : Nat), ∀ (q : Nat), q < (0 : Nat) → true = true, q2, q (List.length (RS.l s4)), ∀ (k : Nat), k < List.length (RS.l s4) → bl (RS.l s4) k = bl (RS.l s4) k, false = true → false = true, q (RS.e s4), q2, q1, q1, ByteArray.empty = baL [], q (16 : Nat), q z16, q0, q0, q0]) : Option (V × c5 × List Prop)) := by kernel_rfl
theorem ba4 (s : RS) (s0 : RS) (n : Int) :
  f4 zp (cf8 s s0 n) [false, false] = (some (.agg [.bool (decide (n = (0 : Int))), rq 0 fun i => SReq.mk (0 : Int) (0 : Int) (baL []) z16], [(.o 0, rdB s0)], [T zp 25 [.ptr (.o 0) 0 0 0 0, .int .i64 5] [(.o 0, rdB s)] (.int .i64 n) [(.o 0, rdB s0)], decide ((1 : Int) < n) = false, T zp 78 [.ptr (.o 0) 0 0 0 0] [(.o 0, rdB s0)] (.int .i64 (RS.e s0)) [(.o 0, rdB s0)], (!decide (RS.e s0 = (0 : Int))) = false, q (List.length (RS.l s0)), ∀ (k : Nat), k < List.length (RS.l s0) → bl (RS.l s0) k = bl (RS.l s0) k, false = true → false = true, q (RS.e s0), q2, q (decide (n = (0 : Int))), 0 = (0 : Nat), q0, q0, q0]) : Option (V × c5 × List Prop)) := by kernel_rfl
theorem ba3 (s : RS) (s0 : RS) (n : Int) :
  f4 zp (cf3 s s0 n) [false, true] = (some (.agg [.bool false, rq 0 fun x => SReq.mk (0 : Int) (0 : Int) ByteArray.empty []], [(.o 0, rdB s0)], [T zp 25 [.ptr (.o 0) 0 0 0 0, .int .i64 5] [(.o 0, rdB s)] (.int .i64 n) [(.o 0, rdB s0)], decide ((1 : Int) < n) = false, T zp 78 [.ptr (.o 0) 0 0 0 0] [(.o 0, rdB s0)] (.int .i64 (RS.e s0)) [(.o 0, rdB s0)], (!decide (RS.e s0 = (0 : Int))) = true, q (List.length (RS.l s0)), ∀ (k : Nat), k < List.length (RS.l s0) → bl (RS.l s0) k = bl (RS.l s0) k, false = true → false = true, q (RS.e s0), q2, q false, q0, q0, q0, q0]) : Option (V × c5 × List Prop)) := by kernel_rfl
theorem aV8 (s : RS) (s0 : RS) (s1 : RS) (n : Int) (r1 : SReq) :
  f4 zp (cf9 s s0 s1 n r1) [true, false, false] = some (V.agg [V.bool (decide (n = (0 : Int))), rq 1 fun i => List.getD [r1] i (SReq.mk (0 : Int) (0 : Int) (baL []) z16)], [(Nm.o (0 : Nat), rdB s1)], [T zp (25 : Nat) [V.ptr (Nm.o (0 : Nat)) (0 : Nat) (0 : Nat) (0 : Nat) (0 : Nat), V.int .i64 (5 : Int)] [(Nm.o (0 : Nat), rdB s)] (V.int .i64 n) [(Nm.o (0 : Nat), rdB s0)], decide ((1 : Int) < n) = true, T zp (139 : Nat) [V.ptr (Nm.o (0 : Nat)) (0 : Nat) (0 : Nat) (0 : Nat) (0 : Nat)] [(Nm.o (0 : Nat), rdB s0)] (V.agg (SReq.c r1)) [(Nm.o (0 : Nat), rdB s1)], 1 ≤ (1 : Nat), ∀ (k : Nat), k < (1 : Nat) → s6 (j4 [(SReq.c r1)] ((0 : Nat) + k)) = true, 48 ≤ (140737488355328 : Nat), InR .i64 (2 : Int), decide ((2 : Int) < n) = false, T zp (78 : Nat) [V.ptr (Nm.o (0 : Nat)) (0 : Nat) (0 : Nat) (0 : Nat) (0 : Nat)] [(Nm.o (0 : Nat), rdB s1)] (V.int .i64 (RS.e s1)) [(Nm.o (0 : Nat), rdB s1)], (!decide (RS.e s1 = (0 : Int))) = false, List.length (RS.l s1) = List.length (RS.l s1), ∀ (k : Nat), k < List.length (RS.l s1) → bl (RS.l s1) k = bl (RS.l s1) k, false = true → false = true, RS.e s1 = RS.e s1, true = true, decide (n = (0 : Int)) = decide (n = (0 : Int)), 1 = 1, 1 ≤ 1, ∀ (k : Nat), k < 1 → r6 (0 : Nat) (fun x => []) (fun k => j4 [(SReq.c r1)] ((0 : Nat) + k)) ((0 : Nat) + k) = SReq.c (SBatch.req (SBatch.mk (decide (n = (0 : Int))) 1 fun i => List.getD [r1] i (SReq.mk (0 : Int) (0 : Int) (baL []) z16)) k), false = true → none = some 1, (0 : Nat) = (0 : Nat), (0 : Nat) = (0 : Nat), (0 : Nat) = (0 : Nat)]) := by kernel_rfl
theorem aV7 (s : RS) (s0 : RS) (s1 : RS) (n : Int) (r1 : SReq) :
  f4 zp (cf4 s s0 s1 n r1) [true, false, true] = (some (.agg [.bool false, rq 0 fun x => SReq.mk (0 : Int) (0 : Int) ByteArray.empty []], [(.o 0, rdB s1)], [T zp 25 [.ptr (.o 0) 0 0 0 0, .int .i64 5] [(.o 0, rdB s)] (.int .i64 n) [(.o 0, rdB s0)], decide ((1 : Int) < n) = true, T zp 139 [.ptr (.o 0) 0 0 0 0] [(.o 0, rdB s0)] (.agg (SReq.c r1)) [(.o 0, rdB s1)], 1 ≤ (1 : Nat), ∀ (k : Nat), k < (1 : Nat) → s6 (j4 [(SReq.c r1)] ((0 : Nat) + k)) = true, 48 ≤ (140737488355328 : Nat), InR .i64 (2 : Int), decide ((2 : Int) < n) = false, T zp 78 [.ptr (.o 0) 0 0 0 0] [(.o 0, rdB s1)] (.int .i64 (RS.e s1)) [(.o 0, rdB s1)], (!decide (RS.e s1 = (0 : Int))) = true, q (List.length (RS.l s1)), ∀ (k : Nat), k < List.length (RS.l s1) → bl (RS.l s1) k = bl (RS.l s1) k, false = true → false = true, q (RS.e s1), q2, q false, q0, q0, q0, q0]) : Option (V × c5 × List Prop)) := by kernel_rfl
theorem aO1 (s : RS) (s0 : RS) (s1 : RS) (s2 : RS) (n : Int) (r1 : SReq) (r2 : SReq) :
  f4 zp (cf_ s s0 s1 s2 n r1 r2) [true, true, false, false] = some (V.agg [V.bool (decide (n = (0 : Int))), rq 2 fun i => List.getD [r1, r2] i (SReq.mk (0 : Int) (0 : Int) (baL []) z16)], [(Nm.o (0 : Nat), rdB s2)], [T zp (25 : Nat) [V.ptr (Nm.o (0 : Nat)) (0 : Nat) (0 : Nat) (0 : Nat) (0 : Nat), V.int .i64 (5 : Int)] [(Nm.o (0 : Nat), rdB s)] (V.int .i64 n) [(Nm.o (0 : Nat), rdB s0)], decide ((1 : Int) < n) = true, T zp (139 : Nat) [V.ptr (Nm.o (0 : Nat)) (0 : Nat) (0 : Nat) (0 : Nat) (0 : Nat)] [(Nm.o (0 : Nat), rdB s0)] (V.agg (SReq.c r1)) [(Nm.o (0 : Nat), rdB s1)], 1 ≤ (1 : Nat), ∀ (k : Nat), k < (1 : Nat) → s6 (j4 [(SReq.c r1)] ((0 : Nat) + k)) = true, 48 ≤ (140737488355328 : Nat), InR .i64 (2 : Int), decide ((2 : Int) < n) = true, T zp (139 : Nat) [V.ptr (Nm.o (0 : Nat)) (0 : Nat) (0 : Nat) (0 : Nat) (0 : Nat)] [(Nm.o (0 : Nat), rdB s1)] (V.agg (SReq.c r2)) [(Nm.o (0 : Nat), rdB s2)], 1 = 1, 1 ≤ (1 : Nat), ∀ (k : Nat), k < (1 : Nat) → s6 (j4 [(SReq.c r2)] ((0 : Nat) + k)) = true, 96 ≤ (140737488355328 : Nat), InR .i64 (3 : Int), decide ((3 : Int) < n) = false, T zp (78 : Nat) [V.ptr (Nm.o (0 : Nat)) (0 : Nat) (0 : Nat) (0 : Nat) (0 : Nat)] [(Nm.o (0 : Nat), rdB s2)] (V.int .i64 (RS.e s2)) [(Nm.o (0 : Nat), rdB s2)], (!decide (RS.e s2 = (0 : Int))) = false, List.length (RS.l s2) = List.length (RS.l s2), ∀ (k : Nat), k < List.length (RS.l s2) → bl (RS.l s2) k = bl (RS.l s2) k, false = true → false = true, RS.e s2 = RS.e s2, true = true, decide (n = (0 : Int)) = decide (n = (0 : Int)), 2 = 2, 2 ≤ 2, ∀ (k : Nat), k < 2 → r6 1 (r6 (0 : Nat) (fun x => []) fun k => j4 [(SReq.c r1)] ((0 : Nat) + k)) (fun k => j4 [(SReq.c r2)] ((0 : Nat) + k)) ((0 : Nat) + k) = SReq.c (SBatch.req (SBatch.mk (decide (n = (0 : Int))) 2 fun i => List.getD [r1, r2] i (SReq.mk (0 : Int) (0 : Int) (baL []) z16)) k), false = true → none = some 2, (0 : Nat) = (0 : Nat), (0 : Nat) = (0 : Nat), (0 : Nat) = (0 : Nat)]) := by kernel_rfl
theorem aO0 (s : RS) (s0 : RS) (s1 : RS) (s2 : RS) (n : Int) (r1 : SReq) (r2 : SReq) :
  f4 zp (cf5 s s0 s1 s2 n r1 r2) [true, true, false, true] = (some (.agg [.bool false, rq 0 fun x => SReq.mk (0 : Int) (0 : Int) ByteArray.empty []], [(.o 0, rdB s2)], [T zp 25 [.ptr (.o 0) 0 0 0 0, .int .i64 5] [(.o 0, rdB s)] (.int .i64 n) [(.o 0, rdB s0)], decide ((1 : Int) < n) = true, T zp 139 [.ptr (.o 0) 0 0 0 0] [(.o 0, rdB s0)] (.agg (SReq.c r1)) [(.o 0, rdB s1)], 1 ≤ (1 : Nat), ∀ (k : Nat), k < (1 : Nat) → s6 (j4 [(SReq.c r1)] ((0 : Nat) + k)) = true, 48 ≤ (140737488355328 : Nat), InR .i64 (2 : Int), decide ((2 : Int) < n) = true, T zp 139 [.ptr (.o 0) 0 0 0 0] [(.o 0, rdB s1)] (.agg (SReq.c r2)) [(.o 0, rdB s2)], q 1, 1 ≤ (1 : Nat), ∀ (k : Nat), k < (1 : Nat) → s6 (j4 [(SReq.c r2)] ((0 : Nat) + k)) = true, 96 ≤ (140737488355328 : Nat), InR .i64 (3 : Int), decide ((3 : Int) < n) = false, T zp 78 [.ptr (.o 0) 0 0 0 0] [(.o 0, rdB s2)] (.int .i64 (RS.e s2)) [(.o 0, rdB s2)], (!decide (RS.e s2 = (0 : Int))) = true, q (List.length (RS.l s2)), ∀ (k : Nat), k < List.length (RS.l s2) → bl (RS.l s2) k = bl (RS.l s2) k, false = true → false = true, q (RS.e s2), q2, q false, q0, q0, q0, q0]) : Option (V × c5 × List Prop)) := by kernel_rfl
theorem aJ9 (s : RS) (s0 : RS) (s1 : RS) (s2 : RS) (s3 : RS) (n : Int) (r1 : SReq) (r2 : SReq) (r3 : SReq) :
  f4 zp (cg0 s s0 s1 s2 s3 n r1 r2 r3) [true, true, true, false, false] = some (V.agg [V.bool (decide (n = (0 : Int))), rq 3 fun i => List.getD [r1, r2, r3] i (SReq.mk (0 : Int) (0 : Int) (baL []) z16)], [(Nm.o (0 : Nat), rdB s3)], [T zp (25 : Nat) [V.ptr (Nm.o (0 : Nat)) (0 : Nat) (0 : Nat) (0 : Nat) (0 : Nat), V.int .i64 (5 : Int)] [(Nm.o (0 : Nat), rdB s)] (V.int .i64 n) [(Nm.o (0 : Nat), rdB s0)], decide ((1 : Int) < n) = true, T zp (139 : Nat) [V.ptr (Nm.o (0 : Nat)) (0 : Nat) (0 : Nat) (0 : Nat) (0 : Nat)] [(Nm.o (0 : Nat), rdB s0)] (V.agg (SReq.c r1)) [(Nm.o (0 : Nat), rdB s1)], 1 ≤ (1 : Nat), ∀ (k : Nat), k < (1 : Nat) → s6 (j4 [(SReq.c r1)] ((0 : Nat) + k)) = true, 48 ≤ (140737488355328 : Nat), InR .i64 (2 : Int), decide ((2 : Int) < n) = true, T zp (139 : Nat) [V.ptr (Nm.o (0 : Nat)) (0 : Nat) (0 : Nat) (0 : Nat) (0 : Nat)] [(Nm.o (0 : Nat), rdB s1)] (V.agg (SReq.c r2)) [(Nm.o (0 : Nat), rdB s2)], 1 = 1, 1 ≤ (1 : Nat), ∀ (k : Nat), k < (1 : Nat) → s6 (j4 [(SReq.c r2)] ((0 : Nat) + k)) = true, 96 ≤ (140737488355328 : Nat), InR .i64 (3 : Int), decide ((3 : Int) < n) = true, T zp (139 : Nat) [V.ptr (Nm.o (0 : Nat)) (0 : Nat) (0 : Nat) (0 : Nat) (0 : Nat)] [(Nm.o (0 : Nat), rdB s2)] (V.agg (SReq.c r3)) [(Nm.o (0 : Nat), rdB s3)], 2 = 2, 1 ≤ (1 : Nat), ∀ (k : Nat), k < (1 : Nat) → s6 (j4 [(SReq.c r3)] ((0 : Nat) + k)) = true, 144 ≤ (140737488355328 : Nat), InR .i64 (4 : Int), decide ((4 : Int) < n) = false, T zp (78 : Nat) [V.ptr (Nm.o (0 : Nat)) (0 : Nat) (0 : Nat) (0 : Nat) (0 : Nat)] [(Nm.o (0 : Nat), rdB s3)] (V.int .i64 (RS.e s3)) [(Nm.o (0 : Nat), rdB s3)], (!decide (RS.e s3 = (0 : Int))) = false, List.length (RS.l s3) = List.length (RS.l s3), ∀ (k : Nat), k < List.length (RS.l s3) → bl (RS.l s3) k = bl (RS.l s3) k, false = true → false = true, RS.e s3 = RS.e s3, true = true, decide (n = (0 : Int)) = decide (n = (0 : Int)), 3 = 3, 3 ≤ 3, ∀ (k : Nat), k < 3 → r6 2 (r6 1 (r6 (0 : Nat) (fun x => []) fun k => j4 [(SReq.c r1)] ((0 : Nat) + k)) fun k => j4 [(SReq.c r2)] ((0 : Nat) + k)) (fun k => j4 [(SReq.c r3)] ((0 : Nat) + k)) ((0 : Nat) + k) = SReq.c (SBatch.req (SBatch.mk (decide (n = (0 : Int))) 3 fun i => List.getD [r1, r2, r3] i (SReq.mk (0 : Int) (0 : Int) (baL []) z16)) k), false = true → none = some 3, (0 : Nat) = (0 : Nat), (0 : Nat) = (0 : Nat), (0 : Nat) = (0 : Nat)]) := by kernel_rfl
theorem aJ8 (s : RS) (s0 : RS) (s1 : RS) (s2 : RS) (s3 : RS) (n : Int) (r1 : SReq) (r2 : SReq) (r3 : SReq) :
  f4 zp (cf6 s s0 s1 s2 s3 n r1 r2 r3) [true, true, true, false, true] = (some (.agg [.bool false, rq 0 fun x => SReq.mk (0 : Int) (0 : Int) ByteArray.empty []], [(.o 0, rdB s3)], [T zp 25 [.ptr (.o 0) 0 0 0 0, .int .i64 5] [(.o 0, rdB s)] (.int .i64 n) [(.o 0, rdB s0)], decide ((1 : Int) < n) = true, T zp 139 [.ptr (.o 0) 0 0 0 0] [(.o 0, rdB s0)] (.agg (SReq.c r1)) [(.o 0, rdB s1)], 1 ≤ (1 : Nat), ∀ (k : Nat), k < (1 : Nat) → s6 (j4 [(SReq.c r1)] ((0 : Nat) + k)) = true, 48 ≤ (140737488355328 : Nat), InR .i64 (2 : Int), decide ((2 : Int) < n) = true, T zp 139 [.ptr (.o 0) 0 0 0 0] [(.o 0, rdB s1)] (.agg (SReq.c r2)) [(.o 0, rdB s2)], q 1, 1 ≤ (1 : Nat), ∀ (k : Nat), k < (1 : Nat) → s6 (j4 [(SReq.c r2)] ((0 : Nat) + k)) = true, 96 ≤ (140737488355328 : Nat), InR .i64 (3 : Int), decide ((3 : Int) < n) = true, T zp 139 [.ptr (.o 0) 0 0 0 0] [(.o 0, rdB s2)] (.agg (SReq.c r3)) [(.o 0, rdB s3)], q 2, 1 ≤ (1 : Nat), ∀ (k : Nat), k < (1 : Nat) → s6 (j4 [(SReq.c r3)] ((0 : Nat) + k)) = true, 144 ≤ (140737488355328 : Nat), InR .i64 (4 : Int), decide ((4 : Int) < n) = false, T zp 78 [.ptr (.o 0) 0 0 0 0] [(.o 0, rdB s3)] (.int .i64 (RS.e s3)) [(.o 0, rdB s3)], (!decide (RS.e s3 = (0 : Int))) = true, q (List.length (RS.l s3)), ∀ (k : Nat), k < List.length (RS.l s3) → bl (RS.l s3) k = bl (RS.l s3) k, false = true → false = true, q (RS.e s3), q2, q false, q0, q0, q0, q0]) : Option (V × c5 × List Prop)) := by kernel_rfl
theorem aD9 (s : RS) (s0 : RS) (s1 : RS) (s2 : RS) (s3 : RS) (s4 : RS) (n : Int) (r1 : SReq) (r2 : SReq) (r3 : SReq) (r4 : SReq) :
  f4 zp (cg1 s s0 s1 s2 s3 s4 n r1 r2 r3 r4) [true, true, true, true, false, false] = some (V.agg [V.bool (decide (n = (0 : Int))), rq 4 fun i => List.getD [r1, r2, r3, r4] i (SReq.mk (0 : Int) (0 : Int) (baL []) z16)], [(Nm.o (0 : Nat), rdB s4)], [T zp (25 : Nat) [V.ptr (Nm.o (0 : Nat)) (0 : Nat) (0 : Nat) (0 : Nat) (0 : Nat), V.int .i64 (5 : Int)] [(Nm.o (0 : Nat), rdB s)] (V.int .i64 n) [(Nm.o (0 : Nat), rdB s0)], decide ((1 : Int) < n) = true, T zp (139 : Nat) [V.ptr (Nm.o (0 : Nat)) (0 : Nat) (0 : Nat) (0 : Nat) (0 : Nat)] [(Nm.o (0 : Nat), rdB s0)] (V.agg (SReq.c r1)) [(Nm.o (0 : Nat), rdB s1)], 1 ≤ (1 : Nat), ∀ (k : Nat), k < (1 : Nat) → s6 (j4 [(SReq.c r1)] ((0 : Nat) + k)) = true, 48 ≤ (140737488355328 : Nat), InR .i64 (2 : Int), decide ((2 : Int) < n) = true, T zp (139 : Nat) [V.ptr (Nm.o (0 : Nat)) (0 : Nat) (0 : Nat) (0 : Nat) (0 : Nat)] [(Nm.o (0 : Nat), rdB s1)] (V.agg (SReq.c r2)) [(Nm.o (0 : Nat), rdB s2)], 1 = 1, 1 ≤ (1 : Nat), ∀ (k : Nat), k < (1 : Nat) → s6 (j4 [(SReq.c r2)] ((0 : Nat) + k)) = true, 96 ≤ (140737488355328 : Nat), InR .i64 (3 : Int), decide ((3 : Int) < n) = true, T zp (139 : Nat) [V.ptr (Nm.o (0 : Nat)) (0 : Nat) (0 : Nat) (0 : Nat) (0 : Nat)] [(Nm.o (0 : Nat), rdB s2)] (V.agg (SReq.c r3)) [(Nm.o (0 : Nat), rdB s3)], 2 = 2, 1 ≤ (1 : Nat), ∀ (k : Nat), k < (1 : Nat) → s6 (j4 [(SReq.c r3)] ((0 : Nat) + k)) = true, 144 ≤ (140737488355328 : Nat), InR .i64 (4 : Int), decide ((4 : Int) < n) = true, T zp (139 : Nat) [V.ptr (Nm.o (0 : Nat)) (0 : Nat) (0 : Nat) (0 : Nat) (0 : Nat)] [(Nm.o (0 : Nat), rdB s3)] (V.agg (SReq.c r4)) [(Nm.o (0 : Nat), rdB s4)], 3 = 3, 1 ≤ (1 : Nat), ∀ (k : Nat), k < (1 : Nat) → s6 (j4 [(SReq.c r4)] ((0 : Nat) + k)) = true, 192 ≤ (140737488355328 : Nat), InR .i64 (5 : Int), decide ((5 : Int) < n) = false, T zp (78 : Nat) [V.ptr (Nm.o (0 : Nat)) (0 : Nat) (0 : Nat) (0 : Nat) (0 : Nat)] [(Nm.o (0 : Nat), rdB s4)] (V.int .i64 (RS.e s4)) [(Nm.o (0 : Nat), rdB s4)], (!decide (RS.e s4 = (0 : Int))) = false, List.length (RS.l s4) = List.length (RS.l s4), ∀ (k : Nat), k < List.length (RS.l s4) → bl (RS.l s4) k = bl (RS.l s4) k, false = true → false = true, RS.e s4 = RS.e s4, true = true, decide (n = (0 : Int)) = decide (n = (0 : Int)), 4 = 4, 4 ≤ 4, ∀ (k : Nat), k < 4 → r6 3 (r6 2 (r6 1 (r6 (0 : Nat) (fun x => []) fun k => j4 [(SReq.c r1)] ((0 : Nat) + k)) fun k => j4 [(SReq.c r2)] ((0 : Nat) + k)) fun k => j4 [(SReq.c r3)] ((0 : Nat) + k)) (fun k => j4 [(SReq.c r4)] ((0 : Nat) + k)) ((0 : Nat) + k) = SReq.c (SBatch.req (SBatch.mk (decide (n = (0 : Int))) 4 fun i => List.getD [r1, r2, r3, r4] i (SReq.mk (0 : Int) (0 : Int) (baL []) z16)) k), false = true → none = some 4, (0 : Nat) = (0 : Nat), (0 : Nat) = (0 : Nat), (0 : Nat) = (0 : Nat)]) := by kernel_rfl
theorem aD8 (s : RS) (s0 : RS) (s1 : RS) (s2 : RS) (s3 : RS) (s4 : RS) (n : Int) (r1 : SReq) (r2 : SReq) (r3 : SReq) (r4 : SReq) :
  f4 zp (cf7 s s0 s1 s2 s3 s4 n r1 r2 r3 r4) [true, true, true, true, false, true] = (some (.agg [.bool false, rq 0 fun x => SReq.mk (0 : Int) (0 : Int) ByteArray.empty []], [(.o 0, rdB s4)], [T zp 25 [.ptr (.o 0) 0 0 0 0, .int .i64 5] [(.o 0, rdB s)] (.int .i64 n) [(.o 0, rdB s0)], decide ((1 : Int) < n) = true, T zp 139 [.ptr (.o 0) 0 0 0 0] [(.o 0, rdB s0)] (.agg (SReq.c r1)) [(.o 0, rdB s1)], 1 ≤ (1 : Nat), ∀ (k : Nat), k < (1 : Nat) → s6 (j4 [(SReq.c r1)] ((0 : Nat) + k)) = true, 48 ≤ (140737488355328 : Nat), InR .i64 (2 : Int), decide ((2 : Int) < n) = true, T zp 139 [.ptr (.o 0) 0 0 0 0] [(.o 0, rdB s1)] (.agg (SReq.c r2)) [(.o 0, rdB s2)], q 1, 1 ≤ (1 : Nat), ∀ (k : Nat), k < (1 : Nat) → s6 (j4 [(SReq.c r2)] ((0 : Nat) + k)) = true, 96 ≤ (140737488355328 : Nat), InR .i64 (3 : Int), decide ((3 : Int) < n) = true, T zp 139 [.ptr (.o 0) 0 0 0 0] [(.o 0, rdB s2)] (.agg (SReq.c r3)) [(.o 0, rdB s3)], q 2, 1 ≤ (1 : Nat), ∀ (k : Nat), k < (1 : Nat) → s6 (j4 [(SReq.c r3)] ((0 : Nat) + k)) = true, 144 ≤ (140737488355328 : Nat), InR .i64 (4 : Int), decide ((4 : Int) < n) = true, T zp 139 [.ptr (.o 0) 0 0 0 0] [(.o 0, rdB s3)] (.agg (SReq.c r4)) [(.o 0, rdB s4)], q 3, 1 ≤ (1 : Nat), ∀ (k : Nat), k < (1 : Nat) → s6 (j4 [(SReq.c r4)] ((0 : Nat) + k)) = true, 192 ≤ (140737488355328 : Nat), InR .i64 (5 : Int), decide ((5 : Int) < n) = false, T zp 78 [.ptr (.o 0) 0 0 0 0] [(.o 0, rdB s4)] (.int .i64 (RS.e s4)) [(.o 0, rdB s4)], (!decide (RS.e s4 = (0 : Int))) = true, q (List.length (RS.l s4)), ∀ (k : Nat), k < List.length (RS.l s4) → bl (RS.l s4) k = bl (RS.l s4) k, false = true → false = true, q (RS.e s4), q2, q false, q0, q0, q0, q0]) : Option (V × c5 × List Prop)) := by kernel_rfl
theorem T.at1 {P : Program} {f : FuncId} {args : List V} {s s' : RS} {val : V} (h : T P f (p0 :: args) [(.o 0, rdB s)] val [(.o 0, rdB s')]) (ha : ∀ σ, V.rens σ args = args) (hv : ∀ σ, V.ren σ val = val) (a : Nat) : T P f (.ptr (.o a) 0 0 0 0 :: args) [(.o a, rdB s)] val [(.o a, rdB s')] := by
 obtain ⟨σ, hσ, h1⟩ := T.at h [.o 0] [.o a] (by simp) (by simp) rfl
 simp only [List.map_cons, List.map_nil, List.cons.injEq, and_true] at hσ
 simpa [V.rens, V.ren, p0, rdB, c5.ren, B.ren, hσ, ha, hv] using h1
theorem A6 (a : Nat) (most : Int) (s : RS) : T Tryz.prog 25 [.ptr (.o a) 0 0 0 0, .int .i64 most] [(.o a, rdB s)] (.int .i64 (f1 most s).1) [(.o a, rdB (f1 most s).2)] :=
 T.at1 (cd9 most s) (fun _ => rfl) (fun _ => rfl) a
theorem E8 (a : Nat) (s : RS) : T Tryz.prog 78 [.ptr (.o a) 0 0 0 0] [(.o a, rdB s)] (.int .i64 s.e) [(.o a, rdB s)] :=
 T.at1 (ay3 s) (fun _ => rfl) (fun _ => rfl) a
theorem ah_ (a : Nat) (s : RS) : T Tryz.prog 28 [.ptr (.o a) 0 0 0 0] [(.o a, rdB s)] (.int .i64 (D6 s)) [(.o a, rdB s)] :=
 T.at1 (bN_ s) (fun _ => rfl) (fun _ => rfl) a
theorem ar0 (a : Nat) (most : Int) (s : RS) (hl : s.l.length ≤ 1000000000) : T Tryz.prog 26 [.ptr (.o a) 0 0 0 0, .int .i64 most] [(.o a, rdB s)] (.str (v6 most s).1) [(.o a, rdB (v6 most s).2)] :=
 T.at1 (bw2 most s hl) (fun _ => rfl) (fun _ => rfl) a
theorem ab1 (a : Nat) (n : Int) (s : RS) (hl : s.l.length ≤ 1000000000) : T Tryz.prog 27 [.ptr (.o a) 0 0 0 0, .int .i64 n] [(.o a, rdB s)] (roB (l6 n s).1) [(.o a, rdB (l6 n s).2)] :=
 T.at1 (bO3 n s hl) (fun _ => rfl) (fun _ => rfl) a
theorem ce6 (a : Nat) (l : List UInt8) (hl : l.length ≤ 1000000000) : T Tryz.prog 24 [roB l] [] (.ptr (.o a) 0 0 0 0) [(.o a, rdB { l := l })] := by
 obtain ⟨σ, hσ, h1⟩ := T.at (bO4 l hl) [.o 63] [.o a] (by simp) (by simp) rfl
 simp only [List.map_cons, List.map_nil, List.cons.injEq, and_true] at hσ
 simpa [V.rens, V.ren, roB, rdB, c5.ren, B.ren, hσ] using h1
def D0 (s s' : RS) : Prop := s'.l.length ≤ s.l.length ∧ s'.bad = s.bad ∧ (s.e ≠ 0 → s'.e ≠ 0)
theorem D0.refl (s : RS) : D0 s s := ⟨Nat.le_refl _, rfl, id⟩
theorem D0.trans {a b c : RS} (h : D0 a b) (h' : D0 b c) : D0 a c := ⟨Nat.le_trans h'.1 h.1, h'.2.1.trans h.2.1, fun e => h'.2.2 (h.2.2 e)⟩
theorem i9 (m : Int) (s : RS) : D0 s (f1 m s).2 := by
 unfold f1
 split
 ·exact D0.refl s
 ·split
  ·exact ⟨Nat.zero_le _, rfl, fun e => absurd e (by simpa using ‹¬ s.e ≠ 0›)⟩
  ·exact ⟨by simp [RS.drop], rfl, fun e => e⟩
theorem K6 (m : Int) (s : RS) : D0 s (v6 m s).2 := by
 unfold v6
 split
 ·exact D0.refl s
 ·split
  ·exact ⟨Nat.zero_le _, rfl, fun e => absurd e (by simpa using ‹¬ s.e ≠ 0›)⟩
  ·exact ⟨by simp [RS.drop], rfl, fun e => e⟩
theorem N4 (n : Int) (s : RS) : D0 s (l6 n s).2 := by
 unfold l6
 split
 ·exact D0.refl s
 ·split
  ·exact ⟨Nat.zero_le _, rfl, fun e => absurd e (by simpa using ‹¬ s.e ≠ 0›)⟩
  ·split
   ·exact ⟨Nat.zero_le _, rfl, fun e => absurd e (by simpa using ‹¬ s.e ≠ 0›)⟩
   ·exact ⟨by simp [RS.drop], rfl, fun e => e⟩
theorem as0 {n : Nat} {s : RS} (h : (l6 n s).2.e = 0) : (l6 n s).1.length = n := by
 unfold l6 at h ⊢
 split at h
 ·contradiction
 ·rename_i h1
  split at h
  ·exact absurd h (by simp [RS.fail])
  ·split at h
   ·exact absurd h (by simp [RS.fail])
   ·rename_i h2 h3
    rw [if_neg h1, if_neg h2, if_neg h3, List.length_take]; omega
theorem aw9 {n : Nat} {s : RS} (h : (l6 n s).2.e ≠ 0) : (l6 n s).1 = [] := by
 unfold l6 at h ⊢
 split
 ·rfl
 ·rename_i h1
  split
  ·rfl
  ·split
   ·rfl
   ·rename_i h2 h3
    rw [if_neg h1, if_neg h2, if_neg h3] at h
    exact absurd h (by simpa [RS.drop] using h1)
theorem bL7 {xs : List UInt8} (h : xs.length = 16) : [r5 (bl xs 0), r5 (bl xs 1), r5 (bl xs 2), r5 (bl xs 3), r5 (bl xs 4), r5 (bl xs 5), r5 (bl xs 6), r5 (bl xs 7), r5 (bl xs 8), r5 (bl xs 9), r5 (bl xs 10), r5 (bl xs 11), r5 (bl xs 12), r5 (bl xs 13), r5 (bl xs 14), r5 (bl xs 15)] = D1 xs := by
 match xs, h with
 | [a0, a1, a2, a3, a4, a5, a6, a7, a8, a9, a10, a11, a12, a13, a14, a15], _ => rfl
theorem bO5 (s : RS) (hl : s.l.length ≤ 1000000000) : T Tryz.prog 139 [p0] [(.o 0, rdB s)] (.agg (i7 s).1.c) [(.o 0, rdB (i7 s).2)] := by
 have l1 : (Q7 s).l.length ≤ 1000000000 := Nat.le_trans (i9 8 s).1 hl
 have l2 : (L3 s).l.length ≤ 1000000000 := Nat.le_trans (i9 _ _).1 l1
 have l3 : (D7 s).l.length ≤ 1000000000 := Nat.le_trans (K6 _ _).1 l2
 by_cases h : (S5 s).e = 0
 ·have e : i7 s = (bg6 s, S5 s) := by simp [i7, h]
  have h16 : (l6 16 (D7 s)).1.length = 16 := as0 (n := 16) h
  rw [e]
  refine f5 (bc8 s (Q7 s) (L3 s) (D7 s) (S5 s) (f1 8 s).1 (f1 1099511627776 (Q7 s)).1 (v6 64 (L3 s)).1 (l6 16 (D7 s)).1) Tryz.func139 ?_
  simp only [All]; and_intros
  all_goals first | exact A6 0 _ _ | exact ar0 0 _ _ l2 | (have := ab1 0 16 (D7 s) l3; rw [roB, h16] at this; exact this) | exact bL7 h16 | trivial | (simp [h16]; done)
 ·have e : i7 s = (al8, S5 s) := by simp [i7, h]
  have h0 : (l6 16 (D7 s)).1 = [] := aw9 (n := 16) h
  rw [e]
  refine f5 (bc7 s (Q7 s) (L3 s) (D7 s) (S5 s) (f1 8 s).1 (f1 1099511627776 (Q7 s)).1 (v6 64 (L3 s)).1 (l6 16 (D7 s)).1) Tryz.func139 ?_
  simp only [All]; and_intros
  all_goals first | exact A6 0 _ _ | exact ar0 0 _ _ l2 | (have := ab1 0 16 (D7 s) l3; rw [roB, h0] at this; exact this) | trivial | simp
theorem E5 (s : RS) : D0 s (i7 s).2 := (((i9 8 s).trans (i9 _ _)).trans (K6 _ _)).trans (N4 _ _)
theorem E6 {α : Type} {one : RS → α × RS} (h : ∀ s, D0 s (one s).2) : ∀ k s, D0 s (itR one k s).2
 | 0, s => D0.refl s
 | k + 1, s => (h s).trans (E6 h k _)
theorem E4 {m : Int} (hm : 0 ≤ m) (s : RS) : 0 ≤ (f1 m s).1 ∧ (f1 m s).1 ≤ m := by
 unfold f1
 split
 ·exact ⟨Int.le_refl _, hm⟩
 ·split
  ·exact ⟨Int.le_refl _, hm⟩
  ·rename_i h1 h2
   refine ⟨bM1.1, ?_⟩
   have h2 : nE1 m s.l = 0 := by simpa using h2
   unfold nE1 at h2
   split at h2
   ·cases h2
   ·show nV s.l ≤ m
    omega
theorem N8 {s s' : RS} {r : SReq} (hl : s.l.length ≤ 1000000000) (h1 : r = (i7 s).1) (h2 : s' = (i7 s).2) : T Tryz.prog 139 [p0] [(.o 0, rdB s)] (.agg r.c) [(.o 0, rdB s')] := by
 subst h1; subst h2; exact bO5 s hl
theorem bN5 {s : RS} (hl : s.l.length ≤ 1000000000) (hk : (f1 5 s).1.toNat - 1 = 0) (h :  (itR i7 0 (f1 5 s).2).2.e = 0) : T Tryz.prog 107 [p0] [(.o 0, rdB s)] (.agg (l7 s).1.c) [(.o 0, rdB (l7 s).2)] := by
 have hr := E4 (m := 5) (by decide) s
 have l0 : ∀ j, (itR i7 j (f1 5 s).2).2.l.length ≤ 1000000000 := fun j => Nat.le_trans (E6 E5 j _).1 (Nat.le_trans (i9 5 s).1 hl)
 have e1 : s8 s = ([], (itR i7 0 (f1 5 s).2).2) := by unfold s8; rw [hk]; rfl
 have e : l7 s = (D3 (decide ((f1 5 s).1 = 0)) [], (itR i7 0 (f1 5 s).2).2) := by simp only [l7, e1, h, if_true, if_false]
 rw [e]
 refine f5 (ba4 s (itR i7 0 (f1 5 s).2).2 (f1 5 s).1 ) Tryz.func107 ?_
 simp only [All]; and_intros
 all_goals first
  | exact A6 0 5 s
  | exact E8 0 _
  | exact N8 (l0 _) rfl rfl
  | trivial
  | exact N2 (by decide) (by decide)
  | exact N3 (by decide) (by decide)
  | (rw [decide_eq_true_eq]; omega)
  | (rw [decide_eq_false_iff_not]; omega)
  | (simp [h]; done)
  | (intro j hj; have hj0 : j = 0 := by omega
     subst hj0; rfl)
  | (intro j hj; have hj0 : j = 0 := by omega
     rcases hj0 with rfl <;> rfl)
  | decide
  | rfl
theorem bN0 {s : RS} (hl : s.l.length ≤ 1000000000) (hk : (f1 5 s).1.toNat - 1 = 0) (h : ¬ (itR i7 0 (f1 5 s).2).2.e = 0) : T Tryz.prog 107 [p0] [(.o 0, rdB s)] (.agg (l7 s).1.c) [(.o 0, rdB (l7 s).2)] := by
 have hr := E4 (m := 5) (by decide) s
 have l0 : ∀ j, (itR i7 j (f1 5 s).2).2.l.length ≤ 1000000000 := fun j => Nat.le_trans (E6 E5 j _).1 (Nat.le_trans (i9 5 s).1 hl)
 have e1 : s8 s = ([], (itR i7 0 (f1 5 s).2).2) := by unfold s8; rw [hk]; rfl
 have e : l7 s = (({} : SBatch), (itR i7 0 (f1 5 s).2).2) := by simp only [l7, e1, h, if_true, if_false]
 rw [e]
 refine f5 (ba3 s (itR i7 0 (f1 5 s).2).2 (f1 5 s).1 ) Tryz.func107 ?_
 simp only [All]; and_intros
 all_goals first
  | exact A6 0 5 s
  | exact E8 0 _
  | exact N8 (l0 _) rfl rfl
  | trivial
  | exact N2 (by decide) (by decide)
  | exact N3 (by decide) (by decide)
  | (rw [decide_eq_true_eq]; omega)
  | (rw [decide_eq_false_iff_not]; omega)
  | (simp [h]; done)
  | (intro j hj; have hj0 : j = 0 := by omega
     subst hj0; rfl)
  | (intro j hj; have hj0 : j = 0 := by omega
     rcases hj0 with rfl <;> rfl)
  | decide
  | rfl
theorem bN6 {s : RS} (hl : s.l.length ≤ 1000000000) (hk : (f1 5 s).1.toNat - 1 = 1) (h :  (itR i7 1 (f1 5 s).2).2.e = 0) : T Tryz.prog 107 [p0] [(.o 0, rdB s)] (.agg (l7 s).1.c) [(.o 0, rdB (l7 s).2)] := by
 have hr := E4 (m := 5) (by decide) s
 have l0 : ∀ j, (itR i7 j (f1 5 s).2).2.l.length ≤ 1000000000 := fun j => Nat.le_trans (E6 E5 j _).1 (Nat.le_trans (i9 5 s).1 hl)
 have e1 : s8 s = ([(i7 (itR i7 0 (f1 5 s).2).2).1], (itR i7 1 (f1 5 s).2).2) := by unfold s8; rw [hk]; rfl
 have e : l7 s = (D3 (decide ((f1 5 s).1 = 0)) [(i7 (itR i7 0 (f1 5 s).2).2).1], (itR i7 1 (f1 5 s).2).2) := by simp only [l7, e1, h, if_true, if_false]
 rw [e]
 refine f5 (aV8 s (itR i7 0 (f1 5 s).2).2 (itR i7 1 (f1 5 s).2).2 (f1 5 s).1 (i7 (itR i7 0 (f1 5 s).2).2).1) Tryz.func107 ?_
 simp only [All]; and_intros
 all_goals first
  | exact A6 0 5 s
  | exact E8 0 _
  | exact N8 (l0 _) rfl rfl
  | trivial
  | exact N2 (by decide) (by decide)
  | exact N3 (by decide) (by decide)
  | (rw [decide_eq_true_eq]; omega)
  | (rw [decide_eq_false_iff_not]; omega)
  | (simp [h]; done)
  | (intro j hj; have hj0 : j = 0 := by omega
     subst hj0; rfl)
  | (intro j hj; have hj0 : j = 0 := by omega
     rcases hj0 with rfl <;> rfl)
  | decide
  | rfl
theorem bN1 {s : RS} (hl : s.l.length ≤ 1000000000) (hk : (f1 5 s).1.toNat - 1 = 1) (h : ¬ (itR i7 1 (f1 5 s).2).2.e = 0) : T Tryz.prog 107 [p0] [(.o 0, rdB s)] (.agg (l7 s).1.c) [(.o 0, rdB (l7 s).2)] := by
 have hr := E4 (m := 5) (by decide) s
 have l0 : ∀ j, (itR i7 j (f1 5 s).2).2.l.length ≤ 1000000000 := fun j => Nat.le_trans (E6 E5 j _).1 (Nat.le_trans (i9 5 s).1 hl)
 have e1 : s8 s = ([(i7 (itR i7 0 (f1 5 s).2).2).1], (itR i7 1 (f1 5 s).2).2) := by unfold s8; rw [hk]; rfl
 have e : l7 s = (({} : SBatch), (itR i7 1 (f1 5 s).2).2) := by simp only [l7, e1, h, if_true, if_false]
 rw [e]
 refine f5 (aV7 s (itR i7 0 (f1 5 s).2).2 (itR i7 1 (f1 5 s).2).2 (f1 5 s).1 (i7 (itR i7 0 (f1 5 s).2).2).1) Tryz.func107 ?_
 simp only [All]; and_intros
 all_goals first
  | exact A6 0 5 s
  | exact E8 0 _
  | exact N8 (l0 _) rfl rfl
  | trivial
  | exact N2 (by decide) (by decide)
  | exact N3 (by decide) (by decide)
  | (rw [decide_eq_true_eq]; omega)
  | (rw [decide_eq_false_iff_not]; omega)
  | (simp [h]; done)
  | (intro j hj; have hj0 : j = 0 := by omega
     subst hj0; rfl)
  | (intro j hj; have hj0 : j = 0 := by omega
     rcases hj0 with rfl <;> rfl)
  | decide
  | rfl
theorem bN7 {s : RS} (hl : s.l.length ≤ 1000000000) (hk : (f1 5 s).1.toNat - 1 = 2) (h :  (itR i7 2 (f1 5 s).2).2.e = 0) : T Tryz.prog 107 [p0] [(.o 0, rdB s)] (.agg (l7 s).1.c) [(.o 0, rdB (l7 s).2)] := by
 have hr := E4 (m := 5) (by decide) s
 have l0 : ∀ j, (itR i7 j (f1 5 s).2).2.l.length ≤ 1000000000 := fun j => Nat.le_trans (E6 E5 j _).1 (Nat.le_trans (i9 5 s).1 hl)
 have e1 : s8 s = ([(i7 (itR i7 0 (f1 5 s).2).2).1, (i7 (itR i7 1 (f1 5 s).2).2).1], (itR i7 2 (f1 5 s).2).2) := by unfold s8; rw [hk]; rfl
 have e : l7 s = (D3 (decide ((f1 5 s).1 = 0)) [(i7 (itR i7 0 (f1 5 s).2).2).1, (i7 (itR i7 1 (f1 5 s).2).2).1], (itR i7 2 (f1 5 s).2).2) := by simp only [l7, e1, h, if_true, if_false]
 rw [e]
 refine f5 (aO1 s (itR i7 0 (f1 5 s).2).2 (itR i7 1 (f1 5 s).2).2 (itR i7 2 (f1 5 s).2).2 (f1 5 s).1 (i7 (itR i7 0 (f1 5 s).2).2).1 (i7 (itR i7 1 (f1 5 s).2).2).1) Tryz.func107 ?_
 simp only [All]; and_intros
 all_goals first
  | exact A6 0 5 s
  | exact E8 0 _
  | exact N8 (l0 _) rfl rfl
  | trivial
  | exact N2 (by decide) (by decide)
  | exact N3 (by decide) (by decide)
  | (rw [decide_eq_true_eq]; omega)
  | (rw [decide_eq_false_iff_not]; omega)
  | (simp [h]; done)
  | (intro j hj; have hj0 : j = 0 := by omega
     subst hj0; rfl)
  | (intro j hj; have hj0 : j = 0 ∨ j = 1 := by omega
     rcases hj0 with rfl | rfl <;> rfl)
  | decide
  | rfl
theorem bN2 {s : RS} (hl : s.l.length ≤ 1000000000) (hk : (f1 5 s).1.toNat - 1 = 2) (h : ¬ (itR i7 2 (f1 5 s).2).2.e = 0) : T Tryz.prog 107 [p0] [(.o 0, rdB s)] (.agg (l7 s).1.c) [(.o 0, rdB (l7 s).2)] := by
 have hr := E4 (m := 5) (by decide) s
 have l0 : ∀ j, (itR i7 j (f1 5 s).2).2.l.length ≤ 1000000000 := fun j => Nat.le_trans (E6 E5 j _).1 (Nat.le_trans (i9 5 s).1 hl)
 have e1 : s8 s = ([(i7 (itR i7 0 (f1 5 s).2).2).1, (i7 (itR i7 1 (f1 5 s).2).2).1], (itR i7 2 (f1 5 s).2).2) := by unfold s8; rw [hk]; rfl
 have e : l7 s = (({} : SBatch), (itR i7 2 (f1 5 s).2).2) := by simp only [l7, e1, h, if_true, if_false]
 rw [e]
 refine f5 (aO0 s (itR i7 0 (f1 5 s).2).2 (itR i7 1 (f1 5 s).2).2 (itR i7 2 (f1 5 s).2).2 (f1 5 s).1 (i7 (itR i7 0 (f1 5 s).2).2).1 (i7 (itR i7 1 (f1 5 s).2).2).1) Tryz.func107 ?_
 simp only [All]; and_intros
 all_goals first
  | exact A6 0 5 s
  | exact E8 0 _
  | exact N8 (l0 _) rfl rfl
  | trivial
  | exact N2 (by decide) (by decide)
  | exact N3 (by decide) (by decide)
  | (rw [decide_eq_true_eq]; omega)
  | (rw [decide_eq_false_iff_not]; omega)
  | (simp [h]; done)
  | (intro j hj; have hj0 : j = 0 := by omega
     subst hj0; rfl)
  | (intro j hj; have hj0 : j = 0 ∨ j = 1 := by omega
     rcases hj0 with rfl | rfl <;> rfl)
  | decide
  | rfl
theorem bN8 {s : RS} (hl : s.l.length ≤ 1000000000) (hk : (f1 5 s).1.toNat - 1 = 3) (h :  (itR i7 3 (f1 5 s).2).2.e = 0) : T Tryz.prog 107 [p0] [(.o 0, rdB s)] (.agg (l7 s).1.c) [(.o 0, rdB (l7 s).2)] := by
 have hr := E4 (m := 5) (by decide) s
 have l0 : ∀ j, (itR i7 j (f1 5 s).2).2.l.length ≤ 1000000000 := fun j => Nat.le_trans (E6 E5 j _).1 (Nat.le_trans (i9 5 s).1 hl)
 have e1 : s8 s = ([(i7 (itR i7 0 (f1 5 s).2).2).1, (i7 (itR i7 1 (f1 5 s).2).2).1, (i7 (itR i7 2 (f1 5 s).2).2).1], (itR i7 3 (f1 5 s).2).2) := by unfold s8; rw [hk]; rfl
 have e : l7 s = (D3 (decide ((f1 5 s).1 = 0)) [(i7 (itR i7 0 (f1 5 s).2).2).1, (i7 (itR i7 1 (f1 5 s).2).2).1, (i7 (itR i7 2 (f1 5 s).2).2).1], (itR i7 3 (f1 5 s).2).2) := by simp only [l7, e1, h, if_true, if_false]
 rw [e]
 refine f5 (aJ9 s (itR i7 0 (f1 5 s).2).2 (itR i7 1 (f1 5 s).2).2 (itR i7 2 (f1 5 s).2).2 (itR i7 3 (f1 5 s).2).2 (f1 5 s).1 (i7 (itR i7 0 (f1 5 s).2).2).1 (i7 (itR i7 1 (f1 5 s).2).2).1 (i7 (itR i7 2 (f1 5 s).2).2).1) Tryz.func107 ?_
 simp only [All]; and_intros
 all_goals first
  | exact A6 0 5 s
  | exact E8 0 _
  | exact N8 (l0 _) rfl rfl
  | trivial
  | exact N2 (by decide) (by decide)
  | exact N3 (by decide) (by decide)
  | (rw [decide_eq_true_eq]; omega)
  | (rw [decide_eq_false_iff_not]; omega)
  | (simp [h]; done)
  | (intro j hj; have hj0 : j = 0 := by omega
     subst hj0; rfl)
  | (intro j hj; have hj0 : j = 0 ∨ j = 1 ∨ j = 2 := by omega
     rcases hj0 with rfl | rfl | rfl <;> rfl)
  | decide
  | rfl
theorem bN3 {s : RS} (hl : s.l.length ≤ 1000000000) (hk : (f1 5 s).1.toNat - 1 = 3) (h : ¬ (itR i7 3 (f1 5 s).2).2.e = 0) : T Tryz.prog 107 [p0] [(.o 0, rdB s)] (.agg (l7 s).1.c) [(.o 0, rdB (l7 s).2)] := by
 have hr := E4 (m := 5) (by decide) s
 have l0 : ∀ j, (itR i7 j (f1 5 s).2).2.l.length ≤ 1000000000 := fun j => Nat.le_trans (E6 E5 j _).1 (Nat.le_trans (i9 5 s).1 hl)
 have e1 : s8 s = ([(i7 (itR i7 0 (f1 5 s).2).2).1, (i7 (itR i7 1 (f1 5 s).2).2).1, (i7 (itR i7 2 (f1 5 s).2).2).1], (itR i7 3 (f1 5 s).2).2) := by unfold s8; rw [hk]; rfl
 have e : l7 s = (({} : SBatch), (itR i7 3 (f1 5 s).2).2) := by simp only [l7, e1, h, if_true, if_false]
 rw [e]
 refine f5 (aJ8 s (itR i7 0 (f1 5 s).2).2 (itR i7 1 (f1 5 s).2).2 (itR i7 2 (f1 5 s).2).2 (itR i7 3 (f1 5 s).2).2 (f1 5 s).1 (i7 (itR i7 0 (f1 5 s).2).2).1 (i7 (itR i7 1 (f1 5 s).2).2).1 (i7 (itR i7 2 (f1 5 s).2).2).1) Tryz.func107 ?_
 simp only [All]; and_intros
 all_goals first
  | exact A6 0 5 s
  | exact E8 0 _
  | exact N8 (l0 _) rfl rfl
  | trivial
  | exact N2 (by decide) (by decide)
  | exact N3 (by decide) (by decide)
  | (rw [decide_eq_true_eq]; omega)
  | (rw [decide_eq_false_iff_not]; omega)
  | (simp [h]; done)
  | (intro j hj; have hj0 : j = 0 := by omega
     subst hj0; rfl)
  | (intro j hj; have hj0 : j = 0 ∨ j = 1 ∨ j = 2 := by omega
     rcases hj0 with rfl | rfl | rfl <;> rfl)
  | decide
  | rfl
theorem bN9 {s : RS} (hl : s.l.length ≤ 1000000000) (hk : (f1 5 s).1.toNat - 1 = 4) (h :  (itR i7 4 (f1 5 s).2).2.e = 0) : T Tryz.prog 107 [p0] [(.o 0, rdB s)] (.agg (l7 s).1.c) [(.o 0, rdB (l7 s).2)] := by
 have hr := E4 (m := 5) (by decide) s
 have l0 : ∀ j, (itR i7 j (f1 5 s).2).2.l.length ≤ 1000000000 := fun j => Nat.le_trans (E6 E5 j _).1 (Nat.le_trans (i9 5 s).1 hl)
 have e1 : s8 s = ([(i7 (itR i7 0 (f1 5 s).2).2).1, (i7 (itR i7 1 (f1 5 s).2).2).1, (i7 (itR i7 2 (f1 5 s).2).2).1, (i7 (itR i7 3 (f1 5 s).2).2).1], (itR i7 4 (f1 5 s).2).2) := by unfold s8; rw [hk]; rfl
 have e : l7 s = (D3 (decide ((f1 5 s).1 = 0)) [(i7 (itR i7 0 (f1 5 s).2).2).1, (i7 (itR i7 1 (f1 5 s).2).2).1, (i7 (itR i7 2 (f1 5 s).2).2).1, (i7 (itR i7 3 (f1 5 s).2).2).1], (itR i7 4 (f1 5 s).2).2) := by simp only [l7, e1, h, if_true, if_false]
 rw [e]
 refine f5 (aD9 s (itR i7 0 (f1 5 s).2).2 (itR i7 1 (f1 5 s).2).2 (itR i7 2 (f1 5 s).2).2 (itR i7 3 (f1 5 s).2).2 (itR i7 4 (f1 5 s).2).2 (f1 5 s).1 (i7 (itR i7 0 (f1 5 s).2).2).1 (i7 (itR i7 1 (f1 5 s).2).2).1 (i7 (itR i7 2 (f1 5 s).2).2).1 (i7 (itR i7 3 (f1 5 s).2).2).1) Tryz.func107 ?_
 simp only [All]; and_intros
 all_goals first
  | exact A6 0 5 s
  | exact E8 0 _
  | exact N8 (l0 _) rfl rfl
  | trivial
  | exact N2 (by decide) (by decide)
  | exact N3 (by decide) (by decide)
  | (rw [decide_eq_true_eq]; omega)
  | (rw [decide_eq_false_iff_not]; omega)
  | (simp [h]; done)
  | (intro j hj; have hj0 : j = 0 := by omega
     subst hj0; rfl)
  | (intro j hj; have hj0 : j = 0 ∨ j = 1 ∨ j = 2 ∨ j = 3 := by omega
     rcases hj0 with rfl | rfl | rfl | rfl <;> rfl)
  | decide
  | rfl
theorem bN4 {s : RS} (hl : s.l.length ≤ 1000000000) (hk : (f1 5 s).1.toNat - 1 = 4) (h : ¬ (itR i7 4 (f1 5 s).2).2.e = 0) : T Tryz.prog 107 [p0] [(.o 0, rdB s)] (.agg (l7 s).1.c) [(.o 0, rdB (l7 s).2)] := by
 have hr := E4 (m := 5) (by decide) s
 have l0 : ∀ j, (itR i7 j (f1 5 s).2).2.l.length ≤ 1000000000 := fun j => Nat.le_trans (E6 E5 j _).1 (Nat.le_trans (i9 5 s).1 hl)
 have e1 : s8 s = ([(i7 (itR i7 0 (f1 5 s).2).2).1, (i7 (itR i7 1 (f1 5 s).2).2).1, (i7 (itR i7 2 (f1 5 s).2).2).1, (i7 (itR i7 3 (f1 5 s).2).2).1], (itR i7 4 (f1 5 s).2).2) := by unfold s8; rw [hk]; rfl
 have e : l7 s = (({} : SBatch), (itR i7 4 (f1 5 s).2).2) := by simp only [l7, e1, h, if_true, if_false]
 rw [e]
 refine f5 (aD8 s (itR i7 0 (f1 5 s).2).2 (itR i7 1 (f1 5 s).2).2 (itR i7 2 (f1 5 s).2).2 (itR i7 3 (f1 5 s).2).2 (itR i7 4 (f1 5 s).2).2 (f1 5 s).1 (i7 (itR i7 0 (f1 5 s).2).2).1 (i7 (itR i7 1 (f1 5 s).2).2).1 (i7 (itR i7 2 (f1 5 s).2).2).1 (i7 (itR i7 3 (f1 5 s).2).2).1) Tryz.func107 ?_
 simp only [All]; and_intros
 all_goals first
  | exact A6 0 5 s
  | exact E8 0 _
  | exact N8 (l0 _) rfl rfl
  | trivial
  | exact N2 (by decide) (by decide)
  | exact N3 (by decide) (by decide)
  | (rw [decide_eq_true_eq]; omega)
  | (rw [decide_eq_false_iff_not]; omega)
  | (simp [h]; done)
  | (intro j hj; have hj0 : j = 0 := by omega
     subst hj0; rfl)
  | (intro j hj; have hj0 : j = 0 ∨ j = 1 ∨ j = 2 ∨ j = 3 := by omega
     rcases hj0 with rfl | rfl | rfl | rfl <;> rfl)
  | decide
  | rfl
theorem bM_ (s : RS) (hl : s.l.length ≤ 1000000000) : T Tryz.prog 107 [p0] [(.o 0, rdB s)] (.agg (l7 s).1.c) [(.o 0, rdB (l7 s).2)] := by
 have hr := E4 (m := 5) (by decide) s
 have hc : (f1 5 s).1.toNat - 1 = 0 ∨ (f1 5 s).1.toNat - 1 = 1 ∨ (f1 5 s).1.toNat - 1 = 2 ∨ (f1 5 s).1.toNat - 1 = 3 ∨ (f1 5 s).1.toNat - 1 = 4 := by omega
 rcases hc with hc | hc | hc | hc | hc
 ·by_cases h : (itR i7 0 (f1 5 s).2).2.e = 0
  ·exact bN5 hl hc h
  ·exact bN0 hl hc h
 ·by_cases h : (itR i7 1 (f1 5 s).2).2.e = 0
  ·exact bN6 hl hc h
  ·exact bN1 hl hc h
 ·by_cases h : (itR i7 2 (f1 5 s).2).2.e = 0
  ·exact bN7 hl hc h
  ·exact bN2 hl hc h
 ·by_cases h : (itR i7 3 (f1 5 s).2).2.e = 0
  ·exact bN8 hl hc h
  ·exact bN3 hl hc h
 ·by_cases h : (itR i7 4 (f1 5 s).2).2.e = 0
  ·exact bN9 hl hc h
  ·exact bN4 hl hc h
theorem F4 (s : RS) : D0 s (l7 s).2 := (i9 5 s).trans (E6 E5 _ _)
theorem aN0 (a : Nat) (s : RS) (hl : s.l.length ≤ 1000000000) : T Tryz.prog 107 [.ptr (.o a) 0 0 0 0] [(.o a, rdB s)] (.agg (l7 s).1.c) [(.o a, rdB (l7 s).2)] :=
 T.at1 (bM_ s hl) (fun _ => rfl) (fun _ => rfl) a
def mrH (r a : Nat) (s : RS) : c5 := [(.o r, .flat [.ptr (.o a) 0 0 0 0, .bool s.bad]), (.o a, rdB s)]
def n01 : St → List Nm := fun _ => [.o 0, .o 1]
def cMr (v : V) (s : RS) : List V → c5 → Nat → List Cl := fun _ _ _ => [{ pre := [.o 0, .o 1], val := v, post := mrH 0 1 s }]
def V4 (n : Nat) (z : List Int) (s : RS) : List Int × RS := (if (l6 n s).2.e = 0 then D1 (l6 n s).1 else z, (l6 n s).2)
def J3 (s : RS) : List Int × RS := V4 32 z32 s
def M1 (s : RS) : List Int × RS := V4 16 z16 s
def w4 (s : RS) : SSign × RS := ({ node := (f1 64 s).1, tag := (M1 (f1 64 s).2).1 }, (M1 (f1 64 s).2).2)
def X7 (s : RS) : RS := (f1 64 s).2
def S2 (s : RS) : RS := (v6 4194304 (X7 s)).2
def E0 (s : RS) : SEnv × RS := ({ src := (f1 64 s).1, body := (v6 4194304 (X7 s)).1, tag := (M1 (S2 s)).1 }, (M1 (S2 s)).2)
def RS.spoil (s : RS) : RS := { l := [], e := 2, bad := true }
def A7 (s : RS) : RS := if (f1 2 s).1 = 0 ∧ (f1 2 s).2.e = 0 then (f1 2 s).2.spoil else (f1 2 s).2
def M2 (s : RS) : RS := (f1 1048576 (A7 s)).2
def M3 (s : RS) : RS := (f1 1099511627776 (M2 s)).2
def G2 (s : RS) : RS := (f1 1099511627776 (M3 s)).2
def z9 (s : RS) : SVote × RS := ({ kind := (f1 2 s).1, epoch := (f1 1048576 (A7 s)).1, view := (f1 1099511627776 (M2 s)).1, slot := (f1 1099511627776 (M3 s)).1, digest := (J3 (G2 s)).1 }, (J3 (G2 s)).2)
noncomputable def aj8 (f : Func) (x : List V) (s : RS) (db : List (Nat × Nat × (List V → c5 → Nat → List Cl))) (cs : List V) (s' : RS) : Bd := { f := f, args := p0 :: x, pre := mrH 0 1 s, base := 2, kb := { db := ai4 2 db }, names := n01, k := be0 cs (mrH 0 1 s') }
noncomputable def cu4 (s s' : RS) (xs : List UInt8) : Bd := aj8 Tryz.f113 [] s [(27, 6, aQ3 (aC1 32 xs s'))] [.seg .u8 32 (D1 xs)] s'
noncomputable def cu3 (s s' : RS) (xs : List UInt8) : Bd := aj8 Tryz.f113 [] s [(27, 6, aQ3 (aC1 32 xs s'))] [.seg .u8 32 z32] s'
noncomputable def cw2 (s s' : RS) (xs : List UInt8) : Bd := aj8 Tryz.f140 [] s [(27, 6, aQ3 (aC1 16 xs s'))] [.seg .u8 16 (D1 xs)] s'
noncomputable def cw1 (s s' : RS) (xs : List UInt8) : Bd := aj8 Tryz.f140 [] s [(27, 6, aQ3 (aC1 16 xs s'))] [.seg .u8 16 z16] s'
noncomputable def cv_ (s s1 s2 : RS) (r : SSign) : Bd := aj8 Tryz.f116 [] s [(25, 5, cRd (.int .i64 r.node) s1), (140, 7, cMr (.agg [.seg .u8 16 r.tag]) s2)] r.c s2
noncomputable def cu_ (s s1 s2 s3 : RS) (r : SEnv) : Bd := aj8 Tryz.f112 [] s [(25, 5, cRd (.int .i64 r.src) s1), (26, 10, cRd (.str r.body) s2), (140, 12, cMr (.agg [.seg .u8 16 r.tag]) s3)] r.c s3
noncomputable def bd2 (s s0 sb s1 s2 s3 s4 : RS) (r : SVote) : Bd := aj8 Tryz.f108 [] s [(25, 5, cRd (.int .i64 r.kind) s0), (78, 16, cRd (.int .i64 s0.e) s0), (27, 27, fun _ _ _ => [{ pre := [.o 1], val := roB [], post := [(.o 1, rdB sb)] }]), (25, 23, cRd (.int .i64 r.epoch) s1), (25, 28, cRd (.int .i64 r.view) s2), (25, 33, cRd (.int .i64 r.slot) s3), (113, 41, cMr (.agg [.seg .u8 32 r.digest]) s4), (25, 32, cRd (.int .i64 r.epoch) s1), (25, 37, cRd (.int .i64 r.view) s2), (25, 42, cRd (.int .i64 r.slot) s3), (113, 50, cMr (.agg [.seg .u8 32 r.digest]) s4)] r.c s4
theorem bx4 (s : RS) (s' : RS) (xs : List UInt8) :
  f4 zp (cu4 s s' xs) [true] = (some (.agg [.seg .u8 32 (D1 xs)], [(.o 0, .flat [.ptr (.o 1) 0 0 0 0, .bool (RS.bad s')]), (.o 1, rdB s')], [T zp 27 [.ptr (.o 1) 0 0 0 0, .int .i64 32] [(.o 1, rdB s)] (.ros 1 32 (bl xs) false) [(.o 1, rdB s')], 32 ≤ (32 : Nat), ∀ (q : Nat), q < (32 : Nat) → true = true, q0, q0, q0, RS.bad s = RS.bad s', q (List.length (RS.l s')), ∀ (k : Nat), k < List.length (RS.l s') → bl (RS.l s') k = bl (RS.l s') k, false = true → false = true, q (RS.e s'), q2, q (32 : Nat), z5 (32 : Nat) z32 0 32 (bl xs) = D1 xs, q0, q0, q0]) : Option (V × c5 × List Prop)) := by kernel_rfl
theorem bx3 (s : RS) (s' : RS) (xs : List UInt8) :
  f4 zp (cu3 s s' xs) [false] = (some (.agg [.seg .u8 32 z32], [(.o 0, .flat [.ptr (.o 1) 0 0 0 0, .bool (RS.bad s')]), (.o 1, rdB s')], [T zp 27 [.ptr (.o 1) 0 0 0 0, .int .i64 32] [(.o 1, rdB s)] (.ros 1 0 (bl []) false) [(.o 1, rdB s')], 32 ≤ (32 : Nat), ∀ (q : Nat), q < (0 : Nat) → true = true, q0, q0, q0, RS.bad s = RS.bad s', q (List.length (RS.l s')), ∀ (k : Nat), k < List.length (RS.l s') → bl (RS.l s') k = bl (RS.l s') k, false = true → false = true, q (RS.e s'), q2, q (32 : Nat), z5 (32 : Nat) z32 0 0 (bl []) = z32, q0, q0, q0]) : Option (V × c5 × List Prop)) := by kernel_rfl
theorem bB5 (s : RS) (s' : RS) (xs : List UInt8) :
  f4 zp (cw2 s s' xs) [true] = (some (.agg [.seg .u8 16 (D1 xs)], [(.o 0, .flat [.ptr (.o 1) 0 0 0 0, .bool (RS.bad s')]), (.o 1, rdB s')], [T zp 27 [.ptr (.o 1) 0 0 0 0, .int .i64 16] [(.o 1, rdB s)] (.ros 1 16 (bl xs) false) [(.o 1, rdB s')], 16 ≤ (16 : Nat), ∀ (q : Nat), q < (16 : Nat) → true = true, q0, q0, q0, RS.bad s = RS.bad s', q (List.length (RS.l s')), ∀ (k : Nat), k < List.length (RS.l s') → bl (RS.l s') k = bl (RS.l s') k, false = true → false = true, q (RS.e s'), q2, q (16 : Nat), z5 (16 : Nat) z16 0 16 (bl xs) = D1 xs, q0, q0, q0]) : Option (V × c5 × List Prop)) := by kernel_rfl
theorem bB4 (s : RS) (s' : RS) (xs : List UInt8) :
  f4 zp (cw1 s s' xs) [false] = (some (.agg [.seg .u8 16 z16], [(.o 0, .flat [.ptr (.o 1) 0 0 0 0, .bool (RS.bad s')]), (.o 1, rdB s')], [T zp 27 [.ptr (.o 1) 0 0 0 0, .int .i64 16] [(.o 1, rdB s)] (.ros 1 0 (bl []) false) [(.o 1, rdB s')], 16 ≤ (16 : Nat), ∀ (q : Nat), q < (0 : Nat) → true = true, q0, q0, q0, RS.bad s = RS.bad s', q (List.length (RS.l s')), ∀ (k : Nat), k < List.length (RS.l s') → bl (RS.l s') k = bl (RS.l s') k, false = true → false = true, q (RS.e s'), q2, q (16 : Nat), z5 (16 : Nat) z16 0 0 (bl []) = z16, q0, q0, q0]) : Option (V × c5 × List Prop)) := by kernel_rfl
theorem bT0 (s : RS) (s1 : RS) (s2 : RS) (r : SSign) :
  f4 zp (cv_ s s1 s2 r) [] = (some (.agg (SSign.c r), [(.o 0, .flat [.ptr (.o 1) 0 0 0 0, .bool (RS.bad s2)]), (.o 1, rdB s2)], [T zp 25 [.ptr (.o 1) 0 0 0 0, .int .i64 64] [(.o 1, rdB s)] (.int .i64 (SSign.node r)) [(.o 1, rdB s1)], T zp 140 [.ptr (.o 0) 0 0 0 0] [(.o 0, .flat [.ptr (.o 1) 0 0 0 0, .bool (RS.bad s)]), (.o 1, rdB s1)] (.agg [.seg .u8 16 (SSign.tag r)]) [(.o 0, .flat [.ptr (.o 1) 0 0 0 0, .bool (RS.bad s2)]), (.o 1, rdB s2)], q0, q0, q0, q (RS.bad s2), q (List.length (RS.l s2)), ∀ (k : Nat), k < List.length (RS.l s2) → bl (RS.l s2) k = bl (RS.l s2) k, false = true → false = true, q (RS.e s2), q2, q (SSign.node r), q (16 : Nat), q (SSign.tag r), q0, q0, q0]) : Option (V × c5 × List Prop)) := by kernel_rfl
theorem bQ7 (s : RS) (s1 : RS) (s2 : RS) (s3 : RS) (r : SEnv) :
  f4 zp (cu_ s s1 s2 s3 r) [] = (some (.agg (SEnv.c r), [(.o 0, .flat [.ptr (.o 1) 0 0 0 0, .bool (RS.bad s3)]), (.o 1, rdB s3)], [T zp 25 [.ptr (.o 1) 0 0 0 0, .int .i64 64] [(.o 1, rdB s)] (.int .i64 (SEnv.src r)) [(.o 1, rdB s1)], T zp 26 [.ptr (.o 1) 0 0 0 0, .int .i64 4194304] [(.o 1, rdB s1)] (.str (SEnv.body r)) [(.o 1, rdB s2)], T zp 140 [.ptr (.o 0) 0 0 0 0] [(.o 0, .flat [.ptr (.o 1) 0 0 0 0, .bool (RS.bad s)]), (.o 1, rdB s2)] (.agg [.seg .u8 16 (SEnv.tag r)]) [(.o 0, .flat [.ptr (.o 1) 0 0 0 0, .bool (RS.bad s3)]), (.o 1, rdB s3)], q0, q0, q0, q (RS.bad s3), q (List.length (RS.l s3)), ∀ (k : Nat), k < List.length (RS.l s3) → bl (RS.l s3) k = bl (RS.l s3) k, false = true → false = true, q (RS.e s3), q2, q (SEnv.src r), q (SEnv.body r), q (16 : Nat), q (SEnv.tag r), q0, q0, q0]) : Option (V × c5 × List Prop)) := by kernel_rfl
noncomputable def T7 (s : RS) (s0 : RS) (sb : RS) (s1 : RS) (s2 : RS) (s3 : RS) (s4 : RS) (r : SVote) : Nat → List Prop
 | 0 => [T zp 25 [.ptr (.o 1) 0 0 0 0, .int .i64 2] [(.o 1, rdB s)] (.int .i64 (SVote.kind r)) [(.o 1, rdB s0)]]
 | 1 => [decide (SVote.kind r = (0 : Int)) = true, T zp 78 [.ptr (.o 1) 0 0 0 0] [(.o 1, rdB s0)] (.int .i64 (RS.e s0)) [(.o 1, rdB s0)]]
 | _ => []
theorem bn4 (s : RS) (s0 : RS) (sb : RS) (s1 : RS) (s2 : RS) (s3 : RS) (s4 : RS) (r : SVote) :
 f4 zp (bd2 s s0 sb s1 s2 s3 s4 r) [true, true] = (some (.agg (SVote.c r), [(.o 0, .flat [.ptr (.o 1) 0 0 0 0, .bool (RS.bad s4)]), (.o 1, rdB s4)], T7 s s0 sb s1 s2 s3 s4 r 0 ++ (T7 s s0 sb s1 s2 s3 s4 r 1 ++ [decide (RS.e s0 = (0 : Int)) = true, T zp 27 [.ptr (.o 1) 0 0 0 0, .int .i64 (-1 : Int)] [(.o 1, rdB s0)] (.ros 1 0 (bl []) false) [(.o 1, rdB sb)], T zp 25 [.ptr (.o 1) 0 0 0 0, .int .i64 1048576] [(.o 1, rdB sb)] (.int .i64 (SVote.epoch r)) [(.o 1, rdB s1)], T zp 25 [.ptr (.o 1) 0 0 0 0, .int .i64 1099511627776] [(.o 1, rdB s1)] (.int .i64 (SVote.view r)) [(.o 1, rdB s2)], T zp 25 [.ptr (.o 1) 0 0 0 0, .int .i64 1099511627776] [(.o 1, rdB s2)] (.int .i64 (SVote.slot r)) [(.o 1, rdB s3)], T zp 113 [.ptr (.o 0) 0 0 0 0] [(.o 0, .flat [.ptr (.o 1) 0 0 0 0, .bool true]), (.o 1, rdB s3)] (.agg [.seg .u8 32 (SVote.digest r)]) [(.o 0, .flat [.ptr (.o 1) 0 0 0 0, .bool (RS.bad s4)]), (.o 1, rdB s4)], q0, q0, q0, q (RS.bad s4), q (List.length (RS.l s4)), ∀ (k : Nat), k < List.length (RS.l s4) → bl (RS.l s4) k = bl (RS.l s4) k, false = true → false = true, q (RS.e s4), q2, q (SVote.kind r), q (SVote.epoch r), q (SVote.view r), q (SVote.slot r), q (32 : Nat), q (SVote.digest r), q0, q0, q0])) : Option (V × c5 × List Prop)) := by kernel_rfl
theorem bn3 (s : RS) (s0 : RS) (sb : RS) (s1 : RS) (s2 : RS) (s3 : RS) (s4 : RS) (r : SVote) :
 f4 zp (bd2 s s0 sb s1 s2 s3 s4 r) [true, false] = (some (.agg (SVote.c r), [(.o 0, .flat [.ptr (.o 1) 0 0 0 0, .bool (RS.bad s4)]), (.o 1, rdB s4)], T7 s s0 sb s1 s2 s3 s4 r 0 ++ (T7 s s0 sb s1 s2 s3 s4 r 1 ++ [decide (RS.e s0 = (0 : Int)) = false, T zp 25 [.ptr (.o 1) 0 0 0 0, .int .i64 1048576] [(.o 1, rdB s0)] (.int .i64 (SVote.epoch r)) [(.o 1, rdB s1)], T zp 25 [.ptr (.o 1) 0 0 0 0, .int .i64 1099511627776] [(.o 1, rdB s1)] (.int .i64 (SVote.view r)) [(.o 1, rdB s2)], T zp 25 [.ptr (.o 1) 0 0 0 0, .int .i64 1099511627776] [(.o 1, rdB s2)] (.int .i64 (SVote.slot r)) [(.o 1, rdB s3)], T zp 113 [.ptr (.o 0) 0 0 0 0] [(.o 0, .flat [.ptr (.o 1) 0 0 0 0, .bool (RS.bad s)]), (.o 1, rdB s3)] (.agg [.seg .u8 32 (SVote.digest r)]) [(.o 0, .flat [.ptr (.o 1) 0 0 0 0, .bool (RS.bad s4)]), (.o 1, rdB s4)], q0, q0, q0, q (RS.bad s4), q (List.length (RS.l s4)), ∀ (k : Nat), k < List.length (RS.l s4) → bl (RS.l s4) k = bl (RS.l s4) k, false = true → false = true, q (RS.e s4), q2, q (SVote.kind r), q (SVote.epoch r), q (SVote.view r), q (SVote.slot r), q (32 : Nat), q (SVote.digest r), q0, q0, q0])) : Option (V × c5 × List Prop)) := by kernel_rfl
theorem bn2 (s : RS) (s0 : RS) (sb : RS) (s1 : RS) (s2 : RS) (s3 : RS) (s4 : RS) (r : SVote) :
 f4 zp (bd2 s s0 sb s1 s2 s3 s4 r) [false, false] = (some (.agg (SVote.c r), [(.o 0, .flat [.ptr (.o 1) 0 0 0 0, .bool (RS.bad s4)]), (.o 1, rdB s4)], T7 s s0 sb s1 s2 s3 s4 r 0 ++ [decide (SVote.kind r = (0 : Int)) = false, q false, T zp 25 [.ptr (.o 1) 0 0 0 0, .int .i64 1048576] [(.o 1, rdB s0)] (.int .i64 (SVote.epoch r)) [(.o 1, rdB s1)], T zp 25 [.ptr (.o 1) 0 0 0 0, .int .i64 1099511627776] [(.o 1, rdB s1)] (.int .i64 (SVote.view r)) [(.o 1, rdB s2)], T zp 25 [.ptr (.o 1) 0 0 0 0, .int .i64 1099511627776] [(.o 1, rdB s2)] (.int .i64 (SVote.slot r)) [(.o 1, rdB s3)], T zp 113 [.ptr (.o 0) 0 0 0 0] [(.o 0, .flat [.ptr (.o 1) 0 0 0 0, .bool (RS.bad s)]), (.o 1, rdB s3)] (.agg [.seg .u8 32 (SVote.digest r)]) [(.o 0, .flat [.ptr (.o 1) 0 0 0 0, .bool (RS.bad s4)]), (.o 1, rdB s4)], q0, q0, q0, q (RS.bad s4), q (List.length (RS.l s4)), ∀ (k : Nat), k < List.length (RS.l s4) → bl (RS.l s4) k = bl (RS.l s4) k, false = true → false = true, q (RS.e s4), q2, q (SVote.kind r), q (SVote.epoch r), q (SVote.view r), q (SVote.slot r), q (32 : Nat), q (SVote.digest r), q0, q0, q0]) : Option (V × c5 × List Prop)) := by kernel_rfl
def mrHb (b : Bool) (s : RS) : c5 := [(.o 0, .flat [.ptr (.o 1) 0 0 0 0, .bool b]), (.o 1, rdB s)]
theorem M0 {b : Bool} {s : RS} (h : s.bad = b) : mrHb b s = mrH 0 1 s := by subst h; rfl
theorem cw6 {xs : List UInt8} (h : xs.length = 32) : [r5 (bl xs 0), r5 (bl xs 1), r5 (bl xs 2), r5 (bl xs 3), r5 (bl xs 4), r5 (bl xs 5), r5 (bl xs 6), r5 (bl xs 7), r5 (bl xs 8), r5 (bl xs 9), r5 (bl xs 10), r5 (bl xs 11), r5 (bl xs 12), r5 (bl xs 13), r5 (bl xs 14), r5 (bl xs 15), r5 (bl xs 16), r5 (bl xs 17), r5 (bl xs 18), r5 (bl xs 19), r5 (bl xs 20), r5 (bl xs 21), r5 (bl xs 22), r5 (bl xs 23), r5 (bl xs 24), r5 (bl xs 25), r5 (bl xs 26), r5 (bl xs 27), r5 (bl xs 28), r5 (bl xs 29), r5 (bl xs 30), r5 (bl xs 31)] = D1 xs := by
 match xs, h with
 | [a0, a1, a2, a3, a4, a5, a6, a7, a8, a9, a10, a11, a12, a13, a14, a15, b0, b1, b2, b3, b4, b5, b6, b7, b8, b9, b10, b11, b12, b13, b14, b15], _ => rfl
theorem ay2 (s : RS) (hl : s.l.length ≤ 1000000000) : T Tryz.prog 113 [p0] (mrH 0 1 s) (.agg [.seg .u8 32 (J3 s).1]) (mrH 0 1 (J3 s).2) := by
 by_cases h : (l6 32 s).2.e = 0
 ·have hn : (l6 32 s).1.length = 32 := as0 (n := 32) h
  have e : J3 s = (D1 (l6 32 s).1, (l6 32 s).2) := by simp [J3, V4, h]
  rw [e]
  refine f5 (bx4 s (l6 32 s).2 (l6 32 s).1) Tryz.func113 ?_
  simp only [All]; and_intros
  all_goals first | (have := ab1 1 32 s hl; rw [roB, hn] at this; exact this) | exact cw6 hn | exact (N4 32 s).2.1.symm | trivial | (simp [hn]; done)
 ·have hn : (l6 32 s).1 = [] := aw9 (n := 32) h
  have e : J3 s = (z32, (l6 32 s).2) := by simp [J3, V4, h]
  rw [e]
  refine f5 (bx3 s (l6 32 s).2 (l6 32 s).1) Tryz.func113 ?_
  simp only [All]; and_intros
  all_goals first | (have := ab1 1 32 s hl; rw [roB, hn] at this; exact this) | exact (N4 32 s).2.1.symm | trivial | simp
theorem bh9 (s : RS) (hl : s.l.length ≤ 1000000000) : T Tryz.prog 140 [p0] (mrH 0 1 s) (.agg [.seg .u8 16 (M1 s).1]) (mrH 0 1 (M1 s).2) := by
 by_cases h : (l6 16 s).2.e = 0
 ·have hn : (l6 16 s).1.length = 16 := as0 (n := 16) h
  have e : M1 s = (D1 (l6 16 s).1, (l6 16 s).2) := by simp [M1, V4, h]
  rw [e]
  refine f5 (bB5 s (l6 16 s).2 (l6 16 s).1) Tryz.func140 ?_
  simp only [All]; and_intros
  all_goals first | (have := ab1 1 16 s hl; rw [roB, hn] at this; exact this) | exact bL7 hn | exact (N4 16 s).2.1.symm | trivial | (simp [hn]; done)
 ·have hn : (l6 16 s).1 = [] := aw9 (n := 16) h
  have e : M1 s = (z16, (l6 16 s).2) := by simp [M1, V4, h]
  rw [e]
  refine f5 (bB4 s (l6 16 s).2 (l6 16 s).1) Tryz.func140 ?_
  simp only [All]; and_intros
  all_goals first | (have := ab1 1 16 s hl; rw [roB, hn] at this; exact this) | exact (N4 16 s).2.1.symm | trivial | simp
theorem aD2 (s : RS) : D0 s (M1 s).2 := N4 16 s
theorem ak0 (s : RS) : D0 s (J3 s).2 := N4 32 s
theorem T.heap {P : Program} {f : FuncId} {args : List V} {pre pre' : c5} {val : V} {post : c5} (h : T P f args pre val post) (e : pre = pre') : T P f args pre' val post := by subst e; exact h
theorem bO8 (s : RS) (hl : s.l.length ≤ 1000000000) : T Tryz.prog 116 [p0] (mrH 0 1 s) (.agg (w4 s).1.c) (mrH 0 1 (w4 s).2) := by
 have a1 := i9 64 s
 refine f5 (bT0 s (f1 64 s).2 (w4 s).2 (w4 s).1) Tryz.func116 ?_
 simp only [All]; and_intros
 all_goals first | exact A6 1 64 s | exact T.heap (bh9 (f1 64 s).2 (Nat.le_trans a1.1 hl)) (M0 a1.2.1).symm | trivial | simp
theorem Y0 (s : RS) : D0 s (w4 s).2 := (i9 64 s).trans (aD2 _)
theorem cc1 (s : RS) (hl : s.l.length ≤ 1000000000) : T Tryz.prog 112 [p0] (mrH 0 1 s) (.agg (E0 s).1.c) (mrH 0 1 (E0 s).2) := by
 have a1 : D0 s (X7 s) := i9 64 s
 have a2 : D0 s (S2 s) := a1.trans (K6 _ _)
 refine f5 (bQ7 s (X7 s) (S2 s) (E0 s).2 (E0 s).1) Tryz.func112 ?_
 simp only [All]; and_intros
 all_goals first | exact A6 1 64 s | exact ar0 1 _ _ (Nat.le_trans a1.1 hl) | exact T.heap (bh9 (S2 s) (Nat.le_trans a2.1 hl)) (M0 a2.2.1).symm | trivial | simp
theorem ak4 (s : RS) : D0 s (E0 s).2 := ((i9 64 s).trans (K6 _ _)).trans (aD2 _)
def Aft (s s' : RS) : Prop := s'.l.length ≤ s.l.length ∧ (s.e ≠ 0 → s'.e ≠ 0)
theorem D0.aft {s s' : RS} (h : D0 s s') : Aft s s' := ⟨h.1, h.2.2⟩
theorem Aft.refl (s : RS) : Aft s s := ⟨Nat.le_refl _, id⟩
theorem Aft.trans {a b c : RS} (h : Aft a b) (h' : Aft b c) : Aft a c := ⟨Nat.le_trans h'.1 h.1, fun e => h'.2 (h.2 e)⟩
theorem aD4 (s : RS) : Aft s (A7 s) := by
 unfold A7
 split
 ·exact ⟨Nat.zero_le _, fun _ => by simp [RS.spoil]⟩
 ·exact (i9 2 s).aft
theorem ag6 (s : RS) : Aft s (z9 s).2 := ((((aD4 s).trans (i9 _ _).aft).trans (i9 _ _).aft).trans (i9 _ _).aft).trans (ak0 _).aft
theorem bh2 (s : RS) : (G2 s).bad = (A7 s).bad := (((i9 1048576 (A7 s)).trans (i9 1099511627776 (M2 s))).trans (i9 1099511627776 (M3 s))).2.1
theorem aY5 (s : RS) (hl : s.l.length ≤ 1000000000) : T Tryz.prog 108 [p0] (mrH 0 1 s) (.agg (z9 s).1.c) (mrH 0 1 (z9 s).2) := by
 have b := bh2 s
 have a0 := i9 2 s
 have l3 : (G2 s).l.length ≤ 1000000000 := Nat.le_trans ((((aD4 s).trans (i9 _ _).aft).trans (i9 _ _).aft).trans (i9 _ _).aft).1 hl
 by_cases h1 : (f1 2 s).1 = 0
 ·by_cases h2 : (f1 2 s).2.e = 0
  ·have e0 : A7 s = (f1 2 s).2.spoil := by simp [A7, h1, h2]
   have hr : (l6 (-1) (f1 2 s).2) = ([], (f1 2 s).2.fail 2) := by simp [l6, h2]
   refine f5 (bn4 s (f1 2 s).2 (A7 s) (M2 s) (M3 s) (G2 s) (z9 s).2 (z9 s).1) Tryz.func108 ?_
   simp only [All, f3, T7]; and_intros
   all_goals first | exact A6 1 _ _ | exact E8 1 _ | (have := ab1 1 (-1) (f1 2 s).2 (Nat.le_trans a0.1 hl); rw [hr] at this; rw [e0]; exact this) | exact T.heap (ay2 (G2 s) l3) (M0 (b.trans (by rw [e0]; rfl))).symm | (rw [decide_eq_true_eq]; assumption) | trivial | simp
  ·have e0 : A7 s = (f1 2 s).2 := by simp [A7, h2]
   refine f5 (bn3 s (f1 2 s).2 (A7 s) (M2 s) (M3 s) (G2 s) (z9 s).2 (z9 s).1) Tryz.func108 ?_
   simp only [All, f3, T7]; and_intros
   all_goals first | exact A6 1 _ _ | exact E8 1 _ | (rw [← e0]; exact A6 1 _ _) | exact T.heap (ay2 (G2 s) l3) (M0 (b.trans (by rw [e0]; exact a0.2.1))).symm | (rw [decide_eq_true_eq]; assumption) | (rw [decide_eq_false_iff_not]; assumption) | trivial | simp
 ·have e0 : A7 s = (f1 2 s).2 := by simp [A7, h1]
  refine f5 (bn2 s (f1 2 s).2 (A7 s) (M2 s) (M3 s) (G2 s) (z9 s).2 (z9 s).1) Tryz.func108 ?_
  simp only [All, f3, T7]; and_intros
  all_goals first | exact A6 1 _ _ | (rw [← e0]; exact A6 1 _ _) | exact T.heap (ay2 (G2 s) l3) (M0 (b.trans (by rw [e0]; exact a0.2.1))).symm | (rw [decide_eq_false_iff_not]; assumption) | trivial | simp
def stR {α : Type} (one : RS → α × RS) (s : RS) : Nat → RS
 | 0 => s
 | k + 1 => (one (stR one s k)).2
def V8 {α : Type} (one : RS → α × RS) : Nat → RS → Nat
 | 0, _ => 0
 | n + 1, s => if s.e = 0 then V8 one n (one s).2 + 1 else 0
def af_ (n : Nat) (el : Nat → SSign) (st : Nat → RS) (k : Nat) : St := ⟨mkT 28 [(0, p0), (2, .fn (.func 116) [p0] []), (6, .sl (.o 2) 17 0 0 0 k none), (12, .int .i64 n), (13, .int .i64 k)], mrH 0 1 (st k) ++ [(.o 2, .rows 17 k (fun i => (el i).c) true)], 3, []⟩
noncomputable def bk3 (most : Int) (n m : Nat) (el : Nat → SSign) (st : Nat → RS) (s : RS) : Bd := { f := Tryz.f115, args := [p0, .int .i64 most, .fn (.func 116) [p0] []], pre := mrH 0 1 s, base := 2, kb := { db := dbF [(25, cRd (.int .i64 n) (st 0))], lp := fun _ t => match r9 t.tmps 6 with | .sl a _ _ _ _ _ _ => [(True, .loop (m + 1) (B6 [(.o 2, a)] (af_ n el st 0)) (.exit 0) (af_ n el st m))] | _ => [], fx := fun id _ => bif Nat.beq id 2 then [.virt 6 17] else [] }, names := n01, k := fun _ t => some ⟨[], [(6, .set (.ros 17 m (fun i => (el i).c) false))], Q3 (mrH 0 1 (st m)), none, t.next⟩ }
noncomputable def aT6 (n : Nat) (el : Nat → SSign) (st : Nat → RS) (k : Nat) : Pc := { c := cB (cB (cR (cL (cR (f8 Tryz.f115))))), st := af_ n el st k, p := 2, kb := { db := dbF [(78, cRd (.int .i64 (st k).e) (st k)), (116, cMr (.agg (el k).c) (st (k + 1)))] }, k := fun e t => match e with
 | .normal => match r9 t.tmps 6 with
  | .sl a _ _ _ _ _ _ => some (B6 [(.o 2, a)] (af_ n el st (k + 1)))
  | _ => none
 | _ => some (wTo (af_ n el st k)) }
def af9 (n : Nat) (el : Nat → SEnv) (st : Nat → RS) (k : Nat) : St := ⟨mkT 28 [(0, p0), (2, .fn (.func 112) [p0] []), (6, .sl (.o 2) 18 0 0 0 k none), (12, .int .i64 n), (13, .int .i64 k)], mrH 0 1 (st k) ++ [(.o 2, .rows 18 k (fun i => (el i).c) true)], 3, []⟩
noncomputable def bk2 (most : Int) (n m : Nat) (el : Nat → SEnv) (st : Nat → RS) (s : RS) : Bd := { f := Tryz.f111, args := [p0, .int .i64 most, .fn (.func 112) [p0] []], pre := mrH 0 1 s, base := 2, kb := { db := dbF [(25, cRd (.int .i64 n) (st 0))], lp := fun _ t => match r9 t.tmps 6 with | .sl a _ _ _ _ _ _ => [(True, .loop (m + 1) (B6 [(.o 2, a)] (af9 n el st 0)) (.exit 0) (af9 n el st m))] | _ => [], fx := fun id _ => bif Nat.beq id 2 then [.virt 6 18] else [] }, names := n01, k := fun _ t => some ⟨[], [(6, .set (.ros 18 m (fun i => (el i).c) false))], Q3 (mrH 0 1 (st m)), none, t.next⟩ }
noncomputable def aT5 (n : Nat) (el : Nat → SEnv) (st : Nat → RS) (k : Nat) : Pc := { c := cB (cB (cR (cL (cR (f8 Tryz.f111))))), st := af9 n el st k, p := 2, kb := { db := dbF [(78, cRd (.int .i64 (st k).e) (st k)), (112, cMr (.agg (el k).c) (st (k + 1)))] }, k := fun e t => match e with
 | .normal => match r9 t.tmps 6 with
  | .sl a _ _ _ _ _ _ => some (B6 [(.o 2, a)] (af9 n el st (k + 1)))
  | _ => none
 | _ => some (wTo (af9 n el st k)) }
def af8 (n : Nat) (el : Nat → SHeld) (st : Nat → RS) (k : Nat) : St := ⟨mkT 28 [(0, p0), (2, .fn (.func 110) [p0] []), (6, .sl (.o 2) 39 0 0 0 k none), (12, .int .i64 n), (13, .int .i64 k)], mrH 0 1 (st k) ++ [(.o 2, .rows 39 k (fun i => (el i).c) true)], 3, []⟩
noncomputable def bk1 (most : Int) (n m : Nat) (el : Nat → SHeld) (st : Nat → RS) (s : RS) : Bd := { f := Tryz.f109, args := [p0, .int .i64 most, .fn (.func 110) [p0] []], pre := mrH 0 1 s, base := 2, kb := { db := dbF [(25, cRd (.int .i64 n) (st 0))], lp := fun _ t => match r9 t.tmps 6 with | .sl a _ _ _ _ _ _ => [(True, .loop (m + 1) (B6 [(.o 2, a)] (af8 n el st 0)) (.exit 0) (af8 n el st m))] | _ => [], fx := fun id _ => bif Nat.beq id 2 then [.virt 6 39] else [] }, names := n01, k := fun _ t => some ⟨[], [(6, .set (.ros 39 m (fun i => (el i).c) false))], Q3 (mrH 0 1 (st m)), none, t.next⟩ }
noncomputable def aT4 (n : Nat) (el : Nat → SHeld) (st : Nat → RS) (k : Nat) : Pc := { c := cB (cB (cR (cL (cR (f8 Tryz.f109))))), st := af8 n el st k, p := 2, kb := { db := dbF [(78, cRd (.int .i64 (st k).e) (st k)), (110, cMr (.agg (el k).c) (st (k + 1)))] }, k := fun e t => match e with
 | .normal => match r9 t.tmps 6 with
  | .sl a _ _ _ _ _ _ => some (B6 [(.o 2, a)] (af8 n el st (k + 1)))
  | _ => none
 | _ => some (wTo (af8 n el st k)) }
theorem by0 (most : Int) (n : Nat) (m : Nat) (el : Nat → SSign) (st : Nat → RS) (s : RS) :
  f4 zp (bk3 most n m el st s) [] = (some (.ros 17 m (fun i => SSign.c (el i)) false, [(.o 0, .flat [.ptr (.o 1) 0 0 0 0, .bool (RS.bad (st m))]), (.o 1, rdB (st m))], [T zp 25 [.ptr (.o 1) 0 0 0 0, .int .i64 most] [(.o 1, rdB s)] (.int .i64 ↑n) [(.o 1, rdB (st 0))], i5 zp none 2 (cB (cB (cR (cL (cR (f8 (Bd.f (bk3 most n m el st s)))))))) (m + 1) (St.mk (mkT 28 [(0, .ptr (.o 0) 0 0 0 0), (2, .fn (.func (116 : FuncId)) [.ptr (.o 0) 0 0 0 0] []), (6, .sl (.o 2) 17 0 0 0 0 none), (12, .int .i64 ↑n), (13, .int .i64 0)]) [(.o 0, .flat [.ptr (.o 1) 0 0 0 0, .bool (RS.bad (st 0))]), (.o 1, rdB (st 0)), (.o 2, .rows 17 0 (fun i => SSign.c (el i)) true)] 3 []) (.exit 0) (St.mk (mkT 28 [(0, .ptr (.o 0) 0 0 0 0), (2, .fn (.func (116 : FuncId)) [.ptr (.o 0) 0 0 0 0] []), (6, .sl (.o 2) 17 0 0 0 m none), (12, .int .i64 ↑n), (13, .int .i64 ↑m)]) [(.o 0, .flat [.ptr (.o 1) 0 0 0 0, .bool (RS.bad (st m))]), (.o 1, rdB (st m)), (.o 2, .rows 17 m (fun i => SSign.c (el i)) true)] 3 []), q0, q0, q0, RS.bad s = RS.bad (st (0 : Nat)), q (List.length (RS.l (st (0 : Nat)))), ∀ (k : Nat), k < List.length (RS.l (st (0 : Nat))) → bl (RS.l (st (0 : Nat))) k = bl (RS.l (st (0 : Nat))) k, false = true → false = true, q (RS.e (st (0 : Nat))), q2, q0, ∀ (k : Nat), k < (0 : Nat) → [] = SSign.c (el k), true = false → true = false, q0, q0, q0, q0, q0, q0, q0, q0, q0, q0, (none : Option Nat) = none ∨ (none : Option Nat) = none, q (↑n : Int), q1, q0, q0, q0, q (RS.bad (st m)), q (List.length (RS.l (st m))), ∀ (k : Nat), k < List.length (RS.l (st m)) → bl (RS.l (st m)) k = bl (RS.l (st m)) k, false = true → false = true, q (RS.e (st m)), q2, q m, (0 : Nat) + m ≤ m, ∀ (k : Nat), k < m → SSign.c (el ((0 : Nat) + k)) = SSign.c (el k), false = true → none = some m]) : Option (V × c5 × List Prop)) := by kernel_rfl
theorem bf7 (n : Nat) (el : Nat → SSign) (st : Nat → RS) (k : Nat) :
  i6 zp (aT6 n el st k) [true, true] = (some (.exit 0, St.mk (mkT 28 [(0, .ptr (.o 0) 0 0 0 0), (2, .fn (.func (116 : FuncId)) [.ptr (.o 0) 0 0 0 0] []), (6, .sl (.o 2) 17 0 0 0 k none), (12, .int .i64 ↑n), (13, .int .i64 ↑k)]) [(.o 0, .flat [.ptr (.o 1) 0 0 0 0, .bool (RS.bad (st k))]), (.o 1, rdB (st k)), (.o 2, .rows 17 k (fun i => SSign.c (el i)) true)] 3 [], [decide ((↑k : Int) < (↑n : Int)) = true, T zp 78 [.ptr (.o 1) 0 0 0 0] [(.o 1, rdB (st k))] (.int .i64 (RS.e (st k))) [(.o 1, rdB (st k))], (!decide (RS.e (st k) = (0 : Int))) = true, q0, q0, q0, q (RS.bad (st k)), q (List.length (RS.l (st k))), ∀ (k_1 : Nat), k_1 < List.length (RS.l (st k)) → bl (RS.l (st k)) k_1 = bl (RS.l (st k)) k_1, false = true → false = true, q (RS.e (st k)), q2, q k, ∀ (k_1 : Nat), k_1 < k → SSign.c (el k_1) = SSign.c (el k_1), true = false → true = false, q0, q0, q0, q0, q0, q0, q0, q0, q0, q k, (none : Option Nat) = none ∨ (none : Option Nat) = none, q (↑n : Int), q (↑k : Int)]) : Option (Exit × St × List Prop)) := by kernel_rfl
theorem bf6 (n : Nat) (el : Nat → SSign) (st : Nat → RS) (k : Nat) :
  i6 zp (aT6 n el st k) [true, false] = (some (.normal, St.mk (mkT 28 [(0, .ptr (.o 0) 0 0 0 0), (2, .fn (.func (116 : FuncId)) [.ptr (.o 0) 0 0 0 0] []), (6, .sl (.o 2) 17 0 0 0 (k + 1) none), (12, .int .i64 ↑n), (13, .int .i64 (↑(k + 1) : Int))]) [(.o 0, .flat [.ptr (.o 1) 0 0 0 0, .bool (RS.bad (st (k + 1)))]), (.o 1, rdB (st (k + 1))), (.o 2, .rows 17 (k + 1) (fun i => SSign.c (el i)) true)] 3 [], [decide ((↑k : Int) < (↑n : Int)) = true, T zp 78 [.ptr (.o 1) 0 0 0 0] [(.o 1, rdB (st k))] (.int .i64 (RS.e (st k))) [(.o 1, rdB (st k))], (!decide (RS.e (st k) = (0 : Int))) = false, T zp (116 : FuncId) [.ptr (.o 0) 0 0 0 0] [(.o 0, .flat [.ptr (.o 1) 0 0 0 0, .bool (RS.bad (st k))]), (.o 1, rdB (st k))] (.agg (SSign.c (el k))) [(.o 0, .flat [.ptr (.o 1) 0 0 0 0, .bool (RS.bad (st (k + 1)))]), (.o 1, rdB (st (k + 1)))], q k, 1 ≤ (1 : Nat), ∀ (k_1 : Nat), k_1 < (1 : Nat) → s6 (j4 [(SSign.c (el k))] ((0 : Nat) + k_1)) = true, (k + (1 : Nat)) * (24 : Nat) ≤ (140737488355328 : Nat), InR .i64 ((↑k : Int) + (1 : Int)), q0, q0, q0, q (RS.bad (st (k + (1 : Nat)))), q (List.length (RS.l (st (k + (1 : Nat))))), ∀ (k_1 : Nat), k_1 < List.length (RS.l (st (k + (1 : Nat)))) → bl (RS.l (st (k + (1 : Nat)))) k_1 = bl (RS.l (st (k + (1 : Nat)))) k_1, false = true → false = true, q (RS.e (st (k + (1 : Nat)))), q2, q (k + (1 : Nat)), ∀ (k_1 : Nat), k_1 < k + (1 : Nat) → r6 k (fun i => SSign.c (el i)) (fun k_2 => j4 [(SSign.c (el k))] ((0 : Nat) + k_2)) k_1 = SSign.c (el k_1), true = false → true = false, q0, q0, q0, q0, q0, q0, q0, q0, q0, q (k + (1 : Nat)), (none : Option Nat) = none ∨ (none : Option Nat) = none, q (↑n : Int), (↑k : Int) + (1 : Int) = (↑(k + (1 : Nat)) : Int)]) : Option (Exit × St × List Prop)) := by kernel_rfl
theorem aI6 (n : Nat) (el : Nat → SSign) (st : Nat → RS) (k : Nat) :
  i6 zp (aT6 n el st k) [false] = (some (.exit 0, St.mk (mkT 28 [(0, .ptr (.o 0) 0 0 0 0), (2, .fn (.func (116 : FuncId)) [.ptr (.o 0) 0 0 0 0] []), (6, .sl (.o 2) 17 0 0 0 k none), (12, .int .i64 ↑n), (13, .int .i64 ↑k)]) [(.o 0, .flat [.ptr (.o 1) 0 0 0 0, .bool (RS.bad (st k))]), (.o 1, rdB (st k)), (.o 2, .rows 17 k (fun i => SSign.c (el i)) true)] 3 [], [decide ((↑k : Int) < (↑n : Int)) = false, q0, q0, q0, q (RS.bad (st k)), q (List.length (RS.l (st k))), ∀ (k_1 : Nat), k_1 < List.length (RS.l (st k)) → bl (RS.l (st k)) k_1 = bl (RS.l (st k)) k_1, false = true → false = true, q (RS.e (st k)), q2, q k, ∀ (k_1 : Nat), k_1 < k → SSign.c (el k_1) = SSign.c (el k_1), true = false → true = false, q0, q0, q0, q0, q0, q0, q0, q0, q0, q k, (none : Option Nat) = none ∨ (none : Option Nat) = none, q (↑n : Int), q (↑k : Int)]) : Option (Exit × St × List Prop)) := by kernel_rfl
theorem bx_ (most : Int) (n : Nat) (m : Nat) (el : Nat → SEnv) (st : Nat → RS) (s : RS) :
  f4 zp (bk2 most n m el st s) [] = (some (.ros 18 m (fun i => SEnv.c (el i)) false, [(.o 0, .flat [.ptr (.o 1) 0 0 0 0, .bool (RS.bad (st m))]), (.o 1, rdB (st m))], [T zp 25 [.ptr (.o 1) 0 0 0 0, .int .i64 most] [(.o 1, rdB s)] (.int .i64 ↑n) [(.o 1, rdB (st 0))], i5 zp none 2 (cB (cB (cR (cL (cR (f8 (Bd.f (bk2 most n m el st s)))))))) (m + 1) (St.mk (mkT 28 [(0, .ptr (.o 0) 0 0 0 0), (2, .fn (.func (112 : FuncId)) [.ptr (.o 0) 0 0 0 0] []), (6, .sl (.o 2) 18 0 0 0 0 none), (12, .int .i64 ↑n), (13, .int .i64 0)]) [(.o 0, .flat [.ptr (.o 1) 0 0 0 0, .bool (RS.bad (st 0))]), (.o 1, rdB (st 0)), (.o 2, .rows 18 0 (fun i => SEnv.c (el i)) true)] 3 []) (.exit 0) (St.mk (mkT 28 [(0, .ptr (.o 0) 0 0 0 0), (2, .fn (.func (112 : FuncId)) [.ptr (.o 0) 0 0 0 0] []), (6, .sl (.o 2) 18 0 0 0 m none), (12, .int .i64 ↑n), (13, .int .i64 ↑m)]) [(.o 0, .flat [.ptr (.o 1) 0 0 0 0, .bool (RS.bad (st m))]), (.o 1, rdB (st m)), (.o 2, .rows 18 m (fun i => SEnv.c (el i)) true)] 3 []), q0, q0, q0, RS.bad s = RS.bad (st (0 : Nat)), q (List.length (RS.l (st (0 : Nat)))), ∀ (k : Nat), k < List.length (RS.l (st (0 : Nat))) → bl (RS.l (st (0 : Nat))) k = bl (RS.l (st (0 : Nat))) k, false = true → false = true, q (RS.e (st (0 : Nat))), q2, q0, ∀ (k : Nat), k < (0 : Nat) → [] = SEnv.c (el k), true = false → true = false, q0, q0, q0, q0, q0, q0, q0, q0, q0, q0, (none : Option Nat) = none ∨ (none : Option Nat) = none, q (↑n : Int), q1, q0, q0, q0, q (RS.bad (st m)), q (List.length (RS.l (st m))), ∀ (k : Nat), k < List.length (RS.l (st m)) → bl (RS.l (st m)) k = bl (RS.l (st m)) k, false = true → false = true, q (RS.e (st m)), q2, q m, (0 : Nat) + m ≤ m, ∀ (k : Nat), k < m → SEnv.c (el ((0 : Nat) + k)) = SEnv.c (el k), false = true → none = some m]) : Option (V × c5 × List Prop)) := by kernel_rfl
theorem bf5 (n : Nat) (el : Nat → SEnv) (st : Nat → RS) (k : Nat) :
  i6 zp (aT5 n el st k) [true, true] = (some (.exit 0, St.mk (mkT 28 [(0, .ptr (.o 0) 0 0 0 0), (2, .fn (.func (112 : FuncId)) [.ptr (.o 0) 0 0 0 0] []), (6, .sl (.o 2) 18 0 0 0 k none), (12, .int .i64 ↑n), (13, .int .i64 ↑k)]) [(.o 0, .flat [.ptr (.o 1) 0 0 0 0, .bool (RS.bad (st k))]), (.o 1, rdB (st k)), (.o 2, .rows 18 k (fun i => SEnv.c (el i)) true)] 3 [], [decide ((↑k : Int) < (↑n : Int)) = true, T zp 78 [.ptr (.o 1) 0 0 0 0] [(.o 1, rdB (st k))] (.int .i64 (RS.e (st k))) [(.o 1, rdB (st k))], (!decide (RS.e (st k) = (0 : Int))) = true, q0, q0, q0, q (RS.bad (st k)), q (List.length (RS.l (st k))), ∀ (k_1 : Nat), k_1 < List.length (RS.l (st k)) → bl (RS.l (st k)) k_1 = bl (RS.l (st k)) k_1, false = true → false = true, q (RS.e (st k)), q2, q k, ∀ (k_1 : Nat), k_1 < k → SEnv.c (el k_1) = SEnv.c (el k_1), true = false → true = false, q0, q0, q0, q0, q0, q0, q0, q0, q0, q k, (none : Option Nat) = none ∨ (none : Option Nat) = none, q (↑n : Int), q (↑k : Int)]) : Option (Exit × St × List Prop)) := by kernel_rfl
theorem bf4 (n : Nat) (el : Nat → SEnv) (st : Nat → RS) (k : Nat) :
  i6 zp (aT5 n el st k) [true, false] = (some (.normal, St.mk (mkT 28 [(0, .ptr (.o 0) 0 0 0 0), (2, .fn (.func (112 : FuncId)) [.ptr (.o 0) 0 0 0 0] []), (6, .sl (.o 2) 18 0 0 0 (k + 1) none), (12, .int .i64 ↑n), (13, .int .i64 (↑(k + 1) : Int))]) [(.o 0, .flat [.ptr (.o 1) 0 0 0 0, .bool (RS.bad (st (k + 1)))]), (.o 1, rdB (st (k + 1))), (.o 2, .rows 18 (k + 1) (fun i => SEnv.c (el i)) true)] 3 [], [decide ((↑k : Int) < (↑n : Int)) = true, T zp 78 [.ptr (.o 1) 0 0 0 0] [(.o 1, rdB (st k))] (.int .i64 (RS.e (st k))) [(.o 1, rdB (st k))], (!decide (RS.e (st k) = (0 : Int))) = false, T zp (112 : FuncId) [.ptr (.o 0) 0 0 0 0] [(.o 0, .flat [.ptr (.o 1) 0 0 0 0, .bool (RS.bad (st k))]), (.o 1, rdB (st k))] (.agg (SEnv.c (el k))) [(.o 0, .flat [.ptr (.o 1) 0 0 0 0, .bool (RS.bad (st (k + 1)))]), (.o 1, rdB (st (k + 1)))], q k, 1 ≤ (1 : Nat), ∀ (k_1 : Nat), k_1 < (1 : Nat) → s6 (j4 [(SEnv.c (el k))] ((0 : Nat) + k_1)) = true, (k + (1 : Nat)) * (40 : Nat) ≤ (140737488355328 : Nat), InR .i64 ((↑k : Int) + (1 : Int)), q0, q0, q0, q (RS.bad (st (k + (1 : Nat)))), q (List.length (RS.l (st (k + (1 : Nat))))), ∀ (k_1 : Nat), k_1 < List.length (RS.l (st (k + (1 : Nat)))) → bl (RS.l (st (k + (1 : Nat)))) k_1 = bl (RS.l (st (k + (1 : Nat)))) k_1, false = true → false = true, q (RS.e (st (k + (1 : Nat)))), q2, q (k + (1 : Nat)), ∀ (k_1 : Nat), k_1 < k + (1 : Nat) → r6 k (fun i => SEnv.c (el i)) (fun k_2 => j4 [(SEnv.c (el k))] ((0 : Nat) + k_2)) k_1 = SEnv.c (el k_1), true = false → true = false, q0, q0, q0, q0, q0, q0, q0, q0, q0, q (k + (1 : Nat)), (none : Option Nat) = none ∨ (none : Option Nat) = none, q (↑n : Int), (↑k : Int) + (1 : Int) = (↑(k + (1 : Nat)) : Int)]) : Option (Exit × St × List Prop)) := by kernel_rfl
theorem aI5 (n : Nat) (el : Nat → SEnv) (st : Nat → RS) (k : Nat) :
  i6 zp (aT5 n el st k) [false] = (some (.exit 0, St.mk (mkT 28 [(0, .ptr (.o 0) 0 0 0 0), (2, .fn (.func (112 : FuncId)) [.ptr (.o 0) 0 0 0 0] []), (6, .sl (.o 2) 18 0 0 0 k none), (12, .int .i64 ↑n), (13, .int .i64 ↑k)]) [(.o 0, .flat [.ptr (.o 1) 0 0 0 0, .bool (RS.bad (st k))]), (.o 1, rdB (st k)), (.o 2, .rows 18 k (fun i => SEnv.c (el i)) true)] 3 [], [decide ((↑k : Int) < (↑n : Int)) = false, q0, q0, q0, q (RS.bad (st k)), q (List.length (RS.l (st k))), ∀ (k_1 : Nat), k_1 < List.length (RS.l (st k)) → bl (RS.l (st k)) k_1 = bl (RS.l (st k)) k_1, false = true → false = true, q (RS.e (st k)), q2, q k, ∀ (k_1 : Nat), k_1 < k → SEnv.c (el k_1) = SEnv.c (el k_1), true = false → true = false, q0, q0, q0, q0, q0, q0, q0, q0, q0, q k, (none : Option Nat) = none ∨ (none : Option Nat) = none, q (↑n : Int), q (↑k : Int)]) : Option (Exit × St × List Prop)) := by kernel_rfl
theorem bx9 (most : Int) (n : Nat) (m : Nat) (el : Nat → SHeld) (st : Nat → RS) (s : RS) :
  f4 zp (bk1 most n m el st s) [] = (some (.ros 39 m (fun i => SHeld.c (el i)) false, [(.o 0, .flat [.ptr (.o 1) 0 0 0 0, .bool (RS.bad (st m))]), (.o 1, rdB (st m))], [T zp 25 [.ptr (.o 1) 0 0 0 0, .int .i64 most] [(.o 1, rdB s)] (.int .i64 ↑n) [(.o 1, rdB (st 0))], i5 zp none 2 (cB (cB (cR (cL (cR (f8 (Bd.f (bk1 most n m el st s)))))))) (m + 1) (St.mk (mkT 28 [(0, .ptr (.o 0) 0 0 0 0), (2, .fn (.func (110 : FuncId)) [.ptr (.o 0) 0 0 0 0] []), (6, .sl (.o 2) 39 0 0 0 0 none), (12, .int .i64 ↑n), (13, .int .i64 0)]) [(.o 0, .flat [.ptr (.o 1) 0 0 0 0, .bool (RS.bad (st 0))]), (.o 1, rdB (st 0)), (.o 2, .rows 39 0 (fun i => SHeld.c (el i)) true)] 3 []) (.exit 0) (St.mk (mkT 28 [(0, .ptr (.o 0) 0 0 0 0), (2, .fn (.func (110 : FuncId)) [.ptr (.o 0) 0 0 0 0] []), (6, .sl (.o 2) 39 0 0 0 m none), (12, .int .i64 ↑n), (13, .int .i64 ↑m)]) [(.o 0, .flat [.ptr (.o 1) 0 0 0 0, .bool (RS.bad (st m))]), (.o 1, rdB (st m)), (.o 2, .rows 39 m (fun i => SHeld.c (el i)) true)] 3 []), q0, q0, q0, RS.bad s = RS.bad (st (0 : Nat)), q (List.length (RS.l (st (0 : Nat)))), ∀ (k : Nat), k < List.length (RS.l (st (0 : Nat))) → bl (RS.l (st (0 : Nat))) k = bl (RS.l (st (0 : Nat))) k, false = true → false = true, q (RS.e (st (0 : Nat))), q2, q0, ∀ (k : Nat), k < (0 : Nat) → [] = SHeld.c (el k), true = false → true = false, q0, q0, q0, q0, q0, q0, q0, q0, q0, q0, (none : Option Nat) = none ∨ (none : Option Nat) = none, q (↑n : Int), q1, q0, q0, q0, q (RS.bad (st m)), q (List.length (RS.l (st m))), ∀ (k : Nat), k < List.length (RS.l (st m)) → bl (RS.l (st m)) k = bl (RS.l (st m)) k, false = true → false = true, q (RS.e (st m)), q2, q m, (0 : Nat) + m ≤ m, ∀ (k : Nat), k < m → SHeld.c (el ((0 : Nat) + k)) = SHeld.c (el k), false = true → none = some m]) : Option (V × c5 × List Prop)) := by kernel_rfl
theorem bf3 (n : Nat) (el : Nat → SHeld) (st : Nat → RS) (k : Nat) :
  i6 zp (aT4 n el st k) [true, true] = (some (.exit 0, St.mk (mkT 28 [(0, .ptr (.o 0) 0 0 0 0), (2, .fn (.func (110 : FuncId)) [.ptr (.o 0) 0 0 0 0] []), (6, .sl (.o 2) 39 0 0 0 k none), (12, .int .i64 ↑n), (13, .int .i64 ↑k)]) [(.o 0, .flat [.ptr (.o 1) 0 0 0 0, .bool (RS.bad (st k))]), (.o 1, rdB (st k)), (.o 2, .rows 39 k (fun i => SHeld.c (el i)) true)] 3 [], [decide ((↑k : Int) < (↑n : Int)) = true, T zp 78 [.ptr (.o 1) 0 0 0 0] [(.o 1, rdB (st k))] (.int .i64 (RS.e (st k))) [(.o 1, rdB (st k))], (!decide (RS.e (st k) = (0 : Int))) = true, q0, q0, q0, q (RS.bad (st k)), q (List.length (RS.l (st k))), ∀ (k_1 : Nat), k_1 < List.length (RS.l (st k)) → bl (RS.l (st k)) k_1 = bl (RS.l (st k)) k_1, false = true → false = true, q (RS.e (st k)), q2, q k, ∀ (k_1 : Nat), k_1 < k → SHeld.c (el k_1) = SHeld.c (el k_1), true = false → true = false, q0, q0, q0, q0, q0, q0, q0, q0, q0, q k, (none : Option Nat) = none ∨ (none : Option Nat) = none, q (↑n : Int), q (↑k : Int)]) : Option (Exit × St × List Prop)) := by kernel_rfl
theorem bf2 (n : Nat) (el : Nat → SHeld) (st : Nat → RS) (k : Nat) :
  i6 zp (aT4 n el st k) [true, false] = (some (.normal, St.mk (mkT 28 [(0, .ptr (.o 0) 0 0 0 0), (2, .fn (.func (110 : FuncId)) [.ptr (.o 0) 0 0 0 0] []), (6, .sl (.o 2) 39 0 0 0 (k + 1) none), (12, .int .i64 ↑n), (13, .int .i64 (↑(k + 1) : Int))]) [(.o 0, .flat [.ptr (.o 1) 0 0 0 0, .bool (RS.bad (st (k + 1)))]), (.o 1, rdB (st (k + 1))), (.o 2, .rows 39 (k + 1) (fun i => SHeld.c (el i)) true)] 3 [], [decide ((↑k : Int) < (↑n : Int)) = true, T zp 78 [.ptr (.o 1) 0 0 0 0] [(.o 1, rdB (st k))] (.int .i64 (RS.e (st k))) [(.o 1, rdB (st k))], (!decide (RS.e (st k) = (0 : Int))) = false, T zp (110 : FuncId) [.ptr (.o 0) 0 0 0 0] [(.o 0, .flat [.ptr (.o 1) 0 0 0 0, .bool (RS.bad (st k))]), (.o 1, rdB (st k))] (.agg (SHeld.c (el k))) [(.o 0, .flat [.ptr (.o 1) 0 0 0 0, .bool (RS.bad (st (k + 1)))]), (.o 1, rdB (st (k + 1)))], q k, 1 ≤ (1 : Nat), ∀ (k_1 : Nat), k_1 < (1 : Nat) → s6 (j4 [[V.bool (SBatch.noop (SHeld.batch (el k))), rq (SBatch.n (SHeld.batch (el k))) (SBatch.req (SHeld.batch (el k))), V.int .i64 (SVote.kind (SCert.vote (SHeld.cert (el k)))), V.int .i64 (SVote.epoch (SCert.vote (SHeld.cert (el k)))), V.int .i64 (SVote.view (SCert.vote (SHeld.cert (el k)))), V.int .i64 (SVote.slot (SCert.vote (SHeld.cert (el k)))), V.seg .u8 (32 : Nat) (SVote.digest (SCert.vote (SHeld.cert (el k)))), sg (SCert.n (SHeld.cert (el k))) (SCert.sig (SHeld.cert (el k)))]] ((0 : Nat) + k_1)) = true, (k + (1 : Nat)) * (120 : Nat) ≤ (140737488355328 : Nat), InR .i64 ((↑k : Int) + (1 : Int)), q0, q0, q0, q (RS.bad (st (k + (1 : Nat)))), q (List.length (RS.l (st (k + (1 : Nat))))), ∀ (k_1 : Nat), k_1 < List.length (RS.l (st (k + (1 : Nat)))) → bl (RS.l (st (k + (1 : Nat)))) k_1 = bl (RS.l (st (k + (1 : Nat)))) k_1, false = true → false = true, q (RS.e (st (k + (1 : Nat)))), q2, q (k + (1 : Nat)), ∀ (k_1 : Nat), k_1 < k + (1 : Nat) → r6 k (fun i => SHeld.c (el i)) (fun k_2 => j4 [[V.bool (SBatch.noop (SHeld.batch (el k))), rq (SBatch.n (SHeld.batch (el k))) (SBatch.req (SHeld.batch (el k))), V.int .i64 (SVote.kind (SCert.vote (SHeld.cert (el k)))), V.int .i64 (SVote.epoch (SCert.vote (SHeld.cert (el k)))), V.int .i64 (SVote.view (SCert.vote (SHeld.cert (el k)))), V.int .i64 (SVote.slot (SCert.vote (SHeld.cert (el k)))), V.seg .u8 (32 : Nat) (SVote.digest (SCert.vote (SHeld.cert (el k)))), sg (SCert.n (SHeld.cert (el k))) (SCert.sig (SHeld.cert (el k)))]] ((0 : Nat) + k_2)) k_1 = SHeld.c (el k_1), true = false → true = false, q0, q0, q0, q0, q0, q0, q0, q0, q0, q (k + (1 : Nat)), (none : Option Nat) = none ∨ (none : Option Nat) = none, q (↑n : Int), (↑k : Int) + (1 : Int) = (↑(k + (1 : Nat)) : Int)]) : Option (Exit × St × List Prop)) := by kernel_rfl
theorem aI4 (n : Nat) (el : Nat → SHeld) (st : Nat → RS) (k : Nat) :
  i6 zp (aT4 n el st k) [false] = (some (.exit 0, St.mk (mkT 28 [(0, .ptr (.o 0) 0 0 0 0), (2, .fn (.func (110 : FuncId)) [.ptr (.o 0) 0 0 0 0] []), (6, .sl (.o 2) 39 0 0 0 k none), (12, .int .i64 ↑n), (13, .int .i64 ↑k)]) [(.o 0, .flat [.ptr (.o 1) 0 0 0 0, .bool (RS.bad (st k))]), (.o 1, rdB (st k)), (.o 2, .rows 39 k (fun i => SHeld.c (el i)) true)] 3 [], [decide ((↑k : Int) < (↑n : Int)) = false, q0, q0, q0, q (RS.bad (st k)), q (List.length (RS.l (st k))), ∀ (k_1 : Nat), k_1 < List.length (RS.l (st k)) → bl (RS.l (st k)) k_1 = bl (RS.l (st k)) k_1, false = true → false = true, q (RS.e (st k)), q2, q k, ∀ (k_1 : Nat), k_1 < k → SHeld.c (el k_1) = SHeld.c (el k_1), true = false → true = false, q0, q0, q0, q0, q0, q0, q0, q0, q0, q k, (none : Option Nat) = none ∨ (none : Option Nat) = none, q (↑n : Int), q (↑k : Int)]) : Option (Exit × St × List Prop)) := by kernel_rfl
theorem ar4 {α : Type} (one : RS → α × RS) : ∀ n s, V8 one n s ≤ n
 | 0, _ => Nat.le_refl _
 | n + 1, s => by
  unfold V8
  split
  ·have := ar4 one n (one s).2; omega
  ·omega
theorem X4 {α : Type} (one : RS → α × RS) (s : RS) : ∀ k, stR one (one s).2 k = stR one s (k + 1)
 | 0 => rfl
 | k + 1 => by show (one (stR one (one s).2 k)).2 = _; rw [X4 one s k]; rfl
theorem ar5 {α : Type} (one : RS → α × RS) : ∀ n s k, k < V8 one n s → (stR one s k).e = 0
 | 0, _, k, h => absurd h (Nat.not_lt_zero k)
 | n + 1, s, k, h => by
  unfold V8 at h
  split at h
  ·rename_i h1
   cases k with
   | zero => exact h1
   | succ k => rw [← X4]; exact ar5 one n _ k (by omega)
  ·omega
theorem ab8 {α : Type} (one : RS → α × RS) : ∀ n s, V8 one n s = n ∨ (stR one s (V8 one n s)).e ≠ 0
 | 0, _ => .inl rfl
 | n + 1, s => by
  unfold V8
  split
  ·rcases ab8 one n (one s).2 with h | h
   ·exact .inl (by omega)
   ·rw [X4] at h; exact .inr h
  ·exact .inr ‹_›
theorem aj1 {α : Type} {one : RS → α × RS} (h : ∀ s, Aft s (one s).2) (s : RS) : ∀ k, Aft s (stR one s k)
 | 0 => Aft.refl s
 | k + 1 => (aj1 h s k).trans (h _)
theorem bE3 {z : Int} (h : 0 ≤ z) : ((z.toNat : Nat) : Int) = z := Int.toNat_of_nonneg h
theorem aF2 {c : Nat → List V} {k : Nat} : ∀ j, j < k + 1 → r6 k c (fun q => j4 [c k] (0 + q)) j = c j := by
 intro j hj
 unfold r6
 cases hb : Nat.blt j k
 ·have h1 : k ≤ j := by
   rcases Nat.lt_or_ge j k with h2 | h2
   ·rw [← Nat.blt_eq] at h2; rw [h2] at hb; cases hb
   ·exact h2
  have e : j = k := by omega
  subst e
  simp [j4]
 ·rfl
theorem cc7 {most : Int} (hm : 0 ≤ most ∧ most ≤ 1000) (s : RS) (hl : s.l.length ≤ 1000000000) {el : Nat → SSign} {st : Nat → RS} (h0 : st 0 = (f1 most s).2) (hs : ∀ k, k < (f1 most s).1.toNat → (st k).l.length ≤ 1000000000 → T Tryz.prog 116 [p0] (mrH 0 1 (st k)) (.agg (el k).c) (mrH 0 1 (st (k + 1)))) (hle : ∀ k, (st k).l.length ≤ 1000000000) {m : Nat} (hmn : m ≤ (f1 most s).1.toNat) (hz : ∀ k, k < m → (st k).e = 0) (hend : m = (f1 most s).1.toNat ∨ (st m).e ≠ 0) :
  T Tryz.prog 115 [p0, .int .i64 most, .fn (.func 116) [p0] []] (mrH 0 1 s) (.ros 17 m (fun i => (el i).c) false) (mrH 0 1 (st m)) := by
 have hr := E4 hm.1 s
 have hn := bE3 hr.1
 have hT := A6 1 most s
 rw [← hn] at hT
 rw [← h0] at hT
 have hn64 : (f1 most s).1.toNat ≤ 1000 := by omega
 have hb0 : (st 0).bad = s.bad := by rw [h0]; exact (i9 most s).2.1
 refine f5 (by0 most (f1 most s).1.toNat m el st s) Tryz.func115 ?_
 have hL : i5 Tryz.prog none 2 (cB (cB (cR (cL (cR (f8 Tryz.f115)))))) (m + 1) (af_ (f1 most s).1.toNat el st 0) (.exit 0) (af_ (f1 most s).1.toNat el st m) := by
  refine i5.inv (af_ (f1 most s).1.toNat el st) m (fun k hk => ?_) ?_ (by simp)
  ·refine f9 NG MO _ (bf6 (f1 most s).1.toNat el st k) ?_ (show 2 ≤ 3 by decide)
   simp only [All, Int.toNat_natCast]; and_intros
   all_goals first | exact E8 1 _ | exact hs k (by omega) (hle k) | exact aF2 | (rw [decide_eq_true_eq]; omega) | (simp [hz k hk]; done) | omega | (intro j hj; rw [show j = 0 by omega]; rfl) | (simp [IntKind.min, IntKind.max, IntKind.signed, IntKind.bits] <;> omega)
  ·rcases hend with he | he
   ·refine f9 NG MO _ (aI6 (f1 most s).1.toNat el st m) ?_ (show 2 ≤ 3 by decide)
    simp only [All, Int.toNat_natCast]; and_intros
    all_goals first | (rw [decide_eq_false_iff_not]; omega) | trivial | (simp; done)
   ·by_cases he2 : m = (f1 most s).1.toNat
    ·refine f9 NG MO _ (aI6 (f1 most s).1.toNat el st m) ?_ (show 2 ≤ 3 by decide)
     simp only [All, Int.toNat_natCast]; and_intros
     all_goals first | (rw [decide_eq_false_iff_not]; omega) | trivial | (simp; done)
    ·refine f9 NG MO _ (bf7 (f1 most s).1.toNat el st m) ?_ (show 2 ≤ 3 by decide)
     simp only [All, Int.toNat_natCast]; and_intros
     all_goals first | exact E8 1 _ | (rw [decide_eq_true_eq]; omega) | (simp [he]; done)
 simp only [All, Int.toNat_natCast]; and_intros
 all_goals first | exact hT | exact hL | exact hb0.symm | omega | trivial | (simp; done)
theorem cc6 {most : Int} (hm : 0 ≤ most ∧ most ≤ 1000) (s : RS) (hl : s.l.length ≤ 1000000000) {el : Nat → SEnv} {st : Nat → RS} (h0 : st 0 = (f1 most s).2) (hs : ∀ k, k < (f1 most s).1.toNat → (st k).l.length ≤ 1000000000 → T Tryz.prog 112 [p0] (mrH 0 1 (st k)) (.agg (el k).c) (mrH 0 1 (st (k + 1)))) (hle : ∀ k, (st k).l.length ≤ 1000000000) {m : Nat} (hmn : m ≤ (f1 most s).1.toNat) (hz : ∀ k, k < m → (st k).e = 0) (hend : m = (f1 most s).1.toNat ∨ (st m).e ≠ 0) :
  T Tryz.prog 111 [p0, .int .i64 most, .fn (.func 112) [p0] []] (mrH 0 1 s) (.ros 18 m (fun i => (el i).c) false) (mrH 0 1 (st m)) := by
 have hr := E4 hm.1 s
 have hn := bE3 hr.1
 have hT := A6 1 most s
 rw [← hn] at hT
 rw [← h0] at hT
 have hn64 : (f1 most s).1.toNat ≤ 1000 := by omega
 have hb0 : (st 0).bad = s.bad := by rw [h0]; exact (i9 most s).2.1
 refine f5 (bx_ most (f1 most s).1.toNat m el st s) Tryz.func111 ?_
 have hL : i5 Tryz.prog none 2 (cB (cB (cR (cL (cR (f8 Tryz.f111)))))) (m + 1) (af9 (f1 most s).1.toNat el st 0) (.exit 0) (af9 (f1 most s).1.toNat el st m) := by
  refine i5.inv (af9 (f1 most s).1.toNat el st) m (fun k hk => ?_) ?_ (by simp)
  ·refine f9 NG MO _ (bf4 (f1 most s).1.toNat el st k) ?_ (show 2 ≤ 3 by decide)
   simp only [All, Int.toNat_natCast]; and_intros
   all_goals first | exact E8 1 _ | exact hs k (by omega) (hle k) | exact aF2 | (rw [decide_eq_true_eq]; omega) | (simp [hz k hk]; done) | omega | (intro j hj; rw [show j = 0 by omega]; rfl) | (simp [IntKind.min, IntKind.max, IntKind.signed, IntKind.bits] <;> omega)
  ·rcases hend with he | he
   ·refine f9 NG MO _ (aI5 (f1 most s).1.toNat el st m) ?_ (show 2 ≤ 3 by decide)
    simp only [All, Int.toNat_natCast]; and_intros
    all_goals first | (rw [decide_eq_false_iff_not]; omega) | trivial | (simp; done)
   ·by_cases he2 : m = (f1 most s).1.toNat
    ·refine f9 NG MO _ (aI5 (f1 most s).1.toNat el st m) ?_ (show 2 ≤ 3 by decide)
     simp only [All, Int.toNat_natCast]; and_intros
     all_goals first | (rw [decide_eq_false_iff_not]; omega) | trivial | (simp; done)
    ·refine f9 NG MO _ (bf5 (f1 most s).1.toNat el st m) ?_ (show 2 ≤ 3 by decide)
     simp only [All, Int.toNat_natCast]; and_intros
     all_goals first | exact E8 1 _ | (rw [decide_eq_true_eq]; omega) | (simp [he]; done)
 simp only [All, Int.toNat_natCast]; and_intros
 all_goals first | exact hT | exact hL | exact hb0.symm | omega | trivial | (simp; done)
theorem cc5 {most : Int} (hm : 0 ≤ most ∧ most ≤ 1000) (s : RS) (hl : s.l.length ≤ 1000000000) {el : Nat → SHeld} {st : Nat → RS} (h0 : st 0 = (f1 most s).2) (hs : ∀ k, k < (f1 most s).1.toNat → (st k).l.length ≤ 1000000000 → T Tryz.prog 110 [p0] (mrH 0 1 (st k)) (.agg (el k).c) (mrH 0 1 (st (k + 1)))) (hle : ∀ k, (st k).l.length ≤ 1000000000) {m : Nat} (hmn : m ≤ (f1 most s).1.toNat) (hz : ∀ k, k < m → (st k).e = 0) (hend : m = (f1 most s).1.toNat ∨ (st m).e ≠ 0) :
  T Tryz.prog 109 [p0, .int .i64 most, .fn (.func 110) [p0] []] (mrH 0 1 s) (.ros 39 m (fun i => (el i).c) false) (mrH 0 1 (st m)) := by
 have hr := E4 hm.1 s
 have hn := bE3 hr.1
 have hT := A6 1 most s
 rw [← hn] at hT
 rw [← h0] at hT
 have hn64 : (f1 most s).1.toNat ≤ 1000 := by omega
 have hb0 : (st 0).bad = s.bad := by rw [h0]; exact (i9 most s).2.1
 refine f5 (bx9 most (f1 most s).1.toNat m el st s) Tryz.func109 ?_
 have hL : i5 Tryz.prog none 2 (cB (cB (cR (cL (cR (f8 Tryz.f109)))))) (m + 1) (af8 (f1 most s).1.toNat el st 0) (.exit 0) (af8 (f1 most s).1.toNat el st m) := by
  refine i5.inv (af8 (f1 most s).1.toNat el st) m (fun k hk => ?_) ?_ (by simp)
  ·refine f9 NG MO _ (bf2 (f1 most s).1.toNat el st k) ?_ (show 2 ≤ 3 by decide)
   simp only [All, Int.toNat_natCast]; and_intros
   all_goals first | exact E8 1 _ | exact hs k (by omega) (hle k) | exact aF2 | (rw [decide_eq_true_eq]; omega) | (simp [hz k hk]; done) | omega | (intro j hj; rw [show j = 0 by omega]; rfl) | (simp [IntKind.min, IntKind.max, IntKind.signed, IntKind.bits] <;> omega)
  ·rcases hend with he | he
   ·refine f9 NG MO _ (aI4 (f1 most s).1.toNat el st m) ?_ (show 2 ≤ 3 by decide)
    simp only [All, Int.toNat_natCast]; and_intros
    all_goals first | (rw [decide_eq_false_iff_not]; omega) | trivial | (simp; done)
   ·by_cases he2 : m = (f1 most s).1.toNat
    ·refine f9 NG MO _ (aI4 (f1 most s).1.toNat el st m) ?_ (show 2 ≤ 3 by decide)
     simp only [All, Int.toNat_natCast]; and_intros
     all_goals first | (rw [decide_eq_false_iff_not]; omega) | trivial | (simp; done)
    ·refine f9 NG MO _ (bf3 (f1 most s).1.toNat el st m) ?_ (show 2 ≤ 3 by decide)
     simp only [All, Int.toNat_natCast]; and_intros
     all_goals first | exact E8 1 _ | (rw [decide_eq_true_eq]; omega) | (simp [he]; done)
 simp only [All, Int.toNat_natCast]; and_intros
 all_goals first | exact hT | exact hL | exact hb0.symm | omega | trivial | (simp; done)
def A3 {α : Type} (one : RS → α × RS) (most : Int) (s : RS) : Nat := V8 one (f1 most s).1.toNat (f1 most s).2
def C4 {α : Type} (one : RS → α × RS) (most : Int) (s : RS) (i : Nat) : α := (one (stR one (f1 most s).2 i)).1
def O9 {α : Type} (one : RS → α × RS) (most : Int) (s : RS) : RS := stR one (f1 most s).2 (A3 one most s)
def G4 (s : RS) : SCert × RS := ({ vote := (z9 s).1, n := A3 w4 64 (z9 s).2, sig := C4 w4 64 (z9 s).2 }, O9 w4 64 (z9 s).2)
def B8 (s : RS) : SHeld × RS := ({ batch := (l7 s).1, cert := (G4 (l7 s).2).1 }, (G4 (l7 s).2).2)
noncomputable def cu2 (s s1 s2 : RS) (v : SVote) (n : Nat) (g : Nat → SSign) : Bd := aj8 Tryz.f114 [] s [(108, 2, cMr (.agg v.c) s1), (115, 6, cMr (sg n g) s2)] (v.c ++ [sg n g]) s2
noncomputable def cv0 (s s1 s2 : RS) (b : SBatch) (c : SCert) : Bd := aj8 Tryz.f110 [] s [(107, 5, cRd (.agg b.c) s1), (114, 7, cMr (.agg c.c) s2)] (b.c ++ c.c) s2
def n012 : St → List Nm := fun _ => [.o 0, .o 1, .o 2]
noncomputable def aj7 (m m' : SMsg) (s s' : RS) (db : List (Nat × Nat × (List V → c5 → Nat → List Cl))) : Bd := { f := Tryz.f84, args := [p0, .ptr (.o 2) 0 0 0 0], pre := mrH 0 1 s ++ [(.o 2, .flat m.c)], base := 3, kb := { db := ai4 3 db }, names := n012, k := fun _ t => some ⟨[], [], Q3 (mrH 0 1 s' ++ [(.o 2, .flat m'.c)]), none, t.next⟩ }
def M8 (s : RS) : RS := (f1 1048576 s).2
def O4 (s : RS) : RS := (f1 1099511627776 (M8 s)).2
def av2 (s : RS) : RS := (l7 (O4 s)).2
def R1 (m : SMsg) (s : RS) : SMsg × RS := ({ m with epoch := (f1 1048576 s).1, slot := (f1 1099511627776 (M8 s)).1, batch := (l7 (O4 s)).1 }, av2 s)
noncomputable def bdF1 (m : SMsg) (s t1 t2 t3 : RS) (x0 : Int) (x1 : Int) (x2 : SBatch) : Bd := aj7 m { m with epoch := x0, slot := x1, batch := x2 } s t3 [(25, 12, cRd (.int .i64 x0) t1), (25, 17, cRd (.int .i64 x1) t2), (107, 29, cRd (.agg x2.c) t3)]
def aF6 (s : RS) : RS := (z9 s).2
def R2 (m : SMsg) (s : RS) : SMsg × RS := ({ m with vote := (z9 s).1 }, aF6 s)
noncomputable def bdF2 (m : SMsg) (s t1 : RS) (x0 : SVote) : Bd := aj7 m { m with vote := x0 } s t1 [(108, 10, cMr (.agg x0.c) t1)]
def M9 (s : RS) : RS := (f1 1048576 s).2
def O5 (s : RS) : RS := (f1 64 (M9 s)).2
def G8 (s : RS) : RS := (f1 1099511627776 (O5 s)).2
def aR2 (s : RS) : RS := O9 B8 4 (G8 s)
def R3 (m : SMsg) (s : RS) : SMsg × RS := ({ m with cepoch := (f1 1048576 s).1, cleader := (f1 64 (M9 s)).1, cview := (f1 1099511627776 (O5 s)).1, nheld := A3 B8 4 (G8 s), held := C4 B8 4 (G8 s) }, aR2 s)
noncomputable def bdF3 (m : SMsg) (s t1 t2 t3 t4 : RS) (n : Nat) (x0 : Int) (x1 : Int) (x2 : Int) (x3 : Nat → SHeld) : Bd := aj7 m { m with cepoch := x0, cleader := x1, cview := x2, nheld := n, held := x3 } s t4 [(25, 17, cRd (.int .i64 x0) t1), (25, 22, cRd (.int .i64 x1) t2), (25, 27, cRd (.int .i64 x2) t3), (109, 44, cMr (hl n x3) t4)]
def N0 (s : RS) : RS := (f1 1048576 s).2
def O6 (s : RS) : RS := (f1 64 (N0 s)).2
def G9 (s : RS) : RS := (f1 1099511627776 (O6 s)).2
def aR3 (s : RS) : RS := O9 E0 64 (G9 s)
def R4 (m : SMsg) (s : RS) : SMsg × RS := ({ m with epoch := (f1 1048576 s).1, leader := (f1 64 (N0 s)).1, view := (f1 1099511627776 (O6 s)).1, nnews := A3 E0 64 (G9 s), news := C4 E0 64 (G9 s) }, aR3 s)
noncomputable def bdF4 (m : SMsg) (s t1 t2 t3 t4 : RS) (n : Nat) (x0 : Int) (x1 : Int) (x2 : Int) (x3 : Nat → SEnv) : Bd := aj7 m { m with epoch := x0, leader := x1, view := x2, nnews := n, news := x3 } s t4 [(25, 19, cRd (.int .i64 x0) t1), (25, 24, cRd (.int .i64 x1) t2), (25, 29, cRd (.int .i64 x2) t3), (111, 43, cMr (nw n x3) t4)]
def O7 (s : RS) : RS := (f1 1048576 s).2
def aR4 (s : RS) : RS := (J3 (O7 s)).2
def R5 (m : SMsg) (s : RS) : SMsg × RS := ({ m with epoch := (f1 1048576 s).1, digest := (J3 (O7 s)).1 }, aR4 s)
noncomputable def bdF5 (m : SMsg) (s t1 t2 : RS) (x0 : Int) (x1 : List Int) : Bd := aj7 m { m with epoch := x0, digest := x1 } s t2 [(25, 19, cRd (.int .i64 x0) t1), (113, 25, cMr (.agg [.seg .u8 32 x1]) t2)]
def N1 (s : RS) : RS := (f1 1048576 s).2
def av3 (s : RS) : RS := (f1 1099511627776 (N1 s)).2
def R6 (m : SMsg) (s : RS) : SMsg × RS := ({ m with epoch := (f1 1048576 s).1, slot := (f1 1099511627776 (N1 s)).1 }, av3 s)
noncomputable def bdF6 (m : SMsg) (s t1 t2 : RS) (x0 : Int) (x1 : Int) : Bd := aj7 m { m with epoch := x0, slot := x1 } s t2 [(25, 22, cRd (.int .i64 x0) t1), (25, 27, cRd (.int .i64 x1) t2)]
def O8 (s : RS) : RS := (l7 s).2
def aR5 (s : RS) : RS := (G4 (O8 s)).2
def R7 (m : SMsg) (s : RS) : SMsg × RS := ({ m with batch := (l7 s).1, cert := (G4 (O8 s)).1 }, aR5 s)
noncomputable def bdF7 (m : SMsg) (s t1 t2 : RS) (x0 : SBatch) (x1 : SCert) : Bd := aj7 m { m with batch := x0, cert := x1 } s t2 [(107, 23, cRd (.agg x0.c) t1), (114, 29, cMr (.agg x1.c) t2)]
def F8 (s : RS) : RS := (v6 4194304 s).2
def aR6 (s : RS) : RS := O9 w4 64 (F8 s)
def R8 (m : SMsg) (s : RS) : SMsg × RS := ({ m with state := (v6 4194304 s).1, n := A3 w4 64 (F8 s), sig := C4 w4 64 (F8 s) }, aR6 s)
noncomputable def bdF8 (m : SMsg) (s t1 t2 : RS) (n : Nat) (x0 : ByteArray) (x1 : Nat → SSign) : Bd := aj7 m { m with state := x0, n := n, sig := x1 } s t2 [(26, 25, cRd (.str x0) t1), (115, 33, cMr (sg n x1) t2)]
noncomputable def bdF9 (m : SMsg) (s : RS) : Bd := aj7 m m s s []
def j9 (m : SMsg) (s : RS) : SMsg × RS :=
 if m.kind = 1 then R1 m s else if m.kind = 2 then R2 m s else if m.kind = 3 then R3 m s else if m.kind = 4 then R4 m s else if m.kind = 5 then R5 m s else if m.kind = 6 then R6 m s else if m.kind = 7 then R7 m s else if m.kind = 8 then R8 m s else (m, s)
end Go.Proofs.YtnmccoincblecaaGreat
