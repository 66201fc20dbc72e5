/-
  Contracts and laws that the claim's theorem leans on, joined out of the texts Tb0D Tb0 Tb1D Tb1 Tb2D Tb2 Tb3D (own work of this seat): Contracts: what is read of bytes; Contracts: what is read of bytes; Contracts: the message's reader: digests, tags, signs, envelopes, votes; Contracts: the message's reader: digests, tags, signs, envelopes, votes; Contracts: lists, certs and what was held are read; Contracts: lists, certs and what was held are read; Contracts: certs, what was held and a message's fields are read.
-/
import Derived.Test.YtnmccoincblecaaGreatC05
set_option linter.unusedVariables false
set_option linter.unusedSimpArgs false
set_option maxHeartbeats 1000000
namespace Go.Proofs.YtnmccoincblecaaGreat
open Go Sy Go.Proofs
def A1 (l : List UInt8) : List Int := l.map fun x => (x.toNat : Int)
def Q6 (s : RS) : RS := (c6 8 s).2
def Q7 (s : RS) : RS := (c6 1099511627776 (Q6 s)).2
def F5 (s : RS) : RS := (r6 64 (Q7 s)).2
def H4 (s : RS) : RS := (j1 16 (F5 s)).2
def au5 (s : RS) : SReq := { client := (c6 8 s).1, num := (c6 1099511627776 (Q6 s)).1, data := (r6 64 (Q7 s)).1, tag := A1 (j1 16 (F5 s)).1 }
def K8 : SReq := { data := baL [], tag := z16 }
def i3 (s : RS) : SReq × RS := (if (H4 s).e = 0 then au5 s else K8, H4 s)
def itR {α : Type} (one : RS → α × RS) : Nat → RS → List α × RS
 | 0, s => ([], s)
 | k + 1, s => ((one s).1 :: (itR one k (one s).2).1, (itR one k (one s).2).2)
def v8 (s : RS) : List SReq × RS := itR i3 ((c6 5 s).1.toNat - 1) (c6 5 s).2
def B8 (b : Bool) (l : List SReq) : SBatch := { noop := b, n := l.length, req := fun i => l.getD i K8 }
def j5 (s : RS) : SBatch × RS := (if (v8 s).2.e = 0 then B8 (decide ((c6 5 s).1 = 0)) (v8 s).1 else {}, (v8 s).2)
def aC5 (l : List (V × RS)) : List V → c5 → Nat → List Cl := fun args _ _ => match args with
 | .ptr a _ _ _ _ :: _ => l.map fun q => { pre := [a], val := q.1, post := [(a, rdB q.2)] }
 | _ => []
def ap9 (cs : List V) (hs : c5) : Exit → St → Option W := fun _ st => match m6 st.tmps 2 with
 | .ptr a _ _ _ _ => some ⟨[], [(2, .set (.ptr a 0 0 0 0))], I2 hs ++ [(a, .set (.flat cs))], none, st.next⟩
 | _ => none
def aq5 (n : Nat) (xs : List UInt8) (s : RS) : List (V × RS) := [(.ros 1 n (bl xs) false, s), (.ros 1 0 (bl []) false, s)]
noncomputable def aY_ (s s1 s2 s3 s4 : RS) (a b : Int) (d : ByteArray) (xs : List UInt8) (r : SReq) : Bd := { f := Tryz.f139, args := [p0], pre := [(.o 0, rdB s)], base := 1, kb := { db := dbG [(26, cRd (.str d) s3), (27, aC5 (aq5 16 xs s4))] [(2, cRd (.int .i64 a) s1), (6, cRd (.int .i64 b) s2)] }, names := n0, k := ap9 r.c [(.o 0, rdB s4)] }
noncomputable def bT9 (s s1 s2 s3 s4 : RS) (a b : Int) (d : ByteArray) (xs : List UInt8) : Bd := aY_ s s1 s2 s3 s4 a b d xs { client := a, num := b, data := d, tag := A1 xs }
noncomputable def bT8 (s s1 s2 s3 s4 : RS) (a b : Int) (d : ByteArray) (xs : List UInt8) : Bd := aY_ s s1 s2 s3 s4 a b d xs K8
noncomputable def L3 (s s0 s1 s2 s3 s4 s5 : RS) (n : Int) (r1 r2 r3 r4 : SReq) (b : SBatch) : Bd := { f := Tryz.f107, args := [p0], pre := [(.o 0, rdB s)], base := 1, kb := { db := dbG [(25, cRd (.int .i64 n) s0), (78, cRd (.int .i64 s5.e) s5)] [(17, cRd (.agg r1.c) s1), (31, cRd (.agg r2.c) s2), (45, cRd (.agg r3.c) s3), (59, cRd (.agg r4.c) s4)], lp := fun _ _ => [(True, .rounds 6)] }, names := n0, k := ap9 b.c [(.o 0, rdB s5)] }
noncomputable def bQ3 (s s0 : RS) (n : Int) : Bd := L3 s s0 s0 s0 s0 s0 s0 n {} {} {} {} (B8 (decide (n = 0)) [])
noncomputable def bP9 (s s0 : RS) (n : Int) : Bd := L3 s s0 s0 s0 s0 s0 s0 n {} {} {} {} {}
noncomputable def bQ4 (s s0 s1 : RS) (n : Int) (r1 : SReq) : Bd := L3 s s0 s1 s1 s1 s1 s1 n r1 {} {} {} (B8 (decide (n = 0)) [r1])
noncomputable def bP_ (s s0 s1 : RS) (n : Int) (r1 : SReq) : Bd := L3 s s0 s1 s1 s1 s1 s1 n r1 {} {} {} {}
noncomputable def bQ5 (s s0 s1 s2 : RS) (n : Int) (r1 r2 : SReq) : Bd := L3 s s0 s1 s2 s2 s2 s2 n r1 r2 {} {} (B8 (decide (n = 0)) [r1, r2])
noncomputable def bQ0 (s s0 s1 s2 : RS) (n : Int) (r1 r2 : SReq) : Bd := L3 s s0 s1 s2 s2 s2 s2 n r1 r2 {} {} {}
noncomputable def bQ6 (s s0 s1 s2 s3 : RS) (n : Int) (r1 r2 r3 : SReq) : Bd := L3 s s0 s1 s2 s3 s3 s3 n r1 r2 r3 {} (B8 (decide (n = 0)) [r1, r2, r3])
noncomputable def bQ1 (s s0 s1 s2 s3 : RS) (n : Int) (r1 r2 r3 : SReq) : Bd := L3 s s0 s1 s2 s3 s3 s3 n r1 r2 r3 {} {}
noncomputable def bQ7 (s s0 s1 s2 s3 s4 : RS) (n : Int) (r1 r2 r3 r4 : SReq) : Bd := L3 s s0 s1 s2 s3 s4 s4 n r1 r2 r3 r4 (B8 (decide (n = 0)) [r1, r2, r3, r4])
noncomputable def bQ2 (s s0 s1 s2 s3 s4 : RS) (n : Int) (r1 r2 r3 r4 : SReq) : Bd := L3 s s0 s1 s2 s3 s4 s4 n r1 r2 r3 r4 {}
theorem aP9 (s : RS) (s1 : RS) (s2 : RS) (s3 : RS) (s4 : RS) (a : Int) (b : Int) (d : ByteArray) (xs : List UInt8) :
  e9 zp (bT9 s s1 s2 s3 s4 a b d xs) [true, false] = (some (.agg [.int .i64 a, .int .i64 b, .str d, .seg .u8 16 (A1 xs)], [(.o 0, rdB s4)], [T zp 25 [.ptr (.o 0) 0 0 0 0, .int .i64 8] [(.o 0, rdB s)] (.int .i64 a) [(.o 0, rdB s1)], T zp 25 [.ptr (.o 0) 0 0 0 0, .int .i64 1099511627776] [(.o 0, rdB s1)] (.int .i64 b) [(.o 0, rdB s2)], T zp 26 [.ptr (.o 0) 0 0 0 0, .int .i64 64] [(.o 0, rdB s2)] (.str d) [(.o 0, rdB s3)], T zp 27 [.ptr (.o 0) 0 0 0 0, .int .i64 16] [(.o 0, rdB s3)] (.ros 1 16 (bl xs) false) [(.o 0, rdB s4)], 16 ≤ (16 : Nat), ∀ (q : Nat), q < (16 : Nat) → true = true, q false, q (List.length (RS.l s4)), ∀ (k : Nat), k < List.length (RS.l s4) → bl (RS.l s4) k = bl (RS.l s4) k, false = true → false = true, q (RS.e s4), q2, q a, q b, q d, q (16 : Nat), r7 (16 : Nat) z16 0 16 (bl xs) = A1 xs, q0, q0, q0]) : Option (V × c5 × List Prop)) := by kernel_rfl
theorem aP8 (s : RS) (s1 : RS) (s2 : RS) (s3 : RS) (s4 : RS) (a : Int) (b : Int) (d : ByteArray) (xs : List UInt8) :
  e9 zp (bT8 s s1 s2 s3 s4 a b d xs) [false, true] = (some (.agg [.int .i64 0, .int .i64 0, .str (baL []), .seg .u8 16 z16], [(.o 0, rdB s4)], [T zp 25 [.ptr (.o 0) 0 0 0 0, .int .i64 8] [(.o 0, rdB s)] (.int .i64 a) [(.o 0, rdB s1)], T zp 25 [.ptr (.o 0) 0 0 0 0, .int .i64 1099511627776] [(.o 0, rdB s1)] (.int .i64 b) [(.o 0, rdB s2)], T zp 26 [.ptr (.o 0) 0 0 0 0, .int .i64 64] [(.o 0, rdB s2)] (.str d) [(.o 0, rdB s3)], T zp 27 [.ptr (.o 0) 0 0 0 0, .int .i64 16] [(.o 0, rdB s3)] (.ros 1 0 (bl []) false) [(.o 0, rdB s4)], 16 ≤ (16 : Nat), ∀ (q : Nat), q < (0 : Nat) → true = true, q2, q (List.length (RS.l s4)), ∀ (k : Nat), k < List.length (RS.l s4) → bl (RS.l s4) k = bl (RS.l s4) k, false = true → false = true, q (RS.e s4), q2, q1, q1, ByteArray.empty = baL [], q (16 : Nat), q z16, q0, q0, q0]) : Option (V × c5 × List Prop)) := by kernel_rfl
theorem aN5 (s : RS) (s0 : RS) (n : Int) :
  e9 zp (bQ3 s s0 n) [false, false] = (some (.agg [.bool (decide (n = (0 : Int))), rq 0 fun i => SReq.mk (0 : Int) (0 : Int) (baL []) z16], [(.o 0, rdB s0)], [T zp 25 [.ptr (.o 0) 0 0 0 0, .int .i64 5] [(.o 0, rdB s)] (.int .i64 n) [(.o 0, rdB s0)], decide ((1 : Int) < n) = false, T zp 78 [.ptr (.o 0) 0 0 0 0] [(.o 0, rdB s0)] (.int .i64 (RS.e s0)) [(.o 0, rdB s0)], (!decide (RS.e s0 = (0 : Int))) = false, q (List.length (RS.l s0)), ∀ (k : Nat), k < List.length (RS.l s0) → bl (RS.l s0) k = bl (RS.l s0) k, false = true → false = true, q (RS.e s0), q2, q (decide (n = (0 : Int))), 0 = (0 : Nat), q0, q0, q0]) : Option (V × c5 × List Prop)) := by kernel_rfl
theorem aN4 (s : RS) (s0 : RS) (n : Int) :
  e9 zp (bP9 s s0 n) [false, true] = (some (.agg [.bool false, rq 0 fun x => SReq.mk (0 : Int) (0 : Int) ByteArray.empty []], [(.o 0, rdB s0)], [T zp 25 [.ptr (.o 0) 0 0 0 0, .int .i64 5] [(.o 0, rdB s)] (.int .i64 n) [(.o 0, rdB s0)], decide ((1 : Int) < n) = false, T zp 78 [.ptr (.o 0) 0 0 0 0] [(.o 0, rdB s0)] (.int .i64 (RS.e s0)) [(.o 0, rdB s0)], (!decide (RS.e s0 = (0 : Int))) = true, q (List.length (RS.l s0)), ∀ (k : Nat), k < List.length (RS.l s0) → bl (RS.l s0) k = bl (RS.l s0) k, false = true → false = true, q (RS.e s0), q2, q false, q0, q0, q0, q0]) : Option (V × c5 × List Prop)) := by kernel_rfl
theorem aH8 (s : RS) (s0 : RS) (s1 : RS) (n : Int) (r1 : SReq) :
  e9 zp (bQ4 s s0 s1 n r1) [true, false, false] = some (V.agg [V.bool (decide (n = (0 : Int))), rq 1 fun i => List.getD [r1] i (SReq.mk (0 : Int) (0 : Int) (baL []) z16)], [(Nm.o (0 : Nat), rdB s1)], [T zp (25 : Nat) [V.ptr (Nm.o (0 : Nat)) (0 : Nat) (0 : Nat) (0 : Nat) (0 : Nat), V.int .i64 (5 : Int)] [(Nm.o (0 : Nat), rdB s)] (V.int .i64 n) [(Nm.o (0 : Nat), rdB s0)], decide ((1 : Int) < n) = true, T zp (139 : Nat) [V.ptr (Nm.o (0 : Nat)) (0 : Nat) (0 : Nat) (0 : Nat) (0 : Nat)] [(Nm.o (0 : Nat), rdB s0)] (V.agg (SReq.c r1)) [(Nm.o (0 : Nat), rdB s1)], 1 ≤ (1 : Nat), ∀ (k : Nat), k < (1 : Nat) → m8 (j3 [(SReq.c r1)] ((0 : Nat) + k)) = true, 48 ≤ (140737488355328 : Nat), InR .i64 (2 : Int), decide ((2 : Int) < n) = false, T zp (78 : Nat) [V.ptr (Nm.o (0 : Nat)) (0 : Nat) (0 : Nat) (0 : Nat) (0 : Nat)] [(Nm.o (0 : Nat), rdB s1)] (V.int .i64 (RS.e s1)) [(Nm.o (0 : Nat), rdB s1)], (!decide (RS.e s1 = (0 : Int))) = false, List.length (RS.l s1) = List.length (RS.l s1), ∀ (k : Nat), k < List.length (RS.l s1) → bl (RS.l s1) k = bl (RS.l s1) k, false = true → false = true, RS.e s1 = RS.e s1, true = true, decide (n = (0 : Int)) = decide (n = (0 : Int)), 1 = 1, 1 ≤ 1, ∀ (k : Nat), k < 1 → m5 (0 : Nat) (fun x => []) (fun k => j3 [(SReq.c r1)] ((0 : Nat) + k)) ((0 : Nat) + k) = SReq.c (SBatch.req (SBatch.mk (decide (n = (0 : Int))) 1 fun i => List.getD [r1] i (SReq.mk (0 : Int) (0 : Int) (baL []) z16)) k), false = true → none = some 1, (0 : Nat) = (0 : Nat), (0 : Nat) = (0 : Nat), (0 : Nat) = (0 : Nat)]) := by kernel_rfl
theorem aH7 (s : RS) (s0 : RS) (s1 : RS) (n : Int) (r1 : SReq) :
  e9 zp (bP_ s s0 s1 n r1) [true, false, true] = (some (.agg [.bool false, rq 0 fun x => SReq.mk (0 : Int) (0 : Int) ByteArray.empty []], [(.o 0, rdB s1)], [T zp 25 [.ptr (.o 0) 0 0 0 0, .int .i64 5] [(.o 0, rdB s)] (.int .i64 n) [(.o 0, rdB s0)], decide ((1 : Int) < n) = true, T zp 139 [.ptr (.o 0) 0 0 0 0] [(.o 0, rdB s0)] (.agg (SReq.c r1)) [(.o 0, rdB s1)], 1 ≤ (1 : Nat), ∀ (k : Nat), k < (1 : Nat) → m8 (j3 [(SReq.c r1)] ((0 : Nat) + k)) = true, 48 ≤ (140737488355328 : Nat), InR .i64 (2 : Int), decide ((2 : Int) < n) = false, T zp 78 [.ptr (.o 0) 0 0 0 0] [(.o 0, rdB s1)] (.int .i64 (RS.e s1)) [(.o 0, rdB s1)], (!decide (RS.e s1 = (0 : Int))) = true, q (List.length (RS.l s1)), ∀ (k : Nat), k < List.length (RS.l s1) → bl (RS.l s1) k = bl (RS.l s1) k, false = true → false = true, q (RS.e s1), q2, q false, q0, q0, q0, q0]) : Option (V × c5 × List Prop)) := by kernel_rfl
theorem aB2 (s : RS) (s0 : RS) (s1 : RS) (s2 : RS) (n : Int) (r1 : SReq) (r2 : SReq) :
  e9 zp (bQ5 s s0 s1 s2 n r1 r2) [true, true, false, false] = some (V.agg [V.bool (decide (n = (0 : Int))), rq 2 fun i => List.getD [r1, r2] i (SReq.mk (0 : Int) (0 : Int) (baL []) z16)], [(Nm.o (0 : Nat), rdB s2)], [T zp (25 : Nat) [V.ptr (Nm.o (0 : Nat)) (0 : Nat) (0 : Nat) (0 : Nat) (0 : Nat), V.int .i64 (5 : Int)] [(Nm.o (0 : Nat), rdB s)] (V.int .i64 n) [(Nm.o (0 : Nat), rdB s0)], decide ((1 : Int) < n) = true, T zp (139 : Nat) [V.ptr (Nm.o (0 : Nat)) (0 : Nat) (0 : Nat) (0 : Nat) (0 : Nat)] [(Nm.o (0 : Nat), rdB s0)] (V.agg (SReq.c r1)) [(Nm.o (0 : Nat), rdB s1)], 1 ≤ (1 : Nat), ∀ (k : Nat), k < (1 : Nat) → m8 (j3 [(SReq.c r1)] ((0 : Nat) + k)) = true, 48 ≤ (140737488355328 : Nat), InR .i64 (2 : Int), decide ((2 : Int) < n) = true, T zp (139 : Nat) [V.ptr (Nm.o (0 : Nat)) (0 : Nat) (0 : Nat) (0 : Nat) (0 : Nat)] [(Nm.o (0 : Nat), rdB s1)] (V.agg (SReq.c r2)) [(Nm.o (0 : Nat), rdB s2)], 1 = 1, 1 ≤ (1 : Nat), ∀ (k : Nat), k < (1 : Nat) → m8 (j3 [(SReq.c r2)] ((0 : Nat) + k)) = true, 96 ≤ (140737488355328 : Nat), InR .i64 (3 : Int), decide ((3 : Int) < n) = false, T zp (78 : Nat) [V.ptr (Nm.o (0 : Nat)) (0 : Nat) (0 : Nat) (0 : Nat) (0 : Nat)] [(Nm.o (0 : Nat), rdB s2)] (V.int .i64 (RS.e s2)) [(Nm.o (0 : Nat), rdB s2)], (!decide (RS.e s2 = (0 : Int))) = false, List.length (RS.l s2) = List.length (RS.l s2), ∀ (k : Nat), k < List.length (RS.l s2) → bl (RS.l s2) k = bl (RS.l s2) k, false = true → false = true, RS.e s2 = RS.e s2, true = true, decide (n = (0 : Int)) = decide (n = (0 : Int)), 2 = 2, 2 ≤ 2, ∀ (k : Nat), k < 2 → m5 1 (m5 (0 : Nat) (fun x => []) fun k => j3 [(SReq.c r1)] ((0 : Nat) + k)) (fun k => j3 [(SReq.c r2)] ((0 : Nat) + k)) ((0 : Nat) + k) = SReq.c (SBatch.req (SBatch.mk (decide (n = (0 : Int))) 2 fun i => List.getD [r1, r2] i (SReq.mk (0 : Int) (0 : Int) (baL []) z16)) k), false = true → none = some 2, (0 : Nat) = (0 : Nat), (0 : Nat) = (0 : Nat), (0 : Nat) = (0 : Nat)]) := by kernel_rfl
theorem aB1 (s : RS) (s0 : RS) (s1 : RS) (s2 : RS) (n : Int) (r1 : SReq) (r2 : SReq) :
  e9 zp (bQ0 s s0 s1 s2 n r1 r2) [true, true, false, true] = (some (.agg [.bool false, rq 0 fun x => SReq.mk (0 : Int) (0 : Int) ByteArray.empty []], [(.o 0, rdB s2)], [T zp 25 [.ptr (.o 0) 0 0 0 0, .int .i64 5] [(.o 0, rdB s)] (.int .i64 n) [(.o 0, rdB s0)], decide ((1 : Int) < n) = true, T zp 139 [.ptr (.o 0) 0 0 0 0] [(.o 0, rdB s0)] (.agg (SReq.c r1)) [(.o 0, rdB s1)], 1 ≤ (1 : Nat), ∀ (k : Nat), k < (1 : Nat) → m8 (j3 [(SReq.c r1)] ((0 : Nat) + k)) = true, 48 ≤ (140737488355328 : Nat), InR .i64 (2 : Int), decide ((2 : Int) < n) = true, T zp 139 [.ptr (.o 0) 0 0 0 0] [(.o 0, rdB s1)] (.agg (SReq.c r2)) [(.o 0, rdB s2)], q 1, 1 ≤ (1 : Nat), ∀ (k : Nat), k < (1 : Nat) → m8 (j3 [(SReq.c r2)] ((0 : Nat) + k)) = true, 96 ≤ (140737488355328 : Nat), InR .i64 (3 : Int), decide ((3 : Int) < n) = false, T zp 78 [.ptr (.o 0) 0 0 0 0] [(.o 0, rdB s2)] (.int .i64 (RS.e s2)) [(.o 0, rdB s2)], (!decide (RS.e s2 = (0 : Int))) = true, q (List.length (RS.l s2)), ∀ (k : Nat), k < List.length (RS.l s2) → bl (RS.l s2) k = bl (RS.l s2) k, false = true → false = true, q (RS.e s2), q2, q false, q0, q0, q0, q0]) : Option (V × c5 × List Prop)) := by kernel_rfl
theorem ax1 (s : RS) (s0 : RS) (s1 : RS) (s2 : RS) (s3 : RS) (n : Int) (r1 : SReq) (r2 : SReq) (r3 : SReq) :
  e9 zp (bQ6 s s0 s1 s2 s3 n r1 r2 r3) [true, true, true, false, false] = some (V.agg [V.bool (decide (n = (0 : Int))), rq 3 fun i => List.getD [r1, r2, r3] i (SReq.mk (0 : Int) (0 : Int) (baL []) z16)], [(Nm.o (0 : Nat), rdB s3)], [T zp (25 : Nat) [V.ptr (Nm.o (0 : Nat)) (0 : Nat) (0 : Nat) (0 : Nat) (0 : Nat), V.int .i64 (5 : Int)] [(Nm.o (0 : Nat), rdB s)] (V.int .i64 n) [(Nm.o (0 : Nat), rdB s0)], decide ((1 : Int) < n) = true, T zp (139 : Nat) [V.ptr (Nm.o (0 : Nat)) (0 : Nat) (0 : Nat) (0 : Nat) (0 : Nat)] [(Nm.o (0 : Nat), rdB s0)] (V.agg (SReq.c r1)) [(Nm.o (0 : Nat), rdB s1)], 1 ≤ (1 : Nat), ∀ (k : Nat), k < (1 : Nat) → m8 (j3 [(SReq.c r1)] ((0 : Nat) + k)) = true, 48 ≤ (140737488355328 : Nat), InR .i64 (2 : Int), decide ((2 : Int) < n) = true, T zp (139 : Nat) [V.ptr (Nm.o (0 : Nat)) (0 : Nat) (0 : Nat) (0 : Nat) (0 : Nat)] [(Nm.o (0 : Nat), rdB s1)] (V.agg (SReq.c r2)) [(Nm.o (0 : Nat), rdB s2)], 1 = 1, 1 ≤ (1 : Nat), ∀ (k : Nat), k < (1 : Nat) → m8 (j3 [(SReq.c r2)] ((0 : Nat) + k)) = true, 96 ≤ (140737488355328 : Nat), InR .i64 (3 : Int), decide ((3 : Int) < n) = true, T zp (139 : Nat) [V.ptr (Nm.o (0 : Nat)) (0 : Nat) (0 : Nat) (0 : Nat) (0 : Nat)] [(Nm.o (0 : Nat), rdB s2)] (V.agg (SReq.c r3)) [(Nm.o (0 : Nat), rdB s3)], 2 = 2, 1 ≤ (1 : Nat), ∀ (k : Nat), k < (1 : Nat) → m8 (j3 [(SReq.c r3)] ((0 : Nat) + k)) = true, 144 ≤ (140737488355328 : Nat), InR .i64 (4 : Int), decide ((4 : Int) < n) = false, T zp (78 : Nat) [V.ptr (Nm.o (0 : Nat)) (0 : Nat) (0 : Nat) (0 : Nat) (0 : Nat)] [(Nm.o (0 : Nat), rdB s3)] (V.int .i64 (RS.e s3)) [(Nm.o (0 : Nat), rdB s3)], (!decide (RS.e s3 = (0 : Int))) = false, List.length (RS.l s3) = List.length (RS.l s3), ∀ (k : Nat), k < List.length (RS.l s3) → bl (RS.l s3) k = bl (RS.l s3) k, false = true → false = true, RS.e s3 = RS.e s3, true = true, decide (n = (0 : Int)) = decide (n = (0 : Int)), 3 = 3, 3 ≤ 3, ∀ (k : Nat), k < 3 → m5 2 (m5 1 (m5 (0 : Nat) (fun x => []) fun k => j3 [(SReq.c r1)] ((0 : Nat) + k)) fun k => j3 [(SReq.c r2)] ((0 : Nat) + k)) (fun k => j3 [(SReq.c r3)] ((0 : Nat) + k)) ((0 : Nat) + k) = SReq.c (SBatch.req (SBatch.mk (decide (n = (0 : Int))) 3 fun i => List.getD [r1, r2, r3] i (SReq.mk (0 : Int) (0 : Int) (baL []) z16)) k), false = true → none = some 3, (0 : Nat) = (0 : Nat), (0 : Nat) = (0 : Nat), (0 : Nat) = (0 : Nat)]) := by kernel_rfl
theorem ax0 (s : RS) (s0 : RS) (s1 : RS) (s2 : RS) (s3 : RS) (n : Int) (r1 : SReq) (r2 : SReq) (r3 : SReq) :
  e9 zp (bQ1 s s0 s1 s2 s3 n r1 r2 r3) [true, true, true, false, true] = (some (.agg [.bool false, rq 0 fun x => SReq.mk (0 : Int) (0 : Int) ByteArray.empty []], [(.o 0, rdB s3)], [T zp 25 [.ptr (.o 0) 0 0 0 0, .int .i64 5] [(.o 0, rdB s)] (.int .i64 n) [(.o 0, rdB s0)], decide ((1 : Int) < n) = true, T zp 139 [.ptr (.o 0) 0 0 0 0] [(.o 0, rdB s0)] (.agg (SReq.c r1)) [(.o 0, rdB s1)], 1 ≤ (1 : Nat), ∀ (k : Nat), k < (1 : Nat) → m8 (j3 [(SReq.c r1)] ((0 : Nat) + k)) = true, 48 ≤ (140737488355328 : Nat), InR .i64 (2 : Int), decide ((2 : Int) < n) = true, T zp 139 [.ptr (.o 0) 0 0 0 0] [(.o 0, rdB s1)] (.agg (SReq.c r2)) [(.o 0, rdB s2)], q 1, 1 ≤ (1 : Nat), ∀ (k : Nat), k < (1 : Nat) → m8 (j3 [(SReq.c r2)] ((0 : Nat) + k)) = true, 96 ≤ (140737488355328 : Nat), InR .i64 (3 : Int), decide ((3 : Int) < n) = true, T zp 139 [.ptr (.o 0) 0 0 0 0] [(.o 0, rdB s2)] (.agg (SReq.c r3)) [(.o 0, rdB s3)], q 2, 1 ≤ (1 : Nat), ∀ (k : Nat), k < (1 : Nat) → m8 (j3 [(SReq.c r3)] ((0 : Nat) + k)) = true, 144 ≤ (140737488355328 : Nat), InR .i64 (4 : Int), decide ((4 : Int) < n) = false, T zp 78 [.ptr (.o 0) 0 0 0 0] [(.o 0, rdB s3)] (.int .i64 (RS.e s3)) [(.o 0, rdB s3)], (!decide (RS.e s3 = (0 : Int))) = true, q (List.length (RS.l s3)), ∀ (k : Nat), k < List.length (RS.l s3) → bl (RS.l s3) k = bl (RS.l s3) k, false = true → false = true, q (RS.e s3), q2, q false, q0, q0, q0, q0]) : Option (V × c5 × List Prop)) := by kernel_rfl
theorem as0 (s : RS) (s0 : RS) (s1 : RS) (s2 : RS) (s3 : RS) (s4 : RS) (n : Int) (r1 : SReq) (r2 : SReq) (r3 : SReq) (r4 : SReq) :
  e9 zp (bQ7 s s0 s1 s2 s3 s4 n r1 r2 r3 r4) [true, true, true, true, false, false] = some (V.agg [V.bool (decide (n = (0 : Int))), rq 4 fun i => List.getD [r1, r2, r3, r4] i (SReq.mk (0 : Int) (0 : Int) (baL []) z16)], [(Nm.o (0 : Nat), rdB s4)], [T zp (25 : Nat) [V.ptr (Nm.o (0 : Nat)) (0 : Nat) (0 : Nat) (0 : Nat) (0 : Nat), V.int .i64 (5 : Int)] [(Nm.o (0 : Nat), rdB s)] (V.int .i64 n) [(Nm.o (0 : Nat), rdB s0)], decide ((1 : Int) < n) = true, T zp (139 : Nat) [V.ptr (Nm.o (0 : Nat)) (0 : Nat) (0 : Nat) (0 : Nat) (0 : Nat)] [(Nm.o (0 : Nat), rdB s0)] (V.agg (SReq.c r1)) [(Nm.o (0 : Nat), rdB s1)], 1 ≤ (1 : Nat), ∀ (k : Nat), k < (1 : Nat) → m8 (j3 [(SReq.c r1)] ((0 : Nat) + k)) = true, 48 ≤ (140737488355328 : Nat), InR .i64 (2 : Int), decide ((2 : Int) < n) = true, T zp (139 : Nat) [V.ptr (Nm.o (0 : Nat)) (0 : Nat) (0 : Nat) (0 : Nat) (0 : Nat)] [(Nm.o (0 : Nat), rdB s1)] (V.agg (SReq.c r2)) [(Nm.o (0 : Nat), rdB s2)], 1 = 1, 1 ≤ (1 : Nat), ∀ (k : Nat), k < (1 : Nat) → m8 (j3 [(SReq.c r2)] ((0 : Nat) + k)) = true, 96 ≤ (140737488355328 : Nat), InR .i64 (3 : Int), decide ((3 : Int) < n) = true, T zp (139 : Nat) [V.ptr (Nm.o (0 : Nat)) (0 : Nat) (0 : Nat) (0 : Nat) (0 : Nat)] [(Nm.o (0 : Nat), rdB s2)] (V.agg (SReq.c r3)) [(Nm.o (0 : Nat), rdB s3)], 2 = 2, 1 ≤ (1 : Nat), ∀ (k : Nat), k < (1 : Nat) → m8 (j3 [(SReq.c r3)] ((0 : Nat) + k)) = true, 144 ≤ (140737488355328 : Nat), InR .i64 (4 : Int), decide ((4 : Int) < n) = true, T zp (139 : Nat) [V.ptr (Nm.o (0 : Nat)) (0 : Nat) (0 : Nat) (0 : Nat) (0 : Nat)] [(Nm.o (0 : Nat), rdB s3)] (V.agg (SReq.c r4)) [(Nm.o (0 : Nat), rdB s4)], 3 = 3, 1 ≤ (1 : Nat), ∀ (k : Nat), k < (1 : Nat) → m8 (j3 [(SReq.c r4)] ((0 : Nat) + k)) = true, 192 ≤ (140737488355328 : Nat), InR .i64 (5 : Int), decide ((5 : Int) < n) = false, T zp (78 : Nat) [V.ptr (Nm.o (0 : Nat)) (0 : Nat) (0 : Nat) (0 : Nat) (0 : Nat)] [(Nm.o (0 : Nat), rdB s4)] (V.int .i64 (RS.e s4)) [(Nm.o (0 : Nat), rdB s4)], (!decide (RS.e s4 = (0 : Int))) = false, List.length (RS.l s4) = List.length (RS.l s4), ∀ (k : Nat), k < List.length (RS.l s4) → bl (RS.l s4) k = bl (RS.l s4) k, false = true → false = true, RS.e s4 = RS.e s4, true = true, decide (n = (0 : Int)) = decide (n = (0 : Int)), 4 = 4, 4 ≤ 4, ∀ (k : Nat), k < 4 → m5 3 (m5 2 (m5 1 (m5 (0 : Nat) (fun x => []) fun k => j3 [(SReq.c r1)] ((0 : Nat) + k)) fun k => j3 [(SReq.c r2)] ((0 : Nat) + k)) fun k => j3 [(SReq.c r3)] ((0 : Nat) + k)) (fun k => j3 [(SReq.c r4)] ((0 : Nat) + k)) ((0 : Nat) + k) = SReq.c (SBatch.req (SBatch.mk (decide (n = (0 : Int))) 4 fun i => List.getD [r1, r2, r3, r4] i (SReq.mk (0 : Int) (0 : Int) (baL []) z16)) k), false = true → none = some 4, (0 : Nat) = (0 : Nat), (0 : Nat) = (0 : Nat), (0 : Nat) = (0 : Nat)]) := by kernel_rfl
theorem ar_ (s : RS) (s0 : RS) (s1 : RS) (s2 : RS) (s3 : RS) (s4 : RS) (n : Int) (r1 : SReq) (r2 : SReq) (r3 : SReq) (r4 : SReq) :
  e9 zp (bQ2 s s0 s1 s2 s3 s4 n r1 r2 r3 r4) [true, true, true, true, false, true] = (some (.agg [.bool false, rq 0 fun x => SReq.mk (0 : Int) (0 : Int) ByteArray.empty []], [(.o 0, rdB s4)], [T zp 25 [.ptr (.o 0) 0 0 0 0, .int .i64 5] [(.o 0, rdB s)] (.int .i64 n) [(.o 0, rdB s0)], decide ((1 : Int) < n) = true, T zp 139 [.ptr (.o 0) 0 0 0 0] [(.o 0, rdB s0)] (.agg (SReq.c r1)) [(.o 0, rdB s1)], 1 ≤ (1 : Nat), ∀ (k : Nat), k < (1 : Nat) → m8 (j3 [(SReq.c r1)] ((0 : Nat) + k)) = true, 48 ≤ (140737488355328 : Nat), InR .i64 (2 : Int), decide ((2 : Int) < n) = true, T zp 139 [.ptr (.o 0) 0 0 0 0] [(.o 0, rdB s1)] (.agg (SReq.c r2)) [(.o 0, rdB s2)], q 1, 1 ≤ (1 : Nat), ∀ (k : Nat), k < (1 : Nat) → m8 (j3 [(SReq.c r2)] ((0 : Nat) + k)) = true, 96 ≤ (140737488355328 : Nat), InR .i64 (3 : Int), decide ((3 : Int) < n) = true, T zp 139 [.ptr (.o 0) 0 0 0 0] [(.o 0, rdB s2)] (.agg (SReq.c r3)) [(.o 0, rdB s3)], q 2, 1 ≤ (1 : Nat), ∀ (k : Nat), k < (1 : Nat) → m8 (j3 [(SReq.c r3)] ((0 : Nat) + k)) = true, 144 ≤ (140737488355328 : Nat), InR .i64 (4 : Int), decide ((4 : Int) < n) = true, T zp 139 [.ptr (.o 0) 0 0 0 0] [(.o 0, rdB s3)] (.agg (SReq.c r4)) [(.o 0, rdB s4)], q 3, 1 ≤ (1 : Nat), ∀ (k : Nat), k < (1 : Nat) → m8 (j3 [(SReq.c r4)] ((0 : Nat) + k)) = true, 192 ≤ (140737488355328 : Nat), InR .i64 (5 : Int), decide ((5 : Int) < n) = false, T zp 78 [.ptr (.o 0) 0 0 0 0] [(.o 0, rdB s4)] (.int .i64 (RS.e s4)) [(.o 0, rdB s4)], (!decide (RS.e s4 = (0 : Int))) = true, q (List.length (RS.l s4)), ∀ (k : Nat), k < List.length (RS.l s4) → bl (RS.l s4) k = bl (RS.l s4) k, false = true → false = true, q (RS.e s4), q2, q false, q0, q0, q0, q0]) : Option (V × c5 × List Prop)) := by kernel_rfl
theorem T.at1 {P : Program} {f : FuncId} {args : List V} {s s' : RS} {val : V} (h : T P f (p0 :: args) [(.o 0, rdB s)] val [(.o 0, rdB s')]) (ha : ∀ σ, V.rens σ args = args) (hv : ∀ σ, V.ren σ val = val) (a : Nat) : T P f (.ptr (.o a) 0 0 0 0 :: args) [(.o a, rdB s)] val [(.o a, rdB s')] := by
 obtain ⟨σ, hσ, h1⟩ := T.at h [.o 0] [.o a] (by simp) (by simp) rfl
 simp only [List.map_cons, List.map_nil, List.cons.injEq, and_true] at hσ
 simpa [V.rens, V.ren, p0, rdB, c5.ren, B.ren, hσ, ha, hv] using h1
theorem v5 (a : Nat) (most : Int) (s : RS) : T Tryz.prog 25 [.ptr (.o a) 0 0 0 0, .int .i64 most] [(.o a, rdB s)] (.int .i64 (c6 most s).1) [(.o a, rdB (c6 most s).2)] :=
 T.at1 (bN_ most s) (fun _ => rfl) (fun _ => rfl) a
theorem C1 (a : Nat) (s : RS) : T Tryz.prog 78 [.ptr (.o a) 0 0 0 0] [(.o a, rdB s)] (.int .i64 s.e) [(.o a, rdB s)] :=
 T.at1 (ao0 s) (fun _ => rfl) (fun _ => rfl) a
theorem aa1 (a : Nat) (s : RS) : T Tryz.prog 28 [.ptr (.o a) 0 0 0 0] [(.o a, rdB s)] (.int .i64 (B0 s)) [(.o a, rdB s)] :=
 T.at1 (bz0 s) (fun _ => rfl) (fun _ => rfl) a
theorem ah4 (a : Nat) (most : Int) (s : RS) (hl : s.l.length ≤ 1000000000) : T Tryz.prog 26 [.ptr (.o a) 0 0 0 0, .int .i64 most] [(.o a, rdB s)] (.str (r6 most s).1) [(.o a, rdB (r6 most s).2)] :=
 T.at1 (bf_ most s hl) (fun _ => rfl) (fun _ => rfl) a
theorem V2 (a : Nat) (n : Int) (s : RS) (hl : s.l.length ≤ 1000000000) : T Tryz.prog 27 [.ptr (.o a) 0 0 0 0, .int .i64 n] [(.o a, rdB s)] (roB (j1 n s).1) [(.o a, rdB (j1 n s).2)] :=
 T.at1 (bz8 n s hl) (fun _ => rfl) (fun _ => rfl) a
theorem bO5 (a : Nat) (l : List UInt8) (hl : l.length ≤ 1000000000) : T Tryz.prog 24 [roB l] [] (.ptr (.o a) 0 0 0 0) [(.o a, rdB { l := l })] := by
 obtain ⟨σ, hσ, h1⟩ := T.at (bz9 l hl) [.o 63] [.o a] (by simp) (by simp) rfl
 simp only [List.map_cons, List.map_nil, List.cons.injEq, and_true] at hσ
 simpa [V.rens, V.ren, roB, rdB, c5.ren, B.ren, hσ] using h1
def A9 (s s' : RS) : Prop := s'.l.length ≤ s.l.length ∧ s'.bad = s.bad ∧ (s.e ≠ 0 → s'.e ≠ 0)
theorem A9.refl (s : RS) : A9 s s := ⟨Nat.le_refl _, rfl, id⟩
theorem A9.trans {a b c : RS} (h : A9 a b) (h' : A9 b c) : A9 a c := ⟨Nat.le_trans h'.1 h.1, h'.2.1.trans h.2.1, fun e => h'.2.2 (h.2.2 e)⟩
theorem i7 (m : Int) (s : RS) : A9 s (c6 m s).2 := by
 unfold c6
 split
 ·exact A9.refl s
 ·split
  ·exact ⟨Nat.zero_le _, rfl, fun e => absurd e (by simpa using ‹¬ s.e ≠ 0›)⟩
  ·exact ⟨by simp [RS.drop], rfl, fun e => e⟩
theorem F9 (m : Int) (s : RS) : A9 s (r6 m s).2 := by
 unfold r6
 split
 ·exact A9.refl s
 ·split
  ·exact ⟨Nat.zero_le _, rfl, fun e => absurd e (by simpa using ‹¬ s.e ≠ 0›)⟩
  ·exact ⟨by simp [RS.drop], rfl, fun e => e⟩
theorem H0 (n : Int) (s : RS) : A9 s (j1 n s).2 := by
 unfold j1
 split
 ·exact A9.refl s
 ·split
  ·exact ⟨Nat.zero_le _, rfl, fun e => absurd e (by simpa using ‹¬ s.e ≠ 0›)⟩
  ·split
   ·exact ⟨Nat.zero_le _, rfl, fun e => absurd e (by simpa using ‹¬ s.e ≠ 0›)⟩
   ·exact ⟨by simp [RS.drop], rfl, fun e => e⟩
theorem U8 {n : Nat} {s : RS} (h : (j1 n s).2.e = 0) : (j1 n s).1.length = n := by
 unfold j1 at h ⊢
 split at h
 ·contradiction
 ·rename_i h1
  split at h
  ·exact absurd h (by simp [RS.fail])
  ·split at h
   ·exact absurd h (by simp [RS.fail])
   ·rename_i h2 h3
    rw [if_neg h1, if_neg h2, if_neg h3, List.length_take]; omega
theorem W5 {n : Nat} {s : RS} (h : (j1 n s).2.e ≠ 0) : (j1 n s).1 = [] := by
 unfold j1 at h ⊢
 split
 ·rfl
 ·rename_i h1
  split
  ·rfl
  ·split
   ·rfl
   ·rename_i h2 h3
    rw [if_neg h1, if_neg h2, if_neg h3] at h
    exact absurd h (by simpa [RS.drop] using h1)
theorem bx1 {xs : List UInt8} (h : xs.length = 16) : [l9 (bl xs 0), l9 (bl xs 1), l9 (bl xs 2), l9 (bl xs 3), l9 (bl xs 4), l9 (bl xs 5), l9 (bl xs 6), l9 (bl xs 7), l9 (bl xs 8), l9 (bl xs 9), l9 (bl xs 10), l9 (bl xs 11), l9 (bl xs 12), l9 (bl xs 13), l9 (bl xs 14), l9 (bl xs 15)] = A1 xs := by
 match xs, h with
 | [a0, a1, a2, a3, a4, a5, a6, a7, a8, a9, a10, a11, a12, a13, a14, a15], _ => rfl
theorem bz_ (s : RS) (hl : s.l.length ≤ 1000000000) : T Tryz.prog 139 [p0] [(.o 0, rdB s)] (.agg (i3 s).1.c) [(.o 0, rdB (i3 s).2)] := by
 have l1 : (Q6 s).l.length ≤ 1000000000 := Nat.le_trans (i7 8 s).1 hl
 have l2 : (Q7 s).l.length ≤ 1000000000 := Nat.le_trans (i7 _ _).1 l1
 have l3 : (F5 s).l.length ≤ 1000000000 := Nat.le_trans (F9 _ _).1 l2
 by_cases h : (H4 s).e = 0
 ·have e : i3 s = (au5 s, H4 s) := by simp [i3, h]
  have h16 : (j1 16 (F5 s)).1.length = 16 := U8 (n := 16) h
  rw [e]
  refine f3 (aP9 s (Q6 s) (Q7 s) (F5 s) (H4 s) (c6 8 s).1 (c6 1099511627776 (Q6 s)).1 (r6 64 (Q7 s)).1 (j1 16 (F5 s)).1) Tryz.func139 ?_
  simp only [All]; and_intros
  all_goals first | exact v5 0 _ _ | exact ah4 0 _ _ l2 | (have := V2 0 16 (F5 s) l3; rw [roB, h16] at this; exact this) | exact bx1 h16 | trivial | (simp [h16]; done)
 ·have e : i3 s = (K8, H4 s) := by simp [i3, h]
  have h0 : (j1 16 (F5 s)).1 = [] := W5 (n := 16) h
  rw [e]
  refine f3 (aP8 s (Q6 s) (Q7 s) (F5 s) (H4 s) (c6 8 s).1 (c6 1099511627776 (Q6 s)).1 (r6 64 (Q7 s)).1 (j1 16 (F5 s)).1) Tryz.func139 ?_
  simp only [All]; and_intros
  all_goals first | exact v5 0 _ _ | exact ah4 0 _ _ l2 | (have := V2 0 16 (F5 s) l3; rw [roB, h0] at this; exact this) | trivial | simp
theorem B6 (s : RS) : A9 s (i3 s).2 := (((i7 8 s).trans (i7 _ _)).trans (F9 _ _)).trans (H0 _ _)
theorem B9 {α : Type} {one : RS → α × RS} (h : ∀ s, A9 s (one s).2) : ∀ k s, A9 s (itR one k s).2
 | 0, s => A9.refl s
 | k + 1, s => (h s).trans (B9 h k _)
theorem v9 {m : Int} (hm : 0 ≤ m) (s : RS) : 0 ≤ (c6 m s).1 ∧ (c6 m s).1 ≤ m := by
 unfold c6
 split
 ·exact ⟨Int.le_refl _, hm⟩
 ·split
  ·exact ⟨Int.le_refl _, hm⟩
  ·rename_i h1 h2
   refine ⟨aS3.1, ?_⟩
   have h2 : nE1 m s.l = 0 := by simpa using h2
   unfold nE1 at h2
   split at h2
   ·cases h2
   ·show nV s.l ≤ m
    omega
theorem I0 {s s' : RS} {r : SReq} (hl : s.l.length ≤ 1000000000) (h1 : r = (i3 s).1) (h2 : s' = (i3 s).2) : T Tryz.prog 139 [p0] [(.o 0, rdB s)] (.agg r.c) [(.o 0, rdB s')] := by
 subst h1; subst h2; exact bz_ s hl
theorem by6 {s : RS} (hl : s.l.length ≤ 1000000000) (hk : (c6 5 s).1.toNat - 1 = 0) (h :  (itR i3 0 (c6 5 s).2).2.e = 0) : T Tryz.prog 107 [p0] [(.o 0, rdB s)] (.agg (j5 s).1.c) [(.o 0, rdB (j5 s).2)] := by
 have hr := v9 (m := 5) (by decide) s
 have l0 : ∀ j, (itR i3 j (c6 5 s).2).2.l.length ≤ 1000000000 := fun j => Nat.le_trans (B9 B6 j _).1 (Nat.le_trans (i7 5 s).1 hl)
 have e1 : v8 s = ([], (itR i3 0 (c6 5 s).2).2) := by unfold v8; rw [hk]; rfl
 have e : j5 s = (B8 (decide ((c6 5 s).1 = 0)) [], (itR i3 0 (c6 5 s).2).2) := by simp only [j5, e1, h, if_true, if_false]
 rw [e]
 refine f3 (aN5 s (itR i3 0 (c6 5 s).2).2 (c6 5 s).1 ) Tryz.func107 ?_
 simp only [All]; and_intros
 all_goals first
  | exact v5 0 5 s
  | exact C1 0 _
  | exact I0 (l0 _) rfl rfl
  | trivial
  | exact C5 (by decide) (by decide)
  | exact C6 (by decide) (by decide)
  | (rw [decide_eq_true_eq]; omega)
  | (rw [decide_eq_false_iff_not]; omega)
  | (simp [h]; done)
  | (intro j hj; have hj0 : j = 0 := by omega
     subst hj0; rfl)
  | (intro j hj; have hj0 : j = 0 := by omega
     rcases hj0 with rfl <;> rfl)
  | decide
  | rfl
theorem by1 {s : RS} (hl : s.l.length ≤ 1000000000) (hk : (c6 5 s).1.toNat - 1 = 0) (h : ¬ (itR i3 0 (c6 5 s).2).2.e = 0) : T Tryz.prog 107 [p0] [(.o 0, rdB s)] (.agg (j5 s).1.c) [(.o 0, rdB (j5 s).2)] := by
 have hr := v9 (m := 5) (by decide) s
 have l0 : ∀ j, (itR i3 j (c6 5 s).2).2.l.length ≤ 1000000000 := fun j => Nat.le_trans (B9 B6 j _).1 (Nat.le_trans (i7 5 s).1 hl)
 have e1 : v8 s = ([], (itR i3 0 (c6 5 s).2).2) := by unfold v8; rw [hk]; rfl
 have e : j5 s = (({} : SBatch), (itR i3 0 (c6 5 s).2).2) := by simp only [j5, e1, h, if_true, if_false]
 rw [e]
 refine f3 (aN4 s (itR i3 0 (c6 5 s).2).2 (c6 5 s).1 ) Tryz.func107 ?_
 simp only [All]; and_intros
 all_goals first
  | exact v5 0 5 s
  | exact C1 0 _
  | exact I0 (l0 _) rfl rfl
  | trivial
  | exact C5 (by decide) (by decide)
  | exact C6 (by decide) (by decide)
  | (rw [decide_eq_true_eq]; omega)
  | (rw [decide_eq_false_iff_not]; omega)
  | (simp [h]; done)
  | (intro j hj; have hj0 : j = 0 := by omega
     subst hj0; rfl)
  | (intro j hj; have hj0 : j = 0 := by omega
     rcases hj0 with rfl <;> rfl)
  | decide
  | rfl
theorem by7 {s : RS} (hl : s.l.length ≤ 1000000000) (hk : (c6 5 s).1.toNat - 1 = 1) (h :  (itR i3 1 (c6 5 s).2).2.e = 0) : T Tryz.prog 107 [p0] [(.o 0, rdB s)] (.agg (j5 s).1.c) [(.o 0, rdB (j5 s).2)] := by
 have hr := v9 (m := 5) (by decide) s
 have l0 : ∀ j, (itR i3 j (c6 5 s).2).2.l.length ≤ 1000000000 := fun j => Nat.le_trans (B9 B6 j _).1 (Nat.le_trans (i7 5 s).1 hl)
 have e1 : v8 s = ([(i3 (itR i3 0 (c6 5 s).2).2).1], (itR i3 1 (c6 5 s).2).2) := by unfold v8; rw [hk]; rfl
 have e : j5 s = (B8 (decide ((c6 5 s).1 = 0)) [(i3 (itR i3 0 (c6 5 s).2).2).1], (itR i3 1 (c6 5 s).2).2) := by simp only [j5, e1, h, if_true, if_false]
 rw [e]
 refine f3 (aH8 s (itR i3 0 (c6 5 s).2).2 (itR i3 1 (c6 5 s).2).2 (c6 5 s).1 (i3 (itR i3 0 (c6 5 s).2).2).1) Tryz.func107 ?_
 simp only [All]; and_intros
 all_goals first
  | exact v5 0 5 s
  | exact C1 0 _
  | exact I0 (l0 _) rfl rfl
  | trivial
  | exact C5 (by decide) (by decide)
  | exact C6 (by decide) (by decide)
  | (rw [decide_eq_true_eq]; omega)
  | (rw [decide_eq_false_iff_not]; omega)
  | (simp [h]; done)
  | (intro j hj; have hj0 : j = 0 := by omega
     subst hj0; rfl)
  | (intro j hj; have hj0 : j = 0 := by omega
     rcases hj0 with rfl <;> rfl)
  | decide
  | rfl
theorem by2 {s : RS} (hl : s.l.length ≤ 1000000000) (hk : (c6 5 s).1.toNat - 1 = 1) (h : ¬ (itR i3 1 (c6 5 s).2).2.e = 0) : T Tryz.prog 107 [p0] [(.o 0, rdB s)] (.agg (j5 s).1.c) [(.o 0, rdB (j5 s).2)] := by
 have hr := v9 (m := 5) (by decide) s
 have l0 : ∀ j, (itR i3 j (c6 5 s).2).2.l.length ≤ 1000000000 := fun j => Nat.le_trans (B9 B6 j _).1 (Nat.le_trans (i7 5 s).1 hl)
 have e1 : v8 s = ([(i3 (itR i3 0 (c6 5 s).2).2).1], (itR i3 1 (c6 5 s).2).2) := by unfold v8; rw [hk]; rfl
 have e : j5 s = (({} : SBatch), (itR i3 1 (c6 5 s).2).2) := by simp only [j5, e1, h, if_true, if_false]
 rw [e]
 refine f3 (aH7 s (itR i3 0 (c6 5 s).2).2 (itR i3 1 (c6 5 s).2).2 (c6 5 s).1 (i3 (itR i3 0 (c6 5 s).2).2).1) Tryz.func107 ?_
 simp only [All]; and_intros
 all_goals first
  | exact v5 0 5 s
  | exact C1 0 _
  | exact I0 (l0 _) rfl rfl
  | trivial
  | exact C5 (by decide) (by decide)
  | exact C6 (by decide) (by decide)
  | (rw [decide_eq_true_eq]; omega)
  | (rw [decide_eq_false_iff_not]; omega)
  | (simp [h]; done)
  | (intro j hj; have hj0 : j = 0 := by omega
     subst hj0; rfl)
  | (intro j hj; have hj0 : j = 0 := by omega
     rcases hj0 with rfl <;> rfl)
  | decide
  | rfl
theorem by8 {s : RS} (hl : s.l.length ≤ 1000000000) (hk : (c6 5 s).1.toNat - 1 = 2) (h :  (itR i3 2 (c6 5 s).2).2.e = 0) : T Tryz.prog 107 [p0] [(.o 0, rdB s)] (.agg (j5 s).1.c) [(.o 0, rdB (j5 s).2)] := by
 have hr := v9 (m := 5) (by decide) s
 have l0 : ∀ j, (itR i3 j (c6 5 s).2).2.l.length ≤ 1000000000 := fun j => Nat.le_trans (B9 B6 j _).1 (Nat.le_trans (i7 5 s).1 hl)
 have e1 : v8 s = ([(i3 (itR i3 0 (c6 5 s).2).2).1, (i3 (itR i3 1 (c6 5 s).2).2).1], (itR i3 2 (c6 5 s).2).2) := by unfold v8; rw [hk]; rfl
 have e : j5 s = (B8 (decide ((c6 5 s).1 = 0)) [(i3 (itR i3 0 (c6 5 s).2).2).1, (i3 (itR i3 1 (c6 5 s).2).2).1], (itR i3 2 (c6 5 s).2).2) := by simp only [j5, e1, h, if_true, if_false]
 rw [e]
 refine f3 (aB2 s (itR i3 0 (c6 5 s).2).2 (itR i3 1 (c6 5 s).2).2 (itR i3 2 (c6 5 s).2).2 (c6 5 s).1 (i3 (itR i3 0 (c6 5 s).2).2).1 (i3 (itR i3 1 (c6 5 s).2).2).1) Tryz.func107 ?_
 simp only [All]; and_intros
 all_goals first
  | exact v5 0 5 s
  | exact C1 0 _
  | exact I0 (l0 _) rfl rfl
  | trivial
  | exact C5 (by decide) (by decide)
  | exact C6 (by decide) (by decide)
  | (rw [decide_eq_true_eq]; omega)
  | (rw [decide_eq_false_iff_not]; omega)
  | (simp [h]; done)
  | (intro j hj; have hj0 : j = 0 := by omega
     subst hj0; rfl)
  | (intro j hj; have hj0 : j = 0 ∨ j = 1 := by omega
     rcases hj0 with rfl | rfl <;> rfl)
  | decide
  | rfl
theorem by3 {s : RS} (hl : s.l.length ≤ 1000000000) (hk : (c6 5 s).1.toNat - 1 = 2) (h : ¬ (itR i3 2 (c6 5 s).2).2.e = 0) : T Tryz.prog 107 [p0] [(.o 0, rdB s)] (.agg (j5 s).1.c) [(.o 0, rdB (j5 s).2)] := by
 have hr := v9 (m := 5) (by decide) s
 have l0 : ∀ j, (itR i3 j (c6 5 s).2).2.l.length ≤ 1000000000 := fun j => Nat.le_trans (B9 B6 j _).1 (Nat.le_trans (i7 5 s).1 hl)
 have e1 : v8 s = ([(i3 (itR i3 0 (c6 5 s).2).2).1, (i3 (itR i3 1 (c6 5 s).2).2).1], (itR i3 2 (c6 5 s).2).2) := by unfold v8; rw [hk]; rfl
 have e : j5 s = (({} : SBatch), (itR i3 2 (c6 5 s).2).2) := by simp only [j5, e1, h, if_true, if_false]
 rw [e]
 refine f3 (aB1 s (itR i3 0 (c6 5 s).2).2 (itR i3 1 (c6 5 s).2).2 (itR i3 2 (c6 5 s).2).2 (c6 5 s).1 (i3 (itR i3 0 (c6 5 s).2).2).1 (i3 (itR i3 1 (c6 5 s).2).2).1) Tryz.func107 ?_
 simp only [All]; and_intros
 all_goals first
  | exact v5 0 5 s
  | exact C1 0 _
  | exact I0 (l0 _) rfl rfl
  | trivial
  | exact C5 (by decide) (by decide)
  | exact C6 (by decide) (by decide)
  | (rw [decide_eq_true_eq]; omega)
  | (rw [decide_eq_false_iff_not]; omega)
  | (simp [h]; done)
  | (intro j hj; have hj0 : j = 0 := by omega
     subst hj0; rfl)
  | (intro j hj; have hj0 : j = 0 ∨ j = 1 := by omega
     rcases hj0 with rfl | rfl <;> rfl)
  | decide
  | rfl
theorem by9 {s : RS} (hl : s.l.length ≤ 1000000000) (hk : (c6 5 s).1.toNat - 1 = 3) (h :  (itR i3 3 (c6 5 s).2).2.e = 0) : T Tryz.prog 107 [p0] [(.o 0, rdB s)] (.agg (j5 s).1.c) [(.o 0, rdB (j5 s).2)] := by
 have hr := v9 (m := 5) (by decide) s
 have l0 : ∀ j, (itR i3 j (c6 5 s).2).2.l.length ≤ 1000000000 := fun j => Nat.le_trans (B9 B6 j _).1 (Nat.le_trans (i7 5 s).1 hl)
 have e1 : v8 s = ([(i3 (itR i3 0 (c6 5 s).2).2).1, (i3 (itR i3 1 (c6 5 s).2).2).1, (i3 (itR i3 2 (c6 5 s).2).2).1], (itR i3 3 (c6 5 s).2).2) := by unfold v8; rw [hk]; rfl
 have e : j5 s = (B8 (decide ((c6 5 s).1 = 0)) [(i3 (itR i3 0 (c6 5 s).2).2).1, (i3 (itR i3 1 (c6 5 s).2).2).1, (i3 (itR i3 2 (c6 5 s).2).2).1], (itR i3 3 (c6 5 s).2).2) := by simp only [j5, e1, h, if_true, if_false]
 rw [e]
 refine f3 (ax1 s (itR i3 0 (c6 5 s).2).2 (itR i3 1 (c6 5 s).2).2 (itR i3 2 (c6 5 s).2).2 (itR i3 3 (c6 5 s).2).2 (c6 5 s).1 (i3 (itR i3 0 (c6 5 s).2).2).1 (i3 (itR i3 1 (c6 5 s).2).2).1 (i3 (itR i3 2 (c6 5 s).2).2).1) Tryz.func107 ?_
 simp only [All]; and_intros
 all_goals first
  | exact v5 0 5 s
  | exact C1 0 _
  | exact I0 (l0 _) rfl rfl
  | trivial
  | exact C5 (by decide) (by decide)
  | exact C6 (by decide) (by decide)
  | (rw [decide_eq_true_eq]; omega)
  | (rw [decide_eq_false_iff_not]; omega)
  | (simp [h]; done)
  | (intro j hj; have hj0 : j = 0 := by omega
     subst hj0; rfl)
  | (intro j hj; have hj0 : j = 0 ∨ j = 1 ∨ j = 2 := by omega
     rcases hj0 with rfl | rfl | rfl <;> rfl)
  | decide
  | rfl
theorem by4 {s : RS} (hl : s.l.length ≤ 1000000000) (hk : (c6 5 s).1.toNat - 1 = 3) (h : ¬ (itR i3 3 (c6 5 s).2).2.e = 0) : T Tryz.prog 107 [p0] [(.o 0, rdB s)] (.agg (j5 s).1.c) [(.o 0, rdB (j5 s).2)] := by
 have hr := v9 (m := 5) (by decide) s
 have l0 : ∀ j, (itR i3 j (c6 5 s).2).2.l.length ≤ 1000000000 := fun j => Nat.le_trans (B9 B6 j _).1 (Nat.le_trans (i7 5 s).1 hl)
 have e1 : v8 s = ([(i3 (itR i3 0 (c6 5 s).2).2).1, (i3 (itR i3 1 (c6 5 s).2).2).1, (i3 (itR i3 2 (c6 5 s).2).2).1], (itR i3 3 (c6 5 s).2).2) := by unfold v8; rw [hk]; rfl
 have e : j5 s = (({} : SBatch), (itR i3 3 (c6 5 s).2).2) := by simp only [j5, e1, h, if_true, if_false]
 rw [e]
 refine f3 (ax0 s (itR i3 0 (c6 5 s).2).2 (itR i3 1 (c6 5 s).2).2 (itR i3 2 (c6 5 s).2).2 (itR i3 3 (c6 5 s).2).2 (c6 5 s).1 (i3 (itR i3 0 (c6 5 s).2).2).1 (i3 (itR i3 1 (c6 5 s).2).2).1 (i3 (itR i3 2 (c6 5 s).2).2).1) Tryz.func107 ?_
 simp only [All]; and_intros
 all_goals first
  | exact v5 0 5 s
  | exact C1 0 _
  | exact I0 (l0 _) rfl rfl
  | trivial
  | exact C5 (by decide) (by decide)
  | exact C6 (by decide) (by decide)
  | (rw [decide_eq_true_eq]; omega)
  | (rw [decide_eq_false_iff_not]; omega)
  | (simp [h]; done)
  | (intro j hj; have hj0 : j = 0 := by omega
     subst hj0; rfl)
  | (intro j hj; have hj0 : j = 0 ∨ j = 1 ∨ j = 2 := by omega
     rcases hj0 with rfl | rfl | rfl <;> rfl)
  | decide
  | rfl
theorem by_ {s : RS} (hl : s.l.length ≤ 1000000000) (hk : (c6 5 s).1.toNat - 1 = 4) (h :  (itR i3 4 (c6 5 s).2).2.e = 0) : T Tryz.prog 107 [p0] [(.o 0, rdB s)] (.agg (j5 s).1.c) [(.o 0, rdB (j5 s).2)] := by
 have hr := v9 (m := 5) (by decide) s
 have l0 : ∀ j, (itR i3 j (c6 5 s).2).2.l.length ≤ 1000000000 := fun j => Nat.le_trans (B9 B6 j _).1 (Nat.le_trans (i7 5 s).1 hl)
 have e1 : v8 s = ([(i3 (itR i3 0 (c6 5 s).2).2).1, (i3 (itR i3 1 (c6 5 s).2).2).1, (i3 (itR i3 2 (c6 5 s).2).2).1, (i3 (itR i3 3 (c6 5 s).2).2).1], (itR i3 4 (c6 5 s).2).2) := by unfold v8; rw [hk]; rfl
 have e : j5 s = (B8 (decide ((c6 5 s).1 = 0)) [(i3 (itR i3 0 (c6 5 s).2).2).1, (i3 (itR i3 1 (c6 5 s).2).2).1, (i3 (itR i3 2 (c6 5 s).2).2).1, (i3 (itR i3 3 (c6 5 s).2).2).1], (itR i3 4 (c6 5 s).2).2) := by simp only [j5, e1, h, if_true, if_false]
 rw [e]
 refine f3 (as0 s (itR i3 0 (c6 5 s).2).2 (itR i3 1 (c6 5 s).2).2 (itR i3 2 (c6 5 s).2).2 (itR i3 3 (c6 5 s).2).2 (itR i3 4 (c6 5 s).2).2 (c6 5 s).1 (i3 (itR i3 0 (c6 5 s).2).2).1 (i3 (itR i3 1 (c6 5 s).2).2).1 (i3 (itR i3 2 (c6 5 s).2).2).1 (i3 (itR i3 3 (c6 5 s).2).2).1) Tryz.func107 ?_
 simp only [All]; and_intros
 all_goals first
  | exact v5 0 5 s
  | exact C1 0 _
  | exact I0 (l0 _) rfl rfl
  | trivial
  | exact C5 (by decide) (by decide)
  | exact C6 (by decide) (by decide)
  | (rw [decide_eq_true_eq]; omega)
  | (rw [decide_eq_false_iff_not]; omega)
  | (simp [h]; done)
  | (intro j hj; have hj0 : j = 0 := by omega
     subst hj0; rfl)
  | (intro j hj; have hj0 : j = 0 ∨ j = 1 ∨ j = 2 ∨ j = 3 := by omega
     rcases hj0 with rfl | rfl | rfl | rfl <;> rfl)
  | decide
  | rfl
theorem by5 {s : RS} (hl : s.l.length ≤ 1000000000) (hk : (c6 5 s).1.toNat - 1 = 4) (h : ¬ (itR i3 4 (c6 5 s).2).2.e = 0) : T Tryz.prog 107 [p0] [(.o 0, rdB s)] (.agg (j5 s).1.c) [(.o 0, rdB (j5 s).2)] := by
 have hr := v9 (m := 5) (by decide) s
 have l0 : ∀ j, (itR i3 j (c6 5 s).2).2.l.length ≤ 1000000000 := fun j => Nat.le_trans (B9 B6 j _).1 (Nat.le_trans (i7 5 s).1 hl)
 have e1 : v8 s = ([(i3 (itR i3 0 (c6 5 s).2).2).1, (i3 (itR i3 1 (c6 5 s).2).2).1, (i3 (itR i3 2 (c6 5 s).2).2).1, (i3 (itR i3 3 (c6 5 s).2).2).1], (itR i3 4 (c6 5 s).2).2) := by unfold v8; rw [hk]; rfl
 have e : j5 s = (({} : SBatch), (itR i3 4 (c6 5 s).2).2) := by simp only [j5, e1, h, if_true, if_false]
 rw [e]
 refine f3 (ar_ s (itR i3 0 (c6 5 s).2).2 (itR i3 1 (c6 5 s).2).2 (itR i3 2 (c6 5 s).2).2 (itR i3 3 (c6 5 s).2).2 (itR i3 4 (c6 5 s).2).2 (c6 5 s).1 (i3 (itR i3 0 (c6 5 s).2).2).1 (i3 (itR i3 1 (c6 5 s).2).2).1 (i3 (itR i3 2 (c6 5 s).2).2).1 (i3 (itR i3 3 (c6 5 s).2).2).1) Tryz.func107 ?_
 simp only [All]; and_intros
 all_goals first
  | exact v5 0 5 s
  | exact C1 0 _
  | exact I0 (l0 _) rfl rfl
  | trivial
  | exact C5 (by decide) (by decide)
  | exact C6 (by decide) (by decide)
  | (rw [decide_eq_true_eq]; omega)
  | (rw [decide_eq_false_iff_not]; omega)
  | (simp [h]; done)
  | (intro j hj; have hj0 : j = 0 := by omega
     subst hj0; rfl)
  | (intro j hj; have hj0 : j = 0 ∨ j = 1 ∨ j = 2 ∨ j = 3 := by omega
     rcases hj0 with rfl | rfl | rfl | rfl <;> rfl)
  | decide
  | rfl
theorem by0 (s : RS) (hl : s.l.length ≤ 1000000000) : T Tryz.prog 107 [p0] [(.o 0, rdB s)] (.agg (j5 s).1.c) [(.o 0, rdB (j5 s).2)] := by
 have hr := v9 (m := 5) (by decide) s
 have hc : (c6 5 s).1.toNat - 1 = 0 ∨ (c6 5 s).1.toNat - 1 = 1 ∨ (c6 5 s).1.toNat - 1 = 2 ∨ (c6 5 s).1.toNat - 1 = 3 ∨ (c6 5 s).1.toNat - 1 = 4 := by omega
 rcases hc with hc | hc | hc | hc | hc
 ·by_cases h : (itR i3 0 (c6 5 s).2).2.e = 0
  ·exact by6 hl hc h
  ·exact by1 hl hc h
 ·by_cases h : (itR i3 1 (c6 5 s).2).2.e = 0
  ·exact by7 hl hc h
  ·exact by2 hl hc h
 ·by_cases h : (itR i3 2 (c6 5 s).2).2.e = 0
  ·exact by8 hl hc h
  ·exact by3 hl hc h
 ·by_cases h : (itR i3 3 (c6 5 s).2).2.e = 0
  ·exact by9 hl hc h
  ·exact by4 hl hc h
 ·by_cases h : (itR i3 4 (c6 5 s).2).2.e = 0
  ·exact by_ hl hc h
  ·exact by5 hl hc h
theorem C3 (s : RS) : A9 s (j5 s).2 := (i7 5 s).trans (B9 B6 _ _)
theorem aA6 (a : Nat) (s : RS) (hl : s.l.length ≤ 1000000000) : T Tryz.prog 107 [.ptr (.o a) 0 0 0 0] [(.o a, rdB s)] (.agg (j5 s).1.c) [(.o a, rdB (j5 s).2)] :=
 T.at1 (by0 s hl) (fun _ => rfl) (fun _ => rfl) a
def mrH (r a : Nat) (s : RS) : c5 := [(.o r, .flat [.ptr (.o a) 0 0 0 0, .bool s.bad]), (.o a, rdB s)]
def n01 : St → List Nm := fun _ => [.o 0, .o 1]
def cMr (v : V) (s : RS) : List V → c5 → Nat → List Cl := fun _ _ _ => [{ pre := [.o 0, .o 1], val := v, post := mrH 0 1 s }]
def Z3 (n : Nat) (z : List Int) (s : RS) : List Int × RS := (if (j1 n s).2.e = 0 then A1 (j1 n s).1 else z, (j1 n s).2)
def F6 (s : RS) : List Int × RS := Z3 32 z32 s
def H6 (s : RS) : List Int × RS := Z3 16 z16 s
def l8 (s : RS) : SSign × RS := ({ node := (c6 64 s).1, tag := (H6 (c6 64 s).2).1 }, (H6 (c6 64 s).2).2)
def X8 (s : RS) : RS := (c6 64 s).2
def T3 (s : RS) : RS := (r6 4194304 (X8 s)).2
def n4 (s : RS) : SEnv × RS := ({ src := (c6 64 s).1, body := (r6 4194304 (X8 s)).1, tag := (H6 (T3 s)).1 }, (H6 (T3 s)).2)
def RS.spoil (s : RS) : RS := { l := [], e := 2, bad := true }
def s7 (s : RS) : RS := if (c6 2 s).1 = 0 ∧ (c6 2 s).2.e = 0 then (c6 2 s).2.spoil else (c6 2 s).2
def J9 (s : RS) : RS := (c6 1048576 (s7 s)).2
def K0 (s : RS) : RS := (c6 1099511627776 (J9 s)).2
def E7 (s : RS) : RS := (c6 1099511627776 (K0 s)).2
def u6 (s : RS) : SVote × RS := ({ kind := (c6 2 s).1, epoch := (c6 1048576 (s7 s)).1, view := (c6 1099511627776 (J9 s)).1, slot := (c6 1099511627776 (K0 s)).1, digest := (F6 (E7 s)).1 }, (F6 (E7 s)).2)
noncomputable def ab5 (f : Func) (x : List V) (s : RS) (db : List (Nat × Nat × (List V → c5 → Nat → List Cl))) (cs : List V) (s' : RS) : Bd := { f := f, args := p0 :: x, pre := mrH 0 1 s, base := 2, kb := { db := aa7 2 db }, names := n01, k := ap9 cs (mrH 0 1 s') }
noncomputable def cd_ (s s' : RS) (xs : List UInt8) : Bd := ab5 Tryz.f113 [] s [(27, 6, aC5 (aq5 32 xs s'))] [.seg .u8 32 (A1 xs)] s'
noncomputable def cd9 (s s' : RS) (xs : List UInt8) : Bd := ab5 Tryz.f113 [] s [(27, 6, aC5 (aq5 32 xs s'))] [.seg .u8 32 z32] s'
noncomputable def cf4 (s s' : RS) (xs : List UInt8) : Bd := ab5 Tryz.f140 [] s [(27, 6, aC5 (aq5 16 xs s'))] [.seg .u8 16 (A1 xs)] s'
noncomputable def cf3 (s s' : RS) (xs : List UInt8) : Bd := ab5 Tryz.f140 [] s [(27, 6, aC5 (aq5 16 xs s'))] [.seg .u8 16 z16] s'
noncomputable def cf2 (s s1 s2 : RS) (r : SSign) : Bd := ab5 Tryz.f116 [] s [(25, 5, cRd (.int .i64 r.node) s1), (140, 7, cMr (.agg [.seg .u8 16 r.tag]) s2)] r.c s2
noncomputable def ce3 (s s1 s2 s3 : RS) (r : SEnv) : Bd := ab5 Tryz.f112 [] s [(25, 5, cRd (.int .i64 r.src) s1), (26, 10, cRd (.str r.body) s2), (140, 12, cMr (.agg [.seg .u8 16 r.tag]) s3)] r.c s3
noncomputable def aQ3 (s s0 sb s1 s2 s3 s4 : RS) (r : SVote) : Bd := ab5 Tryz.f108 [] s [(25, 5, cRd (.int .i64 r.kind) s0), (78, 16, cRd (.int .i64 s0.e) s0), (27, 27, fun _ _ _ => [{ pre := [.o 1], val := roB [], post := [(.o 1, rdB sb)] }]), (25, 23, cRd (.int .i64 r.epoch) s1), (25, 28, cRd (.int .i64 r.view) s2), (25, 33, cRd (.int .i64 r.slot) s3), (113, 41, cMr (.agg [.seg .u8 32 r.digest]) s4), (25, 32, cRd (.int .i64 r.epoch) s1), (25, 37, cRd (.int .i64 r.view) s2), (25, 42, cRd (.int .i64 r.slot) s3), (113, 50, cMr (.agg [.seg .u8 32 r.digest]) s4)] r.c s4
theorem bh0 (s : RS) (s' : RS) (xs : List UInt8) :
  e9 zp (cd_ s s' xs) [true] = (some (.agg [.seg .u8 32 (A1 xs)], [(.o 0, .flat [.ptr (.o 1) 0 0 0 0, .bool (RS.bad s')]), (.o 1, rdB s')], [T zp 27 [.ptr (.o 1) 0 0 0 0, .int .i64 32] [(.o 1, rdB s)] (.ros 1 32 (bl xs) false) [(.o 1, rdB s')], 32 ≤ (32 : Nat), ∀ (q : Nat), q < (32 : Nat) → true = true, q0, q0, q0, RS.bad s = RS.bad s', q (List.length (RS.l s')), ∀ (k : Nat), k < List.length (RS.l s') → bl (RS.l s') k = bl (RS.l s') k, false = true → false = true, q (RS.e s'), q2, q (32 : Nat), r7 (32 : Nat) z32 0 32 (bl xs) = A1 xs, q0, q0, q0]) : Option (V × c5 × List Prop)) := by kernel_rfl
theorem bg_ (s : RS) (s' : RS) (xs : List UInt8) :
  e9 zp (cd9 s s' xs) [false] = (some (.agg [.seg .u8 32 z32], [(.o 0, .flat [.ptr (.o 1) 0 0 0 0, .bool (RS.bad s')]), (.o 1, rdB s')], [T zp 27 [.ptr (.o 1) 0 0 0 0, .int .i64 32] [(.o 1, rdB s)] (.ros 1 0 (bl []) false) [(.o 1, rdB s')], 32 ≤ (32 : Nat), ∀ (q : Nat), q < (0 : Nat) → true = true, q0, q0, q0, RS.bad s = RS.bad s', q (List.length (RS.l s')), ∀ (k : Nat), k < List.length (RS.l s') → bl (RS.l s') k = bl (RS.l s') k, false = true → false = true, q (RS.e s'), q2, q (32 : Nat), r7 (32 : Nat) z32 0 0 (bl []) = z32, q0, q0, q0]) : Option (V × c5 × List Prop)) := by kernel_rfl
theorem bl0 (s : RS) (s' : RS) (xs : List UInt8) :
  e9 zp (cf4 s s' xs) [true] = (some (.agg [.seg .u8 16 (A1 xs)], [(.o 0, .flat [.ptr (.o 1) 0 0 0 0, .bool (RS.bad s')]), (.o 1, rdB s')], [T zp 27 [.ptr (.o 1) 0 0 0 0, .int .i64 16] [(.o 1, rdB s)] (.ros 1 16 (bl xs) false) [(.o 1, rdB s')], 16 ≤ (16 : Nat), ∀ (q : Nat), q < (16 : Nat) → true = true, q0, q0, q0, RS.bad s = RS.bad s', q (List.length (RS.l s')), ∀ (k : Nat), k < List.length (RS.l s') → bl (RS.l s') k = bl (RS.l s') k, false = true → false = true, q (RS.e s'), q2, q (16 : Nat), r7 (16 : Nat) z16 0 16 (bl xs) = A1 xs, q0, q0, q0]) : Option (V × c5 × List Prop)) := by kernel_rfl
theorem bk_ (s : RS) (s' : RS) (xs : List UInt8) :
  e9 zp (cf3 s s' xs) [false] = (some (.agg [.seg .u8 16 z16], [(.o 0, .flat [.ptr (.o 1) 0 0 0 0, .bool (RS.bad s')]), (.o 1, rdB s')], [T zp 27 [.ptr (.o 1) 0 0 0 0, .int .i64 16] [(.o 1, rdB s)] (.ros 1 0 (bl []) false) [(.o 1, rdB s')], 16 ≤ (16 : Nat), ∀ (q : Nat), q < (0 : Nat) → true = true, q0, q0, q0, RS.bad s = RS.bad s', q (List.length (RS.l s')), ∀ (k : Nat), k < List.length (RS.l s') → bl (RS.l s') k = bl (RS.l s') k, false = true → false = true, q (RS.e s'), q2, q (16 : Nat), r7 (16 : Nat) z16 0 0 (bl []) = z16, q0, q0, q0]) : Option (V × c5 × List Prop)) := by kernel_rfl
theorem bD9 (s : RS) (s1 : RS) (s2 : RS) (r : SSign) :
  e9 zp (cf2 s s1 s2 r) [] = (some (.agg (SSign.c r), [(.o 0, .flat [.ptr (.o 1) 0 0 0 0, .bool (RS.bad s2)]), (.o 1, rdB s2)], [T zp 25 [.ptr (.o 1) 0 0 0 0, .int .i64 64] [(.o 1, rdB s)] (.int .i64 (SSign.node r)) [(.o 1, rdB s1)], T zp 140 [.ptr (.o 0) 0 0 0 0] [(.o 0, .flat [.ptr (.o 1) 0 0 0 0, .bool (RS.bad s)]), (.o 1, rdB s1)] (.agg [.seg .u8 16 (SSign.tag r)]) [(.o 0, .flat [.ptr (.o 1) 0 0 0 0, .bool (RS.bad s2)]), (.o 1, rdB s2)], q0, q0, q0, q (RS.bad s2), q (List.length (RS.l s2)), ∀ (k : Nat), k < List.length (RS.l s2) → bl (RS.l s2) k = bl (RS.l s2) k, false = true → false = true, q (RS.e s2), q2, q (SSign.node r), q (16 : Nat), q (SSign.tag r), q0, q0, q0]) : Option (V × c5 × List Prop)) := by kernel_rfl
theorem bB8 (s : RS) (s1 : RS) (s2 : RS) (s3 : RS) (r : SEnv) :
  e9 zp (ce3 s s1 s2 s3 r) [] = (some (.agg (SEnv.c r), [(.o 0, .flat [.ptr (.o 1) 0 0 0 0, .bool (RS.bad s3)]), (.o 1, rdB s3)], [T zp 25 [.ptr (.o 1) 0 0 0 0, .int .i64 64] [(.o 1, rdB s)] (.int .i64 (SEnv.src r)) [(.o 1, rdB s1)], T zp 26 [.ptr (.o 1) 0 0 0 0, .int .i64 4194304] [(.o 1, rdB s1)] (.str (SEnv.body r)) [(.o 1, rdB s2)], T zp 140 [.ptr (.o 0) 0 0 0 0] [(.o 0, .flat [.ptr (.o 1) 0 0 0 0, .bool (RS.bad s)]), (.o 1, rdB s2)] (.agg [.seg .u8 16 (SEnv.tag r)]) [(.o 0, .flat [.ptr (.o 1) 0 0 0 0, .bool (RS.bad s3)]), (.o 1, rdB s3)], q0, q0, q0, q (RS.bad s3), q (List.length (RS.l s3)), ∀ (k : Nat), k < List.length (RS.l s3) → bl (RS.l s3) k = bl (RS.l s3) k, false = true → false = true, q (RS.e s3), q2, q (SEnv.src r), q (SEnv.body r), q (16 : Nat), q (SEnv.tag r), q0, q0, q0]) : Option (V × c5 × List Prop)) := by kernel_rfl
noncomputable def M9 (s : RS) (s0 : RS) (sb : RS) (s1 : RS) (s2 : RS) (s3 : RS) (s4 : RS) (r : SVote) : Nat → List Prop
 | 0 => [T zp 25 [.ptr (.o 1) 0 0 0 0, .int .i64 2] [(.o 1, rdB s)] (.int .i64 (SVote.kind r)) [(.o 1, rdB s0)]]
 | 1 => [decide (SVote.kind r = (0 : Int)) = true, T zp 78 [.ptr (.o 1) 0 0 0 0] [(.o 1, rdB s0)] (.int .i64 (RS.e s0)) [(.o 1, rdB s0)]]
 | _ => []
theorem a4_ (s : RS) (s0 : RS) (sb : RS) (s1 : RS) (s2 : RS) (s3 : RS) (s4 : RS) (r : SVote) :
 e9 zp (aQ3 s s0 sb s1 s2 s3 s4 r) [true, true] = (some (.agg (SVote.c r), [(.o 0, .flat [.ptr (.o 1) 0 0 0 0, .bool (RS.bad s4)]), (.o 1, rdB s4)], M9 s s0 sb s1 s2 s3 s4 r 0 ++ (M9 s s0 sb s1 s2 s3 s4 r 1 ++ [decide (RS.e s0 = (0 : Int)) = true, T zp 27 [.ptr (.o 1) 0 0 0 0, .int .i64 (-1 : Int)] [(.o 1, rdB s0)] (.ros 1 0 (bl []) false) [(.o 1, rdB sb)], T zp 25 [.ptr (.o 1) 0 0 0 0, .int .i64 1048576] [(.o 1, rdB sb)] (.int .i64 (SVote.epoch r)) [(.o 1, rdB s1)], T zp 25 [.ptr (.o 1) 0 0 0 0, .int .i64 1099511627776] [(.o 1, rdB s1)] (.int .i64 (SVote.view r)) [(.o 1, rdB s2)], T zp 25 [.ptr (.o 1) 0 0 0 0, .int .i64 1099511627776] [(.o 1, rdB s2)] (.int .i64 (SVote.slot r)) [(.o 1, rdB s3)], T zp 113 [.ptr (.o 0) 0 0 0 0] [(.o 0, .flat [.ptr (.o 1) 0 0 0 0, .bool true]), (.o 1, rdB s3)] (.agg [.seg .u8 32 (SVote.digest r)]) [(.o 0, .flat [.ptr (.o 1) 0 0 0 0, .bool (RS.bad s4)]), (.o 1, rdB s4)], q0, q0, q0, q (RS.bad s4), q (List.length (RS.l s4)), ∀ (k : Nat), k < List.length (RS.l s4) → bl (RS.l s4) k = bl (RS.l s4) k, false = true → false = true, q (RS.e s4), q2, q (SVote.kind r), q (SVote.epoch r), q (SVote.view r), q (SVote.slot r), q (32 : Nat), q (SVote.digest r), q0, q0, q0])) : Option (V × c5 × List Prop)) := by kernel_rfl
theorem a3_ (s : RS) (s0 : RS) (sb : RS) (s1 : RS) (s2 : RS) (s3 : RS) (s4 : RS) (r : SVote) :
 e9 zp (aQ3 s s0 sb s1 s2 s3 s4 r) [true, false] = (some (.agg (SVote.c r), [(.o 0, .flat [.ptr (.o 1) 0 0 0 0, .bool (RS.bad s4)]), (.o 1, rdB s4)], M9 s s0 sb s1 s2 s3 s4 r 0 ++ (M9 s s0 sb s1 s2 s3 s4 r 1 ++ [decide (RS.e s0 = (0 : Int)) = false, T zp 25 [.ptr (.o 1) 0 0 0 0, .int .i64 1048576] [(.o 1, rdB s0)] (.int .i64 (SVote.epoch r)) [(.o 1, rdB s1)], T zp 25 [.ptr (.o 1) 0 0 0 0, .int .i64 1099511627776] [(.o 1, rdB s1)] (.int .i64 (SVote.view r)) [(.o 1, rdB s2)], T zp 25 [.ptr (.o 1) 0 0 0 0, .int .i64 1099511627776] [(.o 1, rdB s2)] (.int .i64 (SVote.slot r)) [(.o 1, rdB s3)], T zp 113 [.ptr (.o 0) 0 0 0 0] [(.o 0, .flat [.ptr (.o 1) 0 0 0 0, .bool (RS.bad s)]), (.o 1, rdB s3)] (.agg [.seg .u8 32 (SVote.digest r)]) [(.o 0, .flat [.ptr (.o 1) 0 0 0 0, .bool (RS.bad s4)]), (.o 1, rdB s4)], q0, q0, q0, q (RS.bad s4), q (List.length (RS.l s4)), ∀ (k : Nat), k < List.length (RS.l s4) → bl (RS.l s4) k = bl (RS.l s4) k, false = true → false = true, q (RS.e s4), q2, q (SVote.kind r), q (SVote.epoch r), q (SVote.view r), q (SVote.slot r), q (32 : Nat), q (SVote.digest r), q0, q0, q0])) : Option (V × c5 × List Prop)) := by kernel_rfl
theorem a2_ (s : RS) (s0 : RS) (sb : RS) (s1 : RS) (s2 : RS) (s3 : RS) (s4 : RS) (r : SVote) :
 e9 zp (aQ3 s s0 sb s1 s2 s3 s4 r) [false, false] = (some (.agg (SVote.c r), [(.o 0, .flat [.ptr (.o 1) 0 0 0 0, .bool (RS.bad s4)]), (.o 1, rdB s4)], M9 s s0 sb s1 s2 s3 s4 r 0 ++ [decide (SVote.kind r = (0 : Int)) = false, q false, T zp 25 [.ptr (.o 1) 0 0 0 0, .int .i64 1048576] [(.o 1, rdB s0)] (.int .i64 (SVote.epoch r)) [(.o 1, rdB s1)], T zp 25 [.ptr (.o 1) 0 0 0 0, .int .i64 1099511627776] [(.o 1, rdB s1)] (.int .i64 (SVote.view r)) [(.o 1, rdB s2)], T zp 25 [.ptr (.o 1) 0 0 0 0, .int .i64 1099511627776] [(.o 1, rdB s2)] (.int .i64 (SVote.slot r)) [(.o 1, rdB s3)], T zp 113 [.ptr (.o 0) 0 0 0 0] [(.o 0, .flat [.ptr (.o 1) 0 0 0 0, .bool (RS.bad s)]), (.o 1, rdB s3)] (.agg [.seg .u8 32 (SVote.digest r)]) [(.o 0, .flat [.ptr (.o 1) 0 0 0 0, .bool (RS.bad s4)]), (.o 1, rdB s4)], q0, q0, q0, q (RS.bad s4), q (List.length (RS.l s4)), ∀ (k : Nat), k < List.length (RS.l s4) → bl (RS.l s4) k = bl (RS.l s4) k, false = true → false = true, q (RS.e s4), q2, q (SVote.kind r), q (SVote.epoch r), q (SVote.view r), q (SVote.slot r), q (32 : Nat), q (SVote.digest r), q0, q0, q0]) : Option (V × c5 × List Prop)) := by kernel_rfl
def mrHb (b : Bool) (s : RS) : c5 := [(.o 0, .flat [.ptr (.o 1) 0 0 0 0, .bool b]), (.o 1, rdB s)]
theorem G6 {b : Bool} {s : RS} (h : s.bad = b) : mrHb b s = mrH 0 1 s := by subst h; rfl
theorem cg6 {xs : List UInt8} (h : xs.length = 32) : [l9 (bl xs 0), l9 (bl xs 1), l9 (bl xs 2), l9 (bl xs 3), l9 (bl xs 4), l9 (bl xs 5), l9 (bl xs 6), l9 (bl xs 7), l9 (bl xs 8), l9 (bl xs 9), l9 (bl xs 10), l9 (bl xs 11), l9 (bl xs 12), l9 (bl xs 13), l9 (bl xs 14), l9 (bl xs 15), l9 (bl xs 16), l9 (bl xs 17), l9 (bl xs 18), l9 (bl xs 19), l9 (bl xs 20), l9 (bl xs 21), l9 (bl xs 22), l9 (bl xs 23), l9 (bl xs 24), l9 (bl xs 25), l9 (bl xs 26), l9 (bl xs 27), l9 (bl xs 28), l9 (bl xs 29), l9 (bl xs 30), l9 (bl xs 31)] = A1 xs := by
 match xs, h with
 | [a0, a1, a2, a3, a4, a5, a6, a7, a8, a9, a10, a11, a12, a13, a14, a15, b0, b1, b2, b3, b4, b5, b6, b7, b8, b9, b10, b11, b12, b13, b14, b15], _ => rfl
theorem an_ (s : RS) (hl : s.l.length ≤ 1000000000) : T Tryz.prog 113 [p0] (mrH 0 1 s) (.agg [.seg .u8 32 (F6 s).1]) (mrH 0 1 (F6 s).2) := by
 by_cases h : (j1 32 s).2.e = 0
 ·have hn : (j1 32 s).1.length = 32 := U8 (n := 32) h
  have e : F6 s = (A1 (j1 32 s).1, (j1 32 s).2) := by simp [F6, Z3, h]
  rw [e]
  refine f3 (bh0 s (j1 32 s).2 (j1 32 s).1) Tryz.func113 ?_
  simp only [All]; and_intros
  all_goals first | (have := V2 1 32 s hl; rw [roB, hn] at this; exact this) | exact cg6 hn | exact (H0 32 s).2.1.symm | trivial | (simp [hn]; done)
 ·have hn : (j1 32 s).1 = [] := W5 (n := 32) h
  have e : F6 s = (z32, (j1 32 s).2) := by simp [F6, Z3, h]
  rw [e]
  refine f3 (bg_ s (j1 32 s).2 (j1 32 s).1) Tryz.func113 ?_
  simp only [All]; and_intros
  all_goals first | (have := V2 1 32 s hl; rw [roB, hn] at this; exact this) | exact (H0 32 s).2.1.symm | trivial | simp
theorem aV3 (s : RS) (hl : s.l.length ≤ 1000000000) : T Tryz.prog 140 [p0] (mrH 0 1 s) (.agg [.seg .u8 16 (H6 s).1]) (mrH 0 1 (H6 s).2) := by
 by_cases h : (j1 16 s).2.e = 0
 ·have hn : (j1 16 s).1.length = 16 := U8 (n := 16) h
  have e : H6 s = (A1 (j1 16 s).1, (j1 16 s).2) := by simp [H6, Z3, h]
  rw [e]
  refine f3 (bl0 s (j1 16 s).2 (j1 16 s).1) Tryz.func140 ?_
  simp only [All]; and_intros
  all_goals first | (have := V2 1 16 s hl; rw [roB, hn] at this; exact this) | exact bx1 hn | exact (H0 16 s).2.1.symm | trivial | (simp [hn]; done)
 ·have hn : (j1 16 s).1 = [] := W5 (n := 16) h
  have e : H6 s = (z16, (j1 16 s).2) := by simp [H6, Z3, h]
  rw [e]
  refine f3 (bk_ s (j1 16 s).2 (j1 16 s).1) Tryz.func140 ?_
  simp only [All]; and_intros
  all_goals first | (have := V2 1 16 s hl; rw [roB, hn] at this; exact this) | exact (H0 16 s).2.1.symm | trivial | simp
theorem ar1 (s : RS) : A9 s (H6 s).2 := H0 16 s
theorem ab9 (s : RS) : A9 s (F6 s).2 := H0 32 s
theorem T.heap {P : Program} {f : FuncId} {args : List V} {pre pre' : c5} {val : V} {post : c5} (h : T P f args pre val post) (e : pre = pre') : T P f args pre' val post := by subst e; exact h
theorem bA2 (s : RS) (hl : s.l.length ≤ 1000000000) : T Tryz.prog 116 [p0] (mrH 0 1 s) (.agg (l8 s).1.c) (mrH 0 1 (l8 s).2) := by
 have a1 := i7 64 s
 refine f3 (bD9 s (c6 64 s).2 (l8 s).2 (l8 s).1) Tryz.func116 ?_
 simp only [All]; and_intros
 all_goals first | exact v5 1 64 s | exact T.heap (aV3 (c6 64 s).2 (Nat.le_trans a1.1 hl)) (G6 a1.2.1).symm | trivial | simp
theorem R0 (s : RS) : A9 s (l8 s).2 := (i7 64 s).trans (ar1 _)
theorem bM5 (s : RS) (hl : s.l.length ≤ 1000000000) : T Tryz.prog 112 [p0] (mrH 0 1 s) (.agg (n4 s).1.c) (mrH 0 1 (n4 s).2) := by
 have a1 : A9 s (X8 s) := i7 64 s
 have a2 : A9 s (T3 s) := a1.trans (F9 _ _)
 refine f3 (bB8 s (X8 s) (T3 s) (n4 s).2 (n4 s).1) Tryz.func112 ?_
 simp only [All]; and_intros
 all_goals first | exact v5 1 64 s | exact ah4 1 _ _ (Nat.le_trans a1.1 hl) | exact T.heap (aV3 (T3 s) (Nat.le_trans a2.1 hl)) (G6 a2.2.1).symm | trivial | simp
theorem ac0 (s : RS) : A9 s (n4 s).2 := ((i7 64 s).trans (F9 _ _)).trans (ar1 _)
def Aft (s s' : RS) : Prop := s'.l.length ≤ s.l.length ∧ (s.e ≠ 0 → s'.e ≠ 0)
theorem A9.aft {s s' : RS} (h : A9 s s') : Aft s s' := ⟨h.1, h.2.2⟩
theorem Aft.refl (s : RS) : Aft s s := ⟨Nat.le_refl _, id⟩
theorem Aft.trans {a b c : RS} (h : Aft a b) (h' : Aft b c) : Aft a c := ⟨Nat.le_trans h'.1 h.1, fun e => h'.2 (h.2 e)⟩
theorem ar3 (s : RS) : Aft s (s7 s) := by
 unfold s7
 split
 ·exact ⟨Nat.zero_le _, fun _ => by simp [RS.spoil]⟩
 ·exact (i7 2 s).aft
theorem Y9 (s : RS) : Aft s (u6 s).2 := ((((ar3 s).trans (i7 _ _).aft).trans (i7 _ _).aft).trans (i7 _ _).aft).trans (ab9 _).aft
theorem aU8 (s : RS) : (E7 s).bad = (s7 s).bad := (((i7 1048576 (s7 s)).trans (i7 1099511627776 (J9 s))).trans (i7 1099511627776 (K0 s))).2.1
theorem aL1 (s : RS) (hl : s.l.length ≤ 1000000000) : T Tryz.prog 108 [p0] (mrH 0 1 s) (.agg (u6 s).1.c) (mrH 0 1 (u6 s).2) := by
 have b := aU8 s
 have a0 := i7 2 s
 have l3 : (E7 s).l.length ≤ 1000000000 := Nat.le_trans ((((ar3 s).trans (i7 _ _).aft).trans (i7 _ _).aft).trans (i7 _ _).aft).1 hl
 by_cases h1 : (c6 2 s).1 = 0
 ·by_cases h2 : (c6 2 s).2.e = 0
  ·have e0 : s7 s = (c6 2 s).2.spoil := by simp [s7, h1, h2]
   have hr : (j1 (-1) (c6 2 s).2) = ([], (c6 2 s).2.fail 2) := by simp [j1, h2]
   refine f3 (a4_ s (c6 2 s).2 (s7 s) (J9 s) (K0 s) (E7 s) (u6 s).2 (u6 s).1) Tryz.func108 ?_
   simp only [All, f6, M9]; and_intros
   all_goals first | exact v5 1 _ _ | exact C1 1 _ | (have := V2 1 (-1) (c6 2 s).2 (Nat.le_trans a0.1 hl); rw [hr] at this; rw [e0]; exact this) | exact T.heap (an_ (E7 s) l3) (G6 (b.trans (by rw [e0]; rfl))).symm | (rw [decide_eq_true_eq]; assumption) | trivial | simp
  ·have e0 : s7 s = (c6 2 s).2 := by simp [s7, h2]
   refine f3 (a3_ s (c6 2 s).2 (s7 s) (J9 s) (K0 s) (E7 s) (u6 s).2 (u6 s).1) Tryz.func108 ?_
   simp only [All, f6, M9]; and_intros
   all_goals first | exact v5 1 _ _ | exact C1 1 _ | (rw [← e0]; exact v5 1 _ _) | exact T.heap (an_ (E7 s) l3) (G6 (b.trans (by rw [e0]; exact a0.2.1))).symm | (rw [decide_eq_true_eq]; assumption) | (rw [decide_eq_false_iff_not]; assumption) | trivial | simp
 ·have e0 : s7 s = (c6 2 s).2 := by simp [s7, h1]
  refine f3 (a2_ s (c6 2 s).2 (s7 s) (J9 s) (K0 s) (E7 s) (u6 s).2 (u6 s).1) Tryz.func108 ?_
  simp only [All, f6, M9]; and_intros
  all_goals first | exact v5 1 _ _ | (rw [← e0]; exact v5 1 _ _) | exact T.heap (an_ (E7 s) l3) (G6 (b.trans (by rw [e0]; exact a0.2.1))).symm | (rw [decide_eq_false_iff_not]; assumption) | trivial | simp
def stR {α : Type} (one : RS → α × RS) (s : RS) : Nat → RS
 | 0 => s
 | k + 1 => (one (stR one s k)).2
def ab7 {α : Type} (one : RS → α × RS) : Nat → RS → Nat
 | 0, _ => 0
 | n + 1, s => if s.e = 0 then ab7 one n (one s).2 + 1 else 0
def Y1 (n : Nat) (el : Nat → SSign) (st : Nat → RS) (k : Nat) : St := ⟨mkT 28 [(0, p0), (2, .fn (.func 116) [p0] []), (6, .sl (.o 2) 17 0 0 0 k none), (12, .int .i64 n), (13, .int .i64 k)], mrH 0 1 (st k) ++ [(.o 2, .rows 17 k (fun i => (el i).c) true)], 3, []⟩
noncomputable def aX6 (most : Int) (n m : Nat) (el : Nat → SSign) (st : Nat → RS) (s : RS) : Bd := { f := Tryz.f115, args := [p0, .int .i64 most, .fn (.func 116) [p0] []], pre := mrH 0 1 s, base := 2, kb := { db := dbF [(25, cRd (.int .i64 n) (st 0))], lp := fun _ t => match m6 t.tmps 6 with | .sl a _ _ _ _ _ _ => [(True, .loop (m + 1) (w6 [(.o 2, a)] (Y1 n el st 0)) (.exit 0) (Y1 n el st m))] | _ => [], fx := fun id _ => bif Nat.beq id 2 then [.virt 6 17] else [] }, names := n01, k := fun _ t => some ⟨[], [(6, .set (.ros 17 m (fun i => (el i).c) false))], I2 (mrH 0 1 (st m)), none, t.next⟩ }
noncomputable def aF_ (n : Nat) (el : Nat → SSign) (st : Nat → RS) (k : Nat) : Pc := { c := cB (cB (cR (cL (cR (f1 Tryz.f115))))), st := Y1 n el st k, p := 2, kb := { db := dbF [(78, cRd (.int .i64 (st k).e) (st k)), (116, cMr (.agg (el k).c) (st (k + 1)))] }, k := fun e t => match e with
 | .normal => match m6 t.tmps 6 with
  | .sl a _ _ _ _ _ _ => some (w6 [(.o 2, a)] (Y1 n el st (k + 1)))
  | _ => none
 | _ => some (wTo (Y1 n el st k)) }
def Y0 (n : Nat) (el : Nat → SEnv) (st : Nat → RS) (k : Nat) : St := ⟨mkT 28 [(0, p0), (2, .fn (.func 112) [p0] []), (6, .sl (.o 2) 18 0 0 0 k none), (12, .int .i64 n), (13, .int .i64 k)], mrH 0 1 (st k) ++ [(.o 2, .rows 18 k (fun i => (el i).c) true)], 3, []⟩
noncomputable def aX5 (most : Int) (n m : Nat) (el : Nat → SEnv) (st : Nat → RS) (s : RS) : Bd := { f := Tryz.f111, args := [p0, .int .i64 most, .fn (.func 112) [p0] []], pre := mrH 0 1 s, base := 2, kb := { db := dbF [(25, cRd (.int .i64 n) (st 0))], lp := fun _ t => match m6 t.tmps 6 with | .sl a _ _ _ _ _ _ => [(True, .loop (m + 1) (w6 [(.o 2, a)] (Y0 n el st 0)) (.exit 0) (Y0 n el st m))] | _ => [], fx := fun id _ => bif Nat.beq id 2 then [.virt 6 18] else [] }, names := n01, k := fun _ t => some ⟨[], [(6, .set (.ros 18 m (fun i => (el i).c) false))], I2 (mrH 0 1 (st m)), none, t.next⟩ }
noncomputable def aF9 (n : Nat) (el : Nat → SEnv) (st : Nat → RS) (k : Nat) : Pc := { c := cB (cB (cR (cL (cR (f1 Tryz.f111))))), st := Y0 n el st k, p := 2, kb := { db := dbF [(78, cRd (.int .i64 (st k).e) (st k)), (112, cMr (.agg (el k).c) (st (k + 1)))] }, k := fun e t => match e with
 | .normal => match m6 t.tmps 6 with
  | .sl a _ _ _ _ _ _ => some (w6 [(.o 2, a)] (Y0 n el st (k + 1)))
  | _ => none
 | _ => some (wTo (Y0 n el st k)) }
def X9 (n : Nat) (el : Nat → SHeld) (st : Nat → RS) (k : Nat) : St := ⟨mkT 28 [(0, p0), (2, .fn (.func 110) [p0] []), (6, .sl (.o 2) 39 0 0 0 k none), (12, .int .i64 n), (13, .int .i64 k)], mrH 0 1 (st k) ++ [(.o 2, .rows 39 k (fun i => (el i).c) true)], 3, []⟩
noncomputable def aX4 (most : Int) (n m : Nat) (el : Nat → SHeld) (st : Nat → RS) (s : RS) : Bd := { f := Tryz.f109, args := [p0, .int .i64 most, .fn (.func 110) [p0] []], pre := mrH 0 1 s, base := 2, kb := { db := dbF [(25, cRd (.int .i64 n) (st 0))], lp := fun _ t => match m6 t.tmps 6 with | .sl a _ _ _ _ _ _ => [(True, .loop (m + 1) (w6 [(.o 2, a)] (X9 n el st 0)) (.exit 0) (X9 n el st m))] | _ => [], fx := fun id _ => bif Nat.beq id 2 then [.virt 6 39] else [] }, names := n01, k := fun _ t => some ⟨[], [(6, .set (.ros 39 m (fun i => (el i).c) false))], I2 (mrH 0 1 (st m)), none, t.next⟩ }
noncomputable def aF8 (n : Nat) (el : Nat → SHeld) (st : Nat → RS) (k : Nat) : Pc := { c := cB (cB (cR (cL (cR (f1 Tryz.f109))))), st := X9 n el st k, p := 2, kb := { db := dbF [(78, cRd (.int .i64 (st k).e) (st k)), (110, cMr (.agg (el k).c) (st (k + 1)))] }, k := fun e t => match e with
 | .normal => match m6 t.tmps 6 with
  | .sl a _ _ _ _ _ _ => some (w6 [(.o 2, a)] (X9 n el st (k + 1)))
  | _ => none
 | _ => some (wTo (X9 n el st k)) }
theorem bh9 (most : Int) (n : Nat) (m : Nat) (el : Nat → SSign) (st : Nat → RS) (s : RS) :
  e9 zp (aX6 most n m el st s) [] = (some (.ros 17 m (fun i => SSign.c (el i)) false, [(.o 0, .flat [.ptr (.o 1) 0 0 0 0, .bool (RS.bad (st m))]), (.o 1, rdB (st m))], [T zp 25 [.ptr (.o 1) 0 0 0 0, .int .i64 most] [(.o 1, rdB s)] (.int .i64 ↑n) [(.o 1, rdB (st 0))], f9 zp none 2 (cB (cB (cR (cL (cR (f1 (Bd.f (aX6 most n m el st s)))))))) (m + 1) (St.mk (mkT 28 [(0, .ptr (.o 0) 0 0 0 0), (2, .fn (.func (116 : FuncId)) [.ptr (.o 0) 0 0 0 0] []), (6, .sl (.o 2) 17 0 0 0 0 none), (12, .int .i64 ↑n), (13, .int .i64 0)]) [(.o 0, .flat [.ptr (.o 1) 0 0 0 0, .bool (RS.bad (st 0))]), (.o 1, rdB (st 0)), (.o 2, .rows 17 0 (fun i => SSign.c (el i)) true)] 3 []) (.exit 0) (St.mk (mkT 28 [(0, .ptr (.o 0) 0 0 0 0), (2, .fn (.func (116 : FuncId)) [.ptr (.o 0) 0 0 0 0] []), (6, .sl (.o 2) 17 0 0 0 m none), (12, .int .i64 ↑n), (13, .int .i64 ↑m)]) [(.o 0, .flat [.ptr (.o 1) 0 0 0 0, .bool (RS.bad (st m))]), (.o 1, rdB (st m)), (.o 2, .rows 17 m (fun i => SSign.c (el i)) true)] 3 []), q0, q0, q0, RS.bad s = RS.bad (st (0 : Nat)), q (List.length (RS.l (st (0 : Nat)))), ∀ (k : Nat), k < List.length (RS.l (st (0 : Nat))) → bl (RS.l (st (0 : Nat))) k = bl (RS.l (st (0 : Nat))) k, false = true → false = true, q (RS.e (st (0 : Nat))), q2, q0, ∀ (k : Nat), k < (0 : Nat) → [] = SSign.c (el k), true = false → true = false, q0, q0, q0, q0, q0, q0, q0, q0, q0, q0, (none : Option Nat) = none ∨ (none : Option Nat) = none, q (↑n : Int), q1, q0, q0, q0, q (RS.bad (st m)), q (List.length (RS.l (st m))), ∀ (k : Nat), k < List.length (RS.l (st m)) → bl (RS.l (st m)) k = bl (RS.l (st m)) k, false = true → false = true, q (RS.e (st m)), q2, q m, (0 : Nat) + m ≤ m, ∀ (k : Nat), k < m → SSign.c (el ((0 : Nat) + k)) = SSign.c (el k), false = true → none = some m]) : Option (V × c5 × List Prop)) := by kernel_rfl
theorem aT7 (n : Nat) (el : Nat → SSign) (st : Nat → RS) (k : Nat) :
  i5 zp (aF_ n el st k) [true, true] = (some (.exit 0, St.mk (mkT 28 [(0, .ptr (.o 0) 0 0 0 0), (2, .fn (.func (116 : FuncId)) [.ptr (.o 0) 0 0 0 0] []), (6, .sl (.o 2) 17 0 0 0 k none), (12, .int .i64 ↑n), (13, .int .i64 ↑k)]) [(.o 0, .flat [.ptr (.o 1) 0 0 0 0, .bool (RS.bad (st k))]), (.o 1, rdB (st k)), (.o 2, .rows 17 k (fun i => SSign.c (el i)) true)] 3 [], [decide ((↑k : Int) < (↑n : Int)) = true, T zp 78 [.ptr (.o 1) 0 0 0 0] [(.o 1, rdB (st k))] (.int .i64 (RS.e (st k))) [(.o 1, rdB (st k))], (!decide (RS.e (st k) = (0 : Int))) = true, q0, q0, q0, q (RS.bad (st k)), q (List.length (RS.l (st k))), ∀ (k_1 : Nat), k_1 < List.length (RS.l (st k)) → bl (RS.l (st k)) k_1 = bl (RS.l (st k)) k_1, false = true → false = true, q (RS.e (st k)), q2, q k, ∀ (k_1 : Nat), k_1 < k → SSign.c (el k_1) = SSign.c (el k_1), true = false → true = false, q0, q0, q0, q0, q0, q0, q0, q0, q0, q k, (none : Option Nat) = none ∨ (none : Option Nat) = none, q (↑n : Int), q (↑k : Int)]) : Option (Exit × St × List Prop)) := by kernel_rfl
theorem aT6 (n : Nat) (el : Nat → SSign) (st : Nat → RS) (k : Nat) :
  i5 zp (aF_ n el st k) [true, false] = (some (.normal, St.mk (mkT 28 [(0, .ptr (.o 0) 0 0 0 0), (2, .fn (.func (116 : FuncId)) [.ptr (.o 0) 0 0 0 0] []), (6, .sl (.o 2) 17 0 0 0 (k + 1) none), (12, .int .i64 ↑n), (13, .int .i64 (↑(k + 1) : Int))]) [(.o 0, .flat [.ptr (.o 1) 0 0 0 0, .bool (RS.bad (st (k + 1)))]), (.o 1, rdB (st (k + 1))), (.o 2, .rows 17 (k + 1) (fun i => SSign.c (el i)) true)] 3 [], [decide ((↑k : Int) < (↑n : Int)) = true, T zp 78 [.ptr (.o 1) 0 0 0 0] [(.o 1, rdB (st k))] (.int .i64 (RS.e (st k))) [(.o 1, rdB (st k))], (!decide (RS.e (st k) = (0 : Int))) = false, T zp (116 : FuncId) [.ptr (.o 0) 0 0 0 0] [(.o 0, .flat [.ptr (.o 1) 0 0 0 0, .bool (RS.bad (st k))]), (.o 1, rdB (st k))] (.agg (SSign.c (el k))) [(.o 0, .flat [.ptr (.o 1) 0 0 0 0, .bool (RS.bad (st (k + 1)))]), (.o 1, rdB (st (k + 1)))], q k, 1 ≤ (1 : Nat), ∀ (k_1 : Nat), k_1 < (1 : Nat) → m8 (j3 [(SSign.c (el k))] ((0 : Nat) + k_1)) = true, (k + (1 : Nat)) * (24 : Nat) ≤ (140737488355328 : Nat), InR .i64 ((↑k : Int) + (1 : Int)), q0, q0, q0, q (RS.bad (st (k + (1 : Nat)))), q (List.length (RS.l (st (k + (1 : Nat))))), ∀ (k_1 : Nat), k_1 < List.length (RS.l (st (k + (1 : Nat)))) → bl (RS.l (st (k + (1 : Nat)))) k_1 = bl (RS.l (st (k + (1 : Nat)))) k_1, false = true → false = true, q (RS.e (st (k + (1 : Nat)))), q2, q (k + (1 : Nat)), ∀ (k_1 : Nat), k_1 < k + (1 : Nat) → m5 k (fun i => SSign.c (el i)) (fun k_2 => j3 [(SSign.c (el k))] ((0 : Nat) + k_2)) k_1 = SSign.c (el k_1), true = false → true = false, q0, q0, q0, q0, q0, q0, q0, q0, q0, q (k + (1 : Nat)), (none : Option Nat) = none ∨ (none : Option Nat) = none, q (↑n : Int), (↑k : Int) + (1 : Int) = (↑(k + (1 : Nat)) : Int)]) : Option (Exit × St × List Prop)) := by kernel_rfl
theorem av9 (n : Nat) (el : Nat → SSign) (st : Nat → RS) (k : Nat) :
  i5 zp (aF_ n el st k) [false] = (some (.exit 0, St.mk (mkT 28 [(0, .ptr (.o 0) 0 0 0 0), (2, .fn (.func (116 : FuncId)) [.ptr (.o 0) 0 0 0 0] []), (6, .sl (.o 2) 17 0 0 0 k none), (12, .int .i64 ↑n), (13, .int .i64 ↑k)]) [(.o 0, .flat [.ptr (.o 1) 0 0 0 0, .bool (RS.bad (st k))]), (.o 1, rdB (st k)), (.o 2, .rows 17 k (fun i => SSign.c (el i)) true)] 3 [], [decide ((↑k : Int) < (↑n : Int)) = false, q0, q0, q0, q (RS.bad (st k)), q (List.length (RS.l (st k))), ∀ (k_1 : Nat), k_1 < List.length (RS.l (st k)) → bl (RS.l (st k)) k_1 = bl (RS.l (st k)) k_1, false = true → false = true, q (RS.e (st k)), q2, q k, ∀ (k_1 : Nat), k_1 < k → SSign.c (el k_1) = SSign.c (el k_1), true = false → true = false, q0, q0, q0, q0, q0, q0, q0, q0, q0, q k, (none : Option Nat) = none ∨ (none : Option Nat) = none, q (↑n : Int), q (↑k : Int)]) : Option (Exit × St × List Prop)) := by kernel_rfl
theorem bh8 (most : Int) (n : Nat) (m : Nat) (el : Nat → SEnv) (st : Nat → RS) (s : RS) :
  e9 zp (aX5 most n m el st s) [] = (some (.ros 18 m (fun i => SEnv.c (el i)) false, [(.o 0, .flat [.ptr (.o 1) 0 0 0 0, .bool (RS.bad (st m))]), (.o 1, rdB (st m))], [T zp 25 [.ptr (.o 1) 0 0 0 0, .int .i64 most] [(.o 1, rdB s)] (.int .i64 ↑n) [(.o 1, rdB (st 0))], f9 zp none 2 (cB (cB (cR (cL (cR (f1 (Bd.f (aX5 most n m el st s)))))))) (m + 1) (St.mk (mkT 28 [(0, .ptr (.o 0) 0 0 0 0), (2, .fn (.func (112 : FuncId)) [.ptr (.o 0) 0 0 0 0] []), (6, .sl (.o 2) 18 0 0 0 0 none), (12, .int .i64 ↑n), (13, .int .i64 0)]) [(.o 0, .flat [.ptr (.o 1) 0 0 0 0, .bool (RS.bad (st 0))]), (.o 1, rdB (st 0)), (.o 2, .rows 18 0 (fun i => SEnv.c (el i)) true)] 3 []) (.exit 0) (St.mk (mkT 28 [(0, .ptr (.o 0) 0 0 0 0), (2, .fn (.func (112 : FuncId)) [.ptr (.o 0) 0 0 0 0] []), (6, .sl (.o 2) 18 0 0 0 m none), (12, .int .i64 ↑n), (13, .int .i64 ↑m)]) [(.o 0, .flat [.ptr (.o 1) 0 0 0 0, .bool (RS.bad (st m))]), (.o 1, rdB (st m)), (.o 2, .rows 18 m (fun i => SEnv.c (el i)) true)] 3 []), q0, q0, q0, RS.bad s = RS.bad (st (0 : Nat)), q (List.length (RS.l (st (0 : Nat)))), ∀ (k : Nat), k < List.length (RS.l (st (0 : Nat))) → bl (RS.l (st (0 : Nat))) k = bl (RS.l (st (0 : Nat))) k, false = true → false = true, q (RS.e (st (0 : Nat))), q2, q0, ∀ (k : Nat), k < (0 : Nat) → [] = SEnv.c (el k), true = false → true = false, q0, q0, q0, q0, q0, q0, q0, q0, q0, q0, (none : Option Nat) = none ∨ (none : Option Nat) = none, q (↑n : Int), q1, q0, q0, q0, q (RS.bad (st m)), q (List.length (RS.l (st m))), ∀ (k : Nat), k < List.length (RS.l (st m)) → bl (RS.l (st m)) k = bl (RS.l (st m)) k, false = true → false = true, q (RS.e (st m)), q2, q m, (0 : Nat) + m ≤ m, ∀ (k : Nat), k < m → SEnv.c (el ((0 : Nat) + k)) = SEnv.c (el k), false = true → none = some m]) : Option (V × c5 × List Prop)) := by kernel_rfl
theorem aT5 (n : Nat) (el : Nat → SEnv) (st : Nat → RS) (k : Nat) :
  i5 zp (aF9 n el st k) [true, true] = (some (.exit 0, St.mk (mkT 28 [(0, .ptr (.o 0) 0 0 0 0), (2, .fn (.func (112 : FuncId)) [.ptr (.o 0) 0 0 0 0] []), (6, .sl (.o 2) 18 0 0 0 k none), (12, .int .i64 ↑n), (13, .int .i64 ↑k)]) [(.o 0, .flat [.ptr (.o 1) 0 0 0 0, .bool (RS.bad (st k))]), (.o 1, rdB (st k)), (.o 2, .rows 18 k (fun i => SEnv.c (el i)) true)] 3 [], [decide ((↑k : Int) < (↑n : Int)) = true, T zp 78 [.ptr (.o 1) 0 0 0 0] [(.o 1, rdB (st k))] (.int .i64 (RS.e (st k))) [(.o 1, rdB (st k))], (!decide (RS.e (st k) = (0 : Int))) = true, q0, q0, q0, q (RS.bad (st k)), q (List.length (RS.l (st k))), ∀ (k_1 : Nat), k_1 < List.length (RS.l (st k)) → bl (RS.l (st k)) k_1 = bl (RS.l (st k)) k_1, false = true → false = true, q (RS.e (st k)), q2, q k, ∀ (k_1 : Nat), k_1 < k → SEnv.c (el k_1) = SEnv.c (el k_1), true = false → true = false, q0, q0, q0, q0, q0, q0, q0, q0, q0, q k, (none : Option Nat) = none ∨ (none : Option Nat) = none, q (↑n : Int), q (↑k : Int)]) : Option (Exit × St × List Prop)) := by kernel_rfl
theorem aT4 (n : Nat) (el : Nat → SEnv) (st : Nat → RS) (k : Nat) :
  i5 zp (aF9 n el st k) [true, false] = (some (.normal, St.mk (mkT 28 [(0, .ptr (.o 0) 0 0 0 0), (2, .fn (.func (112 : FuncId)) [.ptr (.o 0) 0 0 0 0] []), (6, .sl (.o 2) 18 0 0 0 (k + 1) none), (12, .int .i64 ↑n), (13, .int .i64 (↑(k + 1) : Int))]) [(.o 0, .flat [.ptr (.o 1) 0 0 0 0, .bool (RS.bad (st (k + 1)))]), (.o 1, rdB (st (k + 1))), (.o 2, .rows 18 (k + 1) (fun i => SEnv.c (el i)) true)] 3 [], [decide ((↑k : Int) < (↑n : Int)) = true, T zp 78 [.ptr (.o 1) 0 0 0 0] [(.o 1, rdB (st k))] (.int .i64 (RS.e (st k))) [(.o 1, rdB (st k))], (!decide (RS.e (st k) = (0 : Int))) = false, T zp (112 : FuncId) [.ptr (.o 0) 0 0 0 0] [(.o 0, .flat [.ptr (.o 1) 0 0 0 0, .bool (RS.bad (st k))]), (.o 1, rdB (st k))] (.agg (SEnv.c (el k))) [(.o 0, .flat [.ptr (.o 1) 0 0 0 0, .bool (RS.bad (st (k + 1)))]), (.o 1, rdB (st (k + 1)))], q k, 1 ≤ (1 : Nat), ∀ (k_1 : Nat), k_1 < (1 : Nat) → m8 (j3 [(SEnv.c (el k))] ((0 : Nat) + k_1)) = true, (k + (1 : Nat)) * (40 : Nat) ≤ (140737488355328 : Nat), InR .i64 ((↑k : Int) + (1 : Int)), q0, q0, q0, q (RS.bad (st (k + (1 : Nat)))), q (List.length (RS.l (st (k + (1 : Nat))))), ∀ (k_1 : Nat), k_1 < List.length (RS.l (st (k + (1 : Nat)))) → bl (RS.l (st (k + (1 : Nat)))) k_1 = bl (RS.l (st (k + (1 : Nat)))) k_1, false = true → false = true, q (RS.e (st (k + (1 : Nat)))), q2, q (k + (1 : Nat)), ∀ (k_1 : Nat), k_1 < k + (1 : Nat) → m5 k (fun i => SEnv.c (el i)) (fun k_2 => j3 [(SEnv.c (el k))] ((0 : Nat) + k_2)) k_1 = SEnv.c (el k_1), true = false → true = false, q0, q0, q0, q0, q0, q0, q0, q0, q0, q (k + (1 : Nat)), (none : Option Nat) = none ∨ (none : Option Nat) = none, q (↑n : Int), (↑k : Int) + (1 : Int) = (↑(k + (1 : Nat)) : Int)]) : Option (Exit × St × List Prop)) := by kernel_rfl
theorem av8 (n : Nat) (el : Nat → SEnv) (st : Nat → RS) (k : Nat) :
  i5 zp (aF9 n el st k) [false] = (some (.exit 0, St.mk (mkT 28 [(0, .ptr (.o 0) 0 0 0 0), (2, .fn (.func (112 : FuncId)) [.ptr (.o 0) 0 0 0 0] []), (6, .sl (.o 2) 18 0 0 0 k none), (12, .int .i64 ↑n), (13, .int .i64 ↑k)]) [(.o 0, .flat [.ptr (.o 1) 0 0 0 0, .bool (RS.bad (st k))]), (.o 1, rdB (st k)), (.o 2, .rows 18 k (fun i => SEnv.c (el i)) true)] 3 [], [decide ((↑k : Int) < (↑n : Int)) = false, q0, q0, q0, q (RS.bad (st k)), q (List.length (RS.l (st k))), ∀ (k_1 : Nat), k_1 < List.length (RS.l (st k)) → bl (RS.l (st k)) k_1 = bl (RS.l (st k)) k_1, false = true → false = true, q (RS.e (st k)), q2, q k, ∀ (k_1 : Nat), k_1 < k → SEnv.c (el k_1) = SEnv.c (el k_1), true = false → true = false, q0, q0, q0, q0, q0, q0, q0, q0, q0, q k, (none : Option Nat) = none ∨ (none : Option Nat) = none, q (↑n : Int), q (↑k : Int)]) : Option (Exit × St × List Prop)) := by kernel_rfl
theorem bh7 (most : Int) (n : Nat) (m : Nat) (el : Nat → SHeld) (st : Nat → RS) (s : RS) :
  e9 zp (aX4 most n m el st s) [] = (some (.ros 39 m (fun i => SHeld.c (el i)) false, [(.o 0, .flat [.ptr (.o 1) 0 0 0 0, .bool (RS.bad (st m))]), (.o 1, rdB (st m))], [T zp 25 [.ptr (.o 1) 0 0 0 0, .int .i64 most] [(.o 1, rdB s)] (.int .i64 ↑n) [(.o 1, rdB (st 0))], f9 zp none 2 (cB (cB (cR (cL (cR (f1 (Bd.f (aX4 most n m el st s)))))))) (m + 1) (St.mk (mkT 28 [(0, .ptr (.o 0) 0 0 0 0), (2, .fn (.func (110 : FuncId)) [.ptr (.o 0) 0 0 0 0] []), (6, .sl (.o 2) 39 0 0 0 0 none), (12, .int .i64 ↑n), (13, .int .i64 0)]) [(.o 0, .flat [.ptr (.o 1) 0 0 0 0, .bool (RS.bad (st 0))]), (.o 1, rdB (st 0)), (.o 2, .rows 39 0 (fun i => SHeld.c (el i)) true)] 3 []) (.exit 0) (St.mk (mkT 28 [(0, .ptr (.o 0) 0 0 0 0), (2, .fn (.func (110 : FuncId)) [.ptr (.o 0) 0 0 0 0] []), (6, .sl (.o 2) 39 0 0 0 m none), (12, .int .i64 ↑n), (13, .int .i64 ↑m)]) [(.o 0, .flat [.ptr (.o 1) 0 0 0 0, .bool (RS.bad (st m))]), (.o 1, rdB (st m)), (.o 2, .rows 39 m (fun i => SHeld.c (el i)) true)] 3 []), q0, q0, q0, RS.bad s = RS.bad (st (0 : Nat)), q (List.length (RS.l (st (0 : Nat)))), ∀ (k : Nat), k < List.length (RS.l (st (0 : Nat))) → bl (RS.l (st (0 : Nat))) k = bl (RS.l (st (0 : Nat))) k, false = true → false = true, q (RS.e (st (0 : Nat))), q2, q0, ∀ (k : Nat), k < (0 : Nat) → [] = SHeld.c (el k), true = false → true = false, q0, q0, q0, q0, q0, q0, q0, q0, q0, q0, (none : Option Nat) = none ∨ (none : Option Nat) = none, q (↑n : Int), q1, q0, q0, q0, q (RS.bad (st m)), q (List.length (RS.l (st m))), ∀ (k : Nat), k < List.length (RS.l (st m)) → bl (RS.l (st m)) k = bl (RS.l (st m)) k, false = true → false = true, q (RS.e (st m)), q2, q m, (0 : Nat) + m ≤ m, ∀ (k : Nat), k < m → SHeld.c (el ((0 : Nat) + k)) = SHeld.c (el k), false = true → none = some m]) : Option (V × c5 × List Prop)) := by kernel_rfl
theorem aT3 (n : Nat) (el : Nat → SHeld) (st : Nat → RS) (k : Nat) :
  i5 zp (aF8 n el st k) [true, true] = (some (.exit 0, St.mk (mkT 28 [(0, .ptr (.o 0) 0 0 0 0), (2, .fn (.func (110 : FuncId)) [.ptr (.o 0) 0 0 0 0] []), (6, .sl (.o 2) 39 0 0 0 k none), (12, .int .i64 ↑n), (13, .int .i64 ↑k)]) [(.o 0, .flat [.ptr (.o 1) 0 0 0 0, .bool (RS.bad (st k))]), (.o 1, rdB (st k)), (.o 2, .rows 39 k (fun i => SHeld.c (el i)) true)] 3 [], [decide ((↑k : Int) < (↑n : Int)) = true, T zp 78 [.ptr (.o 1) 0 0 0 0] [(.o 1, rdB (st k))] (.int .i64 (RS.e (st k))) [(.o 1, rdB (st k))], (!decide (RS.e (st k) = (0 : Int))) = true, q0, q0, q0, q (RS.bad (st k)), q (List.length (RS.l (st k))), ∀ (k_1 : Nat), k_1 < List.length (RS.l (st k)) → bl (RS.l (st k)) k_1 = bl (RS.l (st k)) k_1, false = true → false = true, q (RS.e (st k)), q2, q k, ∀ (k_1 : Nat), k_1 < k → SHeld.c (el k_1) = SHeld.c (el k_1), true = false → true = false, q0, q0, q0, q0, q0, q0, q0, q0, q0, q k, (none : Option Nat) = none ∨ (none : Option Nat) = none, q (↑n : Int), q (↑k : Int)]) : Option (Exit × St × List Prop)) := by kernel_rfl
theorem aT2 (n : Nat) (el : Nat → SHeld) (st : Nat → RS) (k : Nat) :
  i5 zp (aF8 n el st k) [true, false] = (some (.normal, St.mk (mkT 28 [(0, .ptr (.o 0) 0 0 0 0), (2, .fn (.func (110 : FuncId)) [.ptr (.o 0) 0 0 0 0] []), (6, .sl (.o 2) 39 0 0 0 (k + 1) none), (12, .int .i64 ↑n), (13, .int .i64 (↑(k + 1) : Int))]) [(.o 0, .flat [.ptr (.o 1) 0 0 0 0, .bool (RS.bad (st (k + 1)))]), (.o 1, rdB (st (k + 1))), (.o 2, .rows 39 (k + 1) (fun i => SHeld.c (el i)) true)] 3 [], [decide ((↑k : Int) < (↑n : Int)) = true, T zp 78 [.ptr (.o 1) 0 0 0 0] [(.o 1, rdB (st k))] (.int .i64 (RS.e (st k))) [(.o 1, rdB (st k))], (!decide (RS.e (st k) = (0 : Int))) = false, T zp (110 : FuncId) [.ptr (.o 0) 0 0 0 0] [(.o 0, .flat [.ptr (.o 1) 0 0 0 0, .bool (RS.bad (st k))]), (.o 1, rdB (st k))] (.agg (SHeld.c (el k))) [(.o 0, .flat [.ptr (.o 1) 0 0 0 0, .bool (RS.bad (st (k + 1)))]), (.o 1, rdB (st (k + 1)))], q k, 1 ≤ (1 : Nat), ∀ (k_1 : Nat), k_1 < (1 : Nat) → m8 (j3 [[V.bool (SBatch.noop (SHeld.batch (el k))), rq (SBatch.n (SHeld.batch (el k))) (SBatch.req (SHeld.batch (el k))), V.int .i64 (SVote.kind (SCert.vote (SHeld.cert (el k)))), V.int .i64 (SVote.epoch (SCert.vote (SHeld.cert (el k)))), V.int .i64 (SVote.view (SCert.vote (SHeld.cert (el k)))), V.int .i64 (SVote.slot (SCert.vote (SHeld.cert (el k)))), V.seg .u8 (32 : Nat) (SVote.digest (SCert.vote (SHeld.cert (el k)))), sg (SCert.n (SHeld.cert (el k))) (SCert.sig (SHeld.cert (el k)))]] ((0 : Nat) + k_1)) = true, (k + (1 : Nat)) * (120 : Nat) ≤ (140737488355328 : Nat), InR .i64 ((↑k : Int) + (1 : Int)), q0, q0, q0, q (RS.bad (st (k + (1 : Nat)))), q (List.length (RS.l (st (k + (1 : Nat))))), ∀ (k_1 : Nat), k_1 < List.length (RS.l (st (k + (1 : Nat)))) → bl (RS.l (st (k + (1 : Nat)))) k_1 = bl (RS.l (st (k + (1 : Nat)))) k_1, false = true → false = true, q (RS.e (st (k + (1 : Nat)))), q2, q (k + (1 : Nat)), ∀ (k_1 : Nat), k_1 < k + (1 : Nat) → m5 k (fun i => SHeld.c (el i)) (fun k_2 => j3 [[V.bool (SBatch.noop (SHeld.batch (el k))), rq (SBatch.n (SHeld.batch (el k))) (SBatch.req (SHeld.batch (el k))), V.int .i64 (SVote.kind (SCert.vote (SHeld.cert (el k)))), V.int .i64 (SVote.epoch (SCert.vote (SHeld.cert (el k)))), V.int .i64 (SVote.view (SCert.vote (SHeld.cert (el k)))), V.int .i64 (SVote.slot (SCert.vote (SHeld.cert (el k)))), V.seg .u8 (32 : Nat) (SVote.digest (SCert.vote (SHeld.cert (el k)))), sg (SCert.n (SHeld.cert (el k))) (SCert.sig (SHeld.cert (el k)))]] ((0 : Nat) + k_2)) k_1 = SHeld.c (el k_1), true = false → true = false, q0, q0, q0, q0, q0, q0, q0, q0, q0, q (k + (1 : Nat)), (none : Option Nat) = none ∨ (none : Option Nat) = none, q (↑n : Int), (↑k : Int) + (1 : Int) = (↑(k + (1 : Nat)) : Int)]) : Option (Exit × St × List Prop)) := by kernel_rfl
theorem av7 (n : Nat) (el : Nat → SHeld) (st : Nat → RS) (k : Nat) :
  i5 zp (aF8 n el st k) [false] = (some (.exit 0, St.mk (mkT 28 [(0, .ptr (.o 0) 0 0 0 0), (2, .fn (.func (110 : FuncId)) [.ptr (.o 0) 0 0 0 0] []), (6, .sl (.o 2) 39 0 0 0 k none), (12, .int .i64 ↑n), (13, .int .i64 ↑k)]) [(.o 0, .flat [.ptr (.o 1) 0 0 0 0, .bool (RS.bad (st k))]), (.o 1, rdB (st k)), (.o 2, .rows 39 k (fun i => SHeld.c (el i)) true)] 3 [], [decide ((↑k : Int) < (↑n : Int)) = false, q0, q0, q0, q (RS.bad (st k)), q (List.length (RS.l (st k))), ∀ (k_1 : Nat), k_1 < List.length (RS.l (st k)) → bl (RS.l (st k)) k_1 = bl (RS.l (st k)) k_1, false = true → false = true, q (RS.e (st k)), q2, q k, ∀ (k_1 : Nat), k_1 < k → SHeld.c (el k_1) = SHeld.c (el k_1), true = false → true = false, q0, q0, q0, q0, q0, q0, q0, q0, q0, q k, (none : Option Nat) = none ∨ (none : Option Nat) = none, q (↑n : Int), q (↑k : Int)]) : Option (Exit × St × List Prop)) := by kernel_rfl
theorem N0 {α : Type} (one : RS → α × RS) : ∀ n s, ab7 one n s ≤ n
 | 0, _ => Nat.le_refl _
 | n + 1, s => by
  unfold ab7
  split
  ·have := N0 one n (one s).2; omega
  ·omega
theorem an3 {α : Type} (one : RS → α × RS) (s : RS) : ∀ k, stR one (one s).2 k = stR one s (k + 1)
 | 0 => rfl
 | k + 1 => by show (one (stR one (one s).2 k)).2 = _; rw [an3 one s k]; rfl
theorem O9 {α : Type} (one : RS → α × RS) : ∀ n s k, k < ab7 one n s → (stR one s k).e = 0
 | 0, _, k, h => absurd h (Nat.not_lt_zero k)
 | n + 1, s, k, h => by
  unfold ab7 at h
  split at h
  ·rename_i h1
   cases k with
   | zero => exact h1
   | succ k => rw [← an3]; exact O9 one n _ k (by omega)
  ·omega
theorem M0 {α : Type} (one : RS → α × RS) : ∀ n s, ab7 one n s = n ∨ (stR one s (ab7 one n s)).e ≠ 0
 | 0, _ => .inl rfl
 | n + 1, s => by
  unfold ab7
  split
  ·rcases M0 one n (one s).2 with h | h
   ·exact .inl (by omega)
   ·rw [an3] at h; exact .inr h
  ·exact .inr ‹_›
theorem ab1 {α : Type} {one : RS → α × RS} (h : ∀ s, Aft s (one s).2) (s : RS) : ∀ k, Aft s (stR one s k)
 | 0 => Aft.refl s
 | k + 1 => (ab1 h s k).trans (h _)
theorem at_ {z : Int} (h : 0 ≤ z) : ((z.toNat : Nat) : Int) = z := Int.toNat_of_nonneg h
theorem O8 {c : Nat → List V} {k : Nat} : ∀ j, j < k + 1 → m5 k c (fun q => j3 [c k] (0 + q)) j = c j := by
 intro j hj
 unfold m5
 cases hb : Nat.blt j k
 ·have h1 : k ≤ j := by
   rcases Nat.lt_or_ge j k with h2 | h2
   ·rw [← Nat.blt_eq] at h2; rw [h2] at hb; cases hb
   ·exact h2
  have e : j = k := by omega
  subst e
  simp [j3]
 ·rfl
theorem bN1 {most : Int} (hm : 0 ≤ most ∧ most ≤ 1000) (s : RS) (hl : s.l.length ≤ 1000000000) {el : Nat → SSign} {st : Nat → RS} (h0 : st 0 = (c6 most s).2) (hs : ∀ k, k < (c6 most s).1.toNat → (st k).l.length ≤ 1000000000 → T Tryz.prog 116 [p0] (mrH 0 1 (st k)) (.agg (el k).c) (mrH 0 1 (st (k + 1)))) (hle : ∀ k, (st k).l.length ≤ 1000000000) {m : Nat} (hmn : m ≤ (c6 most s).1.toNat) (hz : ∀ k, k < m → (st k).e = 0) (hend : m = (c6 most s).1.toNat ∨ (st m).e ≠ 0) :
  T Tryz.prog 115 [p0, .int .i64 most, .fn (.func 116) [p0] []] (mrH 0 1 s) (.ros 17 m (fun i => (el i).c) false) (mrH 0 1 (st m)) := by
 have hr := v9 hm.1 s
 have hn := at_ hr.1
 have hT := v5 1 most s
 rw [← hn] at hT
 rw [← h0] at hT
 have hn64 : (c6 most s).1.toNat ≤ 1000 := by omega
 have hb0 : (st 0).bad = s.bad := by rw [h0]; exact (i7 most s).2.1
 refine f3 (bh9 most (c6 most s).1.toNat m el st s) Tryz.func115 ?_
 have hL : f9 Tryz.prog none 2 (cB (cB (cR (cL (cR (f1 Tryz.f115)))))) (m + 1) (Y1 (c6 most s).1.toNat el st 0) (.exit 0) (Y1 (c6 most s).1.toNat el st m) := by
  refine f9.inv (Y1 (c6 most s).1.toNat el st) m (fun k hk => ?_) ?_ (by simp)
  ·refine f4 NG MO _ (aT6 (c6 most s).1.toNat el st k) ?_ (show 2 ≤ 3 by decide)
   simp only [All, Int.toNat_natCast]; and_intros
   all_goals first | exact C1 1 _ | exact hs k (by omega) (hle k) | exact O8 | (rw [decide_eq_true_eq]; omega) | (simp [hz k hk]; done) | omega | (intro j hj; rw [show j = 0 by omega]; rfl) | (simp [IntKind.min, IntKind.max, IntKind.signed, IntKind.bits] <;> omega)
  ·rcases hend with he | he
   ·refine f4 NG MO _ (av9 (c6 most s).1.toNat el st m) ?_ (show 2 ≤ 3 by decide)
    simp only [All, Int.toNat_natCast]; and_intros
    all_goals first | (rw [decide_eq_false_iff_not]; omega) | trivial | (simp; done)
   ·by_cases he2 : m = (c6 most s).1.toNat
    ·refine f4 NG MO _ (av9 (c6 most s).1.toNat el st m) ?_ (show 2 ≤ 3 by decide)
     simp only [All, Int.toNat_natCast]; and_intros
     all_goals first | (rw [decide_eq_false_iff_not]; omega) | trivial | (simp; done)
    ·refine f4 NG MO _ (aT7 (c6 most s).1.toNat el st m) ?_ (show 2 ≤ 3 by decide)
     simp only [All, Int.toNat_natCast]; and_intros
     all_goals first | exact C1 1 _ | (rw [decide_eq_true_eq]; omega) | (simp [he]; done)
 simp only [All, Int.toNat_natCast]; and_intros
 all_goals first | exact hT | exact hL | exact hb0.symm | omega | trivial | (simp; done)
theorem bN0 {most : Int} (hm : 0 ≤ most ∧ most ≤ 1000) (s : RS) (hl : s.l.length ≤ 1000000000) {el : Nat → SEnv} {st : Nat → RS} (h0 : st 0 = (c6 most s).2) (hs : ∀ k, k < (c6 most s).1.toNat → (st k).l.length ≤ 1000000000 → T Tryz.prog 112 [p0] (mrH 0 1 (st k)) (.agg (el k).c) (mrH 0 1 (st (k + 1)))) (hle : ∀ k, (st k).l.length ≤ 1000000000) {m : Nat} (hmn : m ≤ (c6 most s).1.toNat) (hz : ∀ k, k < m → (st k).e = 0) (hend : m = (c6 most s).1.toNat ∨ (st m).e ≠ 0) :
  T Tryz.prog 111 [p0, .int .i64 most, .fn (.func 112) [p0] []] (mrH 0 1 s) (.ros 18 m (fun i => (el i).c) false) (mrH 0 1 (st m)) := by
 have hr := v9 hm.1 s
 have hn := at_ hr.1
 have hT := v5 1 most s
 rw [← hn] at hT
 rw [← h0] at hT
 have hn64 : (c6 most s).1.toNat ≤ 1000 := by omega
 have hb0 : (st 0).bad = s.bad := by rw [h0]; exact (i7 most s).2.1
 refine f3 (bh8 most (c6 most s).1.toNat m el st s) Tryz.func111 ?_
 have hL : f9 Tryz.prog none 2 (cB (cB (cR (cL (cR (f1 Tryz.f111)))))) (m + 1) (Y0 (c6 most s).1.toNat el st 0) (.exit 0) (Y0 (c6 most s).1.toNat el st m) := by
  refine f9.inv (Y0 (c6 most s).1.toNat el st) m (fun k hk => ?_) ?_ (by simp)
  ·refine f4 NG MO _ (aT4 (c6 most s).1.toNat el st k) ?_ (show 2 ≤ 3 by decide)
   simp only [All, Int.toNat_natCast]; and_intros
   all_goals first | exact C1 1 _ | exact hs k (by omega) (hle k) | exact O8 | (rw [decide_eq_true_eq]; omega) | (simp [hz k hk]; done) | omega | (intro j hj; rw [show j = 0 by omega]; rfl) | (simp [IntKind.min, IntKind.max, IntKind.signed, IntKind.bits] <;> omega)
  ·rcases hend with he | he
   ·refine f4 NG MO _ (av8 (c6 most s).1.toNat el st m) ?_ (show 2 ≤ 3 by decide)
    simp only [All, Int.toNat_natCast]; and_intros
    all_goals first | (rw [decide_eq_false_iff_not]; omega) | trivial | (simp; done)
   ·by_cases he2 : m = (c6 most s).1.toNat
    ·refine f4 NG MO _ (av8 (c6 most s).1.toNat el st m) ?_ (show 2 ≤ 3 by decide)
     simp only [All, Int.toNat_natCast]; and_intros
     all_goals first | (rw [decide_eq_false_iff_not]; omega) | trivial | (simp; done)
    ·refine f4 NG MO _ (aT5 (c6 most s).1.toNat el st m) ?_ (show 2 ≤ 3 by decide)
     simp only [All, Int.toNat_natCast]; and_intros
     all_goals first | exact C1 1 _ | (rw [decide_eq_true_eq]; omega) | (simp [he]; done)
 simp only [All, Int.toNat_natCast]; and_intros
 all_goals first | exact hT | exact hL | exact hb0.symm | omega | trivial | (simp; done)
theorem bM_ {most : Int} (hm : 0 ≤ most ∧ most ≤ 1000) (s : RS) (hl : s.l.length ≤ 1000000000) {el : Nat → SHeld} {st : Nat → RS} (h0 : st 0 = (c6 most s).2) (hs : ∀ k, k < (c6 most s).1.toNat → (st k).l.length ≤ 1000000000 → T Tryz.prog 110 [p0] (mrH 0 1 (st k)) (.agg (el k).c) (mrH 0 1 (st (k + 1)))) (hle : ∀ k, (st k).l.length ≤ 1000000000) {m : Nat} (hmn : m ≤ (c6 most s).1.toNat) (hz : ∀ k, k < m → (st k).e = 0) (hend : m = (c6 most s).1.toNat ∨ (st m).e ≠ 0) :
  T Tryz.prog 109 [p0, .int .i64 most, .fn (.func 110) [p0] []] (mrH 0 1 s) (.ros 39 m (fun i => (el i).c) false) (mrH 0 1 (st m)) := by
 have hr := v9 hm.1 s
 have hn := at_ hr.1
 have hT := v5 1 most s
 rw [← hn] at hT
 rw [← h0] at hT
 have hn64 : (c6 most s).1.toNat ≤ 1000 := by omega
 have hb0 : (st 0).bad = s.bad := by rw [h0]; exact (i7 most s).2.1
 refine f3 (bh7 most (c6 most s).1.toNat m el st s) Tryz.func109 ?_
 have hL : f9 Tryz.prog none 2 (cB (cB (cR (cL (cR (f1 Tryz.f109)))))) (m + 1) (X9 (c6 most s).1.toNat el st 0) (.exit 0) (X9 (c6 most s).1.toNat el st m) := by
  refine f9.inv (X9 (c6 most s).1.toNat el st) m (fun k hk => ?_) ?_ (by simp)
  ·refine f4 NG MO _ (aT2 (c6 most s).1.toNat el st k) ?_ (show 2 ≤ 3 by decide)
   simp only [All, Int.toNat_natCast]; and_intros
   all_goals first | exact C1 1 _ | exact hs k (by omega) (hle k) | exact O8 | (rw [decide_eq_true_eq]; omega) | (simp [hz k hk]; done) | omega | (intro j hj; rw [show j = 0 by omega]; rfl) | (simp [IntKind.min, IntKind.max, IntKind.signed, IntKind.bits] <;> omega)
  ·rcases hend with he | he
   ·refine f4 NG MO _ (av7 (c6 most s).1.toNat el st m) ?_ (show 2 ≤ 3 by decide)
    simp only [All, Int.toNat_natCast]; and_intros
    all_goals first | (rw [decide_eq_false_iff_not]; omega) | trivial | (simp; done)
   ·by_cases he2 : m = (c6 most s).1.toNat
    ·refine f4 NG MO _ (av7 (c6 most s).1.toNat el st m) ?_ (show 2 ≤ 3 by decide)
     simp only [All, Int.toNat_natCast]; and_intros
     all_goals first | (rw [decide_eq_false_iff_not]; omega) | trivial | (simp; done)
    ·refine f4 NG MO _ (aT3 (c6 most s).1.toNat el st m) ?_ (show 2 ≤ 3 by decide)
     simp only [All, Int.toNat_natCast]; and_intros
     all_goals first | exact C1 1 _ | (rw [decide_eq_true_eq]; omega) | (simp [he]; done)
 simp only [All, Int.toNat_natCast]; and_intros
 all_goals first | exact hT | exact hL | exact hb0.symm | omega | trivial | (simp; done)
def n8 {α : Type} (one : RS → α × RS) (most : Int) (s : RS) : Nat := ab7 one (c6 most s).1.toNat (c6 most s).2
def q9 {α : Type} (one : RS → α × RS) (most : Int) (s : RS) (i : Nat) : α := (one (stR one (c6 most s).2 i)).1
def S4 {α : Type} (one : RS → α × RS) (most : Int) (s : RS) : RS := stR one (c6 most s).2 (n8 one most s)
def F2 (s : RS) : SCert × RS := ({ vote := (u6 s).1, n := n8 l8 64 (u6 s).2, sig := q9 l8 64 (u6 s).2 }, S4 l8 64 (u6 s).2)
def m9 (s : RS) : SHeld × RS := ({ batch := (j5 s).1, cert := (F2 (j5 s).2).1 }, (F2 (j5 s).2).2)
noncomputable def cd8 (s s1 s2 : RS) (v : SVote) (n : Nat) (g : Nat → SSign) : Bd := ab5 Tryz.f114 [] s [(108, 2, cMr (.agg v.c) s1), (115, 6, cMr (sg n g) s2)] (v.c ++ [sg n g]) s2
noncomputable def ce4 (s s1 s2 : RS) (b : SBatch) (c : SCert) : Bd := ab5 Tryz.f110 [] s [(107, 5, cRd (.agg b.c) s1), (114, 7, cMr (.agg c.c) s2)] (b.c ++ c.c) s2
def n012 : St → List Nm := fun _ => [.o 0, .o 1, .o 2]
noncomputable def ab3 (m m' : SMsg) (s s' : RS) (db : List (Nat × Nat × (List V → c5 → Nat → List Cl))) : Bd := { f := Tryz.f84, args := [p0, .ptr (.o 2) 0 0 0 0], pre := mrH 0 1 s ++ [(.o 2, .flat m.c)], base := 3, kb := { db := aa7 3 db }, names := n012, k := fun _ t => some ⟨[], [], I2 (mrH 0 1 s' ++ [(.o 2, .flat m'.c)]), none, t.next⟩ }
def P0 (s : RS) : RS := (c6 1048576 s).2
def S0 (s : RS) : RS := (c6 1099511627776 (P0 s)).2
def al0 (s : RS) : RS := (j5 (S0 s)).2
def aD6 (m : SMsg) (s : RS) : SMsg × RS := ({ m with epoch := (c6 1048576 s).1, slot := (c6 1099511627776 (P0 s)).1, batch := (j5 (S0 s)).1 }, al0 s)
noncomputable def bdF1 (m : SMsg) (s t1 t2 t3 : RS) (x0 : Int) (x1 : Int) (x2 : SBatch) : Bd := ab3 m { m with epoch := x0, slot := x1, batch := x2 } s t3 [(25, 12, cRd (.int .i64 x0) t1), (25, 17, cRd (.int .i64 x1) t2), (107, 29, cRd (.agg x2.c) t3)]
def at5 (s : RS) : RS := (u6 s).2
def aD7 (m : SMsg) (s : RS) : SMsg × RS := ({ m with vote := (u6 s).1 }, at5 s)
noncomputable def bdF2 (m : SMsg) (s t1 : RS) (x0 : SVote) : Bd := ab3 m { m with vote := x0 } s t1 [(108, 10, cMr (.agg x0.c) t1)]
def O0 (s : RS) : RS := (c6 1048576 s).2
def P1 (s : RS) : RS := (c6 64 (O0 s)).2
def n9 (s : RS) : RS := (c6 1099511627776 (P1 s)).2
def ae8 (s : RS) : RS := S4 m9 4 (n9 s)
def G5 (m : SMsg) (s : RS) : SMsg × RS := ({ m with cepoch := (c6 1048576 s).1, cleader := (c6 64 (O0 s)).1, cview := (c6 1099511627776 (P1 s)).1, nheld := n8 m9 4 (n9 s), held := q9 m9 4 (n9 s) }, ae8 s)
noncomputable def bdF3 (m : SMsg) (s t1 t2 t3 t4 : RS) (n : Nat) (x0 : Int) (x1 : Int) (x2 : Int) (x3 : Nat → SHeld) : Bd := ab3 m { m with cepoch := x0, cleader := x1, cview := x2, nheld := n, held := x3 } s t4 [(25, 17, cRd (.int .i64 x0) t1), (25, 22, cRd (.int .i64 x1) t2), (25, 27, cRd (.int .i64 x2) t3), (109, 44, cMr (hl n x3) t4)]
def P2 (s : RS) : RS := (c6 1048576 s).2
def S1 (s : RS) : RS := (c6 64 (P2 s)).2
def K6 (s : RS) : RS := (c6 1099511627776 (S1 s)).2
def aD1 (s : RS) : RS := S4 n4 64 (K6 s)
def aD8 (m : SMsg) (s : RS) : SMsg × RS := ({ m with epoch := (c6 1048576 s).1, leader := (c6 64 (P2 s)).1, view := (c6 1099511627776 (S1 s)).1, nnews := n8 n4 64 (K6 s), news := q9 n4 64 (K6 s) }, aD1 s)
noncomputable def bdF4 (m : SMsg) (s t1 t2 t3 t4 : RS) (n : Nat) (x0 : Int) (x1 : Int) (x2 : Int) (x3 : Nat → SEnv) : Bd := ab3 m { m with epoch := x0, leader := x1, view := x2, nnews := n, news := x3 } s t4 [(25, 19, cRd (.int .i64 x0) t1), (25, 24, cRd (.int .i64 x1) t2), (25, 29, cRd (.int .i64 x2) t3), (111, 43, cMr (nw n x3) t4)]
def S2 (s : RS) : RS := (c6 1048576 s).2
def aD2 (s : RS) : RS := (F6 (S2 s)).2
def aD9 (m : SMsg) (s : RS) : SMsg × RS := ({ m with epoch := (c6 1048576 s).1, digest := (F6 (S2 s)).1 }, aD2 s)
noncomputable def bdF5 (m : SMsg) (s t1 t2 : RS) (x0 : Int) (x1 : List Int) : Bd := ab3 m { m with epoch := x0, digest := x1 } s t2 [(25, 19, cRd (.int .i64 x0) t1), (113, 25, cMr (.agg [.seg .u8 32 x1]) t2)]
def P3 (s : RS) : RS := (c6 1048576 s).2
def al1 (s : RS) : RS := (c6 1099511627776 (P3 s)).2
def aD_ (m : SMsg) (s : RS) : SMsg × RS := ({ m with epoch := (c6 1048576 s).1, slot := (c6 1099511627776 (P3 s)).1 }, al1 s)
noncomputable def bdF6 (m : SMsg) (s t1 t2 : RS) (x0 : Int) (x1 : Int) : Bd := ab3 m { m with epoch := x0, slot := x1 } s t2 [(25, 22, cRd (.int .i64 x0) t1), (25, 27, cRd (.int .i64 x1) t2)]
def S3 (s : RS) : RS := (j5 s).2
def aD3 (s : RS) : RS := (F2 (S3 s)).2
def aE0 (m : SMsg) (s : RS) : SMsg × RS := ({ m with batch := (j5 s).1, cert := (F2 (S3 s)).1 }, aD3 s)
noncomputable def bdF7 (m : SMsg) (s t1 t2 : RS) (x0 : SBatch) (x1 : SCert) : Bd := ab3 m { m with batch := x0, cert := x1 } s t2 [(107, 23, cRd (.agg x0.c) t1), (114, 29, cMr (.agg x1.c) t2)]
def J2 (s : RS) : RS := (r6 4194304 s).2
def aD4 (s : RS) : RS := S4 l8 64 (J2 s)
def aE1 (m : SMsg) (s : RS) : SMsg × RS := ({ m with state := (r6 4194304 s).1, n := n8 l8 64 (J2 s), sig := q9 l8 64 (J2 s) }, aD4 s)
noncomputable def bdF8 (m : SMsg) (s t1 t2 : RS) (n : Nat) (x0 : ByteArray) (x1 : Nat → SSign) : Bd := ab3 m { m with state := x0, n := n, sig := x1 } s t2 [(26, 25, cRd (.str x0) t1), (115, 33, cMr (sg n x1) t2)]
noncomputable def bdF9 (m : SMsg) (s : RS) : Bd := ab3 m m s s []
def l7 (m : SMsg) (s : RS) : SMsg × RS :=
 if m.kind = 1 then aD6 m s else if m.kind = 2 then aD7 m s else if m.kind = 3 then G5 m s else if m.kind = 4 then aD8 m s else if m.kind = 5 then aD9 m s else if m.kind = 6 then aD_ m s else if m.kind = 7 then aE0 m s else if m.kind = 8 then aE1 m s else (m, s)
end Go.Proofs.YtnmccoincblecaaGreat
