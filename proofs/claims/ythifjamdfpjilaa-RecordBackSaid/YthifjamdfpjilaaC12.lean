/-
  Contracts and laws that the claim's theorem leans on, joined out of the texts Ua1 Ua2 Rs1 Rs3 Rs4 Rs5 Rs6 SyLend Ua3D Ua3 Ug0 (own work of this seat): Contracts: a record's bytes, and what is read of bytes; The plain law of records: what was put is read, what is read was put; Contracts of small functions; Contracts: what is looked at; Contracts: what is looked at, continued; Contracts: records that are looked at; the law's own function; Contracts: records that are looked at; Blocks lent to a call that only looks at them; The law of records that come back: the walk; The law of records that come back: the walk; The shapes of records and bytes that are handed in.
-/
import Derived.Test.YthifjamdfpjilaaC04
import Derived.Test.YthifjamdfpjilaaC06
import Derived.Test.YthifjamdfpjilaaC11
set_option linter.unusedVariables false
set_option linter.unusedSimpArgs false
namespace Go.Proofs.Ythifjamdfpjilaa
open Go Sy Go.Proofs
theorem bdReG_p1 (r : SRec) :
  along Try.prog (bdReG r) [true] = (some (.tup [.ros 1 0 (bl []) false, .int .i64 240], [], [T Try.prog 82 [.agg (SRec.c r)] [] (.bool false) [], q2, nat_lit 0 = (0 : Nat), q (240 : Int)]) : Option (V × Heap × List Prop)) := by kernel_rfl

theorem bdRe1_p010 (r : SRec) :
  along Try.prog (bdRe1 r) [false, true, false] = some (V.tup [V.ros (1 : Nat) (List.length (putZ (SRec.kind r) ++ putZ (SRec.slot r) ++ putZ (SRec.view r) ++ batchB (SRec.batch r))) (bl (putZ (SRec.kind r) ++ putZ (SRec.slot r) ++ putZ (SRec.view r) ++ batchB (SRec.batch r))) false, V.int IntKind.i64 (0 : Int)], [], [T Try.prog (82 : Nat) [V.agg (SRec.c r)] [] (V.bool true) [], false = false, T Try.prog (83 : Nat) [V.snil, V.int IntKind.i64 (SRec.kind r)] [] (sb (Nm.o (nat_lit 512)) (putZ (SRec.kind r))) [(Nm.o (nat_lit 512), bs (putZ (SRec.kind r)))], decide (SRec.kind r = (1 : Int)) = true, T Try.prog (83 : Nat) [V.sl (Nm.o (nat_lit 512)) (1 : Nat) (0 : Nat) (0 : Nat) (0 : Nat) (List.length (putZ (SRec.kind r))) none, V.int IntKind.i64 (SRec.slot r)] [(Nm.o (nat_lit 512), bs (putZ (SRec.kind r)))] (sb (Nm.o (nat_lit 1088)) (putZ (SRec.kind r) ++ putZ (SRec.slot r))) [(Nm.o (nat_lit 1088), bs (putZ (SRec.kind r) ++ putZ (SRec.slot r)))], T Try.prog (83 : Nat) [V.sl (Nm.o (nat_lit 1088)) (1 : Nat) (0 : Nat) (0 : Nat) (0 : Nat) (List.length (putZ (SRec.kind r) ++ putZ (SRec.slot r))) none, V.int IntKind.i64 (SRec.view r)] [(Nm.o (nat_lit 1088), bs (putZ (SRec.kind r) ++ putZ (SRec.slot r)))] (sb (Nm.o (nat_lit 1280)) (putZ (SRec.kind r) ++ putZ (SRec.slot r) ++ putZ (SRec.view r))) [(Nm.o (nat_lit 1280), bs (putZ (SRec.kind r) ++ putZ (SRec.slot r) ++ putZ (SRec.view r)))], T Try.prog (84 : Nat) [V.sl (Nm.o (nat_lit 1280)) (1 : Nat) (0 : Nat) (0 : Nat) (0 : Nat) (List.length (putZ (SRec.kind r) ++ putZ (SRec.slot r) ++ putZ (SRec.view r))) none, V.agg (SBatch.c (SRec.batch r))] [(Nm.o (nat_lit 1280), bs (putZ (SRec.kind r) ++ putZ (SRec.slot r) ++ putZ (SRec.view r)))] (sb (Nm.o (nat_lit 1472)) (putZ (SRec.kind r) ++ putZ (SRec.slot r) ++ putZ (SRec.view r) ++ batchB (SRec.batch r))) [(Nm.o (nat_lit 1472), bs (putZ (SRec.kind r) ++ putZ (SRec.slot r) ++ putZ (SRec.view r) ++ batchB (SRec.batch r)))], decide ((4194304 : Int) < (↑(List.length (putZ (SRec.kind r) ++ putZ (SRec.slot r) ++ putZ (SRec.view r) ++ batchB (SRec.batch r))) : Int)) = false, List.length (putZ (SRec.kind r) ++ putZ (SRec.slot r) ++ putZ (SRec.view r) ++ batchB (SRec.batch r)) = List.length (putZ (SRec.kind r) ++ putZ (SRec.slot r) ++ putZ (SRec.view r) ++ batchB (SRec.batch r)), (0 : Nat) + List.length (putZ (SRec.kind r) ++ putZ (SRec.slot r) ++ putZ (SRec.view r) ++ batchB (SRec.batch r)) ≤ List.length (putZ (SRec.kind r) ++ putZ (SRec.slot r) ++ putZ (SRec.view r) ++ batchB (SRec.batch r)), ∀ (k : Nat), k < List.length (putZ (SRec.kind r) ++ putZ (SRec.slot r) ++ putZ (SRec.view r) ++ batchB (SRec.batch r)) → bl (putZ (SRec.kind r) ++ putZ (SRec.slot r) ++ putZ (SRec.view r) ++ batchB (SRec.batch r)) ((0 : Nat) + k) = bl (putZ (SRec.kind r) ++ putZ (SRec.slot r) ++ putZ (SRec.view r) ++ batchB (SRec.batch r)) k, false = true → none = some (List.length (putZ (SRec.kind r) ++ putZ (SRec.slot r) ++ putZ (SRec.view r) ++ batchB (SRec.batch r))), (0 : Int) = (0 : Int)]) := by kernel_rfl

theorem bdRe1L_p011 (r : SRec) :
  along Try.prog (bdRe1L r) [false, true, true] = (some (.tup [.ros 1 0 (bl []) false, .int .i64 3], [], [T Try.prog 82 [.agg (SRec.c r)] [] (.bool true) [], q false, T Try.prog 83 [.snil, .int .i64 (SRec.kind r)] [] (sb (.o 512) (putZ (SRec.kind r))) [(.o 512, bs (putZ (SRec.kind r)))], decide (SRec.kind r = (1 : Int)) = true, T Try.prog 83 [.sl (.o 512) 1 0 0 0 (List.length (putZ (SRec.kind r))) none, .int .i64 (SRec.slot r)] [(.o 512, bs (putZ (SRec.kind r)))] (sb (.o 1088) (putZ (SRec.kind r) ++ putZ (SRec.slot r))) [(.o 1088, bs (putZ (SRec.kind r) ++ putZ (SRec.slot r)))], T Try.prog 83 [.sl (.o 1088) 1 0 0 0 (List.length (putZ (SRec.kind r) ++ putZ (SRec.slot r))) none, .int .i64 (SRec.view r)] [(.o 1088, bs (putZ (SRec.kind r) ++ putZ (SRec.slot r)))] (sb (.o 1280) (putZ (SRec.kind r) ++ putZ (SRec.slot r) ++ putZ (SRec.view r))) [(.o 1280, bs (putZ (SRec.kind r) ++ putZ (SRec.slot r) ++ putZ (SRec.view r)))], T Try.prog 84 [.sl (.o 1280) 1 0 0 0 (List.length (putZ (SRec.kind r) ++ putZ (SRec.slot r) ++ putZ (SRec.view r))) none, .agg (SBatch.c (SRec.batch r))] [(.o 1280, bs (putZ (SRec.kind r) ++ putZ (SRec.slot r) ++ putZ (SRec.view r)))] (sb (.o 1472) (putZ (SRec.kind r) ++ putZ (SRec.slot r) ++ putZ (SRec.view r) ++ batchB (SRec.batch r))) [(.o 1472, bs (putZ (SRec.kind r) ++ putZ (SRec.slot r) ++ putZ (SRec.view r) ++ batchB (SRec.batch r)))], decide ((4194304 : Int) < (↑(List.length (putZ (SRec.kind r) ++ putZ (SRec.slot r) ++ putZ (SRec.view r) ++ batchB (SRec.batch r))) : Int)) = true, nat_lit 0 = (0 : Nat), q (3 : Int)]) : Option (V × Heap × List Prop)) := by kernel_rfl

theorem bdRe3_p0010 (r : SRec) :
  along Try.prog (bdRe3 r) [false, false, true, false] = some (V.tup [V.ros (1 : Nat) (List.length (putZ (SRec.kind r) ++ putZ (SRec.leader r) ++ putZ (SRec.view r))) (bl (putZ (SRec.kind r) ++ putZ (SRec.leader r) ++ putZ (SRec.view r))) false, V.int IntKind.i64 (0 : Int)], [], [T Try.prog (82 : Nat) [V.agg (SRec.c r)] [] (V.bool true) [], false = false, T Try.prog (83 : Nat) [V.snil, V.int IntKind.i64 (SRec.kind r)] [] (sb (Nm.o (nat_lit 512)) (putZ (SRec.kind r))) [(Nm.o (nat_lit 512), bs (putZ (SRec.kind r)))], decide (SRec.kind r = (1 : Int)) = false, decide (SRec.kind r = (3 : Int)) = true, T Try.prog (83 : Nat) [V.sl (Nm.o (nat_lit 512)) (1 : Nat) (0 : Nat) (0 : Nat) (0 : Nat) (List.length (putZ (SRec.kind r))) none, V.int IntKind.i64 (SRec.leader r)] [(Nm.o (nat_lit 512), bs (putZ (SRec.kind r)))] (sb (Nm.o (nat_lit 1216)) (putZ (SRec.kind r) ++ putZ (SRec.leader r))) [(Nm.o (nat_lit 1216), bs (putZ (SRec.kind r) ++ putZ (SRec.leader r)))], T Try.prog (83 : Nat) [V.sl (Nm.o (nat_lit 1216)) (1 : Nat) (0 : Nat) (0 : Nat) (0 : Nat) (List.length (putZ (SRec.kind r) ++ putZ (SRec.leader r))) none, V.int IntKind.i64 (SRec.view r)] [(Nm.o (nat_lit 1216), bs (putZ (SRec.kind r) ++ putZ (SRec.leader r)))] (sb (Nm.o (nat_lit 1408)) (putZ (SRec.kind r) ++ putZ (SRec.leader r) ++ putZ (SRec.view r))) [(Nm.o (nat_lit 1408), bs (putZ (SRec.kind r) ++ putZ (SRec.leader r) ++ putZ (SRec.view r)))], decide ((4194304 : Int) < (↑(List.length (putZ (SRec.kind r) ++ putZ (SRec.leader r) ++ putZ (SRec.view r))) : Int)) = false, List.length (putZ (SRec.kind r) ++ putZ (SRec.leader r) ++ putZ (SRec.view r)) = List.length (putZ (SRec.kind r) ++ putZ (SRec.leader r) ++ putZ (SRec.view r)), (0 : Nat) + List.length (putZ (SRec.kind r) ++ putZ (SRec.leader r) ++ putZ (SRec.view r)) ≤ List.length (putZ (SRec.kind r) ++ putZ (SRec.leader r) ++ putZ (SRec.view r)), ∀ (k : Nat), k < List.length (putZ (SRec.kind r) ++ putZ (SRec.leader r) ++ putZ (SRec.view r)) → bl (putZ (SRec.kind r) ++ putZ (SRec.leader r) ++ putZ (SRec.view r)) ((0 : Nat) + k) = bl (putZ (SRec.kind r) ++ putZ (SRec.leader r) ++ putZ (SRec.view r)) k, false = true → none = some (List.length (putZ (SRec.kind r) ++ putZ (SRec.leader r) ++ putZ (SRec.view r))), (0 : Int) = (0 : Int)]) := by kernel_rfl

theorem bdRe3L_p0011 (r : SRec) :
  along Try.prog (bdRe3L r) [false, false, true, true] = (some (.tup [.ros 1 0 (bl []) false, .int .i64 3], [], [T Try.prog 82 [.agg (SRec.c r)] [] (.bool true) [], q false, T Try.prog 83 [.snil, .int .i64 (SRec.kind r)] [] (sb (.o 512) (putZ (SRec.kind r))) [(.o 512, bs (putZ (SRec.kind r)))], decide (SRec.kind r = (1 : Int)) = false, decide (SRec.kind r = (3 : Int)) = true, T Try.prog 83 [.sl (.o 512) 1 0 0 0 (List.length (putZ (SRec.kind r))) none, .int .i64 (SRec.leader r)] [(.o 512, bs (putZ (SRec.kind r)))] (sb (.o 1216) (putZ (SRec.kind r) ++ putZ (SRec.leader r))) [(.o 1216, bs (putZ (SRec.kind r) ++ putZ (SRec.leader r)))], T Try.prog 83 [.sl (.o 1216) 1 0 0 0 (List.length (putZ (SRec.kind r) ++ putZ (SRec.leader r))) none, .int .i64 (SRec.view r)] [(.o 1216, bs (putZ (SRec.kind r) ++ putZ (SRec.leader r)))] (sb (.o 1408) (putZ (SRec.kind r) ++ putZ (SRec.leader r) ++ putZ (SRec.view r))) [(.o 1408, bs (putZ (SRec.kind r) ++ putZ (SRec.leader r) ++ putZ (SRec.view r)))], decide ((4194304 : Int) < (↑(List.length (putZ (SRec.kind r) ++ putZ (SRec.leader r) ++ putZ (SRec.view r))) : Int)) = true, nat_lit 0 = (0 : Nat), q (3 : Int)]) : Option (V × Heap × List Prop)) := by kernel_rfl

theorem bdRe5_p00000 (r : SRec) (t : SMsg) (s : ByteArray) :
  along Try.prog (bdRe5 r t s) [false, false, false, false, false] = some (V.tup [V.ros (1 : Nat) (List.length (putZ (SRec.kind r) ++ textB s)) (bl (putZ (SRec.kind r) ++ textB s)) false, V.int IntKind.i64 (0 : Int)], [], [T Try.prog (82 : Nat) [V.agg (SRec.c r)] [] (V.bool true) [], false = false, T Try.prog (83 : Nat) [V.snil, V.int IntKind.i64 (SRec.kind r)] [] (sb (Nm.o (nat_lit 512)) (putZ (SRec.kind r))) [(Nm.o (nat_lit 512), bs (putZ (SRec.kind r)))], decide (SRec.kind r = (1 : Int)) = false, decide (SRec.kind r = (3 : Int)) = false, T Try.prog (85 : Nat) [V.agg (SRec.c r)] [] (V.agg (SMsg.c t)) [], T Try.prog (21 : Nat) [V.agg (SMsg.c t)] [] (V.tup [V.str s, V.int IntKind.i64 (0 : Int)]) [], false = false, T Try.prog (86 : Nat) [V.sl (Nm.o (nat_lit 512)) (1 : Nat) (0 : Nat) (0 : Nat) (0 : Nat) (List.length (putZ (SRec.kind r))) none, V.str s] [(Nm.o (nat_lit 512), bs (putZ (SRec.kind r)))] (sb (Nm.o (nat_lit 1792)) (putZ (SRec.kind r) ++ textB s)) [(Nm.o (nat_lit 1792), bs (putZ (SRec.kind r) ++ textB s))], decide ((4194304 : Int) < (↑(List.length (putZ (SRec.kind r) ++ textB s)) : Int)) = false, List.length (putZ (SRec.kind r) ++ textB s) = List.length (putZ (SRec.kind r) ++ textB s), (0 : Nat) + List.length (putZ (SRec.kind r) ++ textB s) ≤ List.length (putZ (SRec.kind r) ++ textB s), ∀ (k : Nat), k < List.length (putZ (SRec.kind r) ++ textB s) → bl (putZ (SRec.kind r) ++ textB s) ((0 : Nat) + k) = bl (putZ (SRec.kind r) ++ textB s) k, false = true → none = some (List.length (putZ (SRec.kind r) ++ textB s)), (0 : Int) = (0 : Int)]) := by kernel_rfl

theorem bdRe5L_p00001 (r : SRec) (t : SMsg) (s : ByteArray) :
  along Try.prog (bdRe5L r t s) [false, false, false, false, true] = (some (.tup [.ros 1 0 (bl []) false, .int .i64 3], [], [T Try.prog 82 [.agg (SRec.c r)] [] (.bool true) [], q false, T Try.prog 83 [.snil, .int .i64 (SRec.kind r)] [] (sb (.o 512) (putZ (SRec.kind r))) [(.o 512, bs (putZ (SRec.kind r)))], decide (SRec.kind r = (1 : Int)) = false, decide (SRec.kind r = (3 : Int)) = false, T Try.prog 85 [.agg (SRec.c r)] [] (.agg (SMsg.c t)) [], T Try.prog 21 [.agg (SMsg.c t)] [] (.tup [.str s, .int .i64 0]) [], q false, T Try.prog 86 [.sl (.o 512) 1 0 0 0 (List.length (putZ (SRec.kind r))) none, .str s] [(.o 512, bs (putZ (SRec.kind r)))] (sb (.o 1792) (putZ (SRec.kind r) ++ textB s)) [(.o 1792, bs (putZ (SRec.kind r) ++ textB s))], decide ((4194304 : Int) < (↑(List.length (putZ (SRec.kind r) ++ textB s)) : Int)) = true, nat_lit 0 = (0 : Nat), q (3 : Int)]) : Option (V × Heap × List Prop)) := by kernel_rfl

theorem bdRe5E_p0001 (r : SRec) (t : SMsg) (s : ByteArray) (e2 : Int) :
  along Try.prog (bdRe5E r t s e2) [false, false, false, true] = (some (.tup [.ros 1 0 (bl []) false, .int .i64 e2], [], [T Try.prog 82 [.agg (SRec.c r)] [] (.bool true) [], q false, T Try.prog 83 [.snil, .int .i64 (SRec.kind r)] [] (sb (.o 512) (putZ (SRec.kind r))) [(.o 512, bs (putZ (SRec.kind r)))], decide (SRec.kind r = (1 : Int)) = false, decide (SRec.kind r = (3 : Int)) = false, T Try.prog 85 [.agg (SRec.c r)] [] (.agg (SMsg.c t)) [], T Try.prog 21 [.agg (SMsg.c t)] [] (.tup [.str s, .int .i64 e2]) [], (!decide (e2 = (0 : Int))) = true, nat_lit 0 = (0 : Nat), q e2]) : Option (V × Heap × List Prop)) := by kernel_rfl

theorem bdRD0E_p11 (l : List UInt8) (s0 : RS) (s1 : RS) (d : Int) :
  along Try.prog (bdRD0E l s0 s1 d) [true, true] = (some (.tup [.agg [.int .i64 0, .int .i64 0, .int .i64 0, .int .i64 0, .bool false, rq 0 fun x => SReq.mk (0 : Int) (0 : Int) ByteArray.empty [], .int .i64 0, .int .i64 0, .int .i64 0, .int .i64 0, .seg .u8 32 z32, sg 0 fun x => SSign.mk (0 : Int) [], .str ByteArray.empty, sg 0 fun x => SSign.mk (0 : Int) []], .int .i64 d], [], [T Try.prog 61 [.ros 1 (List.length l) (bl l) false] [] (.ptr (.o 192) 0 0 0 0) [(.o 192, rdB s0)], T Try.prog 62 [.ptr (.o 192) 0 0 0 0, .int .i64 5] [(.o 192, rdB s0)] (.int .i64 0) [(.o 192, rdB s1)], q2, q (List.length (RS.l s1)), ∀ (k : Nat), k < List.length (RS.l s1) → bl (RS.l s1) k = bl (RS.l s1) k, false = true → false = true, q (RS.e s1), q2, q1, q1, q1, q1, q false, q0, q1, q1, q1, q1, q (32 : Nat), q z32, q0, q ByteArray.empty, q0, q1, q1, q1, q1, q false, q0, q1, q1, q1, q1, q (32 : Nat), q z32, q0, q ByteArray.empty, q0, q0, q0, q0, q1, q0, q0, q0, q0, q0, q0, ByteArray.mk (Array.mk []) = ByteArray.empty, T Try.prog 65 [.ptr (.o 5) 0 0 0 0] [(.o 5, rdB s1)] (.int .i64 d) [(.o 5, rdB s1)], (!decide (d = (0 : Int))) = true, q1, q1, q1, q1, q false, q0, q1, q1, q1, q1, q (32 : Nat), q z32, q0, q ByteArray.empty, q0, q0, q0, q0, q d]) : Option (V × Heap × List Prop)) := by kernel_rfl

theorem bdRD0O_p101 (l : List UInt8) (s0 : RS) (s1 : RS) (d : Int) :
  along Try.prog (bdRD0O l s0 s1 d) [true, false, true] = (some (.tup [.agg [.int .i64 0, .int .i64 0, .int .i64 0, .int .i64 0, .bool false, rq 0 fun x => SReq.mk (0 : Int) (0 : Int) ByteArray.empty [], .int .i64 0, .int .i64 0, .int .i64 0, .int .i64 0, .seg .u8 32 z32, sg 0 fun x => SSign.mk (0 : Int) [], .str ByteArray.empty, sg 0 fun x => SSign.mk (0 : Int) []], .int .i64 240], [], [T Try.prog 61 [.ros 1 (List.length l) (bl l) false] [] (.ptr (.o 192) 0 0 0 0) [(.o 192, rdB s0)], T Try.prog 62 [.ptr (.o 192) 0 0 0 0, .int .i64 5] [(.o 192, rdB s0)] (.int .i64 0) [(.o 192, rdB s1)], q2, q (List.length (RS.l s1)), ∀ (k : Nat), k < List.length (RS.l s1) → bl (RS.l s1) k = bl (RS.l s1) k, false = true → false = true, q (RS.e s1), q2, q1, q1, q1, q1, q false, q0, q1, q1, q1, q1, q (32 : Nat), q z32, q0, q ByteArray.empty, q0, q1, q1, q1, q1, q false, q0, q1, q1, q1, q1, q (32 : Nat), q z32, q0, q ByteArray.empty, q0, q0, q0, q0, q1, q0, q0, q0, q0, q0, q0, ByteArray.mk (Array.mk []) = ByteArray.empty, T Try.prog 65 [.ptr (.o 5) 0 0 0 0] [(.o 5, rdB s1)] (.int .i64 d) [(.o 5, rdB s1)], (!decide (d = (0 : Int))) = false, q2, q1, q1, q1, q1, q false, q0, q1, q1, q1, q1, q (32 : Nat), q z32, q0, q ByteArray.empty, q0, q0, q0, q0, q (240 : Int)]) : Option (V × Heap × List Prop)) := by kernel_rfl

theorem bdRD1E_p011 (l : List UInt8) (s0 : RS) (s1 : RS) (s2 : RS) (s3 : RS) (s4 : RS) (sl : Int) (vw : Int) (b : SBatch) (d : Int) :
  along Try.prog (bdRD1E l s0 s1 s2 s3 s4 sl vw b d) [false, true, true] = (some (.tup [.agg [.int .i64 0, .int .i64 0, .int .i64 0, .int .i64 0, .bool false, rq 0 fun x => SReq.mk (0 : Int) (0 : Int) ByteArray.empty [], .int .i64 0, .int .i64 0, .int .i64 0, .int .i64 0, .seg .u8 32 z32, sg 0 fun x => SSign.mk (0 : Int) [], .str ByteArray.empty, sg 0 fun x => SSign.mk (0 : Int) []], .int .i64 d], [], [T Try.prog 61 [.ros 1 (List.length l) (bl l) false] [] (.ptr (.o 192) 0 0 0 0) [(.o 192, rdB s0)], T Try.prog 62 [.ptr (.o 192) 0 0 0 0, .int .i64 5] [(.o 192, rdB s0)] (.int .i64 1) [(.o 192, rdB s1)], q false, q2, T Try.prog 62 [.ptr (.o 192) 0 0 0 0, .int .i64 1099511627776] [(.o 192, rdB s1)] (.int .i64 sl) [(.o 192, rdB s2)], T Try.prog 62 [.ptr (.o 192) 0 0 0 0, .int .i64 1099511627776] [(.o 192, rdB s2)] (.int .i64 vw) [(.o 192, rdB s3)], T Try.prog 87 [.ptr (.o 192) 0 0 0 0] [(.o 192, rdB s3)] (.agg (SBatch.c b)) [(.o 192, rdB s4)], q (List.length (RS.l s4)), ∀ (k : Nat), k < List.length (RS.l s4) → bl (RS.l s4) k = bl (RS.l s4) k, false = true → false = true, q (RS.e s4), q2, q (1 : Int), q1, q vw, q sl, q (SBatch.noop b), q (SBatch.n b), ∀ (k : Nat), k < SBatch.n b → SReq.c (SBatch.req b k) = SReq.c (SBatch.req b k), false = true → false = true, q1, q1, q1, q1, q (32 : Nat), q z32, q0, q ByteArray.empty, q0, q1, q1, q1, q1, q false, q0, q1, q1, q1, q1, q (32 : Nat), q z32, q0, q ByteArray.empty, q0, q0, q0, q0, q1, q0, q0, q0, q0, q0, q0, ByteArray.mk (Array.mk []) = ByteArray.empty, T Try.prog 65 [.ptr (.o 5) 0 0 0 0] [(.o 5, rdB s4)] (.int .i64 d) [(.o 5, rdB s4)], (!decide (d = (0 : Int))) = true, q1, q1, q1, q1, q false, q0, q1, q1, q1, q1, q (32 : Nat), q z32, q0, q ByteArray.empty, q0, q0, q0, q0, q d]) : Option (V × Heap × List Prop)) := by kernel_rfl

theorem bdRD1O_p010011 (l : List UInt8) (s0 : RS) (s1 : RS) (s2 : RS) (s3 : RS) (s4 : RS) (sl : Int) (vw : Int) (b : SBatch) (d : Int) :
  along Try.prog (bdRD1O l s0 s1 s2 s3 s4 sl vw b d) [false, true, false, false, true, true] = (some (.tup [.agg [.int .i64 1, .int .i64 0, .int .i64 vw, .int .i64 sl, .bool (SBatch.noop b), rq (SBatch.n b) (SBatch.req b), .int .i64 0, .int .i64 0, .int .i64 0, .int .i64 0, .seg .u8 32 z32, sg 0 fun x => SSign.mk (0 : Int) [], .str ByteArray.empty, sg 0 fun x => SSign.mk (0 : Int) []], .int .i64 0], [], [T Try.prog 61 [.ros 1 (List.length l) (bl l) false] [] (.ptr (.o 192) 0 0 0 0) [(.o 192, rdB s0)], T Try.prog 62 [.ptr (.o 192) 0 0 0 0, .int .i64 5] [(.o 192, rdB s0)] (.int .i64 1) [(.o 192, rdB s1)], q false, q2, T Try.prog 62 [.ptr (.o 192) 0 0 0 0, .int .i64 1099511627776] [(.o 192, rdB s1)] (.int .i64 sl) [(.o 192, rdB s2)], T Try.prog 62 [.ptr (.o 192) 0 0 0 0, .int .i64 1099511627776] [(.o 192, rdB s2)] (.int .i64 vw) [(.o 192, rdB s3)], T Try.prog 87 [.ptr (.o 192) 0 0 0 0] [(.o 192, rdB s3)] (.agg (SBatch.c b)) [(.o 192, rdB s4)], q (List.length (RS.l s4)), ∀ (k : Nat), k < List.length (RS.l s4) → bl (RS.l s4) k = bl (RS.l s4) k, false = true → false = true, q (RS.e s4), q2, q (1 : Int), q1, q vw, q sl, q (SBatch.noop b), q (SBatch.n b), ∀ (k : Nat), k < SBatch.n b → SReq.c (SBatch.req b k) = SReq.c (SBatch.req b k), false = true → false = true, q1, q1, q1, q1, q (32 : Nat), q z32, q0, q ByteArray.empty, q0, q1, q1, q1, q1, q false, q0, q1, q1, q1, q1, q (32 : Nat), q z32, q0, q ByteArray.empty, q0, q0, q0, q0, q1, q0, q0, q0, q0, q0, q0, ByteArray.mk (Array.mk []) = ByteArray.empty, T Try.prog 65 [.ptr (.o 5) 0 0 0 0] [(.o 5, rdB s4)] (.int .i64 d) [(.o 5, rdB s4)], (!decide (d = (0 : Int))) = false, q false, q2, q2, q (1 : Int), q1, q vw, q sl, q (SBatch.noop b), q (SBatch.n b), ∀ (k : Nat), k < SBatch.n b → SReq.c (SBatch.req b k) = SReq.c (SBatch.req b k), false = true → false = true, q1, q1, q1, q1, q (32 : Nat), q z32, q0, ∀ (k : Nat), k < (0 : Nat) → SSign.c (SSign.mk (0 : Int) []) = SSign.c (SSign.mk (0 : Int) []), false = true → false = true, q ByteArray.empty, q0, ∀ (k : Nat), k < (0 : Nat) → SSign.c (SSign.mk (0 : Int) []) = SSign.c (SSign.mk (0 : Int) []), false = true → false = true, q0, q0, q0, q1]) : Option (V × Heap × List Prop)) := by kernel_rfl

theorem bdRD3E_p0011 (l : List UInt8) (s0 : RS) (s1 : RS) (s2 : RS) (s3 : RS) (ld : Int) (vw : Int) (d : Int) :
  along Try.prog (bdRD3E l s0 s1 s2 s3 ld vw d) [false, false, true, true] = (some (.tup [.agg [.int .i64 0, .int .i64 0, .int .i64 0, .int .i64 0, .bool false, rq 0 fun x => SReq.mk (0 : Int) (0 : Int) ByteArray.empty [], .int .i64 0, .int .i64 0, .int .i64 0, .int .i64 0, .seg .u8 32 z32, sg 0 fun x => SSign.mk (0 : Int) [], .str ByteArray.empty, sg 0 fun x => SSign.mk (0 : Int) []], .int .i64 d], [], [T Try.prog 61 [.ros 1 (List.length l) (bl l) false] [] (.ptr (.o 192) 0 0 0 0) [(.o 192, rdB s0)], T Try.prog 62 [.ptr (.o 192) 0 0 0 0, .int .i64 5] [(.o 192, rdB s0)] (.int .i64 3) [(.o 192, rdB s1)], q false, q false, q2, T Try.prog 62 [.ptr (.o 192) 0 0 0 0, .int .i64 64] [(.o 192, rdB s1)] (.int .i64 ld) [(.o 192, rdB s2)], T Try.prog 62 [.ptr (.o 192) 0 0 0 0, .int .i64 1099511627776] [(.o 192, rdB s2)] (.int .i64 vw) [(.o 192, rdB s3)], q (List.length (RS.l s3)), ∀ (k : Nat), k < List.length (RS.l s3) → bl (RS.l s3) k = bl (RS.l s3) k, false = true → false = true, q (RS.e s3), q2, q (3 : Int), q ld, q vw, q1, q false, q0, q1, q1, q1, q1, q (32 : Nat), q z32, q0, q ByteArray.empty, q0, q1, q1, q1, q1, q false, q0, q1, q1, q1, q1, q (32 : Nat), q z32, q0, q ByteArray.empty, q0, q0, q0, q0, q1, q0, q0, q0, q0, q0, q0, ByteArray.mk (Array.mk []) = ByteArray.empty, T Try.prog 65 [.ptr (.o 5) 0 0 0 0] [(.o 5, rdB s3)] (.int .i64 d) [(.o 5, rdB s3)], (!decide (d = (0 : Int))) = true, q1, q1, q1, q1, q false, q0, q1, q1, q1, q1, q (32 : Nat), q z32, q0, q ByteArray.empty, q0, q0, q0, q0, q d]) : Option (V × Heap × List Prop)) := by kernel_rfl

theorem bdRD3O_p0010001 (l : List UInt8) (s0 : RS) (s1 : RS) (s2 : RS) (s3 : RS) (ld : Int) (vw : Int) (d : Int) :
  along Try.prog (bdRD3O l s0 s1 s2 s3 ld vw d) [false, false, true, false, false, false, true] = (some (.tup [.agg [.int .i64 3, .int .i64 ld, .int .i64 vw, .int .i64 0, .bool false, rq 0 fun x => SReq.mk (0 : Int) (0 : Int) ByteArray.empty [], .int .i64 0, .int .i64 0, .int .i64 0, .int .i64 0, .seg .u8 32 z32, sg 0 fun x => SSign.mk (0 : Int) [], .str ByteArray.empty, sg 0 fun x => SSign.mk (0 : Int) []], .int .i64 0], [], [T Try.prog 61 [.ros 1 (List.length l) (bl l) false] [] (.ptr (.o 192) 0 0 0 0) [(.o 192, rdB s0)], T Try.prog 62 [.ptr (.o 192) 0 0 0 0, .int .i64 5] [(.o 192, rdB s0)] (.int .i64 3) [(.o 192, rdB s1)], q false, q false, q2, T Try.prog 62 [.ptr (.o 192) 0 0 0 0, .int .i64 64] [(.o 192, rdB s1)] (.int .i64 ld) [(.o 192, rdB s2)], T Try.prog 62 [.ptr (.o 192) 0 0 0 0, .int .i64 1099511627776] [(.o 192, rdB s2)] (.int .i64 vw) [(.o 192, rdB s3)], q (List.length (RS.l s3)), ∀ (k : Nat), k < List.length (RS.l s3) → bl (RS.l s3) k = bl (RS.l s3) k, false = true → false = true, q (RS.e s3), q2, q (3 : Int), q ld, q vw, q1, q false, q0, q1, q1, q1, q1, q (32 : Nat), q z32, q0, q ByteArray.empty, q0, q1, q1, q1, q1, q false, q0, q1, q1, q1, q1, q (32 : Nat), q z32, q0, q ByteArray.empty, q0, q0, q0, q0, q1, q0, q0, q0, q0, q0, q0, ByteArray.mk (Array.mk []) = ByteArray.empty, T Try.prog 65 [.ptr (.o 5) 0 0 0 0] [(.o 5, rdB s3)] (.int .i64 d) [(.o 5, rdB s3)], (!decide (d = (0 : Int))) = false, q false, q false, q2, q (3 : Int), q ld, q vw, q1, q false, q0, ∀ (k : Nat), k < (0 : Nat) → SReq.c (SReq.mk (0 : Int) (0 : Int) ByteArray.empty []) = SReq.c (SReq.mk (0 : Int) (0 : Int) ByteArray.empty []), false = true → false = true, q1, q1, q1, q1, q (32 : Nat), q z32, q0, ∀ (k : Nat), k < (0 : Nat) → SSign.c (SSign.mk (0 : Int) []) = SSign.c (SSign.mk (0 : Int) []), false = true → false = true, q ByteArray.empty, q0, ∀ (k : Nat), k < (0 : Nat) → SSign.c (SSign.mk (0 : Int) []) = SSign.c (SSign.mk (0 : Int) []), false = true → false = true, q0, q0, q0, q1]) : Option (V × Heap × List Prop)) := by kernel_rfl

theorem bdRD5E_p0001 (l : List UInt8) (s0 : RS) (k : Int) (s1 : RS) (s2 : RS) (x : ByteArray) (d : Int) :
  along Try.prog (bdRD5E l s0 k s1 s2 x d) [false, false, false, true] = (some (.tup [.agg [.int .i64 0, .int .i64 0, .int .i64 0, .int .i64 0, .bool false, rq 0 fun x => SReq.mk (0 : Int) (0 : Int) ByteArray.empty [], .int .i64 0, .int .i64 0, .int .i64 0, .int .i64 0, .seg .u8 32 z32, sg 0 fun x => SSign.mk (0 : Int) [], .str ByteArray.empty, sg 0 fun x => SSign.mk (0 : Int) []], .int .i64 d], [], [T Try.prog 61 [.ros 1 (List.length l) (bl l) false] [] (.ptr (.o 192) 0 0 0 0) [(.o 192, rdB s0)], T Try.prog 62 [.ptr (.o 192) 0 0 0 0, .int .i64 5] [(.o 192, rdB s0)] (.int .i64 k) [(.o 192, rdB s1)], decide (k = (0 : Int)) = false, decide (k = (1 : Int)) = false, decide (k = (3 : Int)) = false, T Try.prog 88 [.ptr (.o 192) 0 0 0 0, .int .i64 4194304] [(.o 192, rdB s1)] (.str x) [(.o 192, rdB s2)], q (List.length (RS.l s2)), ∀ (k : Nat), k < List.length (RS.l s2) → bl (RS.l s2) k = bl (RS.l s2) k, false = true → false = true, q (RS.e s2), q2, q k, q1, q1, q1, q false, q0, q1, q1, q1, q1, q (32 : Nat), q z32, q0, q ByteArray.empty, q0, q1, q1, q1, q1, q false, q0, q1, q1, q1, q1, q (32 : Nat), q z32, q0, q ByteArray.empty, q0, q0, q0, q0, q1, q0, q0, q0, q0, q0, q0, q x, T Try.prog 65 [.ptr (.o 5) 0 0 0 0] [(.o 5, rdB s2)] (.int .i64 d) [(.o 5, rdB s2)], (!decide (d = (0 : Int))) = true, q1, q1, q1, q1, q false, q0, q1, q1, q1, q1, q (32 : Nat), q z32, q0, q ByteArray.empty, q0, q0, q0, q0, q d]) : Option (V × Heap × List Prop)) := by kernel_rfl

theorem bdRD5X_p000000011 (l : List UInt8) (s0 : RS) (k : Int) (s1 : RS) (s2 : RS) (x : ByteArray) (d : Int) (m : SMsg) (e2 : Int) (t : SMsg) :
  along Try.prog (bdRD5X l s0 k s1 s2 x d m e2 t) [false, false, false, false, false, false, false, true, true] = (some (.tup [.agg [.int .i64 0, .int .i64 0, .int .i64 0, .int .i64 0, .bool false, rq 0 fun x => SReq.mk (0 : Int) (0 : Int) ByteArray.empty [], .int .i64 0, .int .i64 0, .int .i64 0, .int .i64 0, .seg .u8 32 z32, sg 0 fun x => SSign.mk (0 : Int) [], .str ByteArray.empty, sg 0 fun x => SSign.mk (0 : Int) []], .int .i64 240], [], [T Try.prog 61 [.ros 1 (List.length l) (bl l) false] [] (.ptr (.o 192) 0 0 0 0) [(.o 192, rdB s0)], T Try.prog 62 [.ptr (.o 192) 0 0 0 0, .int .i64 5] [(.o 192, rdB s0)] (.int .i64 k) [(.o 192, rdB s1)], decide (k = (0 : Int)) = false, decide (k = (1 : Int)) = false, decide (k = (3 : Int)) = false, T Try.prog 88 [.ptr (.o 192) 0 0 0 0, .int .i64 4194304] [(.o 192, rdB s1)] (.str x) [(.o 192, rdB s2)], q (List.length (RS.l s2)), ∀ (k : Nat), k < List.length (RS.l s2) → bl (RS.l s2) k = bl (RS.l s2) k, false = true → false = true, q (RS.e s2), q2, q k, q1, q1, q1, q false, q0, q1, q1, q1, q1, q (32 : Nat), q z32, q0, q ByteArray.empty, q0, q1, q1, q1, q1, q false, q0, q1, q1, q1, q1, q (32 : Nat), q z32, q0, q ByteArray.empty, q0, q0, q0, q0, q1, q0, q0, q0, q0, q0, q0, q x, T Try.prog 65 [.ptr (.o 5) 0 0 0 0] [(.o 5, rdB s2)] (.int .i64 d) [(.o 5, rdB s2)], (!decide (d = (0 : Int))) = false, decide (k = (0 : Int)) = false, decide (k = (1 : Int)) = false, decide (k = (3 : Int)) = false, T Try.prog 22 [.str x] [] (.tup [.agg (SMsg.c m), .int .i64 e2]) [], (!decide (e2 = (0 : Int))) = true, q2, q1, q1, q1, q1, q false, q0, q1, q1, q1, q1, q (32 : Nat), q z32, q0, q ByteArray.empty, q0, q0, q0, q0, q (240 : Int)]) : Option (V × Heap × List Prop)) := by kernel_rfl

theorem bdRD5X_p000000001 (l : List UInt8) (s0 : RS) (k : Int) (s1 : RS) (s2 : RS) (x : ByteArray) (d : Int) (m : SMsg) (e2 : Int) (t : SMsg) :
  along Try.prog (bdRD5X l s0 k s1 s2 x d m e2 t) [false, false, false, false, false, false, false, false, true] = (some (.tup [.agg [.int .i64 0, .int .i64 0, .int .i64 0, .int .i64 0, .bool false, rq 0 fun x => SReq.mk (0 : Int) (0 : Int) ByteArray.empty [], .int .i64 0, .int .i64 0, .int .i64 0, .int .i64 0, .seg .u8 32 z32, sg 0 fun x => SSign.mk (0 : Int) [], .str ByteArray.empty, sg 0 fun x => SSign.mk (0 : Int) []], .int .i64 240], [], [T Try.prog 61 [.ros 1 (List.length l) (bl l) false] [] (.ptr (.o 192) 0 0 0 0) [(.o 192, rdB s0)], T Try.prog 62 [.ptr (.o 192) 0 0 0 0, .int .i64 5] [(.o 192, rdB s0)] (.int .i64 k) [(.o 192, rdB s1)], decide (k = (0 : Int)) = false, decide (k = (1 : Int)) = false, decide (k = (3 : Int)) = false, T Try.prog 88 [.ptr (.o 192) 0 0 0 0, .int .i64 4194304] [(.o 192, rdB s1)] (.str x) [(.o 192, rdB s2)], q (List.length (RS.l s2)), ∀ (k : Nat), k < List.length (RS.l s2) → bl (RS.l s2) k = bl (RS.l s2) k, false = true → false = true, q (RS.e s2), q2, q k, q1, q1, q1, q false, q0, q1, q1, q1, q1, q (32 : Nat), q z32, q0, q ByteArray.empty, q0, q1, q1, q1, q1, q false, q0, q1, q1, q1, q1, q (32 : Nat), q z32, q0, q ByteArray.empty, q0, q0, q0, q0, q1, q0, q0, q0, q0, q0, q0, q x, T Try.prog 65 [.ptr (.o 5) 0 0 0 0] [(.o 5, rdB s2)] (.int .i64 d) [(.o 5, rdB s2)], (!decide (d = (0 : Int))) = false, decide (k = (0 : Int)) = false, decide (k = (1 : Int)) = false, decide (k = (3 : Int)) = false, T Try.prog 22 [.str x] [] (.tup [.agg (SMsg.c m), .int .i64 e2]) [], (!decide (e2 = (0 : Int))) = false, T Try.prog 85 [.agg [.int .i64 k, .int .i64 0, .int .i64 0, .int .i64 0, .bool false, rq 0 fun x => SReq.mk (0 : Int) (0 : Int) ByteArray.empty [], .int .i64 0, .int .i64 0, .int .i64 0, .int .i64 0, .seg .u8 32 z32, sg 0 fun x => SSign.mk (0 : Int) [], .str ByteArray.empty, sg 0 fun x => SSign.mk (0 : Int) []]] [] (.agg (SMsg.c t)) [], (!decide (SMsg.kind m = SMsg.kind t)) = true, q1, q1, q1, q1, q false, q0, q1, q1, q1, q1, q (32 : Nat), q z32, q0, q ByteArray.empty, q0, q0, q0, q0, q (240 : Int)]) : Option (V × Heap × List Prop)) := by kernel_rfl

theorem bdRD5O_p000000000 (l : List UInt8) (s0 : RS) (k : Int) (s1 : RS) (s2 : RS) (x : ByteArray) (d : Int) (m : SMsg) (e2 : Int) (t : SMsg) :
  along Try.prog (bdRD5O l s0 k s1 s2 x d m e2 t) [false, false, false, false, false, false, false, false, false] = (some (.tup [.agg [.int .i64 k, .int .i64 0, .int .i64 0, .int .i64 0, .bool (SBatch.noop (SMsg.batch m)), rq (SBatch.n (SMsg.batch m)) (SBatch.req (SMsg.batch m)), .int .i64 (SVote.kind (SCert.vote (SMsg.cert m))), .int .i64 (SVote.epoch (SCert.vote (SMsg.cert m))), .int .i64 (SVote.view (SCert.vote (SMsg.cert m))), .int .i64 (SVote.slot (SCert.vote (SMsg.cert m))), .seg .u8 32 (SVote.digest (SCert.vote (SMsg.cert m))), sg (SCert.n (SMsg.cert m)) (SCert.sig (SMsg.cert m)), .str (SMsg.state m), sg (SMsg.n m) (SMsg.sig m)], .int .i64 0], [], [T Try.prog 61 [.ros 1 (List.length l) (bl l) false] [] (.ptr (.o 192) 0 0 0 0) [(.o 192, rdB s0)], T Try.prog 62 [.ptr (.o 192) 0 0 0 0, .int .i64 5] [(.o 192, rdB s0)] (.int .i64 k) [(.o 192, rdB s1)], decide (k = (0 : Int)) = false, decide (k = (1 : Int)) = false, decide (k = (3 : Int)) = false, T Try.prog 88 [.ptr (.o 192) 0 0 0 0, .int .i64 4194304] [(.o 192, rdB s1)] (.str x) [(.o 192, rdB s2)], q (List.length (RS.l s2)), ∀ (k : Nat), k < List.length (RS.l s2) → bl (RS.l s2) k = bl (RS.l s2) k, false = true → false = true, q (RS.e s2), q2, q k, q1, q1, q1, q false, q0, q1, q1, q1, q1, q (32 : Nat), q z32, q0, q ByteArray.empty, q0, q1, q1, q1, q1, q false, q0, q1, q1, q1, q1, q (32 : Nat), q z32, q0, q ByteArray.empty, q0, q0, q0, q0, q1, q0, q0, q0, q0, q0, q0, q x, T Try.prog 65 [.ptr (.o 5) 0 0 0 0] [(.o 5, rdB s2)] (.int .i64 d) [(.o 5, rdB s2)], (!decide (d = (0 : Int))) = false, decide (k = (0 : Int)) = false, decide (k = (1 : Int)) = false, decide (k = (3 : Int)) = false, T Try.prog 22 [.str x] [] (.tup [.agg (SMsg.c m), .int .i64 e2]) [], (!decide (e2 = (0 : Int))) = false, T Try.prog 85 [.agg [.int .i64 k, .int .i64 0, .int .i64 0, .int .i64 0, .bool false, rq 0 fun x => SReq.mk (0 : Int) (0 : Int) ByteArray.empty [], .int .i64 0, .int .i64 0, .int .i64 0, .int .i64 0, .seg .u8 32 z32, sg 0 fun x => SSign.mk (0 : Int) [], .str ByteArray.empty, sg 0 fun x => SSign.mk (0 : Int) []]] [] (.agg (SMsg.c t)) [], (!decide (SMsg.kind m = SMsg.kind t)) = false, q k, q1, q1, q1, q (SBatch.noop (SMsg.batch m)), q (SBatch.n (SMsg.batch m)), ∀ (k : Nat), k < SBatch.n (SMsg.batch m) → SReq.c (SBatch.req (SMsg.batch m) k) = SReq.c (SBatch.req (SMsg.batch m) k), false = true → false = true, q (SVote.kind (SCert.vote (SMsg.cert m))), q (SVote.epoch (SCert.vote (SMsg.cert m))), q (SVote.view (SCert.vote (SMsg.cert m))), q (SVote.slot (SCert.vote (SMsg.cert m))), q (32 : Nat), q (SVote.digest (SCert.vote (SMsg.cert m))), q (SCert.n (SMsg.cert m)), ∀ (k : Nat), k < SCert.n (SMsg.cert m) → SSign.c (SCert.sig (SMsg.cert m) k) = SSign.c (SCert.sig (SMsg.cert m) k), false = true → false = true, q (SMsg.state m), q (SMsg.n m), ∀ (k_1 : Nat), k_1 < SMsg.n m → SSign.c (SMsg.sig m k_1) = SSign.c (SRec.sig (SRec.mk k (0 : Int) (0 : Int) (0 : Int) (SMsg.batch m) (SMsg.cert m) (SMsg.state m) (SMsg.n m) (SMsg.sig m)) k_1), false = true → false = true, q0, q0, q0, q1]) : Option (V × Heap × List Prop)) := by kernel_rfl

theorem bytes_le {m : SMsg} (h : encE m = 0) : (encT m).size ≤ 4194304 := by
 obtain ⟨_, h2, h3⟩ := encE_zero h
 rw [h3, ← strB_len, strB_baL]; exact h2
structure segRec (r : SRec) : Prop where
 batch : segBatch r.batch
 cert : segCert r.cert
 sig : ∀ i, i < r.n → SegOk 16 (r.sig i).tag
theorem segTold {r : SRec} (h : segRec r) : segMsg (toldS r) := by
 have z : ∀ {p : Nat → Prop}, ∀ i, i < 0 → p i := fun i hi => absurd hi (Nat.not_lt_zero i)
 unfold toldS
 repeat' split
 ·exact ⟨h.batch, seg32, z, z, seg32, ⟨seg32, z⟩, z⟩
 ·exact ⟨z, seg32, z, z, seg32, ⟨seg32, z⟩, z⟩
 ·exact ⟨z, seg32, z, z, seg32, ⟨seg32, z⟩, h.sig⟩
 ·exact ⟨h.batch, seg32, z, z, seg32, h.cert, z⟩
theorem goodR_parts {r : SRec} (h : goodRS r = true) : (1 ≤ r.kind ∧ r.kind ≤ 5) ∧ sameRecS r (onlyRS r) = true ∧ goodS (toldS r) = true ∧ 0 ≤ r.view ∧ r.view ≤ 1099511627776 := by
 simp only [goodRS, Bool.and_eq_true, decide_eq_true_eq] at h
 exact ⟨⟨h.1, h.2.1⟩, h.2.2.1, h.2.2.2.1, h.2.2.2.2.1, h.2.2.2.2.2⟩
theorem T_recE {r : SRec} (hf : FitRec r) (ht : segRec r) : T Try.prog 27 [.agg r.c] [] (.tup [roB (recT r), .int .i64 (recE r)]) [] := by
 have hG := T_rg hf
 cases hg : goodRS r with
 | false =>
  rw [hg] at hG
  have e : recE r = 240 := by rw [recE, hg]; rfl
  have e2 : recT r = [] := by rw [recT, e]; rfl
  rw [e, e2]
  refine T_al (bdReG_p1 r) Try.func27 ?_
  simp only [All]; and_intros
  all_goals first
   | exact hG
   | trivial
   | rfl
 | true =>
  rw [hg] at hG
  obtain ⟨hk, _, ht2, hv⟩ := goodR_parts hg
  have g := good_iff.1 ht2
  have hview : num63 r.view := num63_of hv (by decide)
  by_cases h1 : r.kind = 1
  ·have eT : toldS r = to1 r := by rw [toldS, if_pos h1]
   rw [eT] at g
   have hslot : num63 r.slot := num63_of g.slot (by decide)
   have hb : BatchOk r.batch := batchOk_of g.batch ht.batch
   have hkind : num63 r.kind := ⟨by omega, by omega⟩
   have lb := batchB_len hb
   have l1 := putZ_len hkind
   have l2 := putZ_len hslot
   have l3 := putZ_len hview
   have eB : recB r = putZ r.kind ++ putZ r.slot ++ putZ r.view ++ batchB r.batch := by rw [recB, if_pos h1]
   have p1 := T_putNil hkind (m := 512)
   by_cases hl : 4194304 < (recB r).length
   ·have e : recE r = 3 := by rw [recE, hg, if_pos rfl, if_pos (.inl (.inl h1)), if_pos hl]
    have e2 : recT r = [] := by rw [recT, e]; rfl
    rw [e, e2]
    rw [eB] at hl
    refine T_al (bdRe1L_p011 r) Try.func27 ?_
    simp only [All]; and_intros
    all_goals first
     | exact hG
     | exact T_putNil hkind
     | exact T_put hslot (by omega) (by decide)
     | exact T_put hview (by simp only [List.length_append]; omega) (by decide)
     | exact T_bp (by simp only [List.length_append]; omega) hb (by decide)
     | (rw [decide_eq_true_eq]; omega)
     | trivial
     | rfl
   ·have e : recE r = 0 := by rw [recE, hg, if_pos rfl, if_pos (.inl (.inl h1)), if_neg hl]
    have e2 : recT r = recB r := by rw [recT, if_pos e]
    rw [e, e2, eB]
    rw [eB] at hl
    refine T_al (bdRe1_p010 r) Try.func27 ?_
    simp only [All]; and_intros
    all_goals first
     | exact hG
     | exact T_putNil hkind
     | exact T_put hslot (by omega) (by decide)
     | exact T_put hview (by simp only [List.length_append]; omega) (by decide)
     | exact T_bp (by simp only [List.length_append]; omega) hb (by decide)
     | (rw [decide_eq_true_eq]; omega)
     | (rw [decide_eq_false_iff_not]; omega)
     | trivial
     | rfl
     | (intro _ _; trivial)
     | (intro k _; rw [Nat.zero_add])
     | (simp; done)
     | (intro _ _; rfl)
     | (simp [h1]; done)
  by_cases h3 : r.kind = 3
  ·have eT : toldS r = to3 r := by rw [toldS, if_neg h1, if_pos h3]
   rw [eT] at g
   have hlead : num63 r.leader := num63_of g.leader (by decide)
   have hkind : num63 r.kind := ⟨by omega, by omega⟩
   have l1 := putZ_len hkind
   have l2 := putZ_len hlead
   have l3 := putZ_len hview
   have eB : recB r = putZ r.kind ++ putZ r.leader ++ putZ r.view := by rw [recB, if_neg h1, if_pos h3]
   have hl : ¬ 4194304 < (recB r).length := by rw [eB]; simp only [List.length_append]; omega
   have e : recE r = 0 := by rw [recE, hg, if_pos rfl, if_pos (.inl (.inr h3)), if_neg hl]
   have e2 : recT r = recB r := by rw [recT, if_pos e]
   rw [e, e2, eB]
   rw [eB] at hl
   refine T_al (bdRe3_p0010 r) Try.func27 ?_
   simp only [All]; and_intros
   all_goals first
    | exact hG
    | exact T_putNil hkind
    | exact T_put hlead (by omega) (by decide)
    | exact T_put hview (by simp only [List.length_append]; omega) (by decide)
    | (rw [decide_eq_true_eq]; omega)
    | (rw [decide_eq_false_iff_not]; omega)
    | trivial
    | rfl
    | (intro _ _; trivial)
    | (intro _ _; rfl)
    | (simp [h3]; done)
  have hkind : num63 r.kind := ⟨by omega, by omega⟩
  have l1 := putZ_len hkind
  have eB : recB r = putZ r.kind ++ textB (encT (toldS r)) := by rw [recB, if_neg h1, if_neg h3]
  have hT := T_to r
  have hE := T_encG (fitM_told hf) (segTold ht)
  have hn13 : ¬ (r.kind = 1 ∨ r.kind = 3) := fun h => h.elim h1 h3
  by_cases h0 : encE (toldS r) = 0
  ·rw [h0] at hE
   have hs := bytes_le h0
   by_cases hl : 4194304 < (recB r).length
   ·have e : recE r = 3 := by rw [recE, hg, if_pos rfl, if_pos (.inr h0), if_pos hl]
    have e2 : recT r = [] := by rw [recT, e]; rfl
    rw [e, e2]
    rw [eB] at hl
    refine T_al (bdRe5L_p00001 r (toldS r) (encT (toldS r))) Try.func27 ?_
    simp only [All]; and_intros
    all_goals first
     | exact hG
     | exact hT
     | exact hE
     | exact T_putNil hkind
     | exact T_text (by omega) (by omega) (by decide)
     | (rw [decide_eq_true_eq]; omega)
     | (rw [decide_eq_false_iff_not]; omega)
     | trivial
     | rfl
   ·have e : recE r = 0 := by rw [recE, hg, if_pos rfl, if_pos (.inr h0), if_neg hl]
    have e2 : recT r = recB r := by rw [recT, if_pos e]
    rw [e, e2, eB]
    rw [eB] at hl
    refine T_al (bdRe5_p00000 r (toldS r) (encT (toldS r))) Try.func27 ?_
    simp only [All]; and_intros
    all_goals first
     | exact hG
     | exact hT
     | exact hE
     | exact T_putNil hkind
     | exact T_text (by omega) (by omega) (by decide)
     | (rw [decide_eq_true_eq]; omega)
     | (rw [decide_eq_false_iff_not]; omega)
     | trivial
     | rfl
     | (intro _ _; trivial)
     | (intro k _; rw [Nat.zero_add])
     | (simp; done)
     | (intro _ _; rfl)
  ·have e : recE r = encE (toldS r) := by rw [recE, hg, if_pos rfl, if_neg (fun h => h.elim hn13 h0)]
   have e2 : recT r = [] := by rw [recT, if_neg (by rw [e]; exact h0)]
   rw [e, e2]
   refine T_al (bdRe5E_p0001 r (toldS r) (encT (toldS r)) (encE (toldS r))) Try.func27 ?_
   simp only [All]; and_intros
   all_goals first
    | exact hG
    | exact hT
    | exact hE
    | exact T_putNil hkind
    | (rw [decide_eq_false_iff_not]; omega)
    | exact neg_f' (decide_eq_false h0)
    | trivial
    | rfl
/-! ### Reading -/
def rk (l : List UInt8) : Int := (numR 5 { l := l }).1
def rs1 (l : List UInt8) : RS := (numR 5 { l := l }).2
def r1a (l : List UInt8) : RS := (numR 1099511627776 (rs1 l)).2
def r1b (l : List UInt8) : RS := (numR 1099511627776 (r1a l)).2
def r1c (l : List UInt8) : RS := (batchR (r1b l)).2
def rec1 (l : List UInt8) : SRec := { rec0 1 with slot := (numR 1099511627776 (rs1 l)).1, view := (numR 1099511627776 (r1a l)).1, batch := (batchR (r1b l)).1 }
def r3a (l : List UInt8) : RS := (numR 64 (rs1 l)).2
def r3b (l : List UInt8) : RS := (numR 1099511627776 (r3a l)).2
def rec3 (l : List UInt8) : SRec := { rec0 3 with leader := (numR 64 (rs1 l)).1, view := (numR 1099511627776 (r3a l)).1 }
def r5a (l : List UInt8) : RS := (textR 4194304 (rs1 l)).2
def r5t (l : List UInt8) : ByteArray := (textR 4194304 (rs1 l)).1
def rec5 (k : Int) (m : SMsg) : SRec := { rec0 k with batch := m.batch, cert := m.cert, state := m.state, n := m.n, sig := m.sig }
def want (k : Int) : Int := if k = 5 then 8 else 7
def decRec (l : List UInt8) : SRec × Int :=
 if rk l = 0 then (rec0 0, if doneR (rs1 l) ≠ 0 then doneR (rs1 l) else 240) else
 if rk l = 1 then (if doneR (r1c l) ≠ 0 then (rec0 0, doneR (r1c l)) else (rec1 l, 0)) else
 if rk l = 3 then (if doneR (r3b l) ≠ 0 then (rec0 0, doneR (r3b l)) else (rec3 l, 0)) else
 if doneR (r5a l) ≠ 0 then (rec0 0, doneR (r5a l)) else
 if (decR (strB (r5t l))).2 = 0 ∧ (decR (strB (r5t l))).1.kind = want (rk l) then (rec5 (rk l) (decR (strB (r5t l))).1, 0) else (rec0 0, 240)
theorem toldK {k : Int} (h1 : k ≠ 1) (h3 : k ≠ 3) : (toldS (rec0 k)).kind = want k := by
 have hk : (rec0 k).kind = k := rfl
 unfold toldS want
 rw [hk, if_neg h1, if_neg h3]
 split <;> rfl
theorem T_decRec (l : List UInt8) (hl : l.length ≤ 1000000000) : T Try.prog 28 [roB l] [] (.tup [.agg (decRec l).1.c, .int .i64 (decRec l).2]) [] := by
 have hR : ∀ a, T Try.prog 61 [roB l] [] (.ptr (.o a) 0 0 0 0) [(.o a, rdB { l := l })] := fun a => T_read a l hl
 have hK := T_num 192 5 { l := l }
 have hr := numR_rng (m := 5) (by decide) { l := l }
 have l1 : (rs1 l).l.length ≤ 1000000000 := Nat.le_trans (numR_after 5 { l := l }).1 hl
 have hk : 0 ≤ rk l ∧ rk l ≤ 5 := hr
 by_cases k0 : rk l = 0
 ·have hK' : T Try.prog 62 [.ptr (.o 192) 0 0 0 0, .int .i64 5] [(.o 192, rdB { l := l })] (.int .i64 0) [(.o 192, rdB (rs1 l))] := T.val hK (by show V.int .i64 (rk l) = _; rw [k0])
  by_cases hd : doneR (rs1 l) = 0
  ·have e : decRec l = (rec0 0, 240) := by simp only [decRec, if_pos k0, hd, ne_eq, not_true, if_false]
   rw [e]
   have hD : T Try.prog 65 [.ptr (.o 5) 0 0 0 0] [(.o 5, rdB (rs1 l))] (.int .i64 (doneR (rs1 l))) [(.o 5, rdB (rs1 l))] := T_done 5 _
   refine T_al (bdRD0O_p101 l { l := l } (rs1 l) (doneR (rs1 l))) Try.func28 ?_
   simp only [All]; and_intros
   all_goals first
    | exact hK'
    | exact hD
    | exact neg_t (decide_eq_true hd)
    | exact hR _
    | exact hK
    | (rw [decide_eq_true_eq]; assumption)
    | (rw [decide_eq_false_iff_not]; assumption)
    | trivial
    | rfl
    | (intro _ _; trivial)
    | (intro _ _; rfl)
    | (simp; done)
  ·have e : decRec l = (rec0 0, doneR (rs1 l)) := by simp only [decRec, if_pos k0, ne_eq, hd, not_false_eq_true, if_true]
   rw [e]
   refine T_al (bdRD0E_p11 l { l := l } (rs1 l) (doneR (rs1 l))) Try.func28 ?_
   simp only [All]; and_intros
   all_goals first
    | exact hK'
    | exact T_done 5 _
    | exact neg_f' (decide_eq_false hd)
    | exact hR _
    | exact hK
    | (rw [decide_eq_true_eq]; assumption)
    | (rw [decide_eq_false_iff_not]; assumption)
    | trivial
    | rfl
    | (intro _ _; trivial)
    | (intro _ _; rfl)
    | (simp; done)
 by_cases k1 : rk l = 1
 ·have hK' : T Try.prog 62 [.ptr (.o 192) 0 0 0 0, .int .i64 5] [(.o 192, rdB { l := l })] (.int .i64 1) [(.o 192, rdB (rs1 l))] := T.val hK (by show V.int .i64 (rk l) = _; rw [k1])
  have l3 : (r1b l).l.length ≤ 1000000000 := Nat.le_trans ((numR_after 1099511627776 (rs1 l)).trans (numR_after 1099511627776 (r1a l))).1 l1
  by_cases hd : doneR (r1c l) = 0
  ·have e : decRec l = (rec1 l, 0) := by simp only [decRec, if_neg k0, if_pos k1, hd, ne_eq, not_true, if_false]
   rw [e]
   refine T_al (bdRD1O_p010011 l { l := l } (rs1 l) (r1a l) (r1b l) (r1c l) (numR 1099511627776 (rs1 l)).1 (numR 1099511627776 (r1a l)).1 (batchR (r1b l)).1 (doneR (r1c l))) Try.func28 ?_
   simp only [All]; and_intros
   all_goals first
    | exact hK'
    | exact T_num 192 _ (rs1 l)
    | exact T_num 192 _ (r1a l)
    | exact T_batR 192 (r1b l) l3
    | exact T_done 5 _
    | exact neg_t (decide_eq_true hd)
    | exact hR _
    | exact hK
    | (rw [decide_eq_true_eq]; assumption)
    | (rw [decide_eq_false_iff_not]; assumption)
    | trivial
    | rfl
    | (intro _ _; trivial)
    | (intro _ _; rfl)
    | (simp; done)
  ·have e : decRec l = (rec0 0, doneR (r1c l)) := by simp only [decRec, if_neg k0, if_pos k1, ne_eq, hd, not_false_eq_true, if_true]
   rw [e]
   refine T_al (bdRD1E_p011 l { l := l } (rs1 l) (r1a l) (r1b l) (r1c l) (numR 1099511627776 (rs1 l)).1 (numR 1099511627776 (r1a l)).1 (batchR (r1b l)).1 (doneR (r1c l))) Try.func28 ?_
   simp only [All]; and_intros
   all_goals first
    | exact hK'
    | exact T_num 192 _ (rs1 l)
    | exact T_num 192 _ (r1a l)
    | exact T_batR 192 (r1b l) l3
    | exact T_done 5 _
    | exact neg_f' (decide_eq_false hd)
    | exact hR _
    | exact hK
    | (rw [decide_eq_true_eq]; assumption)
    | (rw [decide_eq_false_iff_not]; assumption)
    | trivial
    | rfl
    | (intro _ _; trivial)
    | (intro _ _; rfl)
    | (simp; done)
 by_cases k3 : rk l = 3
 ·have hK' : T Try.prog 62 [.ptr (.o 192) 0 0 0 0, .int .i64 5] [(.o 192, rdB { l := l })] (.int .i64 3) [(.o 192, rdB (rs1 l))] := T.val hK (by show V.int .i64 (rk l) = _; rw [k3])
  by_cases hd : doneR (r3b l) = 0
  ·have e : decRec l = (rec3 l, 0) := by simp only [decRec, if_neg k0, if_neg k1, if_pos k3, hd, ne_eq, not_true, if_false]
   rw [e]
   refine T_al (bdRD3O_p0010001 l { l := l } (rs1 l) (r3a l) (r3b l) (numR 64 (rs1 l)).1 (numR 1099511627776 (r3a l)).1 (doneR (r3b l))) Try.func28 ?_
   simp only [All]; and_intros
   all_goals first
    | exact hK'
    | exact T_num 192 _ (rs1 l)
    | exact T_num 192 _ (r3a l)
    | exact T_done 5 _
    | exact neg_t (decide_eq_true hd)
    | exact hR _
    | exact hK
    | (rw [decide_eq_true_eq]; assumption)
    | (rw [decide_eq_false_iff_not]; assumption)
    | trivial
    | rfl
    | (intro _ _; trivial)
    | (intro _ _; rfl)
    | (simp; done)
  ·have e : decRec l = (rec0 0, doneR (r3b l)) := by simp only [decRec, if_neg k0, if_neg k1, if_pos k3, ne_eq, hd, not_false_eq_true, if_true]
   rw [e]
   refine T_al (bdRD3E_p0011 l { l := l } (rs1 l) (r3a l) (r3b l) (numR 64 (rs1 l)).1 (numR 1099511627776 (r3a l)).1 (doneR (r3b l))) Try.func28 ?_
   simp only [All]; and_intros
   all_goals first
    | exact hK'
    | exact T_num 192 _ (rs1 l)
    | exact T_num 192 _ (r3a l)
    | exact T_done 5 _
    | exact neg_f' (decide_eq_false hd)
    | exact hR _
    | exact hK
    | (rw [decide_eq_true_eq]; assumption)
    | (rw [decide_eq_false_iff_not]; assumption)
    | trivial
    | rfl
    | (intro _ _; trivial)
    | (intro _ _; rfl)
    | (simp; done)
 have hX := T_textR 192 4194304 (rs1 l) l1
 have hM := T_dec (r5t l)
 have hT := T_to (rec0 (rk l))
 have hTk := toldK k1 k3
 by_cases hd : doneR (r5a l) = 0
 ·by_cases he : (decR (strB (r5t l))).2 = 0
  ·by_cases hkk : (decR (strB (r5t l))).1.kind = want (rk l)
   ·have e : decRec l = (rec5 (rk l) (decR (strB (r5t l))).1, 0) := by simp only [decRec, if_neg k0, if_neg k1, if_neg k3, hd, ne_eq, not_true, if_false, he, hkk, and_self, if_true]
    rw [e]
    refine T_al (bdRD5O_p000000000 l { l := l } (rk l) (rs1 l) (r5a l) (r5t l) (doneR (r5a l)) (decR (strB (r5t l))).1 (decR (strB (r5t l))).2 (toldS (rec0 (rk l)))) Try.func28 ?_
    simp only [All]; and_intros
    all_goals first
     | exact hX
     | exact hM
     | exact hT
     | exact T_done 5 _
     | exact neg_t (decide_eq_true hd)
     | exact neg_t (decide_eq_true he)
     | exact neg_t (decide_eq_true (hkk.trans hTk.symm))
     | exact hR _
     | exact hK
     | (rw [decide_eq_true_eq]; assumption)
     | (rw [decide_eq_false_iff_not]; assumption)
     | trivial
     | rfl
     | (intro _ _; trivial)
     | (intro _ _; rfl)
     | (simp; done)
   ·have e : decRec l = (rec0 0, 240) := by simp only [decRec, if_neg k0, if_neg k1, if_neg k3, hd, ne_eq, not_true, if_false, he, hkk, and_false]
    rw [e]
    refine T_al (bdRD5X_p000000001 l { l := l } (rk l) (rs1 l) (r5a l) (r5t l) (doneR (r5a l)) (decR (strB (r5t l))).1 (decR (strB (r5t l))).2 (toldS (rec0 (rk l)))) Try.func28 ?_
    simp only [All]; and_intros
    all_goals first
     | exact hX
     | exact hM
     | exact hT
     | exact T_done 5 _
     | exact neg_t (decide_eq_true hd)
     | exact neg_t (decide_eq_true he)
     | exact neg_f' (decide_eq_false (fun h => hkk (h.trans hTk)))
     | exact hR _
     | exact hK
     | (rw [decide_eq_true_eq]; assumption)
     | (rw [decide_eq_false_iff_not]; assumption)
     | trivial
     | rfl
     | (intro _ _; trivial)
     | (intro _ _; rfl)
     | (simp; done)
  ·have e : decRec l = (rec0 0, 240) := by simp only [decRec, if_neg k0, if_neg k1, if_neg k3, hd, ne_eq, not_true, if_false, he, false_and]
   rw [e]
   refine T_al (bdRD5X_p000000011 l { l := l } (rk l) (rs1 l) (r5a l) (r5t l) (doneR (r5a l)) (decR (strB (r5t l))).1 (decR (strB (r5t l))).2 (toldS (rec0 (rk l)))) Try.func28 ?_
   simp only [All]; and_intros
   all_goals first
    | exact hX
    | exact hM
    | exact T_done 5 _
    | exact neg_t (decide_eq_true hd)
    | exact neg_f' (decide_eq_false he)
    | exact hR _
    | exact hK
    | (rw [decide_eq_true_eq]; assumption)
    | (rw [decide_eq_false_iff_not]; assumption)
    | trivial
    | rfl
    | (intro _ _; trivial)
    | (intro _ _; rfl)
    | (simp; done)
 ·have e : decRec l = (rec0 0, doneR (r5a l)) := by simp only [decRec, if_neg k0, if_neg k1, if_neg k3, ne_eq, hd, not_false_eq_true, if_true]
  rw [e]
  refine T_al (bdRD5E_p0001 l { l := l } (rk l) (rs1 l) (r5a l) (r5t l) (doneR (r5a l))) Try.func28 ?_
  simp only [All]; and_intros
  all_goals first
   | exact hX
   | exact T_done 5 _
   | exact neg_f' (decide_eq_false hd)
   | exact hR _
   | exact hK
   | (rw [decide_eq_true_eq]; assumption)
   | (rw [decide_eq_false_iff_not]; assumption)
   | trivial
   | rfl
   | (intro _ _; trivial)
   | (intro _ _; rfl)
   | (simp; done)
end Go.Proofs.Ythifjamdfpjilaa
namespace Go.Proofs.Ythifjamdfpjilaa
open Go Sy Go.Proofs
structure SameR (a b : SRec) : Prop where
 kind : a.kind = b.kind
 leader : a.leader = b.leader
 view : a.view = b.view
 slot : a.slot = b.slot
 state : a.state = b.state
 batch : sameBatchS a.batch b.batch = true
 cert : sameCertS a.cert b.cert = true
 sig : a.n = b.n ∧ ∀ i, i < a.n → a.sig i = b.sig i
theorem sameRec_iff {a b : SRec} : sameRecS a b = true ↔ SameR a b := by
 simp only [sameRecS, Bool.and_eq_true, decide_eq_true_eq, sameL_iff, signEq_iff, voteEq_iff]
 constructor
 ·rintro ⟨h1, h2, h3, h4, h5, h6, h7, h8, h9⟩
  exact ⟨h1, h2, h3, h4, h5, h6, sameCert_iff.2 ⟨h7, h8.1, h8.2⟩, h9⟩
 ·rintro ⟨h1, h2, h3, h4, h5, h6, h7, h9⟩
  obtain ⟨h7, h8, h10⟩ := sameCert_iff.1 h7
  exact ⟨h1, h2, h3, h4, h5, h6, h7, ⟨h8, h10⟩, h9⟩
theorem sameR_refl (a : SRec) : SameR a a := ⟨rfl, rfl, rfl, rfl, rfl, sameBatch_refl _, sameCert_refl _, ⟨rfl, fun _ _ => rfl⟩⟩
theorem sameR_symm {a b : SRec} (h : SameR a b) : SameR b a := ⟨h.kind.symm, h.leader.symm, h.view.symm, h.slot.symm, h.state.symm, sameBatch_symm h.batch, sameCert_symm h.cert, ⟨h.sig.1.symm, fun i hi => (h.sig.2 i (by have := h.sig.1; omega)).symm⟩⟩
theorem sameBatch_trans {a b c : SBatch} (h : sameBatchS a b = true) (h' : sameBatchS b c = true) : sameBatchS a c = true := by
 obtain ⟨h1, h2, h3⟩ := sameBatch_iff.1 h
 obtain ⟨g1, g2, g3⟩ := sameBatch_iff.1 h'
 exact sameBatch_iff.2 ⟨h1.trans g1, h2.trans g2, fun i hi => (h3 i hi).trans (g3 i (by omega))⟩
theorem sameCert_trans {a b c : SCert} (h : sameCertS a b = true) (h' : sameCertS b c = true) : sameCertS a c = true := by
 obtain ⟨h1, h2, h3⟩ := sameCert_iff.1 h
 obtain ⟨g1, g2, g3⟩ := sameCert_iff.1 h'
 exact sameCert_iff.2 ⟨h1.trans g1, h2.trans g2, fun i hi => (h3 i hi).trans (g3 i (by omega))⟩
theorem recE_zero {r : SRec} (h : recE r = 0) : goodRS r = true ∧ recT r = recB r ∧ ((r.kind = 1 ∨ r.kind = 3) ∨ encE (toldS r) = 0) ∧ (recB r).length ≤ 4194304 := by
 have h' := h
 unfold recE at h
 split at h
 ·rename_i h1
  split at h
  ·rename_i h2
   split at h
   ·cases h
   ·exact ⟨h1, by rw [recT, if_pos h'], h2, by omega⟩
  ·rename_i h2
   exact absurd h fun h => h2 (.inr h)
 ·cases h
theorem done0 {s : RS} (he : s.e = 0) (hl : s.l = []) : doneR s = 0 := by rw [doneR, if_neg (by simpa using he), hl]; rfl
theorem done_parts {s : RS} (h : doneR s = 0) : s.e = 0 ∧ s.l = [] := by
 unfold doneR at h
 split at h
 ·rename_i h1; exact absurd h h1
 ·rename_i h1
  split at h
  ·cases h
  ·exact ⟨by simpa using h1, List.eq_nil_of_length_eq_zero (by omega)⟩
/-- What was put is read. -/
theorem decRec_enc {r : SRec} (h : recE r = 0) (ht : segRec r) : (decRec (recB r)).2 = 0 ∧ sameRecS (decRec (recB r)).1 r = true := by
 obtain ⟨hg, _, h3, hlen⟩ := recE_zero h
 obtain ⟨hk, ho, hm, hv⟩ := goodR_parts hg
 have ho := sameRec_iff.1 ho
 have g := good_iff.1 hm
 by_cases k1 : r.kind = 1
 ·have eT : toldS r = to1 r := by rw [toldS, if_pos k1]
  rw [eT] at g
  have eO : onlyRS r = ro1 r := by rw [onlyRS, if_pos k1]
  rw [eO] at ho
  have hs := sameR_symm ho
  have eB : recB r = putZ r.kind ++ (putZ r.slot ++ (putZ r.view ++ batchB r.batch)) := by rw [recB, if_pos k1]; simp only [List.append_assoc]
  obtain ⟨a1, b1⟩ := num_rd (n := r.kind) (most := 5) (by omega) (by omega) (by decide) { l := recB r } _ rfl eB
  have e1 : rs1 (recB r) = { l := putZ r.slot ++ (putZ r.view ++ batchB r.batch) } := b1
  have eK : rk (recB r) = 1 := a1.trans k1
  obtain ⟨a2, b2⟩ := num_rd (most := 1099511627776) g.slot.1 g.slot.2 (by decide) (rs1 (recB r)) (putZ r.view ++ batchB r.batch) (by rw [e1]) (by rw [e1]; rfl)
  have e2 : r1a (recB r) = { l := putZ r.view ++ batchB r.batch } := by show (numR _ (rs1 (recB r))).2 = _; rw [b2, e1]
  obtain ⟨a3, b3⟩ := num_rd (most := 1099511627776) hv.1 hv.2 (by decide) (r1a (recB r)) (batchB r.batch) (by rw [e2]) (by rw [e2])
  have e3 : r1b (recB r) = { l := batchB r.batch } := by show (numR _ (r1a (recB r))).2 = _; rw [b3, e2]
  obtain ⟨a4, b4⟩ := batch_rd g.batch ht.batch (r1b (recB r)) [] (by rw [e3]) (by rw [e3, List.append_nil]; rfl)
  have e4 : r1c (recB r) = {} := by show (batchR (r1b (recB r))).2 = _; rw [b4, e3]
  have hd : doneR (r1c (recB r)) = 0 := by rw [e4]; rfl
  have e5 : decRec (recB r) = (rec1 (recB r), 0) := by
   unfold decRec
   rw [if_neg (by rw [eK]; decide), if_pos eK, if_neg (by rw [hd]; decide)]
  rw [e5]
  refine ⟨rfl, sameRec_iff.2 ⟨k1.symm, hs.leader, a3, a2, hs.state, a4, hs.cert, hs.sig⟩⟩
 by_cases k3 : r.kind = 3
 ·have eT : toldS r = to3 r := by rw [toldS, if_neg k1, if_pos k3]
  rw [eT] at g
  have eO : onlyRS r = ro3 r := by rw [onlyRS, if_neg k1, if_pos k3]
  rw [eO] at ho
  have hs := sameR_symm ho
  have eB : recB r = putZ r.kind ++ (putZ r.leader ++ (putZ r.view ++ [])) := by rw [recB, if_neg k1, if_pos k3]; simp only [List.append_assoc, List.append_nil]
  obtain ⟨a1, b1⟩ := num_rd (n := r.kind) (most := 5) (by omega) (by omega) (by decide) { l := recB r } _ rfl eB
  have e1 : rs1 (recB r) = { l := putZ r.leader ++ (putZ r.view ++ []) } := b1
  have eK : rk (recB r) = 3 := a1.trans k3
  obtain ⟨a2, b2⟩ := num_rd (most := 64) g.leader.1 g.leader.2 (by decide) (rs1 (recB r)) (putZ r.view ++ []) (by rw [e1]) (by rw [e1]; rfl)
  have e2 : r3a (recB r) = { l := putZ r.view ++ [] } := by show (numR _ (rs1 (recB r))).2 = _; rw [b2, e1]
  obtain ⟨a3, b3⟩ := num_rd (most := 1099511627776) hv.1 hv.2 (by decide) (r3a (recB r)) [] (by rw [e2]) (by rw [e2])
  have e3 : r3b (recB r) = {} := by show (numR _ (r3a (recB r))).2 = _; rw [b3, e2]
  have hd : doneR (r3b (recB r)) = 0 := by rw [e3]; rfl
  have e5 : decRec (recB r) = (rec3 (recB r), 0) := by
   unfold decRec
   rw [if_neg (by rw [eK]; decide), if_neg (by rw [eK]; decide), if_pos eK, if_neg (by rw [hd]; decide)]
  rw [e5]
  exact ⟨rfl, sameRec_iff.2 ⟨k3.symm, a2, a3, hs.slot, hs.state, hs.batch, hs.cert, hs.sig⟩⟩
 have h0 : encE (toldS r) = 0 := h3.resolve_left (fun h => h.elim k1 k3)
 obtain ⟨t1, t2, t3⟩ := encE_zero h0
 have eB : recB r = putZ r.kind ++ (textB (encT (toldS r)) ++ []) := by rw [recB, if_neg k1, if_neg k3, List.append_nil]
 obtain ⟨a1, b1⟩ := num_rd (n := r.kind) (most := 5) (by omega) (by omega) (by decide) { l := recB r } _ rfl eB
 have e1 : rs1 (recB r) = { l := textB (encT (toldS r)) ++ [] } := b1
 have eK : rk (recB r) = r.kind := a1
 obtain ⟨a2, b2⟩ := text_rd (most := 4194304) (t := encT (toldS r)) (by have := bytes_le h0; omega) (by decide) (rs1 (recB r)) [] (by rw [e1]) (by rw [e1])
 have e2 : r5a (recB r) = {} := by show (textR _ (rs1 (recB r))).2 = _; rw [b2, e1]
 have e2' : r5t (recB r) = encT (toldS r) := a2
 have hd : doneR (r5a (recB r)) = 0 := by rw [e2]; rfl
 have eX : strB (r5t (recB r)) = encB (toldS r) := by rw [e2', t3, strB_baL]
 obtain ⟨d1, d2⟩ := dec_enc t1 (segTold ht) t2
 have sm := sameMsg_iff.1 d2
 have hkw : (decR (encB (toldS r))).1.kind = want r.kind := by
  rw [sm.kind]
  unfold toldS want
  rw [if_neg k1, if_neg k3]
  split <;> rfl
 have e5 : decRec (recB r) = (rec5 r.kind (decR (encB (toldS r))).1, 0) := by
  unfold decRec
  rw [if_neg (by rw [eK]; omega), if_neg (by rw [eK]; exact k1), if_neg (by rw [eK]; exact k3), if_neg (by rw [hd]; decide), eX, if_pos ⟨d1, by rw [eK]; exact hkw⟩, eK]
 rw [e5]
 refine ⟨rfl, ?_⟩
 by_cases k5 : r.kind = 5
 ·have eT : toldS r = to5 r := by rw [toldS, if_neg k1, if_neg k3, if_pos k5]
  have eO : onlyRS r = ro5 r := by rw [onlyRS, if_neg k1, if_neg k3, if_pos k5]
  rw [eO] at ho
  have hs := sameR_symm ho
  rw [eT] at sm ⊢
  exact sameRec_iff.2 ⟨rfl, hs.leader, hs.view, hs.slot, sm.state, sameBatch_trans sm.batch hs.batch, sameCert_trans sm.cert hs.cert, sm.sig⟩
 ·have eT : toldS r = to7 r := by rw [toldS, if_neg k1, if_neg k3, if_neg k5]
  have eO : onlyRS r = ro2 r := by
   rw [onlyRS, if_neg k1, if_neg k3, if_neg k5]
   by_cases k2 : r.kind = 2
   ·rw [if_pos k2]
   ·rw [if_neg k2, if_pos (by omega)]
  rw [eO] at ho
  have hs := sameR_symm ho
  rw [eT] at sm ⊢
  exact sameRec_iff.2 ⟨rfl, hs.leader, hs.view, hs.slot, sm.state.trans hs.state, sm.batch, sm.cert, ⟨sm.sig.1.trans hs.sig.1, fun i hi => absurd (show i < 0 from by have h1 : (decR (encB (to7 r))).1.n = 0 := sm.sig.1; have h2 : i < (decR (encB (to7 r))).1.n := hi; omega) (Nat.not_lt_zero i)⟩⟩
theorem goodR_mk {r : SRec} (hk : 1 ≤ r.kind ∧ r.kind ≤ 5) (ho : SameR r (onlyRS r)) (hm : goodS (toldS r) = true) (hv : 0 ≤ r.view ∧ r.view ≤ 1099511627776) : goodRS r = true := by
 simp only [goodRS, Bool.and_eq_true, decide_eq_true_eq]
 exact ⟨hk.1, hk.2, sameRec_iff.2 ho, hm, hv.1, hv.2⟩
/-- What is read was put. -/
theorem encRec_dec {l : List UInt8} (hl : l.length ≤ 4194304) {x : SRec} (h : decRec l = (x, 0)) : recE x = 0 ∧ recB x = l ∧ segRec x := by
 have z : ∀ {p : Nat → Prop}, ∀ i, i < 0 → p i := fun i hi => absurd hi (Nat.not_lt_zero i)
 unfold decRec at h
 split at h
 ·rename_i k0
  have := congrArg Prod.snd h
  simp only at this
  split at this
  ·rename_i h1; exact absurd this h1
  ·cases this
 rename_i k0
 split at h
 ·rename_i k1
  split at h
  ·rename_i h1; exact absurd (congrArg Prod.snd h) h1
  rename_i h1
  have h1 : doneR (r1c l) = 0 := by simpa using h1
  obtain ⟨p1, p2⟩ := done_parts h1
  have hx : rec1 l = x := congrArg Prod.fst h
  obtain ⟨g4, l4, o4, b4⟩ := batch_wr (r1b l) p1
  obtain ⟨g3, l3, o3, b3⟩ := num_wr 1099511627776 (r1a l) g4
  obtain ⟨g2, l2, o2, b2⟩ := num_wr 1099511627776 (rs1 l) g3
  obtain ⟨g1, l1, o1, b1⟩ := num_wr 5 { l := l } g2
  have e4 : (r1b l).l = batchB (batchR (r1b l)).1 := by rw [l4, show (batchR (r1b l)).2.l = [] from p2, List.append_nil]
  have hB : recB (rec1 l) = l := by
   show putZ 1 ++ putZ (numR 1099511627776 (rs1 l)).1 ++ putZ (numR 1099511627776 (r1a l)).1 ++ batchB (batchR (r1b l)).1 = l
   rw [← e4]
   have l3' : (r1a l).l = putZ (numR 1099511627776 (r1a l)).1 ++ (r1b l).l := l3
   have l2' : (rs1 l).l = putZ (numR 1099511627776 (rs1 l)).1 ++ (r1a l).l := l2
   have l1' : l = putZ (rk l) ++ (rs1 l).l := l1
   rw [List.append_assoc, List.append_assoc, ← l3', ← l2', ← k1, ← l1']
  have hgood : goodRS (rec1 l) = true := goodR_mk ⟨(by decide : (1 : Int) ≤ 1), (by decide : (1 : Int) ≤ 5)⟩ (sameR_refl _) (good_iff.2 ⟨⟨(by decide : (1 : Int) ≤ 1), (by decide : (1 : Int) ≤ 8)⟩, sameM_refl _, fun h => absurd (show (1 : Int) = 2 from h) (by decide), fun h => absurd (show (1 : Int) = 7 from h) (by decide), ⟨Int.le_refl _, (by decide : (0 : Int) ≤ 1048576)⟩, ⟨o2.1, o2.2.1⟩, ⟨Int.le_refl _, (by decide : (0 : Int) ≤ 1099511627776)⟩, ⟨Int.le_refl _, (by decide : (0 : Int) ≤ 64)⟩, o4.1, ⟨Int.le_refl _, (by decide : (0 : Int) ≤ 1048576)⟩, ⟨Int.le_refl _, (by decide : (0 : Int) ≤ 64)⟩, ⟨Int.le_refl _, (by decide : (0 : Int) ≤ 1099511627776)⟩, ⟨Nat.zero_le _, z⟩, ⟨Nat.zero_le _, z⟩, ⟨Nat.zero_le _, z⟩, Nat.zero_le _⟩) ⟨o3.1, o3.2.1⟩
  rw [← hx]
  refine ⟨?_, hB, ⟨o4.2, ⟨seg32, z⟩, z⟩⟩
  rw [recE, hgood, if_pos rfl, if_pos (.inl (.inl rfl)), if_neg (by rw [hB]; omega)]
 rename_i k1
 split at h
 ·rename_i k3
  split at h
  ·rename_i h1; exact absurd (congrArg Prod.snd h) h1
  rename_i h1
  have h1 : doneR (r3b l) = 0 := by simpa using h1
  obtain ⟨p1, p2⟩ := done_parts h1
  have hx : rec3 l = x := congrArg Prod.fst h
  obtain ⟨g3, l3, o3, b3⟩ := num_wr 1099511627776 (r3a l) p1
  obtain ⟨g2, l2, o2, b2⟩ := num_wr 64 (rs1 l) g3
  obtain ⟨g1, l1, o1, b1⟩ := num_wr 5 { l := l } g2
  have e4 : (r3a l).l = putZ (numR 1099511627776 (r3a l)).1 := by rw [l3, show (numR 1099511627776 (r3a l)).2.l = [] from p2, List.append_nil]
  have hB : recB (rec3 l) = l := by
   show putZ 3 ++ putZ (numR 64 (rs1 l)).1 ++ putZ (numR 1099511627776 (r3a l)).1 = l
   rw [← e4]
   have l2' : (rs1 l).l = putZ (numR 64 (rs1 l)).1 ++ (r3a l).l := l2
   have l1' : l = putZ (rk l) ++ (rs1 l).l := l1
   rw [List.append_assoc, ← l2', ← k3, ← l1']
  have hgood : goodRS (rec3 l) = true := goodR_mk ⟨(by decide : (1 : Int) ≤ 3), (by decide : (3 : Int) ≤ 5)⟩ (sameR_refl _) (good_iff.2 ⟨⟨(by decide : (1 : Int) ≤ 4), (by decide : (4 : Int) ≤ 8)⟩, sameM_refl _, fun h => absurd (show (4 : Int) = 2 from h) (by decide), fun h => absurd (show (4 : Int) = 7 from h) (by decide), ⟨Int.le_refl _, (by decide : (0 : Int) ≤ 1048576)⟩, ⟨Int.le_refl _, (by decide : (0 : Int) ≤ 1099511627776)⟩, ⟨o3.1, o3.2.1⟩, ⟨o2.1, o2.2.1⟩, mayBatch0, ⟨Int.le_refl _, (by decide : (0 : Int) ≤ 1048576)⟩, ⟨Int.le_refl _, (by decide : (0 : Int) ≤ 64)⟩, ⟨Int.le_refl _, (by decide : (0 : Int) ≤ 1099511627776)⟩, ⟨Nat.zero_le _, z⟩, ⟨Nat.zero_le _, z⟩, ⟨Nat.zero_le _, z⟩, Nat.zero_le _⟩) ⟨o3.1, o3.2.1⟩
  rw [← hx]
  refine ⟨?_, hB, ⟨z, ⟨seg32, z⟩, z⟩⟩
  rw [recE, hgood, if_pos rfl, if_pos (.inl (.inr rfl)), if_neg (by rw [hB]; omega)]
 rename_i k3
 split at h
 ·rename_i h1; exact absurd (congrArg Prod.snd h) h1
 rename_i h1
 split at h
 ·rename_i hm
  have h1 : doneR (r5a l) = 0 := by simpa using h1
  obtain ⟨p1, p2⟩ := done_parts h1
  have hx : rec5 (rk l) (decR (strB (r5t l))).1 = x := congrArg Prod.fst h
  obtain ⟨g2, l2, o2, b2⟩ := text_wr 4194304 (by decide) (rs1 l) p1
  obtain ⟨g1, l1, o1, b1⟩ := num_wr 5 { l := l } g2
  have hk : rk l = 2 ∨ rk l = 4 ∨ rk l = 5 := by
   have q1 : 0 ≤ rk l := o1.1
   have q2 : rk l ≤ 5 := o1.2.1
   omega
  have l2' : (rs1 l).l = textB (r5t l) := by
   have : (rs1 l).l = textB (r5t l) ++ (r5a l).l := l2
   rw [this, p2, List.append_nil]
  have l1' : l = putZ (rk l) ++ (rs1 l).l := l1
  obtain ⟨m1, m2, m3, m4⟩ := enc_dec (l := strB (r5t l)) (x := (decR (strB (r5t l))).1) (by rw [← hm.1])
  generalize (decR (strB (r5t l))).1 = m at hx m1 m2 m3 hm
  have g := good_iff.1 m1
  have hmk := hm.2
  rw [← hx]
  by_cases k5 : rk l = 5
  ·have k8 : m.kind = 8 := by rw [hmk, want, if_pos k5]
   have eT : toldS (rec5 (rk l) m) = o8 m := by
    have e0 : (rec5 (rk l) m).kind = rk l := rfl
    rw [toldS, e0, if_neg k1, if_neg k3, if_pos k5]
    show ({ msg0 8 with state := m.state, n := m.n, sig := m.sig } : SMsg) = { msg0 m.kind with state := m.state, n := m.n, sig := m.sig }
    rw [k8]
   have ho : SameM m (o8 m) := by have := g.only; rw [onlyS] at this; simpa [k8] using this
   have hok : (o8 m).kind = m.kind := rfl
   have hg8 : goodS (o8 m) = true := good_iff.2 ⟨by rw [hok]; exact g.kind, by
     have : onlyS (o8 m) = o8 m := by unfold onlyS; rw [hok, k8]; simp; unfold o8; rw [show (({ msg0 m.kind with state := m.state, n := m.n, sig := m.sig } : SMsg)).kind = m.kind from rfl]
     rw [this]; exact sameM_refl _, fun h => absurd (hok ▸ h) (by omega), fun h => absurd (hok ▸ h) (by omega), ⟨Int.le_refl _, (by decide : (0 : Int) ≤ 1048576)⟩, ⟨Int.le_refl _, (by decide : (0 : Int) ≤ 1099511627776)⟩, ⟨Int.le_refl _, (by decide : (0 : Int) ≤ 1099511627776)⟩, ⟨Int.le_refl _, (by decide : (0 : Int) ≤ 64)⟩, mayBatch0, ⟨Int.le_refl _, (by decide : (0 : Int) ≤ 1048576)⟩, ⟨Int.le_refl _, (by decide : (0 : Int) ≤ 64)⟩, ⟨Int.le_refl _, (by decide : (0 : Int) ≤ 1099511627776)⟩, ⟨Nat.zero_le _, z⟩, ⟨Nat.zero_le _, z⟩, g.sig, g.state⟩
   have hb : encB (o8 m) = encB m := by
    rw [encB, encB, bodyB, bodyB, hok, k8]
    simp only [show ¬ (8 : Int) = 1 by decide, show ¬ (8 : Int) = 2 by decide, show ¬ (8 : Int) = 3 by decide, show ¬ (8 : Int) = 4 by decide, show ¬ (8 : Int) = 5 by decide, show ¬ (8 : Int) = 6 by decide, show ¬ (8 : Int) = 7 by decide, if_false, if_true]
    rfl
   have hE : encE (o8 m) = 0 := by rw [encE, hg8, if_pos rfl, if_neg (by rw [hb, m3]; omega)]
   have hT : encT (o8 m) = r5t l := by rw [(encE_zero hE).2.2, hb, m3, baL_strB]
   have e0 : (rec5 (rk l) m).kind = rk l := rfl
   have hB : recB (rec5 (rk l) m) = l := by
    rw [recB, e0, if_neg k1, if_neg k3, eT, hT, ← l2', ← l1']
   have hgood : goodRS (rec5 (rk l) m) = true := goodR_mk (by rw [e0]; omega) (by
     have : onlyRS (rec5 (rk l) m) = ro5 (rec5 (rk l) m) := by rw [onlyRS, e0, if_neg k1, if_neg k3, if_pos k5]
     rw [this]
     exact ⟨rfl, rfl, rfl, rfl, rfl, ho.batch, ho.cert, ⟨rfl, fun _ _ => rfl⟩⟩) (by rw [eT]; exact hg8) ⟨Int.le_refl _, (by decide : (0 : Int) ≤ 1099511627776)⟩
   exact ⟨by rw [recE, hgood, if_pos rfl, if_pos (.inr (by rw [eT]; exact hE)), if_neg (by rw [hB]; omega)], hB, ⟨m2.batch, m2.cert, m2.sig⟩⟩
  ·have k7 : m.kind = 7 := by rw [hmk, want, if_neg k5]
   have e0 : (rec5 (rk l) m).kind = rk l := rfl
   have eT : toldS (rec5 (rk l) m) = o7 m := by
    rw [toldS, e0, if_neg k1, if_neg k3, if_neg k5]
    show ({ msg0 7 with batch := m.batch, cert := m.cert } : SMsg) = { msg0 m.kind with batch := m.batch, cert := m.cert }
    rw [k7]
   have ho : SameM m (o7 m) := by have := g.only; rw [onlyS] at this; simpa [k7] using this
   have hok : (o7 m).kind = m.kind := rfl
   have hg7 : goodS (o7 m) = true := good_iff.2 ⟨by rw [hok]; exact g.kind, by
     have : onlyS (o7 m) = o7 m := by unfold onlyS; rw [hok, k7]; simp; unfold o7; rw [show (({ msg0 m.kind with batch := m.batch, cert := m.cert } : SMsg)).kind = m.kind from rfl]
     rw [this]; exact sameM_refl _, fun h => absurd (hok ▸ h) (by omega), fun _ => g.cert k7, ⟨Int.le_refl _, (by decide : (0 : Int) ≤ 1048576)⟩, ⟨Int.le_refl _, (by decide : (0 : Int) ≤ 1099511627776)⟩, ⟨Int.le_refl _, (by decide : (0 : Int) ≤ 1099511627776)⟩, ⟨Int.le_refl _, (by decide : (0 : Int) ≤ 64)⟩, g.batch, ⟨Int.le_refl _, (by decide : (0 : Int) ≤ 1048576)⟩, ⟨Int.le_refl _, (by decide : (0 : Int) ≤ 64)⟩, ⟨Int.le_refl _, (by decide : (0 : Int) ≤ 1099511627776)⟩, ⟨Nat.zero_le _, z⟩, ⟨Nat.zero_le _, z⟩, ⟨Nat.zero_le _, z⟩, Nat.zero_le _⟩
   have hb : encB (o7 m) = encB m := by
    rw [encB, encB, bodyB, bodyB, hok, k7]
    simp only [show ¬ (7 : Int) = 1 by decide, show ¬ (7 : Int) = 2 by decide, show ¬ (7 : Int) = 3 by decide, show ¬ (7 : Int) = 4 by decide, show ¬ (7 : Int) = 5 by decide, show ¬ (7 : Int) = 6 by decide, if_false, if_true]
    rfl
   have hE : encE (o7 m) = 0 := by rw [encE, hg7, if_pos rfl, if_neg (by rw [hb, m3]; omega)]
   have hT : encT (o7 m) = r5t l := by rw [(encE_zero hE).2.2, hb, m3, baL_strB]
   have hB : recB (rec5 (rk l) m) = l := by
    rw [recB, e0, if_neg k1, if_neg k3, eT, hT, ← l2', ← l1']
   have hgood : goodRS (rec5 (rk l) m) = true := goodR_mk (by rw [e0]; omega) (by
     have : onlyRS (rec5 (rk l) m) = ro2 (rec5 (rk l) m) := by
      rw [onlyRS, e0, if_neg k1, if_neg k3, if_neg k5]
      by_cases k2 : rk l = 2
      ·rw [if_pos k2]
      ·rw [if_neg k2, if_pos (by omega)]
     rw [this]
     exact ⟨rfl, rfl, rfl, rfl, ho.state, sameBatch_refl _, sameCert_refl _, ho.sig⟩) (by rw [eT]; exact hg7) ⟨Int.le_refl _, (by decide : (0 : Int) ≤ 1099511627776)⟩
   exact ⟨by rw [recE, hgood, if_pos rfl, if_pos (.inr (by rw [eT]; exact hE)), if_neg (by rw [hB]; omega)], hB, ⟨m2.batch, m2.cert, m2.sig⟩⟩
 ·exact absurd (show (240 : Int) = 0 from congrArg Prod.snd h) (by decide)
end Go.Proofs.Ythifjamdfpjilaa
namespace Go.Proofs.Ythifjamdfpjilaa
open Go Sy Go.Proofs
theorem bdAdd_p111 (n : Int) (more : Int) (most : Int) :
  along Try.prog (bdAdd n more most) [true, true, true] = some (V.int IntKind.i64 (most + 1), [], [decide (most < n) = true, true = true, true = true, InR IntKind.i64 (most + 1)]) := by kernel_rfl
theorem bdAdd_p011 (n : Int) (more : Int) (most : Int) :
  along Try.prog (bdAdd n more most) [false, true, true] = some (V.int IntKind.i64 (most + 1), [], [decide (most < n) = false, decide (most < more) = true, true = true, InR IntKind.i64 (most + 1)]) := by kernel_rfl
theorem bdAdd_p001 (n : Int) (more : Int) (most : Int) :
  along Try.prog (bdAdd n more most) [false, false, true] = some (V.int IntKind.i64 (most + 1), [], [decide (most < n) = false, decide (most < more) = false, InR IntKind.i64 (most - more), decide (most - more < n) = true, InR IntKind.i64 (most + 1)]) := by kernel_rfl
theorem bdAdd_p000 (n : Int) (more : Int) (most : Int) :
  along Try.prog (bdAdd n more most) [false, false, false] = some (V.int IntKind.i64 (n + more), [], [decide (most < n) = false, decide (most < more) = false, InR IntKind.i64 (most - more), decide (most - more < n) = false, InR IntKind.i64 (n + more)]) := by kernel_rfl

def addS (n more most : Int) : Int := if most < n ∨ most < more ∨ most - more < n then most + 1 else n + more
theorem T_add {n more : Int} (h1 : 0 ≤ n) (h2 : 0 ≤ more) (h3 : more ≤ 9223372036854775807) : T Try.prog 48 [.int .i64 n, .int .i64 more, .int .i64 4000] [] (.int .i64 (addS n more 4000)) [] := by
 by_cases a : (4000 : Int) < n
 ·exact T.val (T_al (bdAdd_p111 n more 4000) Try.func48 (by simp [All, InR64, a])) (by simp [addS, a])
 by_cases b : (4000 : Int) < more
 ·exact T.val (T_al (bdAdd_p011 n more 4000) Try.func48 (by simp [All, InR64, a, b] <;> omega)) (by simp [addS, b])
 by_cases c : (4000 : Int) - more < n
 ·exact T.val (T_al (bdAdd_p001 n more 4000) Try.func48 (by simp [All, InR64, a, b, c] <;> omega)) (by simp [addS, c])
 ·exact T.val (T_al (bdAdd_p000 n more 4000) Try.func48 (by simp [All, InR64, a, b, c] <;> omega)) (by simp [addS, a, b, c])

/-- The last state's place among the first ones. -/
def fromS (r : Nat → SRec) : Nat → Nat
 | 0 => 0
 | k + 1 => if (r k).kind = 5 then k else fromS r k
def sinceI (n : Nat) (r : Nat → SRec) (k : Nat) : St := ⟨mkT 23 [(0, rc n r), (3, .int .i64 (fromS r k)), (6, .int .i64 n), (7, .int .i64 k)], [], 0, []⟩
def rsinceI (n : Nat) (r : Nat → SRec) (k : Nat) : St := ⟨mkT 21 [(0, rc n r), (3, .int .i64 (fromS r k)), (4, .int .i64 k)], [], 0, []⟩
/-- A new slice as the result: its block's name is 63. -/
def kNew (t : Nat) (val : Nm → V) (b : B) : Exit → St → Option W := fun _ st => match getV st.tmps t with
 | .sl n _ _ _ _ _ _ => some ⟨[(.o 63, n)], [(t, .set (val (.o 63)))], [(.o 63, .set b)], none, st.next⟩
 | _ => none
noncomputable def bdSince (n : Nat) (r : Nat → SRec) : Bd := { f := Try.f30, args := [rc n r], kb := { db := fun _ _ _ _ => [], lp := fun _ _ => [(True, .loop (n + 1) (wTo (sinceI n r 0)) (.exit 0) (sinceI n r n))] }, k := kNew 2 (fun m => .sl m 45 0 0 0 (n - fromS r n) none) (.rows 45 (n - fromS r n) (fun i => (r (fromS r n + i)).c) true), names := fun _ => [.o 63] }
noncomputable def pcSince (n : Nat) (r : Nat → SRec) (k : Nat) : Pc := { c := cB (cB (cR (cL (cR (cR (bodyOf Try.f30)))))), st := sinceI n r k, kb := kb0, k := fun e _ => match e with
 | .normal => some (wTo (sinceI n r (k + 1)))
 | _ => some (wTo (sinceI n r n)) }

noncomputable def bdRSince (n : Nat) (r : Nat → SRec) : Bd := { f := Try.f31, args := [rc n r], kb := { db := fun _ _ _ _ => [], lp := fun _ _ => [(True, .loop (n + 1) (wTo (rsinceI n r 0)) (.exit 0) (rsinceI n r n))] }, k := kRes [(2, rc (n - fromS r n) (fun i => r (fromS r n + i)))] }
noncomputable def pcRSince (n : Nat) (r : Nat → SRec) (k : Nat) : Pc := { c := cB (cB (cR (cL (cR (cR (bodyOf Try.f31)))))), st := rsinceI n r k, kb := kb0, k := fun e _ => match e with
 | .normal => some (wTo (rsinceI n r (k + 1)))
 | _ => some (wTo (rsinceI n r n)) }

def ssI (n : Nat) (s : Nat → SSign) (k : Nat) : St := ⟨mkT 26 [(0, sg n s), (1, sg n s), (5, .int .i64 k)], [], 0, []⟩
noncomputable def bdSS (n : Nat) (s : Nat → SSign) : Bd := { f := Try.f70, args := [sg n s, sg n s], kb := { db := fun _ _ _ _ => [], lp := fun _ _ => [(True, .loop (n + 1) (wTo (ssI n s 0)) (.exit 0) (ssI n s n))] } }
noncomputable def pcSS (n : Nat) (s : Nat → SSign) (k : Nat) : Pc := { c := cB (cB (cR (cL (cR (cR (bodyOf Try.f70)))))), st := ssI n s k, kb := kb0, k := fun e _ => match e with
 | .normal => some (wTo (ssI n s (k + 1)))
 | _ => some (wTo (ssI n s n)) }

def sbI (b : SBatch) (k : Nat) : St := ⟨mkT 38 [(2, .ptr (.o 0) 0 0 0 0), (3, .ptr (.o 1) 0 0 0 0), (5, .int .i64 k)], [(.o 0, .flat b.c), (.o 1, .flat b.c)], 256, []⟩
noncomputable def bdSB (b : SBatch) : Bd := { f := Try.f67, args := [.agg b.c, .agg b.c], kb := { db := fun _ _ _ _ => [], lp := fun _ _ => [(True, .loop (b.n + 1) (wToS [(.o 1, .o 64)] (sbI b 0)) (.exit 0) (sbI b b.n))] } }
noncomputable def pcSB (b : SBatch) (k : Nat) : Pc := { c := cB (cB (cR (cL (cR (cR (bodyOf Try.f67)))))), st := sbI b k, kb := kb0, k := fun e _ => match e with
 | .normal => some (wTo (sbI b (k + 1)))
 | _ => some (wTo (sbI b b.n)) }
noncomputable def bdSC (c : SCert) : Bd := { f := Try.f69, args := [.agg c.c, .agg c.c], kb := { db := fun k _ _ _ => match k with
 | 70 => [{ val := .bool true }]
 | _ => [] } }
noncomputable def bdSR (r : SRec) : Bd := { f := Try.f29, args := [.agg r.c, .agg r.c], kb := { db := fun k _ _ _ => match k with
 | 70 => [{ val := .bool true }]
 | 69 => [{ val := .bool true }]
 | 67 => [{ val := .bool true }]
 | _ => [] } }
end Go.Proofs.Ythifjamdfpjilaa
namespace Go.Proofs.Ythifjamdfpjilaa
open Go Sy Go.Proofs
def bt (n : Nat) (b : Nat → SBatch) : V := .ros 2 n (fun i => (b i).c) false
/-- How much is counted of requests, of batches. -/
def lightR (n0 : Int) (r : Nat → SReq) : Nat → Int
 | 0 => n0
 | k + 1 => addS (addS (lightR n0 r k) 20 4000) (r k).data.size 4000
/-- One batch: as long as it isn't too much. -/
def light1I (b : SBatch) (n0 : Int) (k : Nat) : St := ⟨mkT 47 [(0, .sl (.o 0) 2 0 0 0 1 (some 1)), (3, .int .i64 (lightR n0 b.req k)), (4, .int .i64 0), (5, .int .i64 k)], [(.o 0, .rows 2 1 (getL [b.c]) false)], 1, []⟩
def dbAdd : Nat → List V → Heap → Nat → List Cl
 | 48, [.int _ a, .int _ c, _], _, _ => [{ val := .int .i64 (addS a c 4000) }]
 | _, _, _, _ => []
def lpLight (b : SBatch) (m : Nat) : Nat → St → List (Prop × Hint)
 | 0, _ => [(True, .rounds 2)]
 | _, _ => [(True, .loop (m + 1) (wTo (light1I b 5 0)) (.exit 2) (light1I b 5 m))]
noncomputable def pcLi (b : SBatch) (n0 : Int) (m k : Nat) : Pc := { c := cB (cB (cR (cR (cB (cL (cR (cB (cB (cR (cL (cR (cR (bodyOf Try.f47))))))))))))), st := light1I b n0 k, p := 1, kb := { db := dbAdd }, k := fun e _ => match e with
 | .normal => some (wTo (light1I b n0 (k + 1)))
 | _ => some (wTo (light1I b n0 m)) }
noncomputable def bdLight (b : SBatch) (m : Nat) : Bd := { f := Try.f47, args := [.sl (.o 0) 2 0 0 0 1 (some 1)], pre := [(.o 0, .rows 2 1 (getL [b.c]) false)], base := 1, kb := { db := dbAdd, lp := lpLight b m }, names := fun _ => [.o 0] }
end Go.Proofs.Ythifjamdfpjilaa
namespace Go.Proofs.Ythifjamdfpjilaa
open Go Sy Go.Proofs
theorem bdLight_p1100 (b : SBatch) (m : Nat) :
  along Try.prog (bdLight b m) [true, true, false, false] = some (V.bool (decide (lightR (5 : Int) (SBatch.req b) m ≤ (4000 : Int))), [(Nm.o (0 : Nat), B.rows (2 : Nat) (1 : Nat) (getL [SBatch.c b]) false)], [true = true, true = true, T Try.prog (48 : Nat) [V.int IntKind.i64 (0 : Int), V.int IntKind.i64 (5 : Int), V.int IntKind.i64 (4000 : Int)] [] (V.int IntKind.i64 (5 : Int)) [], RLoop Try.prog none (nat_lit 1) (cB (cB (cR (cR (cB (cL (cR (cB (cB (cR (cL (cR (cR (bodyOf (Bd.f (bdLight b m)))))))))))))))) (m + (1 : Nat)) (St.mk [V.sl (Nm.o (0 : Nat)) (2 : Nat) (0 : Nat) (0 : Nat) (0 : Nat) (1 : Nat) (some (1 : Nat)), V.any, V.any, V.int IntKind.i64 (5 : Int), V.int IntKind.i64 (0 : Int), V.int IntKind.i64 (0 : Int), V.any, V.any, V.any, V.any, V.any, V.any, V.any, V.any, V.any, V.any, V.any, V.any, V.any, V.any, V.any, V.any, V.any, V.any, V.any, V.any, V.any, V.any, V.any, V.any, V.any, V.any, V.any, V.any, V.any, V.any, V.any, V.any, V.any, V.any, V.any, V.any, V.any, V.any, V.any, V.any, V.any] [(Nm.o (0 : Nat), B.rows (2 : Nat) (1 : Nat) (getL [SBatch.c b]) false)] (nat_lit 1) []) (Exit.exit (2 : Nat)) (St.mk [V.sl (Nm.o (0 : Nat)) (2 : Nat) (0 : Nat) (0 : Nat) (0 : Nat) (1 : Nat) (some (1 : Nat)), V.any, V.any, V.int IntKind.i64 (lightR (5 : Int) (SBatch.req b) m), V.int IntKind.i64 (0 : Int), V.int IntKind.i64 (↑m : Int), V.any, V.any, V.any, V.any, V.any, V.any, V.any, V.any, V.any, V.any, V.any, V.any, V.any, V.any, V.any, V.any, V.any, V.any, V.any, V.any, V.any, V.any, V.any, V.any, V.any, V.any, V.any, V.any, V.any, V.any, V.any, V.any, V.any, V.any, V.any, V.any, V.any, V.any, V.any, V.any, V.any] [(Nm.o (0 : Nat), B.rows (2 : Nat) (1 : Nat) (getL [SBatch.c b]) false)] (1 : Nat) []), (1 : Nat) = (1 : Nat), ∀ (k : Nat), k < (1 : Nat) → getL [SBatch.c b] k = getL [SBatch.c b] k, false = false → false = false, (0 : Nat) = (0 : Nat), (0 : Nat) = (0 : Nat), (0 : Nat) = (0 : Nat), (1 : Nat) = (1 : Nat), some (1 : Nat) = none ∨ some (1 : Nat) = some (1 : Nat), (5 : Int) = (5 : Int), (0 : Int) = (0 : Int), (0 : Int) = (0 : Int), InR IntKind.i64 (1 : Int), false = false, false = false]) := by kernel_rfl

theorem pcLi_p11 (b : SBatch) (n0 : Int) (m : Nat) (k : Nat) :
  alongPc Try.prog (pcLi b n0 m k) [true, true] = some (Exit.normal, St.mk [V.sl (Nm.o (0 : Nat)) (2 : Nat) (0 : Nat) (0 : Nat) (0 : Nat) (1 : Nat) (some (1 : Nat)), V.any, V.any, V.int IntKind.i64 (lightR n0 (SBatch.req b) (k + (1 : Nat))), V.int IntKind.i64 (0 : Int), V.int IntKind.i64 (↑(k + (1 : Nat)) : Int), V.any, V.any, V.any, V.any, V.any, V.any, V.any, V.any, V.any, V.any, V.any, V.any, V.any, V.any, V.any, V.any, V.any, V.any, V.any, V.any, V.any, V.any, V.any, V.any, V.any, V.any, V.any, V.any, V.any, V.any, V.any, V.any, V.any, V.any, V.any, V.any, V.any, V.any, V.any, V.any, V.any] [(Nm.o (0 : Nat), B.rows (2 : Nat) (1 : Nat) (getL [SBatch.c b]) false)] (nat_lit 1) [], [(0 : Int) ≤ (0 : Int) ∧ (0 : Int) < (1 : Int), nat_lit 0 < (1 : Nat), decide ((↑k : Int) < (↑(SBatch.n b) : Int)) = true, decide (lightR n0 (SBatch.req b) k ≤ (4000 : Int)) = true, T Try.prog (48 : Nat) [V.int IntKind.i64 (lightR n0 (SBatch.req b) k), V.int IntKind.i64 (20 : Int), V.int IntKind.i64 (4000 : Int)] [] (V.int IntKind.i64 (addS (lightR n0 (SBatch.req b) k) (20 : Int) (4000 : Int))) [], (0 : Int) ≤ (0 : Int) ∧ (0 : Int) < (1 : Int), nat_lit 0 < (1 : Nat), (0 : Int) ≤ (↑k : Int) ∧ (↑k : Int) < (↑(SBatch.n b) : Int), T Try.prog (48 : Nat) [V.int IntKind.i64 (addS (lightR n0 (SBatch.req b) k) (20 : Int) (4000 : Int)), V.int IntKind.i64 (↑(ByteArray.size (SReq.data (SBatch.req b (Int.toNat (↑k : Int))))) : Int), V.int IntKind.i64 (4000 : Int)] [] (V.int IntKind.i64 (addS (addS (lightR n0 (SBatch.req b) k) (20 : Int) (4000 : Int)) (↑(ByteArray.size (SReq.data (SBatch.req b (Int.toNat (↑k : Int))))) : Int) (4000 : Int))) [], InR IntKind.i64 ((↑k : Int) + (1 : Int)), (1 : Nat) = (1 : Nat), ∀ (k : Nat), k < (1 : Nat) → getL [SBatch.c b] k = getL [SBatch.c b] k, false = false → false = false, (0 : Nat) = (0 : Nat), (0 : Nat) = (0 : Nat), (0 : Nat) = (0 : Nat), (1 : Nat) = (1 : Nat), some (1 : Nat) = none ∨ some (1 : Nat) = some (1 : Nat), addS (addS (lightR n0 (SBatch.req b) k) (20 : Int) (4000 : Int)) (↑(ByteArray.size (SReq.data (SBatch.req b (Int.toNat (↑k : Int))))) : Int) (4000 : Int) = lightR n0 (SBatch.req b) (k + (1 : Nat)), (0 : Int) = (0 : Int), (↑k : Int) + (1 : Int) = (↑(k + (1 : Nat)) : Int)]) := by kernel_rfl
theorem pcLi_p10 (b : SBatch) (n0 : Int) (m : Nat) (k : Nat) :
  alongPc Try.prog (pcLi b n0 m k) [true, false] = some (Exit.exit (2 : Nat), St.mk [V.sl (Nm.o (0 : Nat)) (2 : Nat) (0 : Nat) (0 : Nat) (0 : Nat) (1 : Nat) (some (1 : Nat)), V.any, V.any, V.int IntKind.i64 (lightR n0 (SBatch.req b) m), V.int IntKind.i64 (0 : Int), V.int IntKind.i64 (↑m : Int), V.any, V.any, V.any, V.any, V.any, V.any, V.any, V.any, V.any, V.any, V.any, V.any, V.any, V.any, V.any, V.any, V.any, V.any, V.any, V.any, V.any, V.any, V.any, V.any, V.any, V.any, V.any, V.any, V.any, V.any, V.any, V.any, V.any, V.any, V.any, V.any, V.any, V.any, V.any, V.any, V.any] [(Nm.o (0 : Nat), B.rows (2 : Nat) (1 : Nat) (getL [SBatch.c b]) false)] (nat_lit 1) [], [(0 : Int) ≤ (0 : Int) ∧ (0 : Int) < (1 : Int), nat_lit 0 < (1 : Nat), decide ((↑k : Int) < (↑(SBatch.n b) : Int)) = true, decide (lightR n0 (SBatch.req b) k ≤ (4000 : Int)) = false, (1 : Nat) = (1 : Nat), ∀ (k : Nat), k < (1 : Nat) → getL [SBatch.c b] k = getL [SBatch.c b] k, false = false → false = false, (0 : Nat) = (0 : Nat), (0 : Nat) = (0 : Nat), (0 : Nat) = (0 : Nat), (1 : Nat) = (1 : Nat), some (1 : Nat) = none ∨ some (1 : Nat) = some (1 : Nat), lightR n0 (SBatch.req b) k = lightR n0 (SBatch.req b) m, (0 : Int) = (0 : Int), (↑k : Int) = (↑m : Int)]) := by kernel_rfl
theorem pcLi_p00 (b : SBatch) (n0 : Int) (m : Nat) (k : Nat) :
  alongPc Try.prog (pcLi b n0 m k) [false, false] = some (Exit.exit (2 : Nat), St.mk [V.sl (Nm.o (0 : Nat)) (2 : Nat) (0 : Nat) (0 : Nat) (0 : Nat) (1 : Nat) (some (1 : Nat)), V.any, V.any, V.int IntKind.i64 (lightR n0 (SBatch.req b) m), V.int IntKind.i64 (0 : Int), V.int IntKind.i64 (↑m : Int), V.any, V.any, V.any, V.any, V.any, V.any, V.any, V.any, V.any, V.any, V.any, V.any, V.any, V.any, V.any, V.any, V.any, V.any, V.any, V.any, V.any, V.any, V.any, V.any, V.any, V.any, V.any, V.any, V.any, V.any, V.any, V.any, V.any, V.any, V.any, V.any, V.any, V.any, V.any, V.any, V.any] [(Nm.o (0 : Nat), B.rows (2 : Nat) (1 : Nat) (getL [SBatch.c b]) false)] (nat_lit 1) [], [(0 : Int) ≤ (0 : Int) ∧ (0 : Int) < (1 : Int), nat_lit 0 < (1 : Nat), decide ((↑k : Int) < (↑(SBatch.n b) : Int)) = false, false = false, (1 : Nat) = (1 : Nat), ∀ (k : Nat), k < (1 : Nat) → getL [SBatch.c b] k = getL [SBatch.c b] k, false = false → false = false, (0 : Nat) = (0 : Nat), (0 : Nat) = (0 : Nat), (0 : Nat) = (0 : Nat), (1 : Nat) = (1 : Nat), some (1 : Nat) = none ∨ some (1 : Nat) = some (1 : Nat), lightR n0 (SBatch.req b) k = lightR n0 (SBatch.req b) m, (0 : Int) = (0 : Int), (↑k : Int) = (↑m : Int)]) := by kernel_rfl

theorem exists_stop (p : Nat → Prop) : ∀ n, ∃ m, m ≤ n ∧ (∀ k, k < m → p k) ∧ (m = n ∨ ¬ p m)
 | 0 => ⟨0, Nat.le_refl _, fun k h => absurd h (Nat.not_lt_zero k), .inl rfl⟩
 | n + 1 => by
  obtain ⟨m, h1, h2, h3⟩ := exists_stop p n
  rcases h3 with rfl | h3
  ·by_cases h : p m
   ·refine ⟨m + 1, Nat.le_refl _, fun k hk => ?_, .inl rfl⟩
    rcases Nat.lt_or_ge k m with h4 | h4
    ·exact h2 k h4
    ·have : k = m := by omega
     subst this; exact h
   ·exact ⟨m, Nat.le_succ _, h2, .inr h⟩
  ·exact ⟨m, Nat.le_succ_of_le h1, h2, .inr h3⟩

theorem addS_range {n more : Int} (h1 : 0 ≤ n) (h2 : 0 ≤ more) : 0 ≤ addS n more 4000 ∧ addS n more 4000 ≤ 4001 := by
 unfold addS; split <;> omega
theorem addS_le {n more : Int} (h : addS n more 4000 ≤ 4000) : n ≤ 4000 ∧ more ≤ 4000 ∧ addS n more 4000 = n + more := by
 unfold addS at h ⊢; split at h
 ·omega
 ·rename_i h'; simp only [not_or, Int.not_lt] at h'; rw [if_neg (by omega)]; omega
theorem lightR_range {n0 : Int} (h : 0 ≤ n0 ∧ n0 ≤ 4001) (r : Nat → SReq) : ∀ k, 0 ≤ lightR n0 r k ∧ lightR n0 r k ≤ 4001
 | 0 => h
 | k + 1 => by
  rw [lightR]
  exact addS_range (addS_range (lightR_range h r k).1 (by decide)).1 (by omega)
theorem lightR_up {n0 : Int} (r : Nat → SReq) : ∀ k, lightR n0 r k ≤ 4000 → n0 + 20 * k ≤ lightR n0 r k
 | 0, _ => by simp [lightR]
 | k + 1, h => by
  rw [lightR] at h ⊢
  have h1 := addS_le h
  have h2 := addS_le h1.1
  have := lightR_up r k h2.1
  rw [h1.2.2, h2.2.2]; omega
theorem lightR_over {n0 : Int} (r : Nat → SReq) {m : Nat} : ∀ k, m ≤ k → lightR n0 r k ≤ 4000 → lightR n0 r m ≤ 4000
 | 0, h, h1 => by have : m = 0 := by omega
                  subst this; exact h1
 | k + 1, h, h1 => by
  rcases Nat.lt_or_ge m (k + 1) with h2 | h2
  ·rw [lightR] at h1
   exact lightR_over r k (by omega) (addS_le (addS_le h1).1).1
  ·have : m = k + 1 := by omega
   subst this; exact h1
/-- Is a batch not too much? -/
def lightB (b : SBatch) : Bool := decide (lightR 5 b.req b.n ≤ 4000)
theorem lightB_n {b : SBatch} (h : lightB b = true) : b.n ≤ 200 := by
 have := of_decide_eq_true h
 have := lightR_up b.req b.n this
 omega

theorem L_li (b : SBatch) {m : Nat} (hm : m ≤ b.n) (hd : ∀ k, k < b.n → (b.req k).data.size ≤ 9223372036854775807) (h1 : ∀ k, k < m → lightR 5 b.req k ≤ 4000) (h2 : m = b.n ∨ ¬ lightR 5 b.req m ≤ 4000) (hn : b.n ≤ 9223372036854775807) :
  RLoop Try.prog none 1 (cB (cB (cR (cR (cB (cL (cR (cB (cB (cR (cL (cR (cR (bodyOf Try.f47)))))))))))))) (m + 1) (light1I b 5 0) (.exit 2) (light1I b 5 m) :=
 RLoop.inv (light1I b 5) m (fun k hk => by
  have h3 := h1 k hk
  have hkn : k < b.n := by omega
  have h4 := lightR_range (n0 := 5) (by decide) b.req k
  have h5 := addS_range h4.1 (more := 20) (by decide)
  have hdk : (((b.req (Int.toNat (k : Int))).data.size : Nat) : Int) ≤ 9223372036854775807 := by
   have := hd k hkn
   rw [Int.toNat_natCast]; omega
  refine R_alongPc NG MO _ (pcLi_p11 b 5 m k) ?_ (Nat.le_refl _)
  simp only [All]
  and_intros
  all_goals first
   | exact T_add h4.1 (by decide) (by decide)
   | exact T_add h5.1 (by omega) hdk
   | (simp [h3, hkn, lightR, IntKind.min, IntKind.max, IntKind.signed, IntKind.bits] <;> omega))
  (by
   rcases h2 with h2 | h2
   ·refine R_alongPc NG MO _ (pcLi_p00 b 5 m m) ?_ (Nat.le_refl _)
    simp [All, h2]
   ·by_cases h3 : m < b.n
    ·refine R_alongPc NG MO _ (pcLi_p10 b 5 m m) ?_ (Nat.le_refl _)
     simp [All, h2, h3]
    ·refine R_alongPc NG MO _ (pcLi_p00 b 5 m m) ?_ (Nat.le_refl _)
     simp [All, h3]) (by simp)
theorem T_light0 (b : SBatch) (hd : ∀ k, k < b.n → (b.req k).data.size ≤ 9223372036854775807) (hn : b.n ≤ 9223372036854775807) :
  T Try.prog 47 [.sl (.o 0) 2 0 0 0 1 (some 1)] [(.o 0, .rows 2 1 (getL [b.c]) false)] (.bool (lightB b)) [(.o 0, .rows 2 1 (getL [b.c]) false)] := by
 obtain ⟨m, h1, h2, h3⟩ := exists_stop (fun k => lightR 5 b.req k ≤ 4000) b.n
 refine T.bool (T_al (bdLight_p1100 b m) Try.func47 ?_) ?_
 ·simp only [All]
  and_intros
  all_goals first
   | exact T_add (n := 0) (more := 5) (by decide) (by decide) (by decide)
   | exact L_li b h1 hd h2 h3 hn
   | simp [IntKind.min, IntKind.max, IntKind.signed, IntKind.bits]
 ·unfold lightB
  rw [decide_eq_decide]
  rcases h3 with rfl | h3
  ·exact Iff.rfl
  ·exact ⟨fun h => absurd h h3, fun h => lightR_over b.req b.n h1 h⟩
theorem T_light (b : SBatch) (hd : ∀ k, k < b.n → (b.req k).data.size ≤ 9223372036854775807) (hn : b.n ≤ 9223372036854775807) (a : Nat) :
  T Try.prog 47 [.sl (.o a) 2 0 0 0 1 (some 1)] [(.o a, .rows 2 1 (getL [b.c]) false)] (.bool (lightB b)) [(.o a, .rows 2 1 (getL [b.c]) false)] :=
 T.conv (T.swap (.o 0) (.o a) (T_light0 b hd hn)) (by simp [V.rens, V.ren, Nm.swap]) (by simp [Heap.ren, B.ren, Nm.swap]) (by simp [V.ren]) (by simp [Heap.ren, B.ren, Nm.swap])
end Go.Proofs.Ythifjamdfpjilaa
namespace Go.Proofs.Ythifjamdfpjilaa
open Go Sy Go.Proofs
/-- Is a record not too much? -/
def okR (r : SRec) : Bool := lightB r.batch && (decide (r.cert.n ≤ 100) && (decide (r.n ≤ 100) && decide (r.state.size ≤ 4000)))
def lrI (n : Nat) (r : Nat → SRec) (k : Nat) : St := ⟨mkT 39 [(8, rc n r), (9, .int .i64 n), (10, .int .i64 k)], [], 0, []⟩
def lrF : St := ⟨mkT 39 [(2, .bool false)], [], 0, []⟩
noncomputable def dbLight (x : SRec) : Nat → List V → Heap → Nat → List Cl
 | 47, [.sl a _ _ _ _ _ _], _, _ => [{ val := .bool (lightB x.batch), pre := [a], post := [(a, .rows 2 1 (getL [x.batch.c]) false)] }]
 | _, _, _, _ => []
noncomputable def pcLr (n : Nat) (r : Nat → SRec) (k : Nat) : Pc := { c := cB (cB (cR (cL (cR (cR (bodyOf Try.f25)))))), st := lrI n r k, kb := { db := dbLight (r k) }, k := fun e _ => match e with
 | .normal => some (wTo (lrI n r (k + 1)))
 | .ret => some (wTo lrF)
 | _ => some (wTo (lrI n r n)) }
noncomputable def bdLr (n : Nat) (r : Nat → SRec) (m : Nat) : Bd := { f := Try.f25, args := [rc n r], kb := { db := fun _ _ _ _ => [], lp := fun _ _ => [(True, .loop (n + 1) (wTo (lrI n r 0)) (.exit 0) (lrI n r n)), (True, .loop (m + 1) (wTo (lrI n r 0)) .ret lrF)] } }
end Go.Proofs.Ythifjamdfpjilaa
namespace Go.Proofs.Ythifjamdfpjilaa
open Go Sy Go.Proofs
theorem bdLr_p1 (n : Nat) (r : Nat → SRec) (m : Nat) :
  along Try.prog (bdLr n r m) [true] = some (V.bool false, [], [decide ((100 : Int) < (↑n : Int)) = true]) := by kernel_rfl
theorem bdLr_p01 (n : Nat) (r : Nat → SRec) (m : Nat) :
  along Try.prog (bdLr n r m) [false, true] = some (V.bool true, [], [decide ((100 : Int) < (↑n : Int)) = false, RLoop Try.prog none (nat_lit 0) (cB (cB (cR (cL (cR (cR (bodyOf (Bd.f (bdLr n r m))))))))) (n + (1 : Nat)) (St.mk [V.any, V.any, V.any, V.any, V.any, V.any, V.any, V.any, V.ros (45 : Nat) n (fun i => SRec.c (r i)) false, V.int IntKind.i64 (↑n : Int), V.int IntKind.i64 (0 : Int), V.any, V.any, V.any, V.any, V.any, V.any, V.any, V.any, V.any, V.any, V.any, V.any, V.any, V.any, V.any, V.any, V.any, V.any, V.any, V.any, V.any, V.any, V.any, V.any, V.any, V.any, V.any, V.any] [] (nat_lit 0) []) (Exit.exit (0 : Nat)) (St.mk [V.any, V.any, V.any, V.any, V.any, V.any, V.any, V.any, V.ros (45 : Nat) n (fun i => SRec.c (r i)) false, V.int IntKind.i64 (↑n : Int), V.int IntKind.i64 (↑n : Int), V.any, V.any, V.any, V.any, V.any, V.any, V.any, V.any, V.any, V.any, V.any, V.any, V.any, V.any, V.any, V.any, V.any, V.any, V.any, V.any, V.any, V.any, V.any, V.any, V.any, V.any, V.any, V.any] [] (0 : Nat) []), n = n, ∀ (k : Nat), k < n → SRec.c (r k) = SRec.c (r k), false = true → false = true, (↑n : Int) = (↑n : Int), (0 : Int) = (0 : Int)]) := by kernel_rfl
theorem bdLr_p00 (n : Nat) (r : Nat → SRec) (m : Nat) :
  along Try.prog (bdLr n r m) [false, false] = some (V.bool false, [], [decide ((100 : Int) < (↑n : Int)) = false, RLoop Try.prog none (nat_lit 0) (cB (cB (cR (cL (cR (cR (bodyOf (Bd.f (bdLr n r m))))))))) (m + (1 : Nat)) (St.mk [V.any, V.any, V.any, V.any, V.any, V.any, V.any, V.any, V.ros (45 : Nat) n (fun i => SRec.c (r i)) false, V.int IntKind.i64 (↑n : Int), V.int IntKind.i64 (0 : Int), V.any, V.any, V.any, V.any, V.any, V.any, V.any, V.any, V.any, V.any, V.any, V.any, V.any, V.any, V.any, V.any, V.any, V.any, V.any, V.any, V.any, V.any, V.any, V.any, V.any, V.any, V.any, V.any] [] (nat_lit 0) []) Exit.ret (St.mk [V.any, V.any, V.bool false, V.any, V.any, V.any, V.any, V.any, V.any, V.any, V.any, V.any, V.any, V.any, V.any, V.any, V.any, V.any, V.any, V.any, V.any, V.any, V.any, V.any, V.any, V.any, V.any, V.any, V.any, V.any, V.any, V.any, V.any, V.any, V.any, V.any, V.any, V.any, V.any] [] (0 : Nat) []), n = n, ∀ (k : Nat), k < n → SRec.c (r k) = SRec.c (r k), false = true → false = true, (↑n : Int) = (↑n : Int), (0 : Int) = (0 : Int)]) := by kernel_rfl

theorem pcLr_p11111 (n : Nat) (r : Nat → SRec) (k : Nat) :
  alongPc Try.prog (pcLr n r k) [true, true, true, true, true] = some (Exit.ret, St.mk [V.any, V.any, V.bool false, V.any, V.any, V.any, V.any, V.any, V.any, V.any, V.any, V.any, V.any, V.any, V.any, V.any, V.any, V.any, V.any, V.any, V.any, V.any, V.any, V.any, V.any, V.any, V.any, V.any, V.any, V.any, V.any, V.any, V.any, V.any, V.any, V.any, V.any, V.any, V.any] [] (nat_lit 0) [], [decide ((↑k : Int) < (↑n : Int)) = true, (0 : Int) ≤ (↑k : Int) ∧ (↑k : Int) < (↑n : Int), T Try.prog (47 : Nat) [V.sl (Nm.o (nat_lit 448)) (nat_lit 2) (0 : Nat) (0 : Nat) (0 : Nat) (1 : Nat) (some (1 : Nat))] [(Nm.o (nat_lit 448), B.rows (nat_lit 2) (1 : Nat) (getL [[V.bool (SBatch.noop (SRec.batch (r (Int.toNat (↑k : Int))))), rq (SBatch.n (SRec.batch (r (Int.toNat (↑k : Int))))) (SBatch.req (SRec.batch (r (Int.toNat (↑k : Int)))))]]) false)] (V.bool (lightB (SRec.batch (r k)))) [(Nm.o (nat_lit 448), B.rows (2 : Nat) (1 : Nat) (getL [SBatch.c (SRec.batch (r k))]) false)], (!lightB (SRec.batch (r k))) = true, true = true, true = true, true = true, false = false]) := by kernel_rfl
theorem pcLr_p10111 (n : Nat) (r : Nat → SRec) (k : Nat) :
  alongPc Try.prog (pcLr n r k) [true, false, true, true, true] = some (Exit.ret, St.mk [V.any, V.any, V.bool false, V.any, V.any, V.any, V.any, V.any, V.any, V.any, V.any, V.any, V.any, V.any, V.any, V.any, V.any, V.any, V.any, V.any, V.any, V.any, V.any, V.any, V.any, V.any, V.any, V.any, V.any, V.any, V.any, V.any, V.any, V.any, V.any, V.any, V.any, V.any, V.any] [] (nat_lit 0) [], [decide ((↑k : Int) < (↑n : Int)) = true, (0 : Int) ≤ (↑k : Int) ∧ (↑k : Int) < (↑n : Int), T Try.prog (47 : Nat) [V.sl (Nm.o (nat_lit 448)) (nat_lit 2) (0 : Nat) (0 : Nat) (0 : Nat) (1 : Nat) (some (1 : Nat))] [(Nm.o (nat_lit 448), B.rows (nat_lit 2) (1 : Nat) (getL [[V.bool (SBatch.noop (SRec.batch (r (Int.toNat (↑k : Int))))), rq (SBatch.n (SRec.batch (r (Int.toNat (↑k : Int))))) (SBatch.req (SRec.batch (r (Int.toNat (↑k : Int)))))]]) false)] (V.bool (lightB (SRec.batch (r k)))) [(Nm.o (nat_lit 448), B.rows (2 : Nat) (1 : Nat) (getL [SBatch.c (SRec.batch (r k))]) false)], (!lightB (SRec.batch (r k))) = false, decide ((100 : Int) < (↑(SCert.n (SRec.cert (r (Int.toNat (↑k : Int))))) : Int)) = true, true = true, true = true, false = false]) := by kernel_rfl
theorem pcLr_p10011 (n : Nat) (r : Nat → SRec) (k : Nat) :
  alongPc Try.prog (pcLr n r k) [true, false, false, true, true] = some (Exit.ret, St.mk [V.any, V.any, V.bool false, V.any, V.any, V.any, V.any, V.any, V.any, V.any, V.any, V.any, V.any, V.any, V.any, V.any, V.any, V.any, V.any, V.any, V.any, V.any, V.any, V.any, V.any, V.any, V.any, V.any, V.any, V.any, V.any, V.any, V.any, V.any, V.any, V.any, V.any, V.any, V.any] [] (nat_lit 0) [], [decide ((↑k : Int) < (↑n : Int)) = true, (0 : Int) ≤ (↑k : Int) ∧ (↑k : Int) < (↑n : Int), T Try.prog (47 : Nat) [V.sl (Nm.o (nat_lit 448)) (nat_lit 2) (0 : Nat) (0 : Nat) (0 : Nat) (1 : Nat) (some (1 : Nat))] [(Nm.o (nat_lit 448), B.rows (nat_lit 2) (1 : Nat) (getL [[V.bool (SBatch.noop (SRec.batch (r (Int.toNat (↑k : Int))))), rq (SBatch.n (SRec.batch (r (Int.toNat (↑k : Int))))) (SBatch.req (SRec.batch (r (Int.toNat (↑k : Int)))))]]) false)] (V.bool (lightB (SRec.batch (r k)))) [(Nm.o (nat_lit 448), B.rows (2 : Nat) (1 : Nat) (getL [SBatch.c (SRec.batch (r k))]) false)], (!lightB (SRec.batch (r k))) = false, decide ((100 : Int) < (↑(SCert.n (SRec.cert (r (Int.toNat (↑k : Int))))) : Int)) = false, decide ((100 : Int) < (↑(SRec.n (r (Int.toNat (↑k : Int)))) : Int)) = true, true = true, false = false]) := by kernel_rfl
theorem pcLr_p10001 (n : Nat) (r : Nat → SRec) (k : Nat) :
  alongPc Try.prog (pcLr n r k) [true, false, false, false, true] = some (Exit.ret, St.mk [V.any, V.any, V.bool false, V.any, V.any, V.any, V.any, V.any, V.any, V.any, V.any, V.any, V.any, V.any, V.any, V.any, V.any, V.any, V.any, V.any, V.any, V.any, V.any, V.any, V.any, V.any, V.any, V.any, V.any, V.any, V.any, V.any, V.any, V.any, V.any, V.any, V.any, V.any, V.any] [] (nat_lit 0) [], [decide ((↑k : Int) < (↑n : Int)) = true, (0 : Int) ≤ (↑k : Int) ∧ (↑k : Int) < (↑n : Int), T Try.prog (47 : Nat) [V.sl (Nm.o (nat_lit 448)) (nat_lit 2) (0 : Nat) (0 : Nat) (0 : Nat) (1 : Nat) (some (1 : Nat))] [(Nm.o (nat_lit 448), B.rows (nat_lit 2) (1 : Nat) (getL [[V.bool (SBatch.noop (SRec.batch (r (Int.toNat (↑k : Int))))), rq (SBatch.n (SRec.batch (r (Int.toNat (↑k : Int))))) (SBatch.req (SRec.batch (r (Int.toNat (↑k : Int)))))]]) false)] (V.bool (lightB (SRec.batch (r k)))) [(Nm.o (nat_lit 448), B.rows (2 : Nat) (1 : Nat) (getL [SBatch.c (SRec.batch (r k))]) false)], (!lightB (SRec.batch (r k))) = false, decide ((100 : Int) < (↑(SCert.n (SRec.cert (r (Int.toNat (↑k : Int))))) : Int)) = false, decide ((100 : Int) < (↑(SRec.n (r (Int.toNat (↑k : Int)))) : Int)) = false, decide ((4000 : Int) < (↑(ByteArray.size (SRec.state (r (Int.toNat (↑k : Int))))) : Int)) = true, false = false]) := by kernel_rfl
theorem pcLr_p10000 (n : Nat) (r : Nat → SRec) (k : Nat) :
  alongPc Try.prog (pcLr n r k) [true, false, false, false, false] = some (Exit.normal, St.mk [V.any, V.any, V.any, V.any, V.any, V.any, V.any, V.any, V.ros (45 : Nat) n (fun i => SRec.c (r i)) false, V.int IntKind.i64 (↑n : Int), V.int IntKind.i64 (↑(k + (1 : Nat)) : Int), V.any, V.any, V.any, V.any, V.any, V.any, V.any, V.any, V.any, V.any, V.any, V.any, V.any, V.any, V.any, V.any, V.any, V.any, V.any, V.any, V.any, V.any, V.any, V.any, V.any, V.any, V.any, V.any] [] (nat_lit 0) [], [decide ((↑k : Int) < (↑n : Int)) = true, (0 : Int) ≤ (↑k : Int) ∧ (↑k : Int) < (↑n : Int), T Try.prog (47 : Nat) [V.sl (Nm.o (nat_lit 448)) (nat_lit 2) (0 : Nat) (0 : Nat) (0 : Nat) (1 : Nat) (some (1 : Nat))] [(Nm.o (nat_lit 448), B.rows (nat_lit 2) (1 : Nat) (getL [[V.bool (SBatch.noop (SRec.batch (r (Int.toNat (↑k : Int))))), rq (SBatch.n (SRec.batch (r (Int.toNat (↑k : Int))))) (SBatch.req (SRec.batch (r (Int.toNat (↑k : Int)))))]]) false)] (V.bool (lightB (SRec.batch (r k)))) [(Nm.o (nat_lit 448), B.rows (2 : Nat) (1 : Nat) (getL [SBatch.c (SRec.batch (r k))]) false)], (!lightB (SRec.batch (r k))) = false, decide ((100 : Int) < (↑(SCert.n (SRec.cert (r (Int.toNat (↑k : Int))))) : Int)) = false, decide ((100 : Int) < (↑(SRec.n (r (Int.toNat (↑k : Int)))) : Int)) = false, decide ((4000 : Int) < (↑(ByteArray.size (SRec.state (r (Int.toNat (↑k : Int))))) : Int)) = false, InR IntKind.i64 ((↑k : Int) + (1 : Int)), n = n, ∀ (k : Nat), k < n → SRec.c (r k) = SRec.c (r k), false = true → false = true, (↑n : Int) = (↑n : Int), (↑k : Int) + (1 : Int) = (↑(k + (1 : Nat)) : Int)]) := by kernel_rfl
theorem pcLr_p0 (n : Nat) (r : Nat → SRec) (k : Nat) :
  alongPc Try.prog (pcLr n r k) [false] = some (Exit.exit (0 : Nat), St.mk [V.any, V.any, V.any, V.any, V.any, V.any, V.any, V.any, V.ros (45 : Nat) n (fun i => SRec.c (r i)) false, V.int IntKind.i64 (↑n : Int), V.int IntKind.i64 (↑n : Int), V.any, V.any, V.any, V.any, V.any, V.any, V.any, V.any, V.any, V.any, V.any, V.any, V.any, V.any, V.any, V.any, V.any, V.any, V.any, V.any, V.any, V.any, V.any, V.any, V.any, V.any, V.any, V.any] [] (nat_lit 0) [], [decide ((↑k : Int) < (↑n : Int)) = false, n = n, ∀ (k : Nat), k < n → SRec.c (r k) = SRec.c (r k), false = true → false = true, (↑n : Int) = (↑n : Int), (↑k : Int) = (↑n : Int)]) := by kernel_rfl

/-- What a machine can have. -/
structure FitR (r : SRec) : Prop where
 n : r.batch.n ≤ 9223372036854775807
 data : ∀ k, k < r.batch.n → (r.batch.req k).data.size ≤ 9223372036854775807
def lightAll (n : Nat) (r : Nat → SRec) : Bool := decide (n ≤ 100) && decide (∀ i, i < n → okR (r i) = true)

theorem lr_bad {n : Nat} {r : Nat → SRec} (hf : ∀ k, k < n → FitR (r k)) {k : Nat} (hk : k < n) (h : ¬ okR (r k) = true) : R Try.prog none 0 (cB (cB (cR (cL (cR (cR (bodyOf Try.f25))))))) (lrI n r k) .ret lrF := by
 have hT := T_light (r k).batch (hf k hk).data (hf k hk).n 448
 by_cases h1 : lightB (r k).batch = true
 ·by_cases h2 : (r k).cert.n ≤ 100
  ·by_cases h3 : (r k).n ≤ 100
   ·have h4 : ¬ (r k).state.size ≤ 4000 := fun h4 => h (by simp [okR, h1, h2, h3, h4])
    exact R_alongPc NG MO _ (pcLr_p10001 n r k) ⟨by simp [hk], by simp [hk], hT, by simp [h1], by simp <;> omega, by simp <;> omega, by simp <;> omega, rfl, trivial⟩ (Nat.zero_le _)
   ·exact R_alongPc NG MO _ (pcLr_p10011 n r k) ⟨by simp [hk], by simp [hk], hT, by simp [h1], by simp <;> omega, by simp <;> omega, rfl, rfl, trivial⟩ (Nat.zero_le _)
  ·exact R_alongPc NG MO _ (pcLr_p10111 n r k) ⟨by simp [hk], by simp [hk], hT, by simp [h1], by simp <;> omega, rfl, rfl, rfl, trivial⟩ (Nat.zero_le _)
 ·exact R_alongPc NG MO _ (pcLr_p11111 n r k) ⟨by simp [hk], by simp [hk], hT, by simp [h1], rfl, rfl, rfl, rfl, trivial⟩ (Nat.zero_le _)
theorem lr_good {n : Nat} {r : Nat → SRec} (hn : n ≤ 100) (hf : ∀ k, k < n → FitR (r k)) {k : Nat} (hk : k < n) (h : okR (r k) = true) : R Try.prog none 0 (cB (cB (cR (cL (cR (cR (bodyOf Try.f25))))))) (lrI n r k) .normal (lrI n r (k + 1)) := by
 have hT := T_light (r k).batch (hf k hk).data (hf k hk).n 448
 simp only [okR, Bool.and_eq_true, decide_eq_true_eq] at h
 obtain ⟨h1, h2, h3, h4⟩ := h
 refine R_alongPc NG MO _ (pcLr_p10000 n r k) ⟨by simp [hk], by simp [hk], hT, by simp [h1], by simp <;> omega, by simp <;> omega, by simp <;> omega, by rw [InR64]; omega, ?_⟩ (Nat.zero_le _)
 simp [All]
theorem T_lr {n : Nat} (r : Nat → SRec) (hf : ∀ k, k < n → FitR (r k)) : T Try.prog 25 [rc n r] [] (.bool (lightAll n r)) [] := by
 by_cases hn : n ≤ 100
 ·obtain ⟨m, h1, h2, h3⟩ := exists_stop (fun k => okR (r k) = true) n
  by_cases hmn : m = n
  ·subst hmn
   refine T.bool (T_al (bdLr_p01 m r m) Try.func25 ⟨by simp <;> omega, RLoop.inv (lrI m r) m (fun k hk => lr_good hn hf hk (h2 k hk)) (R_alongPc NG MO _ (pcLr_p0 m r m) (by simp [All]) (Nat.zero_le _)) (by simp), ?_⟩) (by simp [lightAll, hn]; exact h2)
   simp [All]
  ·have hm : m < n := by omega
   have h3 := h3.resolve_left hmn
   refine T.bool (T_al (bdLr_p00 n r m) Try.func25 ⟨by simp <;> omega, RLoop.inv (lrI n r) m (fun k hk => lr_good hn hf (by omega) (h2 k hk)) (lr_bad hf hm h3) (by simp), ?_⟩) (by
     have : ¬ ∀ i, i < n → okR (r i) = true := fun h => h3 (h m hm)
     simp only [lightAll, this, decide_false, Bool.and_false])
   simp [All]
 ·exact T.bool (T_al (bdLr_p1 n r 0) Try.func25 ⟨by simp <;> omega, trivial⟩) (by simp [lightAll, hn])
end Go.Proofs.Ythifjamdfpjilaa
namespace Sy
open Go
/-- What holds of what can't be turned holds of blocks that are lent: they stay as they are. -/
theorem T.lend {P : Program} {f : FuncId} {args args' : List V} {pre : Heap} {b : Bool} {cs : List Prop} (h : T P f args [] (.bool b) []) (hl : leVs pre args' args = some cs) (hc : All cs) : T P f args' pre (.bool b) pre := by
 intro U ρ w xs hh ha hf
 have hfU : ∀ n b l, (n, b) ∈ pre → ρ n = some l → l.real = true → U l.blk = none := fun n b l hm e hr => by
  obtain ⟨_, _, _, h⟩ := hh.real hm e hr; exact h
 have hU : U.le (freeze U ρ pre w) := fun k c e => by
  unfold freeze
  split
  ·rename_i hx
   obtain ⟨n, b, l, h1, h2, h3, rfl⟩ := hx
   rw [hfU n b l h1 h2 h3] at e; cases e
  ·exact e
 have hF : Frozen U (freeze U ρ pre w) ρ pre := fun n b hm l e hr => by
  have hex : ∃ n b l', (n, b) ∈ pre ∧ ρ n = some l' ∧ l'.real = true ∧ l'.blk = l.blk := ⟨n, b, l, hm, e, hr, rfl⟩
  obtain ⟨o, h1, h2, h3⟩ := hh.real hm e hr
  constructor
  ·rintro cs rfl
   obtain ⟨c, el, lo, hi, rfl, _, _, h4⟩ := h2
   exact ⟨c, by unfold freeze; rw [if_pos hex, h1], h4⟩
  ·rintro es m f g rfl
   obtain ⟨c, el, lo, hi, rfl, _, _, _, _, h4⟩ := h2
   exact ⟨c, by unfold freeze; rw [if_pos hex, h1], h4⟩
 have h0 : HRel (freeze U ρ pre w) ρ [] w := by
  refine ⟨fun n b hm => absurd hm List.not_mem_nil, fun n b n' b' l l' hm => absurd hm List.not_mem_nil, List.nodup_nil, fun k c hk => ?_⟩
  unfold freeze at hk
  split at hk
  ·split at hk
   ·rename_i c' el fr hx
    simp only [Option.some.injEq] at hk; subst hk
    exact ⟨el, fr, hx⟩
   ·cases hk
  ·exact hh.imm k c hk
 refine Calls.mono (h _ ρ w xs h0 (leVs_ok hU hF _ _ _ _ hl hc ha) fun n ⟨b, hb⟩ => absurd hb List.not_mem_nil) ?_
 rintro e w' ⟨x, U', ρ', he, L⟩
 have hx : x = .bool b := by have := L.val; rwa [VRel] at this
 have hk : ∀ k, k < w.heap.size → w'.heap[k]? = w.heap[k]? := fun k hk => L.ext.frame k hk fun n l ⟨b, hb⟩ => absurd hb List.not_mem_nil
 refine ⟨x, U, ρ, he, ⟨by rw [VRel]; exact hx, ⟨fun n b hm => ?_, hh.inj, hh.nd, fun k c e => ?_⟩, fun n l _ e => e, fun n l e => .inr e, ⟨L.ext.size, Imm.le_refl _, fun k hk' _ => hk k hk', fun n l hd e hr => .inr ⟨n, l, hd, e, hr, rfl⟩, fun b c e => .inl e, L.ext.out⟩⟩⟩
 ·obtain ⟨l, g1, g2⟩ := hh.blk n b hm
  refine ⟨l, g1, ?_⟩
  rcases g2 with ⟨hr, o, g3, g4⟩ | g2
  ·exact .inl ⟨hr, o, by rw [hk _ (lt_size g3)]; exact g3, g4⟩
  ·exact .inr g2
 ·obtain ⟨el, fr, g⟩ := hh.imm k c e
  exact ⟨el, fr, by rw [hk _ (lt_size g)]; exact g⟩
end Sy
namespace Go.Proofs.Ythifjamdfpjilaa
open Go Sy Go.Proofs
def cLightR (b : Bool) : List V → Heap → Nat → List Cl := fun args _ _ => match args with
 | .sl a _ _ _ _ _ _ :: _ => [{ rd := [a], val := .bool b }]
 | _ => []
noncomputable def bdRk (r : SRec) (l : List UInt8) (lv : Bool) (db : List (Nat × Nat × (List V → Heap → Nat → List Cl))) : Bd := { f := Try.f9, args := [.agg r.c, roB l], kb := { db := fun k a h lo => match dbF [(25, cLightR lv), (26, cVal (.bool true)), (29, cVal (.bool true))] k a h lo with
 | [] => dbSeqF 0 db k a h lo
 | r => r } }
noncomputable def bdRkL (r : SRec) (l : List UInt8) : Bd := bdRk r l false []
noncomputable def bdRkA (r : SRec) (l t : List UInt8) (x y : SRec) (d : Int) : Bd := bdRk r l true [(27, 12, cVal (.tup [roB t, .int .i64 0])), (28, 21, cVal (.tup [.agg x.c, .int .i64 0])), (28, 37, cVal (.tup [.agg y.c, .int .i64 d])), (27, 47, cVal (.tup [roB l, .int .i64 0]))]
noncomputable def bdRkB (r : SRec) (l t : List UInt8) (e : Int) (y : SRec) (d : Int) : Bd := bdRk r l true [(27, 12, cVal (.tup [roB t, .int .i64 e])), (28, 21, cVal (.tup [.agg y.c, .int .i64 d])), (27, 31, cVal (.tup [roB l, .int .i64 0]))]
def livRB : List UInt8 := [1, 3, 1, 2, 1, 1]
def livR : SRec := { rec0 3 with leader := 2, view := 1 }
noncomputable def bdLvR : Bd := { f := Try.f26, args := [], kb := kbT [(128, { val := .tup [roB livRB, .int .i64 0] }), (576, { val := .tup [.agg livR.c, .int .i64 0] })] }
end Go.Proofs.Ythifjamdfpjilaa
namespace Go.Proofs.Ythifjamdfpjilaa
open Go Sy Go.Proofs
theorem bdRkL_p11 (r : SRec) (l : List UInt8) :
  along Try.prog (bdRkL r l) [true, true] = (some (.bool true, [], [T Try.prog 25 [.sl (.o 192) 45 0 0 0 1 (some 1)] [(.o 192, .rows 45 1 (getL [(SRec.c r)]) false)] (.bool false) [(.o 192, .rows 45 1 (getL [(SRec.c r)]) false)], q2, q2, T Try.prog 26 [] [] (.bool true) []]) : Option (V × Heap × List Prop)) := by kernel_rfl

theorem bdRkA_p01 (r : SRec) (l : List UInt8) (t : List UInt8) (x : SRec) (y : SRec) (d : Int) :
  along Try.prog (bdRkA r l t x y d) [false, true] = (some (.bool true, [], [T Try.prog 25 [.sl (.o 192) 45 0 0 0 1 (some 1)] [(.o 192, .rows 45 1 (getL [(SRec.c r)]) false)] (.bool true) [(.o 192, .rows 45 1 (getL [(SRec.c r)]) false)], q false, decide ((20000 : Int) < (↑(List.length l) : Int)) = true, T Try.prog 26 [] [] (.bool true) []]) : Option (V × Heap × List Prop)) := by kernel_rfl

theorem bdRkA_p00100100 (r : SRec) (l : List UInt8) (t : List UInt8) (x : SRec) (y : SRec) (d : Int) :
  along Try.prog (bdRkA r l t x y d) [false, false, true, false, false, true, false, false] = (some (.bool true, [], [T Try.prog 25 [.sl (.o 192) 45 0 0 0 1 (some 1)] [(.o 192, .rows 45 1 (getL [(SRec.c r)]) false)] (.bool true) [(.o 192, .rows 45 1 (getL [(SRec.c r)]) false)], q false, decide ((20000 : Int) < (↑(List.length l) : Int)) = false, T Try.prog 27 [.agg (SRec.c r)] [] (.tup [.ros 1 (List.length t) (bl t) false, .int .i64 0]) [], q2, T Try.prog 28 [.ros 1 (List.length t) (bl t) false] [] (.tup [.agg (SRec.c x), .int .i64 0]) [], q false, T Try.prog 29 [.agg (SRec.c x), .agg (SRec.c r)] [] (.bool true) [], q false, T Try.prog 28 [.ros 1 (List.length l) (bl l) false] [] (.tup [.agg (SRec.c y), .int .i64 d]) [], decide (d = (0 : Int)) = true, T Try.prog 27 [.agg (SRec.c y)] [] (.tup [.ros 1 (List.length l) (bl l) false, .int .i64 0]) [], q false, ∀ (k : Nat), k < List.length l → true = true, ∀ (k : Nat), k < List.length l → true = true, ∀ (k : Nat), k < List.length l → true = true, ∀ (k : Nat), k < List.length l → true = true, (!decide (bytesF (List.length l) (bl l) = bytesF (List.length l) (bl l))) = false, T Try.prog 26 [] [] (.bool true) []]) : Option (V × Heap × List Prop)) := by kernel_rfl

theorem bdRkA_p001000 (r : SRec) (l : List UInt8) (t : List UInt8) (x : SRec) (y : SRec) (d : Int) :
  along Try.prog (bdRkA r l t x y d) [false, false, true, false, false, false] = (some (.bool true, [], [T Try.prog 25 [.sl (.o 192) 45 0 0 0 1 (some 1)] [(.o 192, .rows 45 1 (getL [(SRec.c r)]) false)] (.bool true) [(.o 192, .rows 45 1 (getL [(SRec.c r)]) false)], q false, decide ((20000 : Int) < (↑(List.length l) : Int)) = false, T Try.prog 27 [.agg (SRec.c r)] [] (.tup [.ros 1 (List.length t) (bl t) false, .int .i64 0]) [], q2, T Try.prog 28 [.ros 1 (List.length t) (bl t) false] [] (.tup [.agg (SRec.c x), .int .i64 0]) [], q false, T Try.prog 29 [.agg (SRec.c x), .agg (SRec.c r)] [] (.bool true) [], q false, T Try.prog 28 [.ros 1 (List.length l) (bl l) false] [] (.tup [.agg (SRec.c y), .int .i64 d]) [], decide (d = (0 : Int)) = false, T Try.prog 26 [] [] (.bool true) []]) : Option (V × Heap × List Prop)) := by kernel_rfl

theorem bdRkB_p000100 (r : SRec) (l : List UInt8) (t : List UInt8) (e : Int) (y : SRec) (d : Int) :
  along Try.prog (bdRkB r l t e y d) [false, false, false, true, false, false] = (some (.bool true, [], [T Try.prog 25 [.sl (.o 192) 45 0 0 0 1 (some 1)] [(.o 192, .rows 45 1 (getL [(SRec.c r)]) false)] (.bool true) [(.o 192, .rows 45 1 (getL [(SRec.c r)]) false)], q false, decide ((20000 : Int) < (↑(List.length l) : Int)) = false, T Try.prog 27 [.agg (SRec.c r)] [] (.tup [.ros 1 (List.length t) (bl t) false, .int .i64 e]) [], decide (e = (0 : Int)) = false, T Try.prog 28 [.ros 1 (List.length l) (bl l) false] [] (.tup [.agg (SRec.c y), .int .i64 d]) [], decide (d = (0 : Int)) = true, T Try.prog 27 [.agg (SRec.c y)] [] (.tup [.ros 1 (List.length l) (bl l) false, .int .i64 0]) [], q false, ∀ (k : Nat), k < List.length l → true = true, ∀ (k : Nat), k < List.length l → true = true, ∀ (k : Nat), k < List.length l → true = true, ∀ (k : Nat), k < List.length l → true = true, (!decide (bytesF (List.length l) (bl l) = bytesF (List.length l) (bl l))) = false, T Try.prog 26 [] [] (.bool true) []]) : Option (V × Heap × List Prop)) := by kernel_rfl

theorem bdRkB_p0000 (r : SRec) (l : List UInt8) (t : List UInt8) (e : Int) (y : SRec) (d : Int) :
  along Try.prog (bdRkB r l t e y d) [false, false, false, false] = (some (.bool true, [], [T Try.prog 25 [.sl (.o 192) 45 0 0 0 1 (some 1)] [(.o 192, .rows 45 1 (getL [(SRec.c r)]) false)] (.bool true) [(.o 192, .rows 45 1 (getL [(SRec.c r)]) false)], q false, decide ((20000 : Int) < (↑(List.length l) : Int)) = false, T Try.prog 27 [.agg (SRec.c r)] [] (.tup [.ros 1 (List.length t) (bl t) false, .int .i64 e]) [], decide (e = (0 : Int)) = false, T Try.prog 28 [.ros 1 (List.length l) (bl l) false] [] (.tup [.agg (SRec.c y), .int .i64 d]) [], decide (d = (0 : Int)) = false, T Try.prog 26 [] [] (.bool true) []]) : Option (V × Heap × List Prop)) := by kernel_rfl

theorem bdLvR_p :
  along Try.prog (bdLvR) [] = (some (.bool true, [], [T Try.prog 27 [.agg [.int .i64 3, .int .i64 2, .int .i64 1, .int .i64 0, .bool false, .snil, .int .i64 0, .int .i64 0, .int .i64 0, .int .i64 0, .seg .u8 32 z32, .snil, .str ByteArray.empty, .snil]] [] (.tup [.ros 1 6 (bl livRB) false, .int .i64 0]) [], T Try.prog 28 [.ros 1 6 (bl livRB) false] [] (.tup [.agg (SRec.c (SRec.mk (3 : Int) (2 : Int) (1 : Int) (0 : Int) (SBatch.mk false 0 fun x => SReq.mk (0 : Int) (0 : Int) ByteArray.empty []) (SCert.mk vote0 0 fun x => SSign.mk (0 : Int) []) ByteArray.empty 0 fun x => SSign.mk (0 : Int) [])), .int .i64 0]) [], q2, q2, ∀ (k : Nat), k < nat_lit 6 → true = true, ∀ (k : Nat), k < nat_lit 6 → true = true, q2]) : Option (V × Heap × List Prop)) := by kernel_rfl

theorem fitR_good {r : SRec} (h : goodRS r = true) : FitRec r := by
 obtain ⟨hk, ho, hm, _⟩ := goodR_parts h
 have ho := sameRec_iff.1 ho
 have f := fitM_good hm
 by_cases k1 : r.kind = 1
 ·rw [toldS, if_pos k1] at f
  rw [onlyRS, if_pos k1] at ho
  exact ⟨f.batch, by have := (sameCert_iff.1 ho.cert).2.1; rw [this]; exact Nat.zero_le _, by rw [ho.sig.1]; exact Nat.zero_le _⟩
 by_cases k3 : r.kind = 3
 ·rw [onlyRS, if_neg k1, if_pos k3] at ho
  exact ⟨by have := (sameBatch_iff.1 ho.batch).2.1; rw [this]; exact Nat.zero_le _, by have := (sameCert_iff.1 ho.cert).2.1; rw [this]; exact Nat.zero_le _, by rw [ho.sig.1]; exact Nat.zero_le _⟩
 by_cases k5 : r.kind = 5
 ·rw [toldS, if_neg k1, if_neg k3, if_pos k5] at f
  rw [onlyRS, if_neg k1, if_neg k3, if_pos k5] at ho
  exact ⟨by have := (sameBatch_iff.1 ho.batch).2.1; rw [this]; exact Nat.zero_le _, by have := (sameCert_iff.1 ho.cert).2.1; rw [this]; exact Nat.zero_le _, f.n⟩
 ·rw [toldS, if_neg k1, if_neg k3, if_neg k5] at f
  have eO : onlyRS r = ro2 r := by
   rw [onlyRS, if_neg k1, if_neg k3, if_neg k5]
   by_cases k2 : r.kind = 2
   ·rw [if_pos k2]
   ·rw [if_neg k2, if_pos (by omega)]
  rw [eO] at ho
  exact ⟨f.batch, f.cert, by rw [ho.sig.1]; exact Nat.zero_le _⟩
theorem T_livesR : T Try.prog 26 [] [] (.bool true) [] := by
 have z : ∀ {p : Nat → Prop}, ∀ i, i < 0 → p i := fun i hi => absurd hi (Nat.not_lt_zero i)
 have e1 : recE livR = 0 := by kernel_rfl
 have e2 : recT livR = livRB := by kernel_rfl
 have hE := T_recE (r := livR) (fitR_good (by kernel_rfl)) ⟨z, ⟨seg32, z⟩, z⟩
 rw [e1, e2] at hE
 have hD := T_decRec livRB (by decide)
 have e3 : decRec livRB = (livR, 0) := by kernel_rfl
 rw [e3] at hD
 refine T_al bdLvR_p Try.func26 ?_
 simp only [All]; and_intros
 all_goals first
  | exact hD
  | (refine T.args hE rfl ?_; simp [All, livR, rec0, vote0])
  | trivial
  | rfl
theorem T_lightOne {r : SRec} (hf : FitR r) : T Try.prog 25 [.sl (.o 192) 45 0 0 0 1 (some 1)] [(.o 192, .rows 45 1 (getL [r.c]) false)] (.bool (lightAll 1 (fun _ => r))) [(.o 192, .rows 45 1 (getL [r.c]) false)] := by
 refine T.lend (T_lr (n := 1) (fun _ => r) (fun _ _ => hf)) rfl ?_
 simp only [All]; and_intros
 all_goals first
  | trivial
  | rfl
  | (intro k hk; obtain rfl : k = 0 := by omega
     rfl)
  | (simp; done)
theorem T_recBack {r : SRec} {l : List UInt8} (hf : FitR r) (ht : segRec r) (hl9 : l.length ≤ 9223372036854775807) : T Try.prog 9 [.agg r.c, roB l] [] (.bool true) [] := by
 have hL := T_lightOne hf
 have hlv := T_livesR
 cases h0 : lightAll 1 (fun _ => r) with
 | false =>
  rw [h0] at hL
  refine T_al (bdRkL_p11 r l) Try.func9 ?_
  simp only [All]; and_intros
  all_goals first
   | exact hL
   | exact hlv
   | trivial
   | rfl
 | true =>
  rw [h0] at hL
  have hok : okR r = true := by
   simp only [lightAll, Bool.and_eq_true, decide_eq_true_eq] at h0
   exact h0.2 0 (by decide)
  have hok' := hok
  simp only [okR, Bool.and_eq_true, decide_eq_true_eq] at hok'
  have hF : FitRec r := ⟨by have := lightB_n hok'.1; omega, by have := hok'.2.1; omega, by have := hok'.2.2.1; omega⟩
  have hE := T_recE hF ht
  by_cases h1 : 20000 < l.length
  ·refine T_al (bdRkA_p01 r l l r r 0) Try.func9 ?_
   simp only [All]; and_intros
   all_goals first
    | exact hL
    | exact hlv
    | (rw [decide_eq_true_eq]; omega)
    | trivial
    | rfl
  have h1' : decide ((20000 : Int) < (l.length : Nat)) = false := by rw [decide_eq_false_iff_not]; omega
  have hD := T_decRec l (by omega)
  by_cases h2 : recE r = 0
  ·obtain ⟨g1, g2, _, g3⟩ := recE_zero h2
   rw [h2, g2] at hE
   have hD2 := T_decRec (recB r) (by omega)
   obtain ⟨d1, d2⟩ := decRec_enc h2 ht
   rw [d1] at hD2
   have hx := encRec_dec g3 (x := (decRec (recB r)).1) (by rw [← d1])
   have hS := T_yS (decRec (recB r)).1 r (fitR_good (recE_zero hx.1).1)
   rw [d2] at hS
   by_cases h3 : (decRec l).2 = 0
   ·have hy := encRec_dec (l := l) (by omega) (x := (decRec l).1) (by rw [← h3])
    have hE2 := T_recE (fitR_good (recE_zero hy.1).1) hy.2.2
    rw [hy.1, (recE_zero hy.1).2.1, hy.2.1] at hE2
    rw [h3] at hD
    refine T_al (bdRkA_p00100100 r l (recB r) (decRec (recB r)).1 (decRec l).1 0) Try.func9 ?_
    simp only [All]; and_intros
    all_goals first
     | exact hL
     | exact hlv
     | exact hE
     | exact hD2
     | exact hS
     | exact hD
     | exact hE2
     | exact h1'
     | trivial
     | rfl
     | (intro _ _; trivial)
     | (intro _ _; rfl)
     | (simp; done)
   ·refine T_al (bdRkA_p001000 r l (recB r) (decRec (recB r)).1 (decRec l).1 (decRec l).2) Try.func9 ?_
    simp only [All]; and_intros
    all_goals first
     | exact hL
     | exact hlv
     | exact hE
     | exact hD2
     | exact hS
     | exact hD
     | exact h1'
     | exact decide_eq_false h3
     | trivial
     | rfl
     | (intro _ _; trivial)
     | (intro _ _; rfl)
     | (simp; done)
  ·by_cases h3 : (decRec l).2 = 0
   ·have hy := encRec_dec (l := l) (by omega) (x := (decRec l).1) (by rw [← h3])
    have hE2 := T_recE (fitR_good (recE_zero hy.1).1) hy.2.2
    rw [hy.1, (recE_zero hy.1).2.1, hy.2.1] at hE2
    rw [h3] at hD
    refine T_al (bdRkB_p000100 r l (recT r) (recE r) (decRec l).1 0) Try.func9 ?_
    simp only [All]; and_intros
    all_goals first
     | exact hL
     | exact hlv
     | exact hE
     | exact hD
     | exact hE2
     | exact h1'
     | exact decide_eq_false h2
     | trivial
     | rfl
     | (intro _ _; trivial)
     | (intro _ _; rfl)
     | (simp; done)
   ·refine T_al (bdRkB_p0000 r l (recT r) (recE r) (decRec l).1 (decRec l).2) Try.func9 ?_
    simp only [All]; and_intros
    all_goals first
     | exact hL
     | exact hlv
     | exact hE
     | exact hD
     | exact h1'
     | exact decide_eq_false h2
     | exact decide_eq_false h3
     | trivial
     | rfl
     | (intro _ _; trivial)
     | (intro _ _; rfl)
     | (simp; done)
end Go.Proofs.Ythifjamdfpjilaa
namespace Go.Proofs.Ythifjamdfpjilaa
open Go Sy Go.Proofs
theorem cellsSign : Try.prog.cellsOf 114 = 17 := by kernel_rfl
theorem cellsReq : Try.prog.cellsOf 158 = 19 := by kernel_rfl
theorem seg_of {n : Nat} {xs : List Int} (h : xs.length = n) (h2 : ∀ x ∈ xs, InR .u8 x) : SegOk n xs := ⟨h, fun x hx => InR8.1 (h2 x hx)⟩
theorem sg_sign {d : Nat} {cs : List V} (h : ShC Try.prog d 114 cs) : ∃ s : SSign, cs = s.c ∧ SegOk 16 s.tag := by
 obtain ⟨d, a, _, rfl, ha, b, _, rfl, hb, rfl⟩ := sh_struct h Try.underlying114
 obtain ⟨n, rfl, _⟩ := sh_int ha Try.underlying3
 obtain ⟨xs, rfl, h1, h2⟩ := sh_arr hb Try.underlying95 Try.underlying5
 exact ⟨⟨n, xs⟩, rfl, seg_of h1 h2⟩
theorem sg_req {d : Nat} {cs : List V} (h : ShC Try.prog d 158 cs) : ∃ s : SReq, cs = s.c ∧ s.data.size ≤ 9223372036854775807 ∧ SegOk 16 s.tag := by
 obtain ⟨d, a, _, rfl, ha, b, _, rfl, hb, c, _, rfl, hc, e, _, rfl, he, rfl⟩ := sh_struct h Try.underlying158
 obtain ⟨n, rfl, _⟩ := sh_int ha Try.underlying3
 obtain ⟨m, rfl, _⟩ := sh_int hb Try.underlying3
 obtain ⟨s, rfl, hs⟩ := sh_str hc Try.underlying9
 obtain ⟨xs, rfl, h1, h2⟩ := sh_arr he Try.underlying95 Try.underlying5
 exact ⟨⟨n, m, s, xs⟩, rfl, hs, seg_of h1 h2⟩
theorem sg_dig {d : Nat} {cs : List V} (h : ShC Try.prog d 43 cs) : ∃ xs : List Int, cs = [.seg .u8 32 xs] ∧ SegOk 32 xs := by
 obtain ⟨xs, rfl, h1, h2⟩ := sh_arr h Try.underlying43 Try.underlying5
 exact ⟨xs, rfl, seg_of h1 h2⟩
theorem sg_vote {d : Nat} {cs : List V} (h : ShC Try.prog d 45 cs) : ∃ s : SVote, cs = s.c ∧ SegOk 32 s.digest := by
 obtain ⟨d, a, _, rfl, ha, b, _, rfl, hb, c, _, rfl, hc, e, _, rfl, he, f, _, rfl, hf, rfl⟩ := sh_struct h Try.underlying45
 obtain ⟨n, rfl, _⟩ := sh_int ha Try.underlying3
 obtain ⟨m, rfl, _⟩ := sh_int hb Try.underlying3
 obtain ⟨o, rfl, _⟩ := sh_int hc Try.underlying3
 obtain ⟨p, rfl, _⟩ := sh_int he Try.underlying3
 obtain ⟨xs, rfl, h1⟩ := sg_dig hf
 exact ⟨⟨n, m, o, p, xs⟩, rfl, h1⟩
theorem sg_signs (U : Imm) {d : Nat} {cs : List V} (h : ShC Try.prog d 50 cs) : ∃ n s, CsLe U cs [sg n s] ∧ n ≤ 9223372036854775807 ∧ ∀ i, i < n → SegOk 16 (s i).tag := by
 obtain ⟨d, len, f, rfl, hl, hf⟩ := sh_slice h Try.underlying50
 obtain ⟨s, hs⟩ := choose_fn fun i hi => sg_sign (hf i hi)
 refine ⟨len, s, ?_, hl, fun i hi => (hs i hi).2⟩
 rw [cellsSign]
 exact CsLe.ros fun i hi => by rw [(hs i hi).1]; exact CsLe.refl _ _
theorem sg_batch (U : Imm) {d : Nat} {cs : List V} (h : ShC Try.prog d 41 cs) : ∃ b : SBatch, CsLe U cs b.c ∧ (b.n ≤ 9223372036854775807 ∧ ∀ k, k < b.n → (b.req k).data.size ≤ 9223372036854775807) ∧ segBatch b := by
 obtain ⟨d, a, _, rfl, ha, b, _, rfl, hb, rfl⟩ := sh_struct h Try.underlying41
 obtain ⟨n, rfl⟩ := sh_bool ha Try.underlying4
 obtain ⟨d, len, f, rfl, hl, hf⟩ := sh_slice hb Try.underlying39
 obtain ⟨s, hs⟩ := choose_fn fun i hi => sg_req (hf i hi)
 refine ⟨⟨n, len, s⟩, ?_, ⟨hl, fun k hk => (hs k hk).2.1⟩, fun k hk => (hs k hk).2.2⟩
 rw [cellsReq]
 refine CsLe.app (CsLe.refl U [.bool n]) ?_
 exact CsLe.ros fun i hi => by rw [(hs i hi).1]; exact CsLe.refl _ _
theorem sg_cert (U : Imm) {d : Nat} {cs : List V} (h : ShC Try.prog d 52 cs) : ∃ c : SCert, CsLe U cs c.c ∧ c.n ≤ 9223372036854775807 ∧ segCert c := by
 obtain ⟨d, a, _, rfl, ha, b, _, rfl, hb, rfl⟩ := sh_struct h Try.underlying52
 obtain ⟨v, rfl, hv⟩ := sg_vote ha
 obtain ⟨n, s, hs, hn, ht⟩ := sg_signs U hb
 refine ⟨⟨v, n, s⟩, ?_, hn, ⟨hv, ht⟩⟩
 refine CsLe.app (CsLe.refl U v.c) ?_
 rw [List.append_nil]; exact hs
theorem sg_rec (U : Imm) {d : Nat} {cs : List V} (h : ShC Try.prog d 64 cs) : ∃ r : SRec, CsLe U cs r.c ∧ FitR r ∧ segRec r := by
 obtain ⟨d, a1, _, rfl, h1, a2, _, rfl, h2, a3, _, rfl, h3, a4, _, rfl, h4, a5, _, rfl, h5, a6, _, rfl, h6, a7, _, rfl, h7, a8, _, rfl, h8, rfl⟩ := sh_struct h Try.underlying64
 obtain ⟨n1, rfl, _⟩ := sh_int h1 Try.underlying3
 obtain ⟨n2, rfl, _⟩ := sh_int h2 Try.underlying3
 obtain ⟨n3, rfl, _⟩ := sh_int h3 Try.underlying3
 obtain ⟨n4, rfl, _⟩ := sh_int h4 Try.underlying3
 obtain ⟨b, hb, hb1, hb2⟩ := sg_batch U h5
 obtain ⟨c, hc, _, hc2⟩ := sg_cert U h6
 obtain ⟨s, rfl, _⟩ := sh_str h7 Try.underlying9
 obtain ⟨n, sg, hs, _, hs2⟩ := sg_signs U h8
 refine ⟨⟨n1, n2, n3, n4, b, c, s, n, sg⟩, ?_, ⟨hb1.1, hb1.2⟩, ⟨hb2, hc2, hs2⟩⟩
 show CsLe U _ ([V.int .i64 n1] ++ ([V.int .i64 n2] ++ ([V.int .i64 n3] ++ ([V.int .i64 n4] ++ (b.c ++ (c.c ++ ([V.str s] ++ [Sy.sg n sg])))))))
 refine CsLe.app (CsLe.refl U [_]) (CsLe.app (CsLe.refl U [_]) (CsLe.app (CsLe.refl U [_]) (CsLe.app (CsLe.refl U [_]) (CsLe.app hb (CsLe.app hc (CsLe.app (CsLe.refl U [_]) ?_))))))
 rw [List.append_nil]; exact hs
theorem cellsByte : Try.prog.cellsOf 5 = 1 := by kernel_rfl
theorem sg_byts (U : Imm) {d : Nat} {cs : List V} (h : ShC Try.prog d 65 cs) : ∃ l : List UInt8, CsLe U cs [roB l] ∧ l.length ≤ 9223372036854775807 := by
 obtain ⟨d, len, f, rfl, hl, hf⟩ := sh_slice h Try.underlying65
 obtain ⟨s, hs⟩ := choose_fn (α := Int) (n := len) (p := fun i n => f i = [.int .u8 n] ∧ 0 ≤ n ∧ n ≤ 255) fun i hi => by
  obtain ⟨n, h1, h2⟩ := sh_int (hf i hi) Try.underlying5
  exact ⟨n, h1, InR8.1 h2⟩
 have hlen : ((List.range len).map fun i => UInt8.ofNat (s i).toNat).length = len := by simp
 refine ⟨(List.range len).map fun i => UInt8.ofNat (s i).toNat, ?_, by rw [hlen]; exact hl⟩
 rw [cellsByte, roB, hlen]
 refine CsLe.ros fun i hi => ?_
 obtain ⟨h1, h2⟩ := hs i hi
 have e : bl ((List.range len).map fun i => UInt8.ofNat (s i).toNat) i = [.int .u8 (s i)] := by
  unfold bl
  rw [List.getD_eq_getElem?_getD, List.getElem?_map, List.getElem?_range hi]
  simp only [Option.map_some, Option.getD_some, UInt8.toNat_ofNat']
  congr 2
  omega
 rw [h1, e]; exact CsLe.refl _ _
end Go.Proofs.Ythifjamdfpjilaa
