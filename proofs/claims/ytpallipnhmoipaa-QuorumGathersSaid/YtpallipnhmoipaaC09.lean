/-
  Contracts and laws that the claim's theorem leans on, joined out of the texts Kd0 Kd1D Kd1 SyCho Kd2D Kd2 Mg0 Mg1 (own work of this seat): Contracts: whether enough nodes signed a body, by the program and by the document; Contracts: QuorumChecks; Contracts: QuorumChecks; How many hold; nodes chosen by raw numbers until there are enough; Contracts: QuorumGathers; Contracts: QuorumGathers; The shape of a list of numbers that is handed in; The shapes of signs that are handed in.
-/
import Derived.Test.YtpallipnhmoipaaC04
import Derived.Test.YtpallipnhmoipaaC05
import Derived.Test.YtpallipnhmoipaaC08
set_option linter.unusedVariables false
set_option linter.unusedSimpArgs false
set_option maxHeartbeats 1000000
namespace Go.Proofs.Ytpallipnhmoipaa
open Go Sy Go.Proofs
noncomputable def bdCh_c (sd : ByteArray) (N : Int) (n : Int) (b : ByteArray) (m : Nat) (s : Nat → SSign) (need : Int) (g : Bool) (mm : Nat) : Nat → List Prop
 | 0 => [T Try.prog 51 [.ptr (.o 0) 0 0 0 0] [(.o 0, .flat [.str sd, .int .i64 N])] (.int .i64 N) [(.o 0, .flat [.str sd, .int .i64 N])]]
 | 1 => [decide (N = (0 : Int)) = false, T Try.prog 12 [.int .i64 n] [] (.bool g) []]
 | _ => []
theorem bdCh_p1 (sd : ByteArray) (N : Int) (n : Int) (b : ByteArray) (m : Nat) (s : Nat → SSign) (need : Int) (g : Bool) (mm : Nat) :
 along Try.prog (bdCh sd N n b m s need g mm) [true] = (some (.int .i64 1, [(.o 0, .flat [.str sd, .int .i64 N])], bdCh_c sd N n b m s need g mm 0 ++ [decide (N = (0 : Int)) = true]) : Option (V × Heap × List Prop)) := by kernel_rfl
theorem bdCh_p0111 (sd : ByteArray) (N : Int) (n : Int) (b : ByteArray) (m : Nat) (s : Nat → SSign) (need : Int) (g : Bool) (mm : Nat) :
 along Try.prog (bdCh sd N n b m s need g mm) [false, true, true, true] = (some (.int .i64 2, [(.o 0, .flat [.str sd, .int .i64 N])], bdCh_c sd N n b m s need g mm 0 ++ (bdCh_c sd N n b m s need g mm 1 ++ [(!g) = true, q2, q2])) : Option (V × Heap × List Prop)) := by kernel_rfl
theorem bdCh_p0011 (sd : ByteArray) (N : Int) (n : Int) (b : ByteArray) (m : Nat) (s : Nat → SSign) (need : Int) (g : Bool) (mm : Nat) :
 along Try.prog (bdCh sd N n b m s need g mm) [false, false, true, true] = (some (.int .i64 2, [(.o 0, .flat [.str sd, .int .i64 N])], bdCh_c sd N n b m s need g mm 0 ++ (bdCh_c sd N n b m s need g mm 1 ++ [(!g) = false, decide (need < (1 : Int)) = true, q2])) : Option (V × Heap × List Prop)) := by kernel_rfl
theorem bdCh_p0001 (sd : ByteArray) (N : Int) (n : Int) (b : ByteArray) (m : Nat) (s : Nat → SSign) (need : Int) (g : Bool) (mm : Nat) :
 along Try.prog (bdCh sd N n b m s need g mm) [false, false, false, true] = (some (.int .i64 2, [(.o 0, .flat [.str sd, .int .i64 N])], bdCh_c sd N n b m s need g mm 0 ++ (bdCh_c sd N n b m s need g mm 1 ++ [(!g) = false, decide (need < (1 : Int)) = false, decide (n < need) = true])) : Option (V × Heap × List Prop)) := by kernel_rfl
theorem bdCh_p000011 (sd : ByteArray) (N : Int) (n : Int) (b : ByteArray) (m : Nat) (s : Nat → SSign) (need : Int) (g : Bool) (mm : Nat) :
 along Try.prog (bdCh sd N n b m s need g mm) [false, false, false, false, true, true] = (some (.int .i64 50, [(.o 0, .flat [.str sd, .int .i64 N])], bdCh_c sd N n b m s need g mm 0 ++ (bdCh_c sd N n b m s need g mm 1 ++ [(!g) = false, decide (need < (1 : Int)) = false, decide (n < need) = false, decide ((↑m : Int) < need) = true, q2])) : Option (V × Heap × List Prop)) := by kernel_rfl
theorem bdCh_p000001 (sd : ByteArray) (N : Int) (n : Int) (b : ByteArray) (m : Nat) (s : Nat → SSign) (need : Int) (g : Bool) (mm : Nat) :
 along Try.prog (bdCh sd N n b m s need g mm) [false, false, false, false, false, true] = (some (.int .i64 50, [(.o 0, .flat [.str sd, .int .i64 N])], bdCh_c sd N n b m s need g mm 0 ++ (bdCh_c sd N n b m s need g mm 1 ++ [(!g) = false, decide (need < (1 : Int)) = false, decide (n < need) = false, decide ((↑m : Int) < need) = false, decide (n < (↑m : Int)) = true])) : Option (V × Heap × List Prop)) := by kernel_rfl
theorem bdCh_p0000001 (sd : ByteArray) (N : Int) (n : Int) (b : ByteArray) (m : Nat) (s : Nat → SSign) (need : Int) (g : Bool) (mm : Nat) :
 along Try.prog (bdCh sd N n b m s need g mm) [false, false, false, false, false, false, true] = (some (.int .i64 0, [(.o 0, .flat [.str sd, .int .i64 N])], bdCh_c sd N n b m s need g mm 0 ++ (bdCh_c sd N n b m s need g mm 1 ++ [(!g) = false, decide (need < (1 : Int)) = false, decide (n < need) = false, decide ((↑m : Int) < need) = false, decide (n < (↑m : Int)) = false, RLoop Try.prog none 1 (cB (cB (cR (cL (cR (cR (cR (bodyOf (Bd.f (bdCh sd N n b m s need g mm)))))))))) (m + 1) (St.mk [.ptr (.o 0) 0 0 0 0, .int .i64 n, .str b, .any, .any, .any, .any, .any, .any, .any, .any, .int .i64 (lastS s 0), .any, .any, .any, .any, .any, .any, .any, .any, .any, .any, .any, .any, .any, .any, .any, .any, .any, .any, .any, .any, .any, .any, .any, .any, .any, .any, .any, .any, .any, .any, .ros 17 m (fun i => SSign.c (s i)) false, .int .i64 ↑m, .int .i64 0, .any, .any, .any, .any, .any, .any, .any, .any, .any, .any, .any, .any, .any, .any, .any, .any, .any, .any, .any, .any, .any, .any, .any, .any, .any, .any] [(.o 0, .flat [.str sd, .int .i64 N])] 1 []) (.exit 1) (St.mk [.ptr (.o 0) 0 0 0 0, .int .i64 n, .str b, .any, .any, .any, .any, .any, .any, .any, .any, .int .i64 (lastS s m), .any, .any, .any, .any, .any, .any, .any, .any, .any, .any, .any, .any, .any, .any, .any, .any, .any, .any, .any, .any, .any, .any, .any, .any, .any, .any, .any, .any, .any, .any, .ros 17 m (fun i => SSign.c (s i)) false, .int .i64 ↑m, .int .i64 ↑m, .any, .any, .any, .any, .any, .any, .any, .any, .any, .any, .any, .any, .any, .any, .any, .any, .any, .any, .any, .any, .any, .any, .any, .any, .any, .any] [(.o 0, .flat [.str sd, .int .i64 N])] 1 []), q sd, q N, q0, q0, q0, q n, q b, (-1 : Int) = lastS s (0 : Nat), q m, ∀ (k : Nat), k < m → SSign.c (s k) = SSign.c (s k), false = true → false = true, q (↑m : Int), q1])) : Option (V × Heap × List Prop)) := by kernel_rfl
theorem bdCh_p0000000 (sd : ByteArray) (N : Int) (n : Int) (b : ByteArray) (m : Nat) (s : Nat → SSign) (need : Int) (g : Bool) (mm : Nat) :
 along Try.prog (bdCh sd N n b m s need g mm) [false, false, false, false, false, false, false] = (some (.int .i64 50, [(.o 0, .flat [.str sd, .int .i64 N])], bdCh_c sd N n b m s need g mm 0 ++ (bdCh_c sd N n b m s need g mm 1 ++ [(!g) = false, decide (need < (1 : Int)) = false, decide (n < need) = false, decide ((↑m : Int) < need) = false, decide (n < (↑m : Int)) = false, RLoop Try.prog none 1 (cB (cB (cR (cL (cR (cR (cR (bodyOf (Bd.f (bdCh sd N n b m s need g mm)))))))))) (mm + 1) (St.mk [.ptr (.o 0) 0 0 0 0, .int .i64 n, .str b, .any, .any, .any, .any, .any, .any, .any, .any, .int .i64 (lastS s 0), .any, .any, .any, .any, .any, .any, .any, .any, .any, .any, .any, .any, .any, .any, .any, .any, .any, .any, .any, .any, .any, .any, .any, .any, .any, .any, .any, .any, .any, .any, .ros 17 m (fun i => SSign.c (s i)) false, .int .i64 ↑m, .int .i64 0, .any, .any, .any, .any, .any, .any, .any, .any, .any, .any, .any, .any, .any, .any, .any, .any, .any, .any, .any, .any, .any, .any, .any, .any, .any, .any] [(.o 0, .flat [.str sd, .int .i64 N])] 1 []) .ret (St.mk [.any, .any, .any, .any, .any, .any, .any, .any, .any, .any, .int .i64 50, .any, .any, .any, .any, .any, .any, .any, .any, .any, .any, .any, .any, .any, .any, .any, .any, .any, .any, .any, .any, .any, .any, .any, .any, .any, .any, .any, .any, .any, .any, .any, .any, .any, .any, .any, .any, .any, .any, .any, .any, .any, .any, .any, .any, .any, .any, .any, .any, .any, .any, .any, .any, .any, .any, .any, .any, .any, .any, .any, .any] [(.o 0, .flat [.str sd, .int .i64 N])] 1 []), q sd, q N, q0, q0, q0, q n, q b, (-1 : Int) = lastS s (0 : Nat), q m, ∀ (k : Nat), k < m → SSign.c (s k) = SSign.c (s k), false = true → false = true, q (↑m : Int), q1])) : Option (V × Heap × List Prop)) := by kernel_rfl

theorem pcCh_p1111 (sd : ByteArray) (N : Int) (n : Int) (b : ByteArray) (m : Nat) (s : Nat → SSign) (k : Nat) (c : Bool) :
  alongPc Try.prog (pcCh sd N n b m s k c) [true, true, true, true] = (some (.ret, St.mk [.any, .any, .any, .any, .any, .any, .any, .any, .any, .any, .int .i64 50, .any, .any, .any, .any, .any, .any, .any, .any, .any, .any, .any, .any, .any, .any, .any, .any, .any, .any, .any, .any, .any, .any, .any, .any, .any, .any, .any, .any, .any, .any, .any, .any, .any, .any, .any, .any, .any, .any, .any, .any, .any, .any, .any, .any, .any, .any, .any, .any, .any, .any, .any, .any, .any, .any, .any, .any, .any, .any, .any, .any] [(.o 0, .flat [.str sd, .int .i64 N])] 1 [], [decide ((↑k : Int) < (↑m : Int)) = true, (0 : Int) ≤ (↑k : Int) ∧ (↑k : Int) < (↑m : Int), decide (SSign.node (s (Int.toNat (↑k : Int))) ≤ lastS s k) = true, q2, q2, q sd, q N, q (50 : Int)]) : Option (Exit × St × List Prop)) := by kernel_rfl
theorem pcCh_p1011 (sd : ByteArray) (N : Int) (n : Int) (b : ByteArray) (m : Nat) (s : Nat → SSign) (k : Nat) (c : Bool) :
  alongPc Try.prog (pcCh sd N n b m s k c) [true, false, true, true] = (some (.ret, St.mk [.any, .any, .any, .any, .any, .any, .any, .any, .any, .any, .int .i64 50, .any, .any, .any, .any, .any, .any, .any, .any, .any, .any, .any, .any, .any, .any, .any, .any, .any, .any, .any, .any, .any, .any, .any, .any, .any, .any, .any, .any, .any, .any, .any, .any, .any, .any, .any, .any, .any, .any, .any, .any, .any, .any, .any, .any, .any, .any, .any, .any, .any, .any, .any, .any, .any, .any, .any, .any, .any, .any, .any, .any] [(.o 0, .flat [.str sd, .int .i64 N])] 1 [], [decide ((↑k : Int) < (↑m : Int)) = true, (0 : Int) ≤ (↑k : Int) ∧ (↑k : Int) < (↑m : Int), decide (SSign.node (s (Int.toNat (↑k : Int))) ≤ lastS s k) = false, decide (n ≤ SSign.node (s (Int.toNat (↑k : Int)))) = true, q2, q sd, q N, q (50 : Int)]) : Option (Exit × St × List Prop)) := by kernel_rfl
theorem pcCh_p1001 (sd : ByteArray) (N : Int) (n : Int) (b : ByteArray) (m : Nat) (s : Nat → SSign) (k : Nat) (c : Bool) :
  alongPc Try.prog (pcCh sd N n b m s k c) [true, false, false, true] = (some (.ret, St.mk [.any, .any, .any, .any, .any, .any, .any, .any, .any, .any, .int .i64 50, .any, .any, .any, .any, .any, .any, .any, .any, .any, .any, .any, .any, .any, .any, .any, .any, .any, .any, .any, .any, .any, .any, .any, .any, .any, .any, .any, .any, .any, .any, .any, .any, .any, .any, .any, .any, .any, .any, .any, .any, .any, .any, .any, .any, .any, .any, .any, .any, .any, .any, .any, .any, .any, .any, .any, .any, .any, .any, .any, .any] [(.o 0, .flat [.str sd, .int .i64 N])] 1 [], [decide ((↑k : Int) < (↑m : Int)) = true, (0 : Int) ≤ (↑k : Int) ∧ (↑k : Int) < (↑m : Int), decide (SSign.node (s (Int.toNat (↑k : Int))) ≤ lastS s k) = false, decide (n ≤ SSign.node (s (Int.toNat (↑k : Int)))) = false, T Try.prog 52 [.ptr (.o 0) 0 0 0 0, .int .i64 (SSign.node (s (Int.toNat (↑k : Int)))), .str b, .agg [.seg .u8 16 (SSign.tag (s (Int.toNat (↑k : Int))))]] [(.o 0, .flat [.str sd, .int .i64 N])] (.bool c) [(.o 0, .flat [.str sd, .int .i64 N])], (!c) = true, q sd, q N, q (50 : Int)]) : Option (Exit × St × List Prop)) := by kernel_rfl
theorem pcCh_p1000 (sd : ByteArray) (N : Int) (n : Int) (b : ByteArray) (m : Nat) (s : Nat → SSign) (k : Nat) (c : Bool) :
  alongPc Try.prog (pcCh sd N n b m s k c) [true, false, false, false] = (some (.normal, St.mk [.ptr (.o 0) 0 0 0 0, .int .i64 n, .str b, .any, .any, .any, .any, .any, .any, .any, .any, .int .i64 (lastS s (k + 1)), .any, .any, .any, .any, .any, .any, .any, .any, .any, .any, .any, .any, .any, .any, .any, .any, .any, .any, .any, .any, .any, .any, .any, .any, .any, .any, .any, .any, .any, .any, .ros 17 m (fun i => SSign.c (s i)) false, .int .i64 ↑m, .int .i64 (↑(k + 1) : Int), .any, .any, .any, .any, .any, .any, .any, .any, .any, .any, .any, .any, .any, .any, .any, .any, .any, .any, .any, .any, .any, .any, .any, .any, .any, .any] [(.o 0, .flat [.str sd, .int .i64 N])] 1 [], [decide ((↑k : Int) < (↑m : Int)) = true, (0 : Int) ≤ (↑k : Int) ∧ (↑k : Int) < (↑m : Int), decide (SSign.node (s (Int.toNat (↑k : Int))) ≤ lastS s k) = false, decide (n ≤ SSign.node (s (Int.toNat (↑k : Int)))) = false, T Try.prog 52 [.ptr (.o 0) 0 0 0 0, .int .i64 (SSign.node (s (Int.toNat (↑k : Int)))), .str b, .agg [.seg .u8 16 (SSign.tag (s (Int.toNat (↑k : Int))))]] [(.o 0, .flat [.str sd, .int .i64 N])] (.bool c) [(.o 0, .flat [.str sd, .int .i64 N])], (!c) = false, InR IntKind.i64 ((↑k : Int) + (1 : Int)), q sd, q N, q0, q0, q0, q n, q b, SSign.node (s (Int.toNat (↑k : Int))) = lastS s (k + (1 : Nat)), q m, ∀ (k : Nat), k < m → SSign.c (s k) = SSign.c (s k), false = true → false = true, q (↑m : Int), (↑k : Int) + (1 : Int) = (↑(k + (1 : Nat)) : Int)]) : Option (Exit × St × List Prop)) := by kernel_rfl
theorem pcCh_p0 (sd : ByteArray) (N : Int) (n : Int) (b : ByteArray) (m : Nat) (s : Nat → SSign) (k : Nat) (c : Bool) :
  alongPc Try.prog (pcCh sd N n b m s k c) [false] = (some (.exit 1, St.mk [.ptr (.o 0) 0 0 0 0, .int .i64 n, .str b, .any, .any, .any, .any, .any, .any, .any, .any, .int .i64 (lastS s m), .any, .any, .any, .any, .any, .any, .any, .any, .any, .any, .any, .any, .any, .any, .any, .any, .any, .any, .any, .any, .any, .any, .any, .any, .any, .any, .any, .any, .any, .any, .ros 17 m (fun i => SSign.c (s i)) false, .int .i64 ↑m, .int .i64 ↑m, .any, .any, .any, .any, .any, .any, .any, .any, .any, .any, .any, .any, .any, .any, .any, .any, .any, .any, .any, .any, .any, .any, .any, .any, .any, .any] [(.o 0, .flat [.str sd, .int .i64 N])] 1 [], [decide ((↑k : Int) < (↑m : Int)) = false, q sd, q N, q0, q0, q0, q n, q b, lastS s k = lastS s m, q m, ∀ (k : Nat), k < m → SSign.c (s k) = SSign.c (s k), false = true → false = true, q (↑m : Int), (↑k : Int) = (↑m : Int)]) : Option (Exit × St × List Prop)) := by kernel_rfl

theorem bdCn_p1 (n : Int) (b : ByteArray) (m : Nat) (s : Nat → SSign) (need : Int) :
  along Try.prog (bdCn n b m s need) [true] = (some (.int .i64 1, [], [T Try.prog 51 [.pnil] [] (.int .i64 0) [], q2]) : Option (V × Heap × List Prop)) := by kernel_rfl

theorem bdRc_p111 (sd : ByteArray) (N : Int) (n : Int) (b : ByteArray) (m : Nat) (s : Nat → SSign) (need : Int) (g : Bool) (mm : Nat) :
  along Try.prog (bdRc sd N n b m s need g mm) [true, true, true] = (some (.int .i64 2, [], [T Try.prog 13 [.int .i64 n] [] (.bool g) [], (!g) = true, q2, q2]) : Option (V × Heap × List Prop)) := by kernel_rfl
theorem bdRc_p011 (sd : ByteArray) (N : Int) (n : Int) (b : ByteArray) (m : Nat) (s : Nat → SSign) (need : Int) (g : Bool) (mm : Nat) :
  along Try.prog (bdRc sd N n b m s need g mm) [false, true, true] = (some (.int .i64 2, [], [T Try.prog 13 [.int .i64 n] [] (.bool g) [], (!g) = false, decide (need < (1 : Int)) = true, q2]) : Option (V × Heap × List Prop)) := by kernel_rfl
theorem bdRc_p001 (sd : ByteArray) (N : Int) (n : Int) (b : ByteArray) (m : Nat) (s : Nat → SSign) (need : Int) (g : Bool) (mm : Nat) :
  along Try.prog (bdRc sd N n b m s need g mm) [false, false, true] = (some (.int .i64 2, [], [T Try.prog 13 [.int .i64 n] [] (.bool g) [], (!g) = false, decide (need < (1 : Int)) = false, decide (n < need) = true]) : Option (V × Heap × List Prop)) := by kernel_rfl
theorem bdRc_p00011 (sd : ByteArray) (N : Int) (n : Int) (b : ByteArray) (m : Nat) (s : Nat → SSign) (need : Int) (g : Bool) (mm : Nat) :
  along Try.prog (bdRc sd N n b m s need g mm) [false, false, false, true, true] = (some (.int .i64 50, [], [T Try.prog 13 [.int .i64 n] [] (.bool g) [], (!g) = false, decide (need < (1 : Int)) = false, decide (n < need) = false, decide ((↑m : Int) < need) = true, q2]) : Option (V × Heap × List Prop)) := by kernel_rfl
theorem bdRc_p00001 (sd : ByteArray) (N : Int) (n : Int) (b : ByteArray) (m : Nat) (s : Nat → SSign) (need : Int) (g : Bool) (mm : Nat) :
  along Try.prog (bdRc sd N n b m s need g mm) [false, false, false, false, true] = (some (.int .i64 50, [], [T Try.prog 13 [.int .i64 n] [] (.bool g) [], (!g) = false, decide (need < (1 : Int)) = false, decide (n < need) = false, decide ((↑m : Int) < need) = false, decide (n < (↑m : Int)) = true]) : Option (V × Heap × List Prop)) := by kernel_rfl
theorem bdRc_p000001 (sd : ByteArray) (N : Int) (n : Int) (b : ByteArray) (m : Nat) (s : Nat → SSign) (need : Int) (g : Bool) (mm : Nat) :
  along Try.prog (bdRc sd N n b m s need g mm) [false, false, false, false, false, true] = (some (.int .i64 0, [], [T Try.prog 13 [.int .i64 n] [] (.bool g) [], (!g) = false, decide (need < (1 : Int)) = false, decide (n < need) = false, decide ((↑m : Int) < need) = false, decide (n < (↑m : Int)) = false, RLoop Try.prog none 0 (cB (cB (cR (cL (cR (cR (cR (bodyOf (Bd.f (bdRc sd N n b m s need g mm)))))))))) (m + 1) (St.mk [.any, .int .i64 n, .str b, .ros 17 m (fun i => SSign.c (s i)) false, .any, .ptr (.o 0) 0 0 0 0, .any, .any, .any, .any, .any, .int .i64 0, .any, .any, .any, .any, .any, .any, .any, .any, .any, .any, .any, .any, .any, .any, .any, .any, .any, .any, .any, .any, .any, .any, .any, .any, .any, .any, .any, .any, .any, .any, .any, .any, .any, .any, .any, .any, .any, .any, .any, .any, .any, .any, .any, .any, .any, .any, .any, .any, .any, .any, .any, .any, .any, .any, .any, .any, .any, .any, .any, .any, .any, .any, .any, .any, .any, .any, .any, .any, .any, .any, .any, .any, .any, .any, .any, .any, .any] [(.o 0, .flat [.str sd, .int .i64 N])] 1 []) (.exit 0) (St.mk [.any, .int .i64 n, .str b, .ros 17 m (fun i => SSign.c (s i)) false, .any, .ptr (.o 0) 0 0 0 0, .any, .any, .any, .any, .any, .int .i64 ↑m, .any, .any, .any, .any, .any, .any, .any, .any, .any, .any, .any, .any, .any, .any, .any, .any, .any, .any, .any, .any, .any, .any, .any, .any, .any, .any, .any, .any, .any, .any, .any, .any, .any, .any, .any, .any, .any, .any, .any, .any, .any, .any, .any, .any, .any, .any, .any, .any, .any, .any, .any, .any, .any, .any, .any, .any, .any, .any, .any, .any, .any, .any, .any, .any, .any, .any, .any, .any, .any, .any, .any, .any, .any, .any, .any, .any, .any] [(.o 0, .flat [.str sd, .int .i64 N])] 1 []), q sd, q N, q n, q b, q m, ∀ (k : Nat), k < m → SSign.c (s k) = SSign.c (s k), false = true → false = true, q0, q0, q0, q1]) : Option (V × Heap × List Prop)) := by kernel_rfl
theorem bdRc_p000000 (sd : ByteArray) (N : Int) (n : Int) (b : ByteArray) (m : Nat) (s : Nat → SSign) (need : Int) (g : Bool) (mm : Nat) :
  along Try.prog (bdRc sd N n b m s need g mm) [false, false, false, false, false, false] = (some (.int .i64 50, [], [T Try.prog 13 [.int .i64 n] [] (.bool g) [], (!g) = false, decide (need < (1 : Int)) = false, decide (n < need) = false, decide ((↑m : Int) < need) = false, decide (n < (↑m : Int)) = false, RLoop Try.prog none 0 (cB (cB (cR (cL (cR (cR (cR (bodyOf (Bd.f (bdRc sd N n b m s need g mm)))))))))) (mm + 1) (St.mk [.any, .int .i64 n, .str b, .ros 17 m (fun i => SSign.c (s i)) false, .any, .ptr (.o 0) 0 0 0 0, .any, .any, .any, .any, .any, .int .i64 0, .any, .any, .any, .any, .any, .any, .any, .any, .any, .any, .any, .any, .any, .any, .any, .any, .any, .any, .any, .any, .any, .any, .any, .any, .any, .any, .any, .any, .any, .any, .any, .any, .any, .any, .any, .any, .any, .any, .any, .any, .any, .any, .any, .any, .any, .any, .any, .any, .any, .any, .any, .any, .any, .any, .any, .any, .any, .any, .any, .any, .any, .any, .any, .any, .any, .any, .any, .any, .any, .any, .any, .any, .any, .any, .any, .any, .any] [(.o 0, .flat [.str sd, .int .i64 N])] 1 []) .ret (St.mk [.any, .any, .any, .any, .any, .any, .any, .any, .any, .any, .int .i64 50, .any, .any, .any, .any, .any, .any, .any, .any, .any, .any, .any, .any, .any, .any, .any, .any, .any, .any, .any, .any, .any, .any, .any, .any, .any, .any, .any, .any, .any, .any, .any, .any, .any, .any, .any, .any, .any, .any, .any, .any, .any, .any, .any, .any, .any, .any, .any, .any, .any, .any, .any, .any, .any, .any, .any, .any, .any, .any, .any, .any, .any, .any, .any, .any, .any, .any, .any, .any, .any, .any, .any, .any, .any, .any, .any, .any, .any, .any] [(.o 0, .flat [.str sd, .int .i64 N])] 1 []), q sd, q N, q n, q b, q m, ∀ (k : Nat), k < m → SSign.c (s k) = SSign.c (s k), false = true → false = true, q0, q0, q0, q1]) : Option (V × Heap × List Prop)) := by kernel_rfl

noncomputable def pcRc_c (sd : ByteArray) (N : Int) (n : Int) (b : ByteArray) (m : Nat) (s : Nat → SSign) (k : Nat) (c : Bool) : Nat → List Prop
 | 0 => [decide ((↑k : Int) < (↑m : Int)) = true, (0 : Int) ≤ (↑k : Int) ∧ (↑k : Int) < (↑m : Int)]
 | 1 => [decide (SSign.node (s (Int.toNat (↑k : Int))) < (0 : Int)) = false, (0 : Int) ≤ (↑k : Int) ∧ (↑k : Int) < (↑m : Int)]
 | 2 => [decide ((0 : Int) < (↑k : Int)) = true, (0 : Int) ≤ (↑k : Int) ∧ (↑k : Int) < (↑m : Int), InR IntKind.i64 ((↑k : Int) - (1 : Int)), (0 : Int) ≤ (↑k : Int) - (1 : Int) ∧ (↑k : Int) - (1 : Int) < (↑m : Int)]
 | 3 => [decide (SSign.node (s (Int.toNat (↑k : Int))) ≤ SSign.node (s (Int.toNat ((↑k : Int) - (1 : Int))))) = false, (0 : Int) ≤ (↑k : Int) ∧ (↑k : Int) < (↑m : Int), (0 : Int) ≤ (↑k : Int) ∧ (↑k : Int) < (↑m : Int), T Try.prog 53 [.agg [.str sd, .int .i64 N], .int .i64 (SSign.node (s (Int.toNat (↑k : Int)))), .str b, .agg [.seg .u8 16 (SSign.tag (s (Int.toNat (↑k : Int))))]] [] (.bool c) []]
 | 4 => [decide ((0 : Int) < (↑k : Int)) = false, q false, (0 : Int) ≤ (↑k : Int) ∧ (↑k : Int) < (↑m : Int), (0 : Int) ≤ (↑k : Int) ∧ (↑k : Int) < (↑m : Int), T Try.prog 53 [.agg [.str sd, .int .i64 N], .int .i64 (SSign.node (s (Int.toNat (↑k : Int)))), .str b, .agg [.seg .u8 16 (SSign.tag (s (Int.toNat (↑k : Int))))]] [] (.bool c) []]
 | _ => []
theorem pcRc_p11111 (sd : ByteArray) (N : Int) (n : Int) (b : ByteArray) (m : Nat) (s : Nat → SSign) (k : Nat) (c : Bool) :
 alongPc Try.prog (pcRc sd N n b m s k c) [true, true, true, true, true] = (some (.ret, St.mk [.any, .any, .any, .any, .any, .any, .any, .any, .any, .any, .int .i64 50, .any, .any, .any, .any, .any, .any, .any, .any, .any, .any, .any, .any, .any, .any, .any, .any, .any, .any, .any, .any, .any, .any, .any, .any, .any, .any, .any, .any, .any, .any, .any, .any, .any, .any, .any, .any, .any, .any, .any, .any, .any, .any, .any, .any, .any, .any, .any, .any, .any, .any, .any, .any, .any, .any, .any, .any, .any, .any, .any, .any, .any, .any, .any, .any, .any, .any, .any, .any, .any, .any, .any, .any, .any, .any, .any, .any, .any, .any] [(.o 0, .flat [.str sd, .int .i64 N])] 1 [], pcRc_c sd N n b m s k c 0 ++ [decide (SSign.node (s (Int.toNat (↑k : Int))) < (0 : Int)) = true, q2, q2, q2, q sd, q N, q (50 : Int)]) : Option (Exit × St × List Prop)) := by kernel_rfl
theorem pcRc_p10111 (sd : ByteArray) (N : Int) (n : Int) (b : ByteArray) (m : Nat) (s : Nat → SSign) (k : Nat) (c : Bool) :
 alongPc Try.prog (pcRc sd N n b m s k c) [true, false, true, true, true] = (some (.ret, St.mk [.any, .any, .any, .any, .any, .any, .any, .any, .any, .any, .int .i64 50, .any, .any, .any, .any, .any, .any, .any, .any, .any, .any, .any, .any, .any, .any, .any, .any, .any, .any, .any, .any, .any, .any, .any, .any, .any, .any, .any, .any, .any, .any, .any, .any, .any, .any, .any, .any, .any, .any, .any, .any, .any, .any, .any, .any, .any, .any, .any, .any, .any, .any, .any, .any, .any, .any, .any, .any, .any, .any, .any, .any, .any, .any, .any, .any, .any, .any, .any, .any, .any, .any, .any, .any, .any, .any, .any, .any, .any, .any] [(.o 0, .flat [.str sd, .int .i64 N])] 1 [], pcRc_c sd N n b m s k c 0 ++ (pcRc_c sd N n b m s k c 1 ++ [decide (n ≤ SSign.node (s (Int.toNat (↑k : Int)))) = true, q2, q2, q sd, q N, q (50 : Int)])) : Option (Exit × St × List Prop)) := by kernel_rfl
theorem pcRc_p100111 (sd : ByteArray) (N : Int) (n : Int) (b : ByteArray) (m : Nat) (s : Nat → SSign) (k : Nat) (c : Bool) :
 alongPc Try.prog (pcRc sd N n b m s k c) [true, false, false, true, true, true] = (some (.ret, St.mk [.any, .any, .any, .any, .any, .any, .any, .any, .any, .any, .int .i64 50, .any, .any, .any, .any, .any, .any, .any, .any, .any, .any, .any, .any, .any, .any, .any, .any, .any, .any, .any, .any, .any, .any, .any, .any, .any, .any, .any, .any, .any, .any, .any, .any, .any, .any, .any, .any, .any, .any, .any, .any, .any, .any, .any, .any, .any, .any, .any, .any, .any, .any, .any, .any, .any, .any, .any, .any, .any, .any, .any, .any, .any, .any, .any, .any, .any, .any, .any, .any, .any, .any, .any, .any, .any, .any, .any, .any, .any, .any] [(.o 0, .flat [.str sd, .int .i64 N])] 1 [], pcRc_c sd N n b m s k c 0 ++ (pcRc_c sd N n b m s k c 1 ++ ([decide (n ≤ SSign.node (s (Int.toNat (↑k : Int)))) = false] ++ (pcRc_c sd N n b m s k c 2 ++ [decide (SSign.node (s (Int.toNat (↑k : Int))) ≤ SSign.node (s (Int.toNat ((↑k : Int) - (1 : Int))))) = true, q2, q sd, q N, q (50 : Int)])))) : Option (Exit × St × List Prop)) := by kernel_rfl
theorem pcRc_p100101 (sd : ByteArray) (N : Int) (n : Int) (b : ByteArray) (m : Nat) (s : Nat → SSign) (k : Nat) (c : Bool) :
 alongPc Try.prog (pcRc sd N n b m s k c) [true, false, false, true, false, true] = (some (.ret, St.mk [.any, .any, .any, .any, .any, .any, .any, .any, .any, .any, .int .i64 50, .any, .any, .any, .any, .any, .any, .any, .any, .any, .any, .any, .any, .any, .any, .any, .any, .any, .any, .any, .any, .any, .any, .any, .any, .any, .any, .any, .any, .any, .any, .any, .any, .any, .any, .any, .any, .any, .any, .any, .any, .any, .any, .any, .any, .any, .any, .any, .any, .any, .any, .any, .any, .any, .any, .any, .any, .any, .any, .any, .any, .any, .any, .any, .any, .any, .any, .any, .any, .any, .any, .any, .any, .any, .any, .any, .any, .any, .any] [(.o 0, .flat [.str sd, .int .i64 N])] 1 [], pcRc_c sd N n b m s k c 0 ++ (pcRc_c sd N n b m s k c 1 ++ ([decide (n ≤ SSign.node (s (Int.toNat (↑k : Int)))) = false] ++ (pcRc_c sd N n b m s k c 2 ++ (pcRc_c sd N n b m s k c 3 ++ [(!c) = true, q sd, q N, q (50 : Int)]))))) : Option (Exit × St × List Prop)) := by kernel_rfl
theorem pcRc_p100100 (sd : ByteArray) (N : Int) (n : Int) (b : ByteArray) (m : Nat) (s : Nat → SSign) (k : Nat) (c : Bool) :
 alongPc Try.prog (pcRc sd N n b m s k c) [true, false, false, true, false, false] = (some (.normal, St.mk [.any, .int .i64 n, .str b, .ros 17 m (fun i => SSign.c (s i)) false, .any, .ptr (.o 0) 0 0 0 0, .any, .any, .any, .any, .any, .int .i64 (↑(k + 1) : Int), .any, .any, .any, .any, .any, .any, .any, .any, .any, .any, .any, .any, .any, .any, .any, .any, .any, .any, .any, .any, .any, .any, .any, .any, .any, .any, .any, .any, .any, .any, .any, .any, .any, .any, .any, .any, .any, .any, .any, .any, .any, .any, .any, .any, .any, .any, .any, .any, .any, .any, .any, .any, .any, .any, .any, .any, .any, .any, .any, .any, .any, .any, .any, .any, .any, .any, .any, .any, .any, .any, .any, .any, .any, .any, .any, .any, .any] [(.o 0, .flat [.str sd, .int .i64 N])] 1 [], pcRc_c sd N n b m s k c 0 ++ (pcRc_c sd N n b m s k c 1 ++ ([decide (n ≤ SSign.node (s (Int.toNat (↑k : Int)))) = false] ++ (pcRc_c sd N n b m s k c 2 ++ (pcRc_c sd N n b m s k c 3 ++ [(!c) = false, InR IntKind.i64 ((↑k : Int) + (1 : Int)), q sd, q N, q n, q b, q m, ∀ (k : Nat), k < m → SSign.c (s k) = SSign.c (s k), false = true → false = true, q0, q0, q0, (↑k : Int) + (1 : Int) = (↑(k + (1 : Nat)) : Int)]))))) : Option (Exit × St × List Prop)) := by kernel_rfl
theorem pcRc_p100001 (sd : ByteArray) (N : Int) (n : Int) (b : ByteArray) (m : Nat) (s : Nat → SSign) (k : Nat) (c : Bool) :
 alongPc Try.prog (pcRc sd N n b m s k c) [true, false, false, false, false, true] = (some (.ret, St.mk [.any, .any, .any, .any, .any, .any, .any, .any, .any, .any, .int .i64 50, .any, .any, .any, .any, .any, .any, .any, .any, .any, .any, .any, .any, .any, .any, .any, .any, .any, .any, .any, .any, .any, .any, .any, .any, .any, .any, .any, .any, .any, .any, .any, .any, .any, .any, .any, .any, .any, .any, .any, .any, .any, .any, .any, .any, .any, .any, .any, .any, .any, .any, .any, .any, .any, .any, .any, .any, .any, .any, .any, .any, .any, .any, .any, .any, .any, .any, .any, .any, .any, .any, .any, .any, .any, .any, .any, .any, .any, .any] [(.o 0, .flat [.str sd, .int .i64 N])] 1 [], pcRc_c sd N n b m s k c 0 ++ (pcRc_c sd N n b m s k c 1 ++ ([decide (n ≤ SSign.node (s (Int.toNat (↑k : Int)))) = false] ++ (pcRc_c sd N n b m s k c 4 ++ [(!c) = true, q sd, q N, q (50 : Int)])))) : Option (Exit × St × List Prop)) := by kernel_rfl
theorem pcRc_p100000 (sd : ByteArray) (N : Int) (n : Int) (b : ByteArray) (m : Nat) (s : Nat → SSign) (k : Nat) (c : Bool) :
 alongPc Try.prog (pcRc sd N n b m s k c) [true, false, false, false, false, false] = (some (.normal, St.mk [.any, .int .i64 n, .str b, .ros 17 m (fun i => SSign.c (s i)) false, .any, .ptr (.o 0) 0 0 0 0, .any, .any, .any, .any, .any, .int .i64 (↑(k + 1) : Int), .any, .any, .any, .any, .any, .any, .any, .any, .any, .any, .any, .any, .any, .any, .any, .any, .any, .any, .any, .any, .any, .any, .any, .any, .any, .any, .any, .any, .any, .any, .any, .any, .any, .any, .any, .any, .any, .any, .any, .any, .any, .any, .any, .any, .any, .any, .any, .any, .any, .any, .any, .any, .any, .any, .any, .any, .any, .any, .any, .any, .any, .any, .any, .any, .any, .any, .any, .any, .any, .any, .any, .any, .any, .any, .any, .any, .any] [(.o 0, .flat [.str sd, .int .i64 N])] 1 [], pcRc_c sd N n b m s k c 0 ++ (pcRc_c sd N n b m s k c 1 ++ ([decide (n ≤ SSign.node (s (Int.toNat (↑k : Int)))) = false] ++ (pcRc_c sd N n b m s k c 4 ++ [(!c) = false, InR IntKind.i64 ((↑k : Int) + (1 : Int)), q sd, q N, q n, q b, q m, ∀ (k : Nat), k < m → SSign.c (s k) = SSign.c (s k), false = true → false = true, q0, q0, q0, (↑k : Int) + (1 : Int) = (↑(k + (1 : Nat)) : Int)])))) : Option (Exit × St × List Prop)) := by kernel_rfl
theorem pcRc_p0 (sd : ByteArray) (N : Int) (n : Int) (b : ByteArray) (m : Nat) (s : Nat → SSign) (k : Nat) (c : Bool) :
 alongPc Try.prog (pcRc sd N n b m s k c) [false] = (some (.exit 0, St.mk [.any, .int .i64 n, .str b, .ros 17 m (fun i => SSign.c (s i)) false, .any, .ptr (.o 0) 0 0 0 0, .any, .any, .any, .any, .any, .int .i64 ↑m, .any, .any, .any, .any, .any, .any, .any, .any, .any, .any, .any, .any, .any, .any, .any, .any, .any, .any, .any, .any, .any, .any, .any, .any, .any, .any, .any, .any, .any, .any, .any, .any, .any, .any, .any, .any, .any, .any, .any, .any, .any, .any, .any, .any, .any, .any, .any, .any, .any, .any, .any, .any, .any, .any, .any, .any, .any, .any, .any, .any, .any, .any, .any, .any, .any, .any, .any, .any, .any, .any, .any, .any, .any, .any, .any, .any, .any] [(.o 0, .flat [.str sd, .int .i64 N])] 1 [], [decide ((↑k : Int) < (↑m : Int)) = false, q sd, q N, q n, q b, q m, ∀ (k : Nat), k < m → SSign.c (s k) = SSign.c (s k), false = true → false = true, q0, q0, q0, (↑k : Int) = (↑m : Int)]) : Option (Exit × St × List Prop)) := by kernel_rfl

def okB (sd : ByteArray) (N n : Int) (b : ByteArray) (s : Nat → SSign) (k : Nat) : Bool := !decide ((s k).node ≤ lastS s k) && (decide ((s k).node < n) && chkB sd N (s k).node b (s k).tag)
def okA (sd : ByteArray) (N n : Int) (b : ByteArray) (s : Nat → SSign) (m : Nat) : Bool := (List.range m).all (okB sd N n b s)
theorem okA_true {sd : ByteArray} {N n : Int} {b : ByteArray} {s : Nat → SSign} {m : Nat} (h : ∀ k, k < m → okB sd N n b s k = true) : okA sd N n b s m = true := by
 rw [okA, List.all_eq_true]; intro k hk; exact h k (List.mem_range.1 hk)
theorem okA_false {sd : ByteArray} {N n : Int} {b : ByteArray} {s : Nat → SSign} {m k : Nat} (hk : k < m) (h : ¬ okB sd N n b s k = true) : okA sd N n b s m = false := by
 rw [okA, List.all_eq_false]; exact ⟨k, List.mem_range.2 hk, h⟩
theorem chLoop {sd : ByteArray} (hs : sd.size ≤ 1000) {N n : Int} (hN : N ≠ 0) (hn : n ≤ 64) {b : ByteArray} (hb : b.size ≤ 1000000000) {m : Nat} (hm : m ≤ 1000000) (s : Nat → SSign) :
  (okA sd N n b s m = true ∧ RLoop Try.prog none 1 (cB (cB (cR (cL (cR (cR (cR (bodyOf Try.f41)))))))) (m + 1) (chI sd N n b m s 0) (.exit 1) (chI sd N n b m s m)) ∨
  (okA sd N n b s m = false ∧ ∃ mm, RLoop Try.prog none 1 (cB (cB (cR (cL (cR (cR (cR (bodyOf Try.f41)))))))) (mm + 1) (chI sd N n b m s 0) .ret (chR sd N)) := by
 rcases loop_all (P := Try.prog) (ro := none) (p := 1) (c := cB (cB (cR (cL (cR (cR (cR (bodyOf Try.f41)))))))) (I := chI sd N n b m s) (F := fun _ => chR sd N) (e := fun _ => .ret) (q := fun k => okB sd N n b s k = true) (n := m)
   (fun k hk hq => by
    simp only [okB, Bool.and_eq_true, Bool.not_eq_true', decide_eq_false_iff_not, decide_eq_true_eq] at hq
    obtain ⟨h1, h2, h3⟩ := hq
    have hT := T_ck hs hN (id := (s k).node) (by omega) hb (s k).tag
    rw [h3] at hT
    refine R_alongPc NG MO _ (pcCh_p1000 sd N n b m s k true) ?_ (by show 1 ≤ 1; decide)
    simp only [All, All_append, bdCh_c, pcRc_c, Int.toNat_natCast]; and_intros
    all_goals first
     | exact True.intro
     | exact hT
     | exact (rfl : (s k).node = lastS s (k + 1))
     | (with_reducible assumption)
     | (rw [decide_eq_true_eq]; omega)
     | (rw [decide_eq_false_iff_not]; omega)
     | with_reducible rfl
     | (intro _ _; exact True.intro)
     | (intro _ _; with_reducible rfl)
     | (intro _ _; rfl)
     | (simp only [IntKind.min, IntKind.max, IntKind.signed, IntKind.bits, if_true]; omega)
     | omega
     | (intro h; exact h)
     | (intro h; cases h; done)
     | exact .inl rfl
     | exact .inl True.intro
     | exact .inr rfl
     | (simp; done)
)
   (fun k hk hq => by
    by_cases h1 : (s k).node ≤ lastS s k
    ·refine R_alongPc NG MO _ (pcCh_p1111 sd N n b m s k true) ?_ (by show 1 ≤ 1; decide)
     simp only [All, All_append, bdCh_c, pcRc_c, Int.toNat_natCast]; and_intros
     all_goals first
      | exact True.intro
      | exact decide_eq_true h1
      | (with_reducible assumption)
      | (rw [decide_eq_true_eq]; omega)
      | (rw [decide_eq_false_iff_not]; omega)
      | with_reducible rfl
      | (intro _ _; exact True.intro)
      | (intro _ _; with_reducible rfl)
      | (intro _ _; rfl)
      | (simp only [IntKind.min, IntKind.max, IntKind.signed, IntKind.bits, if_true]; omega)
      | omega
      | (intro h; exact h)
      | (intro h; cases h; done)
      | exact .inl rfl
      | exact .inl True.intro
      | exact .inr rfl
      | (simp; done)
    ·by_cases h2 : n ≤ (s k).node
     ·refine R_alongPc NG MO _ (pcCh_p1011 sd N n b m s k true) ?_ (by show 1 ≤ 1; decide)
      simp only [All, All_append, bdCh_c, pcRc_c, Int.toNat_natCast]; and_intros
      all_goals first
       | exact True.intro
       | exact decide_eq_false h1
       | (with_reducible assumption)
       | (rw [decide_eq_true_eq]; omega)
       | (rw [decide_eq_false_iff_not]; omega)
       | with_reducible rfl
       | (intro _ _; exact True.intro)
       | (intro _ _; with_reducible rfl)
       | (intro _ _; rfl)
       | (simp only [IntKind.min, IntKind.max, IntKind.signed, IntKind.bits, if_true]; omega)
       | omega
       | (intro h; exact h)
       | (intro h; cases h; done)
       | exact .inl rfl
       | exact .inl True.intro
       | exact .inr rfl
       | (simp; done)
     ·have hT := T_ck hs hN (id := (s k).node) (by omega) hb (s k).tag
      have h3 : chkB sd N (s k).node b (s k).tag = false := by
       cases hc : chkB sd N (s k).node b (s k).tag with
       | false => rfl
       | true => exact (hq (by rw [okB, hc, decide_eq_false h1, decide_eq_true (by omega)]; rfl)).elim
      rw [h3] at hT
      refine R_alongPc NG MO _ (pcCh_p1001 sd N n b m s k false) ?_ (by show 1 ≤ 1; decide)
      simp only [All, All_append, bdCh_c, pcRc_c, Int.toNat_natCast]; and_intros
      all_goals first
       | exact True.intro
       | exact hT
       | exact decide_eq_false h1
       | (with_reducible assumption)
       | (rw [decide_eq_true_eq]; omega)
       | (rw [decide_eq_false_iff_not]; omega)
       | with_reducible rfl
       | (intro _ _; exact True.intro)
       | (intro _ _; with_reducible rfl)
       | (intro _ _; rfl)
       | (simp only [IntKind.min, IntKind.max, IntKind.signed, IntKind.bits, if_true]; omega)
       | omega
       | (intro h; exact h)
       | (intro h; cases h; done)
       | exact .inl rfl
       | exact .inl True.intro
       | exact .inr rfl
       | (simp; done)
)
   (by simp) (R_alongPc NG MO _ (pcCh_p0 sd N n b m s m true) (by
    simp only [All, All_append, bdCh_c, pcRc_c]; and_intros
    all_goals first
     | exact True.intro
     | (with_reducible assumption)
     | (rw [decide_eq_true_eq]; omega)
     | (rw [decide_eq_false_iff_not]; omega)
     | with_reducible rfl
     | (intro _ _; exact True.intro)
     | (intro _ _; with_reducible rfl)
     | (intro _ _; rfl)
     | (simp only [IntKind.min, IntKind.max, IntKind.signed, IntKind.bits, if_true]; omega)
     | omega
     | (intro h; exact h)
     | (intro h; cases h; done)
     | exact .inl rfl
     | exact .inl True.intro
     | exact .inr rfl
     | (simp; done)
) (by show 1 ≤ 1; decide)) (by simp) with ⟨h, hL⟩ | ⟨mm, hmm, _, hq, hL⟩
 ·exact .inl ⟨okA_true h, hL⟩
 ·exact .inr ⟨okA_false hmm hq, mm, hL⟩
theorem rcLoop {sd : ByteArray} (hs : sd.size ≤ 1000) {N n : Int} (hn : n ≤ 64) {b : ByteArray} (hb : b.size ≤ 1000000000) {m : Nat} (hm : m ≤ 1000000) (s : Nat → SSign) :
  (okA sd N n b s m = true ∧ RLoop Try.prog none 0 (cB (cB (cR (cL (cR (cR (cR (bodyOf Try.f42)))))))) (m + 1) (rcI sd N n b m s 0) (.exit 0) (rcI sd N n b m s m)) ∨
  (okA sd N n b s m = false ∧ ∃ mm, RLoop Try.prog none 0 (cB (cB (cR (cL (cR (cR (cR (bodyOf Try.f42)))))))) (mm + 1) (rcI sd N n b m s 0) .ret (rcR sd N)) := by
 have hl : ∀ k, 0 < k → lastS s k = (s (Int.toNat ((k : Int) - 1))).node := by
  intro k hk
  obtain ⟨j, rfl⟩ : ∃ j, k = j + 1 := ⟨k - 1, by omega⟩
  rw [show Int.toNat (((j + 1 : Nat) : Int) - 1) = j by omega]; rfl
 rcases loop_all (P := Try.prog) (ro := none) (p := 0) (c := cB (cB (cR (cL (cR (cR (cR (bodyOf Try.f42)))))))) (I := rcI sd N n b m s) (F := fun _ => rcR sd N) (e := fun _ => .ret) (q := fun k => okB sd N n b s k = true) (n := m)
   (fun k hk hq => by
    simp only [okB, Bool.and_eq_true, Bool.not_eq_true', decide_eq_false_iff_not, decide_eq_true_eq] at hq
    obtain ⟨h1, h2, h3⟩ := hq
    have hT := T_rk hs (n := N) (id := (s k).node) (by omega) hb (s k).tag
    have h0 : 0 ≤ (s k).node := by
     rw [chkB, Bool.and_eq_true, decide_eq_true_eq] at h3; exact h3.1.1
    rw [h3] at hT
    by_cases hk0 : 0 < k
    ·have e := hl k hk0
     rw [e] at h1
     refine R_alongPc NG MO _ (pcRc_p100100 sd N n b m s k true) ?_ (by show 0 ≤ 1; decide)
     simp only [All, All_append, bdCh_c, pcRc_c, Int.toNat_natCast]; and_intros
     all_goals first
      | exact True.intro
      | exact hT
      | exact decide_eq_false h1
      | (with_reducible assumption)
      | (rw [decide_eq_true_eq]; omega)
      | (rw [decide_eq_false_iff_not]; omega)
      | with_reducible rfl
      | (intro _ _; exact True.intro)
      | (intro _ _; with_reducible rfl)
      | (intro _ _; rfl)
      | (simp only [IntKind.min, IntKind.max, IntKind.signed, IntKind.bits, if_true]; omega)
      | omega
      | (intro h; exact h)
      | (intro h; cases h; done)
      | exact .inl rfl
      | exact .inl True.intro
      | exact .inr rfl
      | (simp; done)
    ·refine R_alongPc NG MO _ (pcRc_p100000 sd N n b m s k true) ?_ (by show 0 ≤ 1; decide)
     simp only [All, All_append, bdCh_c, pcRc_c, Int.toNat_natCast]; and_intros
     all_goals first
      | exact True.intro
      | exact hT
      | (with_reducible assumption)
      | (rw [decide_eq_true_eq]; omega)
      | (rw [decide_eq_false_iff_not]; omega)
      | with_reducible rfl
      | (intro _ _; exact True.intro)
      | (intro _ _; with_reducible rfl)
      | (intro _ _; rfl)
      | (simp only [IntKind.min, IntKind.max, IntKind.signed, IntKind.bits, if_true]; omega)
      | omega
      | (intro h; exact h)
      | (intro h; cases h; done)
      | exact .inl rfl
      | exact .inl True.intro
      | exact .inr rfl
      | (simp; done)
)
   (fun k hk hq => by
    by_cases h0 : (s k).node < 0
    ·refine R_alongPc NG MO _ (pcRc_p11111 sd N n b m s k true) ?_ (by show 0 ≤ 1; decide)
     simp only [All, All_append, bdCh_c, pcRc_c, Int.toNat_natCast]; and_intros
     all_goals first
      | exact True.intro
      | exact decide_eq_true h0
      | (with_reducible assumption)
      | (rw [decide_eq_true_eq]; omega)
      | (rw [decide_eq_false_iff_not]; omega)
      | with_reducible rfl
      | (intro _ _; exact True.intro)
      | (intro _ _; with_reducible rfl)
      | (intro _ _; rfl)
      | (simp only [IntKind.min, IntKind.max, IntKind.signed, IntKind.bits, if_true]; omega)
      | omega
      | (intro h; exact h)
      | (intro h; cases h; done)
      | exact .inl rfl
      | exact .inl True.intro
      | exact .inr rfl
      | (simp; done)
    ·by_cases h2 : n ≤ (s k).node
     ·refine R_alongPc NG MO _ (pcRc_p10111 sd N n b m s k true) ?_ (by show 0 ≤ 1; decide)
      simp only [All, All_append, bdCh_c, pcRc_c, Int.toNat_natCast]; and_intros
      all_goals first
       | exact True.intro
       | exact decide_eq_false h0
       | (with_reducible assumption)
       | (rw [decide_eq_true_eq]; omega)
       | (rw [decide_eq_false_iff_not]; omega)
       | with_reducible rfl
       | (intro _ _; exact True.intro)
       | (intro _ _; with_reducible rfl)
       | (intro _ _; rfl)
       | (simp only [IntKind.min, IntKind.max, IntKind.signed, IntKind.bits, if_true]; omega)
       | omega
       | (intro h; exact h)
       | (intro h; cases h; done)
       | exact .inl rfl
       | exact .inl True.intro
       | exact .inr rfl
       | (simp; done)
     ·have hT := T_rk hs (n := N) (id := (s k).node) (by omega) hb (s k).tag
      by_cases hk0 : 0 < k
      ·have e := hl k hk0
       by_cases h1 : (s k).node ≤ (s (Int.toNat ((k : Int) - 1))).node
       ·refine R_alongPc NG MO _ (pcRc_p100111 sd N n b m s k true) ?_ (by show 0 ≤ 1; decide)
        simp only [All, All_append, bdCh_c, pcRc_c, Int.toNat_natCast]; and_intros
        all_goals first
         | exact True.intro
         | exact decide_eq_false h0
         | exact decide_eq_true h1
         | (with_reducible assumption)
         | (rw [decide_eq_true_eq]; omega)
         | (rw [decide_eq_false_iff_not]; omega)
         | with_reducible rfl
         | (intro _ _; exact True.intro)
         | (intro _ _; with_reducible rfl)
         | (intro _ _; rfl)
         | (simp only [IntKind.min, IntKind.max, IntKind.signed, IntKind.bits, if_true]; omega)
         | omega
         | (intro h; exact h)
         | (intro h; cases h; done)
         | exact .inl rfl
         | exact .inl True.intro
         | exact .inr rfl
         | (simp; done)
       ·have h3 : chkB sd N (s k).node b (s k).tag = false := by
         cases hc : chkB sd N (s k).node b (s k).tag with
         | false => rfl
         | true => exact (hq (by rw [okB, hc, decide_eq_false (by rw [e]; exact h1), decide_eq_true (by omega)]; rfl)).elim
        rw [h3] at hT
        refine R_alongPc NG MO _ (pcRc_p100101 sd N n b m s k false) ?_ (by show 0 ≤ 1; decide)
        simp only [All, All_append, bdCh_c, pcRc_c, Int.toNat_natCast]; and_intros
        all_goals first
         | exact True.intro
         | exact hT
         | exact decide_eq_false h0
         | exact decide_eq_false h1
         | (with_reducible assumption)
         | (rw [decide_eq_true_eq]; omega)
         | (rw [decide_eq_false_iff_not]; omega)
         | with_reducible rfl
         | (intro _ _; exact True.intro)
         | (intro _ _; with_reducible rfl)
         | (intro _ _; rfl)
         | (simp only [IntKind.min, IntKind.max, IntKind.signed, IntKind.bits, if_true]; omega)
         | omega
         | (intro h; exact h)
         | (intro h; cases h; done)
         | exact .inl rfl
         | exact .inl True.intro
         | exact .inr rfl
         | (simp; done)
      ·have h3 : chkB sd N (s k).node b (s k).tag = false := by
        cases hc : chkB sd N (s k).node b (s k).tag with
        | false => rfl
        | true =>
         obtain rfl : k = 0 := by omega
         exact (hq (by rw [okB, hc, decide_eq_false (show ¬ (s 0).node ≤ lastS s 0 by show ¬ (s 0).node ≤ -1; omega), decide_eq_true (by omega)]; rfl)).elim
       rw [h3] at hT
       refine R_alongPc NG MO _ (pcRc_p100001 sd N n b m s k false) ?_ (by show 0 ≤ 1; decide)
       simp only [All, All_append, bdCh_c, pcRc_c, Int.toNat_natCast]; and_intros
       all_goals first
        | exact True.intro
        | exact hT
        | exact decide_eq_false h0
        | (with_reducible assumption)
        | (rw [decide_eq_true_eq]; omega)
        | (rw [decide_eq_false_iff_not]; omega)
        | with_reducible rfl
        | (intro _ _; exact True.intro)
        | (intro _ _; with_reducible rfl)
        | (intro _ _; rfl)
        | (simp only [IntKind.min, IntKind.max, IntKind.signed, IntKind.bits, if_true]; omega)
        | omega
        | (intro h; exact h)
        | (intro h; cases h; done)
        | exact .inl rfl
        | exact .inl True.intro
        | exact .inr rfl
        | (simp; done)
)
   (by simp) (R_alongPc NG MO _ (pcRc_p0 sd N n b m s m true) (by
    simp only [All, All_append, bdCh_c, pcRc_c]; and_intros
    all_goals first
     | exact True.intro
     | (with_reducible assumption)
     | (rw [decide_eq_true_eq]; omega)
     | (rw [decide_eq_false_iff_not]; omega)
     | with_reducible rfl
     | (intro _ _; exact True.intro)
     | (intro _ _; with_reducible rfl)
     | (intro _ _; rfl)
     | (simp only [IntKind.min, IntKind.max, IntKind.signed, IntKind.bits, if_true]; omega)
     | omega
     | (intro h; exact h)
     | (intro h; cases h; done)
     | exact .inl rfl
     | exact .inl True.intro
     | exact .inr rfl
     | (simp; done)
) (by show 0 ≤ 1; decide)) (by simp) with ⟨h, hL⟩ | ⟨mm, hmm, _, hq, hL⟩
 ·exact .inl ⟨okA_true h, hL⟩
 ·exact .inr ⟨okA_false hmm hq, mm, hL⟩
def chkV (sd : ByteArray) (N n : Int) (b : ByteArray) (m : Nat) (s : Nat → SSign) (need : Int) : Int := if goodN n = true ∧ 1 ≤ need ∧ need ≤ n then (if need ≤ m ∧ (m : Int) ≤ n then (if okA sd N n b s m = true then 0 else 50) else 50) else 2
theorem good64 {n : Int} (h : goodN n = true) : n ≤ 64 := by
 simp only [goodN, Bool.and_eq_true, decide_eq_true_eq] at h; exact h.2.1
theorem T_ch {sd : ByteArray} (hs : sd.size ≤ 1000) {N n : Int} (hN : N ≠ 0) {b : ByteArray} (hb : b.size ≤ 1000000000) {m : Nat} (hm : m ≤ 1000000) (s : Nat → SSign) (need : Int) : T Try.prog 41 [p0 0, .int .i64 n, .str b, sg m s, .int .i64 need] [(.o 0, kyB sd N)] (.int .i64 (chkV sd N n b m s need)) [(.o 0, kyB sd N)] := by
 have hle := T_le sd N
 have hgd := T_gn n
 cases hg : goodN n with
 | false =>
  rw [hg] at hgd
  rw [chkV, if_neg (by rw [hg]; rintro ⟨h, _⟩; cases h)]
  refine T_al (bdCh_p0111 sd N n b m s need false 0) Try.func41 ?_
  simp only [All, All_append, bdCh_c, pcRc_c]; and_intros
  all_goals first
   | exact True.intro
   | exact hle
   | exact hgd
   | (with_reducible assumption)
   | (rw [decide_eq_true_eq]; omega)
   | (rw [decide_eq_false_iff_not]; omega)
   | with_reducible rfl
   | (intro _ _; exact True.intro)
   | (intro _ _; with_reducible rfl)
   | (intro _ _; rfl)
   | (simp only [IntKind.min, IntKind.max, IntKind.signed, IntKind.bits, if_true]; omega)
   | omega
   | (intro h; exact h)
   | (intro h; cases h; done)
   | exact .inl rfl
   | exact .inl True.intro
   | exact .inr rfl
   | (simp; done)
 | true =>
  rw [hg] at hgd
  by_cases h1 : need < 1
  ·rw [chkV, if_neg (by rintro ⟨_, h, _⟩; omega)]
   refine T_al (bdCh_p0011 sd N n b m s need true 0) Try.func41 ?_
   simp only [All, All_append, bdCh_c, pcRc_c]; and_intros
   all_goals first
    | exact True.intro
    | exact hle
    | exact hgd
    | (with_reducible assumption)
    | (rw [decide_eq_true_eq]; omega)
    | (rw [decide_eq_false_iff_not]; omega)
    | with_reducible rfl
    | (intro _ _; exact True.intro)
    | (intro _ _; with_reducible rfl)
    | (intro _ _; rfl)
    | (simp only [IntKind.min, IntKind.max, IntKind.signed, IntKind.bits, if_true]; omega)
    | omega
    | (intro h; exact h)
    | (intro h; cases h; done)
    | exact .inl rfl
    | exact .inl True.intro
    | exact .inr rfl
    | (simp; done)
  ·by_cases h2 : n < need
   ·rw [chkV, if_neg (by rintro ⟨_, _, h⟩; omega)]
    refine T_al (bdCh_p0001 sd N n b m s need true 0) Try.func41 ?_
    simp only [All, All_append, bdCh_c, pcRc_c]; and_intros
    all_goals first
     | exact True.intro
     | exact hle
     | exact hgd
     | (with_reducible assumption)
     | (rw [decide_eq_true_eq]; omega)
     | (rw [decide_eq_false_iff_not]; omega)
     | with_reducible rfl
     | (intro _ _; exact True.intro)
     | (intro _ _; with_reducible rfl)
     | (intro _ _; rfl)
     | (simp only [IntKind.min, IntKind.max, IntKind.signed, IntKind.bits, if_true]; omega)
     | omega
     | (intro h; exact h)
     | (intro h; cases h; done)
     | exact .inl rfl
     | exact .inl True.intro
     | exact .inr rfl
     | (simp; done)
   ·rw [chkV, if_pos ⟨hg, by omega, by omega⟩]
    by_cases h3 : (m : Int) < need
    ·rw [if_neg (by omega)]
     refine T_al (bdCh_p000011 sd N n b m s need true 0) Try.func41 ?_
     simp only [All, All_append, bdCh_c, pcRc_c]; and_intros
     all_goals first
      | exact True.intro
      | exact hle
      | exact hgd
      | (with_reducible assumption)
      | (rw [decide_eq_true_eq]; omega)
      | (rw [decide_eq_false_iff_not]; omega)
      | with_reducible rfl
      | (intro _ _; exact True.intro)
      | (intro _ _; with_reducible rfl)
      | (intro _ _; rfl)
      | (simp only [IntKind.min, IntKind.max, IntKind.signed, IntKind.bits, if_true]; omega)
      | omega
      | (intro h; exact h)
      | (intro h; cases h; done)
      | exact .inl rfl
      | exact .inl True.intro
      | exact .inr rfl
      | (simp; done)
    ·by_cases h4 : n < (m : Int)
     ·rw [if_neg (by omega)]
      refine T_al (bdCh_p000001 sd N n b m s need true 0) Try.func41 ?_
      simp only [All, All_append, bdCh_c, pcRc_c]; and_intros
      all_goals first
       | exact True.intro
       | exact hle
       | exact hgd
       | (with_reducible assumption)
       | (rw [decide_eq_true_eq]; omega)
       | (rw [decide_eq_false_iff_not]; omega)
       | with_reducible rfl
       | (intro _ _; exact True.intro)
       | (intro _ _; with_reducible rfl)
       | (intro _ _; rfl)
       | (simp only [IntKind.min, IntKind.max, IntKind.signed, IntKind.bits, if_true]; omega)
       | omega
       | (intro h; exact h)
       | (intro h; cases h; done)
       | exact .inl rfl
       | exact .inl True.intro
       | exact .inr rfl
       | (simp; done)
     ·rw [if_pos (by omega)]
      rcases chLoop hs hN (good64 hg) hb hm s with ⟨e, hL⟩ | ⟨e, mm, hL⟩
      ·rw [e, if_pos rfl]
       refine T_al (bdCh_p0000001 sd N n b m s need true 0) Try.func41 ?_
       simp only [All, All_append, bdCh_c, pcRc_c]; and_intros
       all_goals first
        | exact True.intro
        | exact hle
        | exact hgd
        | exact hL
        | exact (rfl : -1 = lastS s 0)
        | (with_reducible assumption)
        | (rw [decide_eq_true_eq]; omega)
        | (rw [decide_eq_false_iff_not]; omega)
        | with_reducible rfl
        | (intro _ _; exact True.intro)
        | (intro _ _; with_reducible rfl)
        | (intro _ _; rfl)
        | (simp only [IntKind.min, IntKind.max, IntKind.signed, IntKind.bits, if_true]; omega)
        | omega
        | (intro h; exact h)
        | (intro h; cases h; done)
        | exact .inl rfl
        | exact .inl True.intro
        | exact .inr rfl
        | (simp; done)
      ·rw [e, if_neg (by decide)]
       refine T_al (bdCh_p0000000 sd N n b m s need true mm) Try.func41 ?_
       simp only [All, All_append, bdCh_c, pcRc_c]; and_intros
       all_goals first
        | exact True.intro
        | exact hle
        | exact hgd
        | exact hL
        | exact (rfl : -1 = lastS s 0)
        | (with_reducible assumption)
        | (rw [decide_eq_true_eq]; omega)
        | (rw [decide_eq_false_iff_not]; omega)
        | with_reducible rfl
        | (intro _ _; exact True.intro)
        | (intro _ _; with_reducible rfl)
        | (intro _ _; rfl)
        | (simp only [IntKind.min, IntKind.max, IntKind.signed, IntKind.bits, if_true]; omega)
        | omega
        | (intro h; exact h)
        | (intro h; cases h; done)
        | exact .inl rfl
        | exact .inl True.intro
        | exact .inr rfl
        | (simp; done)
theorem T_cn (n : Int) (b : ByteArray) (m : Nat) (s : Nat → SSign) (need : Int) : T Try.prog 41 [.pnil, .int .i64 n, .str b, sg m s, .int .i64 need] [] (.int .i64 1) [] := by
 refine T_al (bdCn_p1 n b m s need) Try.func41 ?_
 simp only [All, All_append, bdCh_c, pcRc_c]; and_intros
 all_goals first
  | exact True.intro
  | exact T_ln
  | (with_reducible assumption)
  | (rw [decide_eq_true_eq]; omega)
  | (rw [decide_eq_false_iff_not]; omega)
  | with_reducible rfl
  | (intro _ _; exact True.intro)
  | (intro _ _; with_reducible rfl)
  | (intro _ _; rfl)
  | (simp only [IntKind.min, IntKind.max, IntKind.signed, IntKind.bits, if_true]; omega)
  | omega
  | (intro h; exact h)
  | (intro h; cases h; done)
  | exact .inl rfl
  | exact .inl True.intro
  | exact .inr rfl
  | (simp; done)
theorem T_rc {sd : ByteArray} (hs : sd.size ≤ 1000) {N n : Int} {b : ByteArray} (hb : b.size ≤ 1000000000) {m : Nat} (hm : m ≤ 1000000) (s : Nat → SSign) (need : Int) : T Try.prog 42 [kyV sd N, .int .i64 n, .str b, sg m s, .int .i64 need] [] (.int .i64 (chkV sd N n b m s need)) [] := by
 have hgd := T_rgn n
 cases hg : goodN n with
 | false =>
  rw [hg] at hgd
  rw [chkV, if_neg (by rw [hg]; rintro ⟨h, _⟩; cases h)]
  refine T_al (bdRc_p111 sd N n b m s need false 0) Try.func42 ?_
  simp only [All, All_append, bdCh_c, pcRc_c]; and_intros
  all_goals first
   | exact True.intro
   | exact hgd
   | (with_reducible assumption)
   | (rw [decide_eq_true_eq]; omega)
   | (rw [decide_eq_false_iff_not]; omega)
   | with_reducible rfl
   | (intro _ _; exact True.intro)
   | (intro _ _; with_reducible rfl)
   | (intro _ _; rfl)
   | (simp only [IntKind.min, IntKind.max, IntKind.signed, IntKind.bits, if_true]; omega)
   | omega
   | (intro h; exact h)
   | (intro h; cases h; done)
   | exact .inl rfl
   | exact .inl True.intro
   | exact .inr rfl
   | (simp; done)
 | true =>
  rw [hg] at hgd
  by_cases h1 : need < 1
  ·rw [chkV, if_neg (by rintro ⟨_, h, _⟩; omega)]
   refine T_al (bdRc_p011 sd N n b m s need true 0) Try.func42 ?_
   simp only [All, All_append, bdCh_c, pcRc_c]; and_intros
   all_goals first
    | exact True.intro
    | exact hgd
    | (with_reducible assumption)
    | (rw [decide_eq_true_eq]; omega)
    | (rw [decide_eq_false_iff_not]; omega)
    | with_reducible rfl
    | (intro _ _; exact True.intro)
    | (intro _ _; with_reducible rfl)
    | (intro _ _; rfl)
    | (simp only [IntKind.min, IntKind.max, IntKind.signed, IntKind.bits, if_true]; omega)
    | omega
    | (intro h; exact h)
    | (intro h; cases h; done)
    | exact .inl rfl
    | exact .inl True.intro
    | exact .inr rfl
    | (simp; done)
  ·by_cases h2 : n < need
   ·rw [chkV, if_neg (by rintro ⟨_, _, h⟩; omega)]
    refine T_al (bdRc_p001 sd N n b m s need true 0) Try.func42 ?_
    simp only [All, All_append, bdCh_c, pcRc_c]; and_intros
    all_goals first
     | exact True.intro
     | exact hgd
     | (with_reducible assumption)
     | (rw [decide_eq_true_eq]; omega)
     | (rw [decide_eq_false_iff_not]; omega)
     | with_reducible rfl
     | (intro _ _; exact True.intro)
     | (intro _ _; with_reducible rfl)
     | (intro _ _; rfl)
     | (simp only [IntKind.min, IntKind.max, IntKind.signed, IntKind.bits, if_true]; omega)
     | omega
     | (intro h; exact h)
     | (intro h; cases h; done)
     | exact .inl rfl
     | exact .inl True.intro
     | exact .inr rfl
     | (simp; done)
   ·rw [chkV, if_pos ⟨hg, by omega, by omega⟩]
    by_cases h3 : (m : Int) < need
    ·rw [if_neg (by omega)]
     refine T_al (bdRc_p00011 sd N n b m s need true 0) Try.func42 ?_
     simp only [All, All_append, bdCh_c, pcRc_c]; and_intros
     all_goals first
      | exact True.intro
      | exact hgd
      | (with_reducible assumption)
      | (rw [decide_eq_true_eq]; omega)
      | (rw [decide_eq_false_iff_not]; omega)
      | with_reducible rfl
      | (intro _ _; exact True.intro)
      | (intro _ _; with_reducible rfl)
      | (intro _ _; rfl)
      | (simp only [IntKind.min, IntKind.max, IntKind.signed, IntKind.bits, if_true]; omega)
      | omega
      | (intro h; exact h)
      | (intro h; cases h; done)
      | exact .inl rfl
      | exact .inl True.intro
      | exact .inr rfl
      | (simp; done)
    ·by_cases h4 : n < (m : Int)
     ·rw [if_neg (by omega)]
      refine T_al (bdRc_p00001 sd N n b m s need true 0) Try.func42 ?_
      simp only [All, All_append, bdCh_c, pcRc_c]; and_intros
      all_goals first
       | exact True.intro
       | exact hgd
       | (with_reducible assumption)
       | (rw [decide_eq_true_eq]; omega)
       | (rw [decide_eq_false_iff_not]; omega)
       | with_reducible rfl
       | (intro _ _; exact True.intro)
       | (intro _ _; with_reducible rfl)
       | (intro _ _; rfl)
       | (simp only [IntKind.min, IntKind.max, IntKind.signed, IntKind.bits, if_true]; omega)
       | omega
       | (intro h; exact h)
       | (intro h; cases h; done)
       | exact .inl rfl
       | exact .inl True.intro
       | exact .inr rfl
       | (simp; done)
     ·rw [if_pos (by omega)]
      rcases rcLoop hs (N := N) (good64 hg) hb hm s with ⟨e, hL⟩ | ⟨e, mm, hL⟩
      ·rw [e, if_pos rfl]
       refine T_al (bdRc_p000001 sd N n b m s need true 0) Try.func42 ?_
       simp only [All, All_append, bdCh_c, pcRc_c]; and_intros
       all_goals first
        | exact True.intro
        | exact hgd
        | exact hL
        | (with_reducible assumption)
        | (rw [decide_eq_true_eq]; omega)
        | (rw [decide_eq_false_iff_not]; omega)
        | with_reducible rfl
        | (intro _ _; exact True.intro)
        | (intro _ _; with_reducible rfl)
        | (intro _ _; rfl)
        | (simp only [IntKind.min, IntKind.max, IntKind.signed, IntKind.bits, if_true]; omega)
        | omega
        | (intro h; exact h)
        | (intro h; cases h; done)
        | exact .inl rfl
        | exact .inl True.intro
        | exact .inr rfl
        | (simp; done)
      ·rw [e, if_neg (by decide)]
       refine T_al (bdRc_p000000 sd N n b m s need true mm) Try.func42 ?_
       simp only [All, All_append, bdCh_c, pcRc_c]; and_intros
       all_goals first
        | exact True.intro
        | exact hgd
        | exact hL
        | (with_reducible assumption)
        | (rw [decide_eq_true_eq]; omega)
        | (rw [decide_eq_false_iff_not]; omega)
        | with_reducible rfl
        | (intro _ _; exact True.intro)
        | (intro _ _; with_reducible rfl)
        | (intro _ _; rfl)
        | (simp only [IntKind.min, IntKind.max, IntKind.signed, IntKind.bits, if_true]; omega)
        | omega
        | (intro h; exact h)
        | (intro h; cases h; done)
        | exact .inl rfl
        | exact .inl True.intro
        | exact .inr rfl
        | (simp; done)
end Go.Proofs.Ytpallipnhmoipaa
namespace Go.Proofs.Ytpallipnhmoipaa
open Go Sy Go.Proofs
noncomputable def qkDb (v : Int) : Nat → List V → Heap → Nat → List Cl := dbQ [
 (20, cVal (.bool true)),
 (39, fun a _ lo => match a with
  | [.str s, .int _ n] => [{ val := p0 lo, post := [(.o lo, kyB s n)] }]
  | _ => []),
 (40, fun a _ _ => match a with
  | [.str s, .int _ n] => [{ val := .tup [kyV s n, .bool true] }]
  | _ => []),
 (41, fun a _ _ => match a with
  | .ptr x _ _ _ _ :: _ => [{ rd := [x], val := .int .i64 v }]
  | _ => [{ val := .int .i64 1 }]),
 (42, cVal (.int .i64 v))]
noncomputable def bdQk (n : Int) (b : ByteArray) (m : Nat) (s : Nat → SSign) (need v : Int) : Bd := { f := Try.f10, args := [.int .i64 n, .str b, sg m s, .int .i64 need], kb := { db := qkDb v } }
end Go.Proofs.Ytpallipnhmoipaa
namespace Go.Proofs.Ytpallipnhmoipaa
open Go Sy Go.Proofs
noncomputable def bdQk_c (n : Int) (b : ByteArray) (m : Nat) (s : Nat → SSign) (need : Int) (v : Int) : Nat → List Prop
 | 0 => [decide ((2000 : Int) < (↑(ByteArray.size b) : Int)) = false, T Try.prog 39 [.str (ByteArray.mk (Array.mk [(113 : UInt8)])), .int .i64 64] [] (.ptr (.o 576) 0 0 0 0) [(.o 576, .flat [.str (ByteArray.mk (Array.mk [(113 : UInt8)])), .int .i64 64])], T Try.prog 40 [.str (ByteArray.mk (Array.mk [(113 : UInt8)])), .int .i64 64] [] (.tup [.agg [.str (ByteArray.mk (Array.mk [(113 : UInt8)])), .int .i64 64], .bool true]) [], T Try.prog 41 [.ptr (.o 576) 0 0 0 0, .int .i64 n, .str b, .ros 17 m (fun i => SSign.c (s i)) false, .int .i64 need] [(.o 576, .flat [.str (ByteArray.mk (Array.mk [(113 : UInt8)])), .int .i64 64])] (.int .i64 v) [(.o 576, .flat [.str (ByteArray.mk (Array.mk [(113 : UInt8)])), .int .i64 64])], T Try.prog 42 [.agg [.str (ByteArray.mk (Array.mk [(113 : UInt8)])), .int .i64 64], .int .i64 n, .str b, .ros 17 m (fun i => SSign.c (s i)) false, .int .i64 need] [] (.int .i64 v) []]
 | _ => []
theorem bdQk_p11 (n : Int) (b : ByteArray) (m : Nat) (s : Nat → SSign) (need : Int) (v : Int) :
 along Try.prog (bdQk n b m s need v) [true, true] = (some (.bool true, [], [decide ((200 : Int) < (↑m : Int)) = true, q2, T Try.prog 20 [] [] (.bool true) []]) : Option (V × Heap × List Prop)) := by kernel_rfl
theorem bdQk_p01 (n : Int) (b : ByteArray) (m : Nat) (s : Nat → SSign) (need : Int) (v : Int) :
 along Try.prog (bdQk n b m s need v) [false, true] = (some (.bool true, [], [decide ((200 : Int) < (↑m : Int)) = false, decide ((2000 : Int) < (↑(ByteArray.size b) : Int)) = true, T Try.prog 20 [] [] (.bool true) []]) : Option (V × Heap × List Prop)) := by kernel_rfl
theorem bdQk_p0011 (n : Int) (b : ByteArray) (m : Nat) (s : Nat → SSign) (need : Int) (v : Int) :
 along Try.prog (bdQk n b m s need v) [false, false, true, true] = (some (.bool true, [], [decide ((200 : Int) < (↑m : Int)) = false] ++ (bdQk_c n b m s need v 0 ++ [decide (v = v) = true, T Try.prog 41 [.pnil, .int .i64 n, .str b, .ros 17 m (fun i => SSign.c (s i)) false, .int .i64 need] [] (.int .i64 1) [], q2, T Try.prog 20 [] [] (.bool true) []])) : Option (V × Heap × List Prop)) := by kernel_rfl
theorem bdQk_p0000 (n : Int) (b : ByteArray) (m : Nat) (s : Nat → SSign) (need : Int) (v : Int) :
 along Try.prog (bdQk n b m s need v) [false, false, false, false] = (some (.bool false, [], [decide ((200 : Int) < (↑m : Int)) = false] ++ (bdQk_c n b m s need v 0 ++ [decide (v = v) = false, q false])) : Option (V × Heap × List Prop)) := by kernel_rfl

def qS : ByteArray := ByteArray.mk (Array.mk [113])
theorem qS_size : qS.size = 1 := rfl
theorem T_chA {sd : ByteArray} (hs : sd.size ≤ 1000) {N n : Int} (hN : N ≠ 0) {b : ByteArray} (hb : b.size ≤ 1000000000) {m : Nat} (hm : m ≤ 1000000) (s : Nat → SSign) (need : Int) (a : Nat) : T Try.prog 41 [p0 a, .int .i64 n, .str b, sg m s, .int .i64 need] [(.o a, kyB sd N)] (.int .i64 (chkV sd N n b m s need)) [(.o a, kyB sd N)] := by
 obtain ⟨σ, hσ, h3⟩ := T.at (T_ch hs (n := n) hN hb hm s need) [.o 0] [.o a] (by decide) (by simp) rfl
 simp only [List.map_cons, List.map_nil, List.cons.injEq, and_true] at hσ
 simpa [V.rens, V.ren, Heap.ren, Sy.B.ren, kyB, p0, sg, hσ] using h3
theorem T_qk (n : Int) (b : ByteArray) (m : Nat) (s : Nat → SSign) (need : Int) : T Try.prog 10 [.int .i64 n, .str b, sg m s, .int .i64 need] [] (.bool true) [] := by
 have hlv := T_lv
 by_cases h1 : 200 < m
 ·refine T_al (bdQk_p11 n b m s need 0) Try.func10 ?_
  simp only [All, All_append, bdQk_c]; and_intros
  all_goals first
   | exact True.intro
   | exact hlv
   | (with_reducible assumption)
   | (rw [decide_eq_true_eq]; omega)
   | (rw [decide_eq_false_iff_not]; omega)
   | with_reducible rfl
   | (intro _ _; exact True.intro)
   | (intro _ _; with_reducible rfl)
   | (intro _ _; rfl)
   | (simp only [IntKind.min, IntKind.max, IntKind.signed, IntKind.bits, if_true]; omega)
   | omega
   | (intro h; exact h)
   | (intro h; cases h; done)
   | exact .inl rfl
   | exact .inl True.intro
   | exact .inr rfl
   | (simp; done)
 ·by_cases h2 : 2000 < b.size
  ·refine T_al (bdQk_p01 n b m s need 0) Try.func10 ?_
   simp only [All, All_append, bdQk_c]; and_intros
   all_goals first
    | exact True.intro
    | exact hlv
    | (with_reducible assumption)
    | (rw [decide_eq_true_eq]; omega)
    | (rw [decide_eq_false_iff_not]; omega)
    | with_reducible rfl
    | (intro _ _; exact True.intro)
    | (intro _ _; with_reducible rfl)
    | (intro _ _; rfl)
    | (simp only [IntKind.min, IntKind.max, IntKind.signed, IntKind.bits, if_true]; omega)
    | omega
    | (intro h; exact h)
    | (intro h; cases h; done)
    | exact .inl rfl
    | exact .inl True.intro
    | exact .inr rfl
    | (simp; done)
  ·have hD := T_de (s := qS) (n := 64) (by rw [qS_size]; decide) (by decide) 576
   have hR := T_re (s := qS) (n := 64) (by rw [qS_size]; decide) (by decide)
   have hC := T_chA (sd := qS) (N := 64) (n := n) (by rw [qS_size]; decide) (by decide) (b := b) (by omega) (m := m) (by omega) s need 576
   have hC2 := T_rc (sd := qS) (N := 64) (n := n) (by rw [qS_size]; decide) (b := b) (by omega) (m := m) (by omega) s need
   have hN := T_cn n b m s need
   generalize chkV qS 64 n b m s need = v at hC hC2
   refine T_al (bdQk_p0011 n b m s need v) Try.func10 ?_
   simp only [All, All_append, bdQk_c]; and_intros
   all_goals first
    | exact True.intro
    | exact hlv
    | exact hD
    | exact hR
    | exact hC
    | exact hC2
    | exact hN
    | exact decide_eq_true rfl
    | (with_reducible assumption)
    | (rw [decide_eq_true_eq]; omega)
    | (rw [decide_eq_false_iff_not]; omega)
    | with_reducible rfl
    | (intro _ _; exact True.intro)
    | (intro _ _; with_reducible rfl)
    | (intro _ _; rfl)
    | (simp only [IntKind.min, IntKind.max, IntKind.signed, IntKind.bits, if_true]; omega)
    | omega
    | (intro h; exact h)
    | (intro h; cases h; done)
    | exact .inl rfl
    | exact .inl True.intro
    | exact .inr rfl
    | (simp; done)
end Go.Proofs.Ytpallipnhmoipaa
namespace Sy
open Go
def cntX (N : Nat) (X : Nat → Bool) : Nat := (List.range N).countP X
theorem cntX_succ (N : Nat) (X : Nat → Bool) : cntX (N + 1) X = cntX N X + (if X N = true then 1 else 0) := by
 rw [cntX, List.range_succ, List.countP_append, List.countP_singleton]; rfl
theorem cntX_le (N : Nat) (X : Nat → Bool) : cntX N X ≤ N := by
 have := List.countP_le_length (p := X) (l := List.range N)
 rwa [List.length_range] at this
theorem cntX_congr {N : Nat} {X Y : Nat → Bool} (h : ∀ q, q < N → X q = Y q) : cntX N X = cntX N Y := by
 induction N with
 | zero => rfl
 | succ n ih => rw [cntX_succ, cntX_succ, ih fun q hq => h q (by omega), h n (by omega)]
theorem cntX_none {N : Nat} : cntX N (fun _ => false) = 0 := by
 induction N with
 | zero => rfl
 | succ n ih => rw [cntX_succ, ih]; rfl
theorem cntX_all {N : Nat} {X : Nat → Bool} (h : ∀ q, q < N → X q = true) : cntX N X = N := by
 induction N with
 | zero => rfl
 | succ n ih => rw [cntX_succ, ih fun q hq => h q (by omega), h n (by omega)]; rfl
theorem cntX_far {N a : Nat} {X : Nat → Bool} (h : N ≤ a) : cntX N (fun q => X q || decide (q = a)) = cntX N X :=
 cntX_congr fun q hq => by rw [decide_eq_false (by omega), Bool.or_false]
theorem cntX_set {N a : Nat} {X : Nat → Bool} (h : a < N) (hx : X a = false) : cntX N (fun q => X q || decide (q = a)) = cntX N X + 1 := by
 induction N with
 | zero => omega
 | succ n ih =>
  rw [cntX_succ, cntX_succ]
  rcases Nat.lt_or_ge a n with h1 | h1
  ·rw [ih h1, decide_eq_false (by omega), Bool.or_false]; omega
  ·obtain rfl : a = n := by omega
   rw [cntX_far (Nat.le_refl _), hx]; simp
theorem cntX_and (N : Nat) (X Y : Nat → Bool) : cntX N X + cntX N Y ≤ N + cntX N (fun q => X q && Y q) := by
 induction N with
 | zero => exact Nat.le_refl _
 | succ n ih =>
  rw [cntX_succ, cntX_succ, cntX_succ]
  cases X n <;> cases Y n <;> simp <;> omega
/-- The node that comes at a place. -/
def atN (N : Nat) (l : List Int) (i : Nat) : Nat := if i < l.length then (IntKind.wrap .u64 (l.getD i 0) % (N : Int)).toNat else ((i : Int) % (N : Int)).toNat
def chX (N : Nat) (l : List Int) : Nat → Nat → Bool
 | 0 => fun _ => false
 | i + 1 => fun q => chX N l i q || decide (q = atN N l i)
theorem chX_succ (N : Nat) (l : List Int) (i q : Nat) : chX N l (i + 1) q = (chX N l i q || decide (q = atN N l i)) := rfl
theorem atN_lt {N : Nat} (h : 0 < N) (l : List Int) (i : Nat) : atN N l i < N := by
 unfold atN
 have h1 := Int.emod_lt_of_pos (IntKind.wrap .u64 (l.getD i 0)) (b := (N : Int)) (by omega)
 have h2 := Int.emod_nonneg (IntKind.wrap .u64 (l.getD i 0)) (b := (N : Int)) (by omega)
 have h3 := Int.emod_lt_of_pos (i : Int) (b := (N : Int)) (by omega)
 have h4 := Int.emod_nonneg (i : Int) (b := (N : Int)) (by omega)
 split <;> omega
theorem chX_old {N : Nat} {l : List Int} {i : Nat} (h : chX N l i (atN N l i) = true) (q : Nat) : chX N l (i + 1) q = chX N l i q := by
 rw [chX_succ]
 by_cases hq : q = atN N l i
 ·subst hq; rw [h]; rfl
 ·rw [decide_eq_false hq, Bool.or_false]
theorem chX_cnt_old {N : Nat} {l : List Int} {i : Nat} (h : chX N l i (atN N l i) = true) : cntX N (chX N l (i + 1)) = cntX N (chX N l i) := cntX_congr fun q _ => chX_old h q
theorem chX_cnt_new {N : Nat} (h0 : 0 < N) {l : List Int} {i : Nat} (h : chX N l i (atN N l i) = false) : cntX N (chX N l (i + 1)) = cntX N (chX N l i) + 1 := cntX_set (atN_lt h0 l i) h
theorem chX_mono {N : Nat} {l : List Int} {i j q : Nat} (h : i ≤ j) (hx : chX N l i q = true) : chX N l j q = true := by
 induction j with
 | zero =>
  obtain rfl : i = 0 := by omega
  exact hx
 | succ j ih =>
  rcases Nat.lt_or_ge i (j + 1) with h1 | h1
  ·rw [chX_succ, ih (by omega)]; rfl
  ·obtain rfl : i = j + 1 := by omega
   exact hx
theorem chX_full {N : Nat} (h0 : 0 < N) (l : List Int) : cntX N (chX N l (l.length + N)) = N := by
 refine cntX_all fun q hq => ?_
 obtain ⟨i, h1, h2, h3⟩ : ∃ i, l.length ≤ i ∧ i < l.length + N ∧ i % N = q := by
  refine ⟨l.length + (q + N - l.length % N) % N, by omega, ?_, ?_⟩
  ·have := Nat.mod_lt (q + N - l.length % N) h0; omega
  ·have h1 := Nat.mod_lt l.length h0
   rw [Nat.add_mod_mod, show l.length + (q + N - l.length % N) = q + N + N * (l.length / N) by have := Nat.div_add_mod l.length N; omega, Nat.add_mul_mod_self_left, Nat.add_mod_right, Nat.mod_eq_of_lt hq]
 refine chX_mono (i := i + 1) (by omega) ?_
 have : atN N l i = q := by
  rw [atN, if_neg (by omega), ← h3]
  exact Int.toNat_natCast (i % N)
 rw [chX_succ, this, decide_eq_true rfl, Bool.or_true]
theorem chX_stop {N M : Nat} (h0 : 0 < M) (h1 : M ≤ N) (l : List Int) : ∃ m, m ≤ l.length + N ∧ (∀ k, k < m → cntX N (chX N l k) < M) ∧ cntX N (chX N l m) = M := by
 rcases first_bad (fun k => cntX N (chX N l k) < M) (l.length + N + 1) with h | ⟨m, h2, h3, h4⟩
 ·have := h (l.length + N) (by omega)
  rw [chX_full (by omega) l] at this
  omega
 ·refine ⟨m, by omega, h3, ?_⟩
  cases m with
  | zero =>
   have : cntX N (chX N l 0) = 0 := cntX_none
   omega
  | succ m =>
   have h5 := h3 m (by omega)
   cases hc : chX N l m (atN N l m) with
   | true => rw [chX_cnt_old hc] at h4; omega
   | false => rw [chX_cnt_new (by omega) hc] at h4 ⊢; omega
end Sy
namespace Go.Proofs.Ytpallipnhmoipaa
open Go Sy Go.Proofs
def mtX (X : Nat → Bool) : Nat → List V := fun q => [.bool (X q)]
def mtS (m N : Nat) : V := .sl (.o m) 1 0 0 0 N none
def mtB (N : Nat) (X : Nat → Bool) : B := .rows 1 N (mtX X) true
def gaI (b : ByteArray) (need : Int) (N : Nat) (l : List Int) (n : Nat) (s : Nat → SSign) (c : Nat) (X : Nat → Bool) (j : Nat) : St := ⟨mkT 103 [(1, .str b), (3, .int .i64 need), (9, .int .i64 (N : Nat)), (10, p0 0), (11, sgs 1 n), (12, mtS 2 N), (13, .int .i64 (c : Nat)), (39, lr l), (40, .int .i64 (l.length : Nat)), (41, .int .i64 (j : Nat))], [(.o 0, kyB qS (N : Nat)), (.o 1, sgB n s), (.o 2, mtB N X)], 3, []⟩
noncomputable def gaDb (n : Nat) (s : Nat → SSign) (v e : Int) (u : List Int) : Nat → List V → Heap → Nat → List Cl := dbQ [
 (20, cVal (.bool true)),
 (39, fun a _ lo => match a with
  | [.str s, .int _ n] => [{ val := p0 lo, post := [(.o lo, kyB s n)] }]
  | _ => []),
 (41, fun a _ _ => match a with
  | .ptr x _ _ _ _ :: .int _ _ :: .str _ :: .sl y _ _ _ _ _ _ :: _ => [{ rd := [x, y], val := .int .i64 v }]
  | _ => []),
 (43, fun a _ _ => match a with
  | .ptr x _ _ _ _ :: _ => [{ rd := [x], val := .tup [.agg [.seg .u8 16 u], .int .i64 e] }]
  | _ => []),
 (25, fun a _ lo => match a with
  | .sl y _ _ _ _ _ _ :: _ => [{ pre := [y], val := sgs lo n, post := [(.o lo, sgB n s)] }]
  | _ => [])]
noncomputable def bdGa (f need : Int) (b : ByteArray) (l : List Int) (N : Nat) (n : Nat) (s : Nat → SSign) (c : Nat) (X : Nat → Bool) (v : Int) : Bd := { f := Try.f11, args := [.int .i64 f, .str b, lr l, .int .i64 need], kb := { db := gaDb 0 s v 0 [], fx := fun id _ => bif Nat.beq id 6 then [.virt 11 17] else [], lp := fun _ t => [(True, .loop (l.length + 1) (wToS [(.o 0, nmV (getV t.tmps 10)), (.o 1, nmV (getV t.tmps 11)), (.o 2, nmV (getV t.tmps 12))] (gaI b need N l 0 (fun _ => zS) 0 (fun _ => false) 0)) (.exit 0) (gaI b need N l n s c X l.length))] } }
noncomputable def pcGa (b : ByteArray) (need : Int) (N : Nat) (l : List Int) (n : Nat) (s : Nat → SSign) (c : Nat) (X : Nat → Bool) (j : Nat) (u : List Int) (n2 : Nat) (s2 : Nat → SSign) (c2 : Nat) (X2 : Nat → Bool) : Pc := { c := cB (cB (cR (cL (cR (cR (cR (cR (cR (cR (cR (bodyOf Try.f11))))))))))), st := gaI b need N l n s c X j, kb := { db := gaDb n2 s2 0 0 u }, k := fun x_ t => match x_ with
 | .normal => some (wToS [(.o 1, nmV (getV t.tmps 11))] (gaI b need N l n2 s2 c2 X2 (j + 1)))
 | _ => some (wTo (gaI b need N l n s c X l.length)) }
end Go.Proofs.Ytpallipnhmoipaa
namespace Go.Proofs.Ytpallipnhmoipaa
open Go Sy Go.Proofs
theorem bdGa_p11 (f : Int) (need : Int) (b : ByteArray) (l : List Int) (N : Nat) (n : Nat) (s : Nat → SSign) (c : Nat) (X : Nat → Bool) (v : Int) :
  along Try.prog (bdGa f need b l N n s c X v) [true, true] = (some (.bool true, [], [(0 : Int) ≤ IntKind.wrap IntKind.u64 f ∧ (0 : Int) < (21 : Int), InR IntKind.i64 (IntKind.wrap IntKind.u64 f % (21 : Int)), InR IntKind.i64 ((3 : Int) * (IntKind.wrap IntKind.u64 f % (21 : Int))), InR IntKind.i64 ((4 : Int) + (3 : Int) * (IntKind.wrap IntKind.u64 f % (21 : Int))), decide ((200 : Int) < (↑(List.length l) : Int)) = true, q2, T Try.prog 20 [] [] (.bool true) []]) : Option (V × Heap × List Prop)) := by kernel_rfl
theorem bdGa_p01 (f : Int) (need : Int) (b : ByteArray) (l : List Int) (N : Nat) (n : Nat) (s : Nat → SSign) (c : Nat) (X : Nat → Bool) (v : Int) :
  along Try.prog (bdGa f need b l N n s c X v) [false, true] = (some (.bool true, [], [(0 : Int) ≤ IntKind.wrap IntKind.u64 f ∧ (0 : Int) < (21 : Int), InR IntKind.i64 (IntKind.wrap IntKind.u64 f % (21 : Int)), InR IntKind.i64 ((3 : Int) * (IntKind.wrap IntKind.u64 f % (21 : Int))), InR IntKind.i64 ((4 : Int) + (3 : Int) * (IntKind.wrap IntKind.u64 f % (21 : Int))), decide ((200 : Int) < (↑(List.length l) : Int)) = false, decide ((2000 : Int) < (↑(ByteArray.size b) : Int)) = true, T Try.prog 20 [] [] (.bool true) []]) : Option (V × Heap × List Prop)) := by kernel_rfl
theorem bdGa_p0011 (f : Int) (need : Int) (b : ByteArray) (l : List Int) (N : Nat) (n : Nat) (s : Nat → SSign) (c : Nat) (X : Nat → Bool) (v : Int) :
  along Try.prog (bdGa f need b l N n s c X v) [false, false, true, true] = some (V.bool true, [], [(0 : Int) ≤ IntKind.wrap IntKind.u64 f ∧ (0 : Int) < (21 : Int), InR IntKind.i64 (IntKind.wrap IntKind.u64 f % (21 : Int)), InR IntKind.i64 ((3 : Int) * (IntKind.wrap IntKind.u64 f % (21 : Int))), InR IntKind.i64 ((4 : Int) + (3 : Int) * (IntKind.wrap IntKind.u64 f % (21 : Int))), decide ((200 : Int) < (↑(List.length l) : Int)) = false, decide ((2000 : Int) < (↑(ByteArray.size b) : Int)) = false, T Try.prog (39 : Nat) [V.str (ByteArray.mk (Array.mk [(113 : UInt8)])), V.int IntKind.i64 ((4 : Int) + (3 : Int) * (IntKind.wrap IntKind.u64 f % (21 : Int)))] [] (V.ptr (Nm.o (nat_lit 1088)) (0 : Nat) (0 : Nat) (0 : Nat) (0 : Nat)) [(Nm.o (nat_lit 1088), B.flat [V.str (ByteArray.mk (Array.mk [(113 : UInt8)])), V.int IntKind.i64 ((4 : Int) + (3 : Int) * (IntKind.wrap IntKind.u64 f % (21 : Int)))])], (0 : Int) ≤ (4 : Int) + (3 : Int) * (IntKind.wrap IntKind.u64 f % (21 : Int)) ∧ (4 : Int) + (3 : Int) * (IntKind.wrap IntKind.u64 f % (21 : Int)) ≤ (4 : Int) + (3 : Int) * (IntKind.wrap IntKind.u64 f % (21 : Int)), (1 : Int) * ((4 : Int) + (3 : Int) * (IntKind.wrap IntKind.u64 f % (21 : Int))) ≤ (281474976710656 : Int), (4 : Int) + (3 : Int) * (IntKind.wrap IntKind.u64 f % (21 : Int)) ≤ (281474976710656 : Int), RLoop Try.prog none (0 : Nat) (cB (cB (cR (cL (cR (cR (cR (cR (cR (cR (cR (bodyOf (Bd.f (bdGa f need b l N n s c X v)))))))))))))) (List.length l + (1 : Nat)) (St.mk [V.any, V.str b, V.any, V.int IntKind.i64 need, V.any, V.any, V.any, V.any, V.any, V.int IntKind.i64 (↑N : Int), V.ptr (Nm.o (0 : Nat)) (0 : Nat) (0 : Nat) (0 : Nat) (0 : Nat), V.sl (Nm.o (1 : Nat)) (17 : Nat) (0 : Nat) (0 : Nat) (0 : Nat) (0 : Nat) none, V.sl (Nm.o (2 : Nat)) (1 : Nat) (0 : Nat) (0 : Nat) (0 : Nat) N none, V.int IntKind.i64 (0 : Int), V.any, V.any, V.any, V.any, V.any, V.any, V.any, V.any, V.any, V.any, V.any, V.any, V.any, V.any, V.any, V.any, V.any, V.any, V.any, V.any, V.any, V.any, V.any, V.any, V.any, V.ros (1 : Nat) (List.length l) (li l) false, V.int IntKind.i64 (↑(List.length l) : Int), V.int IntKind.i64 (0 : Int), V.any, V.any, V.any, V.any, V.any, V.any, V.any, V.any, V.any, V.any, V.any, V.any, V.any, V.any, V.any, V.any, V.any, V.any, V.any, V.any, V.any, V.any, V.any, V.any, V.any, V.any, V.any, V.any, V.any, V.any, V.any, V.any, V.any, V.any, V.any, V.any, V.any, V.any, V.any, V.any, V.any, V.any, V.any, V.any, V.any, V.any, V.any, V.any, V.any, V.any, V.any, V.any, V.any, V.any, V.any, V.any, V.any, V.any, V.any, V.any, V.any] [(Nm.o (0 : Nat), B.flat [V.str qS, V.int IntKind.i64 (↑N : Int)]), (Nm.o (1 : Nat), B.rows (17 : Nat) (0 : Nat) (gn fun x => SSign.mk (0 : Int) [(0 : Int), (0 : Int), (0 : Int), (0 : Int), (0 : Int), (0 : Int), (0 : Int), (0 : Int), (0 : Int), (0 : Int), (0 : Int), (0 : Int), (0 : Int), (0 : Int), (0 : Int), (0 : Int)]) true), (Nm.o (2 : Nat), B.rows (1 : Nat) N (mtX fun x => false) true)] (3 : Nat) []) (Exit.exit (0 : Nat)) (St.mk [V.any, V.str b, V.any, V.int IntKind.i64 need, V.any, V.any, V.any, V.any, V.any, V.int IntKind.i64 (↑N : Int), V.ptr (Nm.o (0 : Nat)) (0 : Nat) (0 : Nat) (0 : Nat) (0 : Nat), V.sl (Nm.o (1 : Nat)) (17 : Nat) (0 : Nat) (0 : Nat) (0 : Nat) n none, V.sl (Nm.o (2 : Nat)) (1 : Nat) (0 : Nat) (0 : Nat) (0 : Nat) N none, V.int IntKind.i64 (↑c : Int), V.any, V.any, V.any, V.any, V.any, V.any, V.any, V.any, V.any, V.any, V.any, V.any, V.any, V.any, V.any, V.any, V.any, V.any, V.any, V.any, V.any, V.any, V.any, V.any, V.any, V.ros (1 : Nat) (List.length l) (li l) false, V.int IntKind.i64 (↑(List.length l) : Int), V.int IntKind.i64 (↑(List.length l) : Int), V.any, V.any, V.any, V.any, V.any, V.any, V.any, V.any, V.any, V.any, V.any, V.any, V.any, V.any, V.any, V.any, V.any, V.any, V.any, V.any, V.any, V.any, V.any, V.any, V.any, V.any, V.any, V.any, V.any, V.any, V.any, V.any, V.any, V.any, V.any, V.any, V.any, V.any, V.any, V.any, V.any, V.any, V.any, V.any, V.any, V.any, V.any, V.any, V.any, V.any, V.any, V.any, V.any, V.any, V.any, V.any, V.any, V.any, V.any, V.any, V.any] [(Nm.o (0 : Nat), B.flat [V.str qS, V.int IntKind.i64 (↑N : Int)]), (Nm.o (1 : Nat), B.rows (17 : Nat) n (gn s) true), (Nm.o (2 : Nat), B.rows (1 : Nat) N (mtX X) true)] (3 : Nat) []), ByteArray.mk (Array.mk [(113 : UInt8)]) = qS, (4 : Int) + (3 : Int) * (IntKind.wrap IntKind.u64 f % (21 : Int)) = (↑N : Int), (0 : Nat) = (0 : Nat), ∀ (k : Nat), k < (0 : Nat) → [] = [V.int IntKind.i64 (0 : Int), V.seg IntKind.u8 (16 : Nat) [(0 : Int), (0 : Int), (0 : Int), (0 : Int), (0 : Int), (0 : Int), (0 : Int), (0 : Int), (0 : Int), (0 : Int), (0 : Int), (0 : Int), (0 : Int), (0 : Int), (0 : Int), (0 : Int)]], true = false → true = false, Int.toNat ((4 : Int) + (3 : Int) * (IntKind.wrap IntKind.u64 f % (21 : Int))) = N, ∀ (k : Nat), k < Int.toNat ((4 : Int) + (3 : Int) * (IntKind.wrap IntKind.u64 f % (21 : Int))) → [V.bool false] = [V.bool false], true = false → false = false, b = b, need = need, (4 : Int) + (3 : Int) * (IntKind.wrap IntKind.u64 f % (21 : Int)) = (↑N : Int), (0 : Nat) = (0 : Nat), (0 : Nat) = (0 : Nat), (0 : Nat) = (0 : Nat), (0 : Nat) = (0 : Nat), (0 : Nat) = (0 : Nat), (0 : Nat) = (0 : Nat), (0 : Nat) = (0 : Nat), (none : Option Nat) = none ∨ (none : Option Nat) = none, (0 : Nat) = (0 : Nat), (0 : Nat) = (0 : Nat), (0 : Nat) = (0 : Nat), Int.toNat ((4 : Int) + (3 : Int) * (IntKind.wrap IntKind.u64 f % (21 : Int))) = N, (none : Option Nat) = none ∨ none = some (Int.toNat ((4 : Int) + (3 : Int) * (IntKind.wrap IntKind.u64 f % (21 : Int)))), (0 : Int) = (0 : Int), List.length l = List.length l, ∀ (k : Nat), k < List.length l → [V.int IntKind.i64 (List.getD l k (0 : Int))] = [V.int IntKind.i64 (List.getD l k (0 : Int))], false = true → false = true, (↑(List.length l) : Int) = (↑(List.length l) : Int), (0 : Int) = (0 : Int), (0 : Int) ≤ IntKind.wrap IntKind.u64 need ∧ (0 : Int) < IntKind.wrap IntKind.u64 (↑N : Int), InR IntKind.i64 (IntKind.wrap IntKind.u64 need % IntKind.wrap IntKind.u64 (↑N : Int)), InR IntKind.i64 ((1 : Int) + IntKind.wrap IntKind.u64 need % IntKind.wrap IntKind.u64 (↑N : Int)), T Try.prog (41 : Nat) [V.ptr (Nm.o (0 : Nat)) (0 : Nat) (0 : Nat) (0 : Nat) (0 : Nat), V.int IntKind.i64 (↑N : Int), V.str b, V.sl (Nm.o (1 : Nat)) (17 : Nat) (0 : Nat) (0 : Nat) (0 : Nat) n none, V.int IntKind.i64 ((1 : Int) + IntKind.wrap IntKind.u64 need % IntKind.wrap IntKind.u64 (↑N : Int))] [(Nm.o (0 : Nat), B.flat [V.str qS, V.int IntKind.i64 (↑N : Int)]), (Nm.o (1 : Nat), B.rows (17 : Nat) n (gn s) true)] (V.int IntKind.i64 v) [(Nm.o (0 : Nat), B.flat [V.str qS, V.int IntKind.i64 (↑N : Int)]), (Nm.o (1 : Nat), B.rows (17 : Nat) n (gn s) true)], (decide (v = (0 : Int)) == decide ((1 : Int) + IntKind.wrap IntKind.u64 need % IntKind.wrap IntKind.u64 (↑N : Int) ≤ (↑c : Int))) = true, decide ((↑n : Int) = (↑c : Int)) = true, T Try.prog (20 : Nat) [] [] (V.bool true) []]) := by kernel_rfl
theorem bdGa_p0010 (f : Int) (need : Int) (b : ByteArray) (l : List Int) (N : Nat) (n : Nat) (s : Nat → SSign) (c : Nat) (X : Nat → Bool) (v : Int) :
  along Try.prog (bdGa f need b l N n s c X v) [false, false, true, false] = some (V.bool false, [], [(0 : Int) ≤ IntKind.wrap IntKind.u64 f ∧ (0 : Int) < (21 : Int), InR IntKind.i64 (IntKind.wrap IntKind.u64 f % (21 : Int)), InR IntKind.i64 ((3 : Int) * (IntKind.wrap IntKind.u64 f % (21 : Int))), InR IntKind.i64 ((4 : Int) + (3 : Int) * (IntKind.wrap IntKind.u64 f % (21 : Int))), decide ((200 : Int) < (↑(List.length l) : Int)) = false, decide ((2000 : Int) < (↑(ByteArray.size b) : Int)) = false, T Try.prog (39 : Nat) [V.str (ByteArray.mk (Array.mk [(113 : UInt8)])), V.int IntKind.i64 ((4 : Int) + (3 : Int) * (IntKind.wrap IntKind.u64 f % (21 : Int)))] [] (V.ptr (Nm.o (nat_lit 1088)) (0 : Nat) (0 : Nat) (0 : Nat) (0 : Nat)) [(Nm.o (nat_lit 1088), B.flat [V.str (ByteArray.mk (Array.mk [(113 : UInt8)])), V.int IntKind.i64 ((4 : Int) + (3 : Int) * (IntKind.wrap IntKind.u64 f % (21 : Int)))])], (0 : Int) ≤ (4 : Int) + (3 : Int) * (IntKind.wrap IntKind.u64 f % (21 : Int)) ∧ (4 : Int) + (3 : Int) * (IntKind.wrap IntKind.u64 f % (21 : Int)) ≤ (4 : Int) + (3 : Int) * (IntKind.wrap IntKind.u64 f % (21 : Int)), (1 : Int) * ((4 : Int) + (3 : Int) * (IntKind.wrap IntKind.u64 f % (21 : Int))) ≤ (281474976710656 : Int), (4 : Int) + (3 : Int) * (IntKind.wrap IntKind.u64 f % (21 : Int)) ≤ (281474976710656 : Int), RLoop Try.prog none (0 : Nat) (cB (cB (cR (cL (cR (cR (cR (cR (cR (cR (cR (bodyOf (Bd.f (bdGa f need b l N n s c X v)))))))))))))) (List.length l + (1 : Nat)) (St.mk [V.any, V.str b, V.any, V.int IntKind.i64 need, V.any, V.any, V.any, V.any, V.any, V.int IntKind.i64 (↑N : Int), V.ptr (Nm.o (0 : Nat)) (0 : Nat) (0 : Nat) (0 : Nat) (0 : Nat), V.sl (Nm.o (1 : Nat)) (17 : Nat) (0 : Nat) (0 : Nat) (0 : Nat) (0 : Nat) none, V.sl (Nm.o (2 : Nat)) (1 : Nat) (0 : Nat) (0 : Nat) (0 : Nat) N none, V.int IntKind.i64 (0 : Int), V.any, V.any, V.any, V.any, V.any, V.any, V.any, V.any, V.any, V.any, V.any, V.any, V.any, V.any, V.any, V.any, V.any, V.any, V.any, V.any, V.any, V.any, V.any, V.any, V.any, V.ros (1 : Nat) (List.length l) (li l) false, V.int IntKind.i64 (↑(List.length l) : Int), V.int IntKind.i64 (0 : Int), V.any, V.any, V.any, V.any, V.any, V.any, V.any, V.any, V.any, V.any, V.any, V.any, V.any, V.any, V.any, V.any, V.any, V.any, V.any, V.any, V.any, V.any, V.any, V.any, V.any, V.any, V.any, V.any, V.any, V.any, V.any, V.any, V.any, V.any, V.any, V.any, V.any, V.any, V.any, V.any, V.any, V.any, V.any, V.any, V.any, V.any, V.any, V.any, V.any, V.any, V.any, V.any, V.any, V.any, V.any, V.any, V.any, V.any, V.any, V.any, V.any] [(Nm.o (0 : Nat), B.flat [V.str qS, V.int IntKind.i64 (↑N : Int)]), (Nm.o (1 : Nat), B.rows (17 : Nat) (0 : Nat) (gn fun x => SSign.mk (0 : Int) [(0 : Int), (0 : Int), (0 : Int), (0 : Int), (0 : Int), (0 : Int), (0 : Int), (0 : Int), (0 : Int), (0 : Int), (0 : Int), (0 : Int), (0 : Int), (0 : Int), (0 : Int), (0 : Int)]) true), (Nm.o (2 : Nat), B.rows (1 : Nat) N (mtX fun x => false) true)] (3 : Nat) []) (Exit.exit (0 : Nat)) (St.mk [V.any, V.str b, V.any, V.int IntKind.i64 need, V.any, V.any, V.any, V.any, V.any, V.int IntKind.i64 (↑N : Int), V.ptr (Nm.o (0 : Nat)) (0 : Nat) (0 : Nat) (0 : Nat) (0 : Nat), V.sl (Nm.o (1 : Nat)) (17 : Nat) (0 : Nat) (0 : Nat) (0 : Nat) n none, V.sl (Nm.o (2 : Nat)) (1 : Nat) (0 : Nat) (0 : Nat) (0 : Nat) N none, V.int IntKind.i64 (↑c : Int), V.any, V.any, V.any, V.any, V.any, V.any, V.any, V.any, V.any, V.any, V.any, V.any, V.any, V.any, V.any, V.any, V.any, V.any, V.any, V.any, V.any, V.any, V.any, V.any, V.any, V.ros (1 : Nat) (List.length l) (li l) false, V.int IntKind.i64 (↑(List.length l) : Int), V.int IntKind.i64 (↑(List.length l) : Int), V.any, V.any, V.any, V.any, V.any, V.any, V.any, V.any, V.any, V.any, V.any, V.any, V.any, V.any, V.any, V.any, V.any, V.any, V.any, V.any, V.any, V.any, V.any, V.any, V.any, V.any, V.any, V.any, V.any, V.any, V.any, V.any, V.any, V.any, V.any, V.any, V.any, V.any, V.any, V.any, V.any, V.any, V.any, V.any, V.any, V.any, V.any, V.any, V.any, V.any, V.any, V.any, V.any, V.any, V.any, V.any, V.any, V.any, V.any, V.any, V.any] [(Nm.o (0 : Nat), B.flat [V.str qS, V.int IntKind.i64 (↑N : Int)]), (Nm.o (1 : Nat), B.rows (17 : Nat) n (gn s) true), (Nm.o (2 : Nat), B.rows (1 : Nat) N (mtX X) true)] (3 : Nat) []), ByteArray.mk (Array.mk [(113 : UInt8)]) = qS, (4 : Int) + (3 : Int) * (IntKind.wrap IntKind.u64 f % (21 : Int)) = (↑N : Int), (0 : Nat) = (0 : Nat), ∀ (k : Nat), k < (0 : Nat) → [] = [V.int IntKind.i64 (0 : Int), V.seg IntKind.u8 (16 : Nat) [(0 : Int), (0 : Int), (0 : Int), (0 : Int), (0 : Int), (0 : Int), (0 : Int), (0 : Int), (0 : Int), (0 : Int), (0 : Int), (0 : Int), (0 : Int), (0 : Int), (0 : Int), (0 : Int)]], true = false → true = false, Int.toNat ((4 : Int) + (3 : Int) * (IntKind.wrap IntKind.u64 f % (21 : Int))) = N, ∀ (k : Nat), k < Int.toNat ((4 : Int) + (3 : Int) * (IntKind.wrap IntKind.u64 f % (21 : Int))) → [V.bool false] = [V.bool false], true = false → false = false, b = b, need = need, (4 : Int) + (3 : Int) * (IntKind.wrap IntKind.u64 f % (21 : Int)) = (↑N : Int), (0 : Nat) = (0 : Nat), (0 : Nat) = (0 : Nat), (0 : Nat) = (0 : Nat), (0 : Nat) = (0 : Nat), (0 : Nat) = (0 : Nat), (0 : Nat) = (0 : Nat), (0 : Nat) = (0 : Nat), (none : Option Nat) = none ∨ (none : Option Nat) = none, (0 : Nat) = (0 : Nat), (0 : Nat) = (0 : Nat), (0 : Nat) = (0 : Nat), Int.toNat ((4 : Int) + (3 : Int) * (IntKind.wrap IntKind.u64 f % (21 : Int))) = N, (none : Option Nat) = none ∨ none = some (Int.toNat ((4 : Int) + (3 : Int) * (IntKind.wrap IntKind.u64 f % (21 : Int)))), (0 : Int) = (0 : Int), List.length l = List.length l, ∀ (k : Nat), k < List.length l → [V.int IntKind.i64 (List.getD l k (0 : Int))] = [V.int IntKind.i64 (List.getD l k (0 : Int))], false = true → false = true, (↑(List.length l) : Int) = (↑(List.length l) : Int), (0 : Int) = (0 : Int), (0 : Int) ≤ IntKind.wrap IntKind.u64 need ∧ (0 : Int) < IntKind.wrap IntKind.u64 (↑N : Int), InR IntKind.i64 (IntKind.wrap IntKind.u64 need % IntKind.wrap IntKind.u64 (↑N : Int)), InR IntKind.i64 ((1 : Int) + IntKind.wrap IntKind.u64 need % IntKind.wrap IntKind.u64 (↑N : Int)), T Try.prog (41 : Nat) [V.ptr (Nm.o (0 : Nat)) (0 : Nat) (0 : Nat) (0 : Nat) (0 : Nat), V.int IntKind.i64 (↑N : Int), V.str b, V.sl (Nm.o (1 : Nat)) (17 : Nat) (0 : Nat) (0 : Nat) (0 : Nat) n none, V.int IntKind.i64 ((1 : Int) + IntKind.wrap IntKind.u64 need % IntKind.wrap IntKind.u64 (↑N : Int))] [(Nm.o (0 : Nat), B.flat [V.str qS, V.int IntKind.i64 (↑N : Int)]), (Nm.o (1 : Nat), B.rows (17 : Nat) n (gn s) true)] (V.int IntKind.i64 v) [(Nm.o (0 : Nat), B.flat [V.str qS, V.int IntKind.i64 (↑N : Int)]), (Nm.o (1 : Nat), B.rows (17 : Nat) n (gn s) true)], (decide (v = (0 : Int)) == decide ((1 : Int) + IntKind.wrap IntKind.u64 need % IntKind.wrap IntKind.u64 (↑N : Int) ≤ (↑c : Int))) = true, decide ((↑n : Int) = (↑c : Int)) = false]) := by kernel_rfl
theorem bdGa_p0000 (f : Int) (need : Int) (b : ByteArray) (l : List Int) (N : Nat) (n : Nat) (s : Nat → SSign) (c : Nat) (X : Nat → Bool) (v : Int) :
  along Try.prog (bdGa f need b l N n s c X v) [false, false, false, false] = some (V.bool false, [], [(0 : Int) ≤ IntKind.wrap IntKind.u64 f ∧ (0 : Int) < (21 : Int), InR IntKind.i64 (IntKind.wrap IntKind.u64 f % (21 : Int)), InR IntKind.i64 ((3 : Int) * (IntKind.wrap IntKind.u64 f % (21 : Int))), InR IntKind.i64 ((4 : Int) + (3 : Int) * (IntKind.wrap IntKind.u64 f % (21 : Int))), decide ((200 : Int) < (↑(List.length l) : Int)) = false, decide ((2000 : Int) < (↑(ByteArray.size b) : Int)) = false, T Try.prog (39 : Nat) [V.str (ByteArray.mk (Array.mk [(113 : UInt8)])), V.int IntKind.i64 ((4 : Int) + (3 : Int) * (IntKind.wrap IntKind.u64 f % (21 : Int)))] [] (V.ptr (Nm.o (nat_lit 1088)) (0 : Nat) (0 : Nat) (0 : Nat) (0 : Nat)) [(Nm.o (nat_lit 1088), B.flat [V.str (ByteArray.mk (Array.mk [(113 : UInt8)])), V.int IntKind.i64 ((4 : Int) + (3 : Int) * (IntKind.wrap IntKind.u64 f % (21 : Int)))])], (0 : Int) ≤ (4 : Int) + (3 : Int) * (IntKind.wrap IntKind.u64 f % (21 : Int)) ∧ (4 : Int) + (3 : Int) * (IntKind.wrap IntKind.u64 f % (21 : Int)) ≤ (4 : Int) + (3 : Int) * (IntKind.wrap IntKind.u64 f % (21 : Int)), (1 : Int) * ((4 : Int) + (3 : Int) * (IntKind.wrap IntKind.u64 f % (21 : Int))) ≤ (281474976710656 : Int), (4 : Int) + (3 : Int) * (IntKind.wrap IntKind.u64 f % (21 : Int)) ≤ (281474976710656 : Int), RLoop Try.prog none (0 : Nat) (cB (cB (cR (cL (cR (cR (cR (cR (cR (cR (cR (bodyOf (Bd.f (bdGa f need b l N n s c X v)))))))))))))) (List.length l + (1 : Nat)) (St.mk [V.any, V.str b, V.any, V.int IntKind.i64 need, V.any, V.any, V.any, V.any, V.any, V.int IntKind.i64 (↑N : Int), V.ptr (Nm.o (0 : Nat)) (0 : Nat) (0 : Nat) (0 : Nat) (0 : Nat), V.sl (Nm.o (1 : Nat)) (17 : Nat) (0 : Nat) (0 : Nat) (0 : Nat) (0 : Nat) none, V.sl (Nm.o (2 : Nat)) (1 : Nat) (0 : Nat) (0 : Nat) (0 : Nat) N none, V.int IntKind.i64 (0 : Int), V.any, V.any, V.any, V.any, V.any, V.any, V.any, V.any, V.any, V.any, V.any, V.any, V.any, V.any, V.any, V.any, V.any, V.any, V.any, V.any, V.any, V.any, V.any, V.any, V.any, V.ros (1 : Nat) (List.length l) (li l) false, V.int IntKind.i64 (↑(List.length l) : Int), V.int IntKind.i64 (0 : Int), V.any, V.any, V.any, V.any, V.any, V.any, V.any, V.any, V.any, V.any, V.any, V.any, V.any, V.any, V.any, V.any, V.any, V.any, V.any, V.any, V.any, V.any, V.any, V.any, V.any, V.any, V.any, V.any, V.any, V.any, V.any, V.any, V.any, V.any, V.any, V.any, V.any, V.any, V.any, V.any, V.any, V.any, V.any, V.any, V.any, V.any, V.any, V.any, V.any, V.any, V.any, V.any, V.any, V.any, V.any, V.any, V.any, V.any, V.any, V.any, V.any] [(Nm.o (0 : Nat), B.flat [V.str qS, V.int IntKind.i64 (↑N : Int)]), (Nm.o (1 : Nat), B.rows (17 : Nat) (0 : Nat) (gn fun x => SSign.mk (0 : Int) [(0 : Int), (0 : Int), (0 : Int), (0 : Int), (0 : Int), (0 : Int), (0 : Int), (0 : Int), (0 : Int), (0 : Int), (0 : Int), (0 : Int), (0 : Int), (0 : Int), (0 : Int), (0 : Int)]) true), (Nm.o (2 : Nat), B.rows (1 : Nat) N (mtX fun x => false) true)] (3 : Nat) []) (Exit.exit (0 : Nat)) (St.mk [V.any, V.str b, V.any, V.int IntKind.i64 need, V.any, V.any, V.any, V.any, V.any, V.int IntKind.i64 (↑N : Int), V.ptr (Nm.o (0 : Nat)) (0 : Nat) (0 : Nat) (0 : Nat) (0 : Nat), V.sl (Nm.o (1 : Nat)) (17 : Nat) (0 : Nat) (0 : Nat) (0 : Nat) n none, V.sl (Nm.o (2 : Nat)) (1 : Nat) (0 : Nat) (0 : Nat) (0 : Nat) N none, V.int IntKind.i64 (↑c : Int), V.any, V.any, V.any, V.any, V.any, V.any, V.any, V.any, V.any, V.any, V.any, V.any, V.any, V.any, V.any, V.any, V.any, V.any, V.any, V.any, V.any, V.any, V.any, V.any, V.any, V.ros (1 : Nat) (List.length l) (li l) false, V.int IntKind.i64 (↑(List.length l) : Int), V.int IntKind.i64 (↑(List.length l) : Int), V.any, V.any, V.any, V.any, V.any, V.any, V.any, V.any, V.any, V.any, V.any, V.any, V.any, V.any, V.any, V.any, V.any, V.any, V.any, V.any, V.any, V.any, V.any, V.any, V.any, V.any, V.any, V.any, V.any, V.any, V.any, V.any, V.any, V.any, V.any, V.any, V.any, V.any, V.any, V.any, V.any, V.any, V.any, V.any, V.any, V.any, V.any, V.any, V.any, V.any, V.any, V.any, V.any, V.any, V.any, V.any, V.any, V.any, V.any, V.any, V.any] [(Nm.o (0 : Nat), B.flat [V.str qS, V.int IntKind.i64 (↑N : Int)]), (Nm.o (1 : Nat), B.rows (17 : Nat) n (gn s) true), (Nm.o (2 : Nat), B.rows (1 : Nat) N (mtX X) true)] (3 : Nat) []), ByteArray.mk (Array.mk [(113 : UInt8)]) = qS, (4 : Int) + (3 : Int) * (IntKind.wrap IntKind.u64 f % (21 : Int)) = (↑N : Int), (0 : Nat) = (0 : Nat), ∀ (k : Nat), k < (0 : Nat) → [] = [V.int IntKind.i64 (0 : Int), V.seg IntKind.u8 (16 : Nat) [(0 : Int), (0 : Int), (0 : Int), (0 : Int), (0 : Int), (0 : Int), (0 : Int), (0 : Int), (0 : Int), (0 : Int), (0 : Int), (0 : Int), (0 : Int), (0 : Int), (0 : Int), (0 : Int)]], true = false → true = false, Int.toNat ((4 : Int) + (3 : Int) * (IntKind.wrap IntKind.u64 f % (21 : Int))) = N, ∀ (k : Nat), k < Int.toNat ((4 : Int) + (3 : Int) * (IntKind.wrap IntKind.u64 f % (21 : Int))) → [V.bool false] = [V.bool false], true = false → false = false, b = b, need = need, (4 : Int) + (3 : Int) * (IntKind.wrap IntKind.u64 f % (21 : Int)) = (↑N : Int), (0 : Nat) = (0 : Nat), (0 : Nat) = (0 : Nat), (0 : Nat) = (0 : Nat), (0 : Nat) = (0 : Nat), (0 : Nat) = (0 : Nat), (0 : Nat) = (0 : Nat), (0 : Nat) = (0 : Nat), (none : Option Nat) = none ∨ (none : Option Nat) = none, (0 : Nat) = (0 : Nat), (0 : Nat) = (0 : Nat), (0 : Nat) = (0 : Nat), Int.toNat ((4 : Int) + (3 : Int) * (IntKind.wrap IntKind.u64 f % (21 : Int))) = N, (none : Option Nat) = none ∨ none = some (Int.toNat ((4 : Int) + (3 : Int) * (IntKind.wrap IntKind.u64 f % (21 : Int)))), (0 : Int) = (0 : Int), List.length l = List.length l, ∀ (k : Nat), k < List.length l → [V.int IntKind.i64 (List.getD l k (0 : Int))] = [V.int IntKind.i64 (List.getD l k (0 : Int))], false = true → false = true, (↑(List.length l) : Int) = (↑(List.length l) : Int), (0 : Int) = (0 : Int), (0 : Int) ≤ IntKind.wrap IntKind.u64 need ∧ (0 : Int) < IntKind.wrap IntKind.u64 (↑N : Int), InR IntKind.i64 (IntKind.wrap IntKind.u64 need % IntKind.wrap IntKind.u64 (↑N : Int)), InR IntKind.i64 ((1 : Int) + IntKind.wrap IntKind.u64 need % IntKind.wrap IntKind.u64 (↑N : Int)), T Try.prog (41 : Nat) [V.ptr (Nm.o (0 : Nat)) (0 : Nat) (0 : Nat) (0 : Nat) (0 : Nat), V.int IntKind.i64 (↑N : Int), V.str b, V.sl (Nm.o (1 : Nat)) (17 : Nat) (0 : Nat) (0 : Nat) (0 : Nat) n none, V.int IntKind.i64 ((1 : Int) + IntKind.wrap IntKind.u64 need % IntKind.wrap IntKind.u64 (↑N : Int))] [(Nm.o (0 : Nat), B.flat [V.str qS, V.int IntKind.i64 (↑N : Int)]), (Nm.o (1 : Nat), B.rows (17 : Nat) n (gn s) true)] (V.int IntKind.i64 v) [(Nm.o (0 : Nat), B.flat [V.str qS, V.int IntKind.i64 (↑N : Int)]), (Nm.o (1 : Nat), B.rows (17 : Nat) n (gn s) true)], (decide (v = (0 : Int)) == decide ((1 : Int) + IntKind.wrap IntKind.u64 need % IntKind.wrap IntKind.u64 (↑N : Int) ≤ (↑c : Int))) = false, false = false]) := by kernel_rfl

noncomputable def pcGa_c (b : ByteArray) (need : Int) (N : Nat) (l : List Int) (n : Nat) (s : Nat → SSign) (c : Nat) (X : Nat → Bool) (j : Nat) (u : List Int) (n2 : Nat) (s2 : Nat → SSign) (c2 : Nat) (X2 : Nat → Bool) : Nat → List Prop
 | 0 => [decide ((↑j : Int) < (↑(List.length l) : Int)) = true, (0 : Int) ≤ (↑j : Int) ∧ (↑j : Int) < (↑(List.length l) : Int), (0 : Int) ≤ IntKind.wrap IntKind.u64 (List.getD l (Int.toNat (↑j : Int)) (0 : Int)) ∧ (0 : Int) < IntKind.wrap IntKind.u64 (↑N : Int), InR IntKind.i64 (IntKind.wrap IntKind.u64 (List.getD l (Int.toNat (↑j : Int)) (0 : Int)) % IntKind.wrap IntKind.u64 (↑N : Int)), T Try.prog 43 [.ptr (.o 0) 0 0 0 0, .int .i64 (IntKind.wrap .u64 (List.getD l (Int.toNat (↑j : Int)) (0 : Int)) % IntKind.wrap .u64 (↑N : Int)), .str b] [(.o 0, .flat [.str qS, .int .i64 ↑N])] (.tup [.agg [.seg .u8 16 u], .int .i64 0]) [(.o 0, .flat [.str qS, .int .i64 ↑N])], q false, T Try.prog 25 [.sl (.o 1) 17 0 0 0 n none, .agg [.int .i64 (IntKind.wrap .u64 (List.getD l (Int.toNat (↑j : Int)) (0 : Int)) % IntKind.wrap .u64 (↑N : Int)), .seg .u8 16 u]] [(.o 1, .rows 17 n (gn s) true)] (.sl (.o 1731) 17 0 0 0 n2 none) [(.o 1731, .rows 17 n2 (gn s2) true)], (0 : Int) ≤ IntKind.wrap IntKind.u64 (List.getD l (Int.toNat (↑j : Int)) (0 : Int)) % IntKind.wrap IntKind.u64 (↑N : Int) ∧ IntKind.wrap IntKind.u64 (List.getD l (Int.toNat (↑j : Int)) (0 : Int)) % IntKind.wrap IntKind.u64 (↑N : Int) < (↑N : Int), (0 : Nat) + Int.toNat (IntKind.wrap IntKind.u64 (List.getD l (Int.toNat (↑j : Int)) (0 : Int)) % IntKind.wrap IntKind.u64 (↑N : Int)) < N]
 | _ => []
theorem pcGa_p101 (b : ByteArray) (need : Int) (N : Nat) (l : List Int) (n : Nat) (s : Nat → SSign) (c : Nat) (X : Nat → Bool) (j : Nat) (u : List Int) (n2 : Nat) (s2 : Nat → SSign) (c2 : Nat) (X2 : Nat → Bool) :
 alongPc Try.prog (pcGa b need N l n s c X j u n2 s2 c2 X2) [true, false, true] = (some (.normal, St.mk [.any, .str b, .any, .int .i64 need, .any, .any, .any, .any, .any, .int .i64 ↑N, .ptr (.o 0) 0 0 0 0, .sl (.o 1) 17 0 0 0 n2 none, .sl (.o 2) 1 0 0 0 N none, .int .i64 ↑c2, .any, .any, .any, .any, .any, .any, .any, .any, .any, .any, .any, .any, .any, .any, .any, .any, .any, .any, .any, .any, .any, .any, .any, .any, .any, .ros 1 (List.length l) (li l) false, .int .i64 (↑(List.length l) : Int), .int .i64 (↑(j + 1) : Int), .any, .any, .any, .any, .any, .any, .any, .any, .any, .any, .any, .any, .any, .any, .any, .any, .any, .any, .any, .any, .any, .any, .any, .any, .any, .any, .any, .any, .any, .any, .any, .any, .any, .any, .any, .any, .any, .any, .any, .any, .any, .any, .any, .any, .any, .any, .any, .any, .any, .any, .any, .any, .any, .any, .any, .any, .any, .any, .any, .any, .any] [(.o 0, .flat [.str qS, .int .i64 ↑N]), (.o 1, .rows 17 n2 (gn s2) true), (.o 2, .rows 1 N (mtX X2) true)] 3 [], pcGa_c b need N l n s c X j u n2 s2 c2 X2 0 ++ [(!X ((0 : Nat) + Int.toNat (IntKind.wrap IntKind.u64 (List.getD l (Int.toNat (↑j : Int)) (0 : Int)) % IntKind.wrap IntKind.u64 (↑N : Int)))) = true, (0 : Int) ≤ IntKind.wrap IntKind.u64 (List.getD l (Int.toNat (↑j : Int)) (0 : Int)) % IntKind.wrap IntKind.u64 (↑N : Int) ∧ IntKind.wrap IntKind.u64 (List.getD l (Int.toNat (↑j : Int)) (0 : Int)) % IntKind.wrap IntKind.u64 (↑N : Int) < (↑N : Int), (0 : Nat) + Int.toNat (IntKind.wrap IntKind.u64 (List.getD l (Int.toNat (↑j : Int)) (0 : Int)) % IntKind.wrap IntKind.u64 (↑N : Int)) < N, InR IntKind.i64 ((↑c : Int) + (1 : Int)), InR IntKind.i64 ((↑j : Int) + (1 : Int)), q qS, q (↑N : Int), q n2, ∀ (k : Nat), k < n2 → [V.int IntKind.i64 (SSign.node (s2 k)), V.seg IntKind.u8 (16 : Nat) (SSign.tag (s2 k))] = [V.int IntKind.i64 (SSign.node (s2 k)), V.seg IntKind.u8 (16 : Nat) (SSign.tag (s2 k))], true = false → true = false, q N, ∀ (k : Nat), k < N → Bool.rec [V.bool (X k)] [V.bool true] (Nat.beq k ((0 : Nat) + Int.toNat (IntKind.wrap IntKind.u64 (List.getD l (Int.toNat (↑j : Int)) (0 : Int)) % IntKind.wrap IntKind.u64 (↑N : Int)))) = [V.bool (X2 k)], true = false → true = false, q b, q need, q (↑N : Int), q0, q0, q0, q0, q0, q0, q n2, (none : Option Nat) = none ∨ (none : Option Nat) = none, q0, q0, q0, q N, (none : Option Nat) = none ∨ (none : Option Nat) = none, (↑c : Int) + (1 : Int) = (↑c2 : Int), q (List.length l), ∀ (k : Nat), k < List.length l → [V.int IntKind.i64 (List.getD l k (0 : Int))] = [V.int IntKind.i64 (List.getD l k (0 : Int))], false = true → false = true, q (↑(List.length l) : Int), (↑j : Int) + (1 : Int) = (↑(j + (1 : Nat)) : Int)]) : Option (Exit × St × List Prop)) := by kernel_rfl
theorem pcGa_p100 (b : ByteArray) (need : Int) (N : Nat) (l : List Int) (n : Nat) (s : Nat → SSign) (c : Nat) (X : Nat → Bool) (j : Nat) (u : List Int) (n2 : Nat) (s2 : Nat → SSign) (c2 : Nat) (X2 : Nat → Bool) :
 alongPc Try.prog (pcGa b need N l n s c X j u n2 s2 c2 X2) [true, false, false] = (some (.normal, St.mk [.any, .str b, .any, .int .i64 need, .any, .any, .any, .any, .any, .int .i64 ↑N, .ptr (.o 0) 0 0 0 0, .sl (.o 1) 17 0 0 0 n2 none, .sl (.o 2) 1 0 0 0 N none, .int .i64 ↑c2, .any, .any, .any, .any, .any, .any, .any, .any, .any, .any, .any, .any, .any, .any, .any, .any, .any, .any, .any, .any, .any, .any, .any, .any, .any, .ros 1 (List.length l) (li l) false, .int .i64 (↑(List.length l) : Int), .int .i64 (↑(j + 1) : Int), .any, .any, .any, .any, .any, .any, .any, .any, .any, .any, .any, .any, .any, .any, .any, .any, .any, .any, .any, .any, .any, .any, .any, .any, .any, .any, .any, .any, .any, .any, .any, .any, .any, .any, .any, .any, .any, .any, .any, .any, .any, .any, .any, .any, .any, .any, .any, .any, .any, .any, .any, .any, .any, .any, .any, .any, .any, .any, .any, .any, .any] [(.o 0, .flat [.str qS, .int .i64 ↑N]), (.o 1, .rows 17 n2 (gn s2) true), (.o 2, .rows 1 N (mtX X2) true)] 3 [], pcGa_c b need N l n s c X j u n2 s2 c2 X2 0 ++ [(!X ((0 : Nat) + Int.toNat (IntKind.wrap IntKind.u64 (List.getD l (Int.toNat (↑j : Int)) (0 : Int)) % IntKind.wrap IntKind.u64 (↑N : Int)))) = false, InR IntKind.i64 ((↑j : Int) + (1 : Int)), q qS, q (↑N : Int), q n2, ∀ (k : Nat), k < n2 → [V.int IntKind.i64 (SSign.node (s2 k)), V.seg IntKind.u8 (16 : Nat) (SSign.tag (s2 k))] = [V.int IntKind.i64 (SSign.node (s2 k)), V.seg IntKind.u8 (16 : Nat) (SSign.tag (s2 k))], true = false → true = false, q N, ∀ (k : Nat), k < N → [V.bool (X k)] = [V.bool (X2 k)], true = false → true = false, q b, q need, q (↑N : Int), q0, q0, q0, q0, q0, q0, q n2, (none : Option Nat) = none ∨ (none : Option Nat) = none, q0, q0, q0, q N, (none : Option Nat) = none ∨ (none : Option Nat) = none, (↑c : Int) = (↑c2 : Int), q (List.length l), ∀ (k : Nat), k < List.length l → [V.int IntKind.i64 (List.getD l k (0 : Int))] = [V.int IntKind.i64 (List.getD l k (0 : Int))], false = true → false = true, q (↑(List.length l) : Int), (↑j : Int) + (1 : Int) = (↑(j + (1 : Nat)) : Int)]) : Option (Exit × St × List Prop)) := by kernel_rfl
theorem pcGa_p0 (b : ByteArray) (need : Int) (N : Nat) (l : List Int) (n : Nat) (s : Nat → SSign) (c : Nat) (X : Nat → Bool) (j : Nat) (u : List Int) (n2 : Nat) (s2 : Nat → SSign) (c2 : Nat) (X2 : Nat → Bool) :
 alongPc Try.prog (pcGa b need N l n s c X j u n2 s2 c2 X2) [false] = (some (.exit 0, St.mk [.any, .str b, .any, .int .i64 need, .any, .any, .any, .any, .any, .int .i64 ↑N, .ptr (.o 0) 0 0 0 0, .sl (.o 1) 17 0 0 0 n none, .sl (.o 2) 1 0 0 0 N none, .int .i64 ↑c, .any, .any, .any, .any, .any, .any, .any, .any, .any, .any, .any, .any, .any, .any, .any, .any, .any, .any, .any, .any, .any, .any, .any, .any, .any, .ros 1 (List.length l) (li l) false, .int .i64 (↑(List.length l) : Int), .int .i64 (↑(List.length l) : Int), .any, .any, .any, .any, .any, .any, .any, .any, .any, .any, .any, .any, .any, .any, .any, .any, .any, .any, .any, .any, .any, .any, .any, .any, .any, .any, .any, .any, .any, .any, .any, .any, .any, .any, .any, .any, .any, .any, .any, .any, .any, .any, .any, .any, .any, .any, .any, .any, .any, .any, .any, .any, .any, .any, .any, .any, .any, .any, .any, .any, .any] [(.o 0, .flat [.str qS, .int .i64 ↑N]), (.o 1, .rows 17 n (gn s) true), (.o 2, .rows 1 N (mtX X) true)] 3 [], [decide ((↑j : Int) < (↑(List.length l) : Int)) = false, q qS, q (↑N : Int), q n, ∀ (k : Nat), k < n → [V.int IntKind.i64 (SSign.node (s k)), V.seg IntKind.u8 (16 : Nat) (SSign.tag (s k))] = [V.int IntKind.i64 (SSign.node (s k)), V.seg IntKind.u8 (16 : Nat) (SSign.tag (s k))], true = false → true = false, q N, ∀ (k : Nat), k < N → [V.bool (X k)] = [V.bool (X k)], true = false → true = false, q b, q need, q (↑N : Int), q0, q0, q0, q0, q0, q0, q n, (none : Option Nat) = none ∨ (none : Option Nat) = none, q0, q0, q0, q N, (none : Option Nat) = none ∨ (none : Option Nat) = none, q (↑c : Int), q (List.length l), ∀ (k : Nat), k < List.length l → [V.int IntKind.i64 (List.getD l k (0 : Int))] = [V.int IntKind.i64 (List.getD l k (0 : Int))], false = true → false = true, q (↑(List.length l) : Int), (↑j : Int) = (↑(List.length l) : Int)]) : Option (Exit × St × List Prop)) := by kernel_rfl

def tgA (b : ByteArray) (a : Nat) : List Int := tagV (textB qS ++ putZ (a : Int)) b
def gaX (b : ByteArray) (a : Nat) : SSign := ⟨(a : Nat), tgA b a⟩
def gaS (b : ByteArray) (N : Nat) (l : List Int) : Nat → Nat × (Nat → SSign)
 | 0 => (0, fun _ => zS)
 | j + 1 => (addN (gaS b N l j).2 (gaS b N l j).1 (gaX b (atN N l j)), addS (gaS b N l j).2 (gaS b N l j).1 (gaX b (atN N l j)))
/-- The signs so far: one of each node that was met, in order. -/
structure GaI (b : ByteArray) (N n : Nat) (s : Nat → SSign) (X : Nat → Bool) : Prop where
 sort : ∀ i j, i < j → j < n → (s i).node < (s j).node
 mem : ∀ i, i < n → ∃ q, q < N ∧ X q = true ∧ s i = gaX b q
 cov : ∀ q, q < N → X q = true → ∃ i, i < n ∧ (s i).node = (q : Int)
 cnt : n = cntX N X
theorem hasN_ex {s : Nat → SSign} {n : Nat} {v : Int} (h : hasN s n v = true) : ∃ k, k < n ∧ (s k).node = v := by
 rw [hasN, List.any_eq_true] at h
 obtain ⟨k, h1, h2⟩ := h
 exact ⟨k, List.mem_range.1 h1, of_decide_eq_true h2⟩
theorem GaI.step {b : ByteArray} {N n a : Nat} {s : Nat → SSign} {X : Nat → Bool} (h : GaI b N n s X) (ha : a < N) : GaI b N (addN s n (gaX b a)) (addS s n (gaX b a)) (fun q => X q || decide (q = a)) := by
 have hx : (gaX b a).node = (a : Int) := rfl
 cases hh : hasN s n (gaX b a).node with
 | true =>
  obtain ⟨k, hk, e⟩ := hasN_ex hh
  obtain ⟨q, h1, h2, h3⟩ := h.mem k hk
  rw [h3] at e
  have e : (q : Int) = (a : Int) := e
  obtain rfl : q = a := by omega
  have hX : ∀ r, (X r || decide (r = q)) = X r := fun r => by
   by_cases hr : r = q
   ·rw [hr, h2]; rfl
   ·rw [decide_eq_false hr, Bool.or_false]
  have e2 : (fun r => X r || decide (r = q)) = X := funext hX
  rw [e2, addN, addS, if_pos hh, if_pos hh]
  exact h
 | false =>
  have hno : ∀ k, k < n → ¬ (s k).node = (a : Int) := fun k hk e => by rw [hx] at hh; rw [hasN_true k hk e] at hh; cases hh
  have hXa : X a = false := by
   cases hc : X a with
   | false => rfl
   | true => obtain ⟨i, h1, h2⟩ := h.cov a ha hc; exact (hno i h1 h2).elim
  rw [addN, addS, if_neg (by rw [hh]; decide), if_neg (by rw [hh]; decide)]
  have hp := atS_le s (gaX b a).node n
  have hlt : ∀ k, k < atS s (gaX b a).node n → (s k).node < (a : Int) := fun k hk => by
   have h1 := atS_lt hk
   have h2 := hno k (by omega)
   rw [hx] at h1; omega
  have hgt : ∀ k, k < n → atS s (gaX b a).node n ≤ k → (a : Int) < (s k).node := fun k hk hpk => by
   have h1 := atS_gt (s := s) (v := (gaX b a).node) (n := n) (by omega)
   rw [hx] at h1
   rcases Nat.eq_or_lt_of_le hpk with h2 | h2
   ·rw [hx] at h2; rw [← h2]; exact h1
   ·rw [hx] at h2; exact Int.lt_trans h1 (h.sort _ _ h2 hk)
  generalize atS s (gaX b a).node n = p at *
  refine ⟨fun i j hij hj => ?_, fun i hi => ?_, fun q hq hXq => ?_, ?_⟩
  ·unfold insS
   by_cases h1 : j < p
   ·rw [if_pos (by omega), if_pos h1]; exact h.sort i j hij (by omega)
   ·by_cases h2 : j = p
    ·rw [if_pos (by omega), if_neg h1, if_pos h2]; exact hlt i (by omega)
    ·rw [if_neg h1, if_neg h2]
     by_cases h3 : i < p
     ·rw [if_pos h3]; exact Int.lt_trans (hlt i h3) (hgt (j - 1) (by omega) (by omega))
     ·by_cases h4 : i = p
      ·rw [if_neg h3, if_pos h4]; exact hgt (j - 1) (by omega) (by omega)
      ·rw [if_neg h3, if_neg h4]; exact h.sort (i - 1) (j - 1) (by omega) (by omega)
  ·unfold insS
   have old : ∀ k, k < n → ∃ q, q < N ∧ (X q || decide (q = a)) = true ∧ s k = gaX b q := fun k hk => by
    obtain ⟨q, h1, h2, h3⟩ := h.mem k hk
    exact ⟨q, h1, by rw [h2]; rfl, h3⟩
   by_cases h1 : i < p
   ·rw [if_pos h1]; exact old i (by omega)
   ·by_cases h2 : i = p
    ·rw [if_neg h1, if_pos h2]; exact ⟨a, ha, by rw [decide_eq_true rfl, Bool.or_true], rfl⟩
    ·rw [if_neg h1, if_neg h2]; exact old (i - 1) (by omega)
  ·by_cases hqa : q = a
   ·subst hqa
    refine ⟨p, by omega, ?_⟩
    rw [insS, if_neg (Nat.lt_irrefl p), if_pos rfl]; rfl
   ·rw [decide_eq_false hqa, Bool.or_false] at hXq
    obtain ⟨i, h1, h2⟩ := h.cov q hq hXq
    by_cases h3 : i < p
    ·exact ⟨i, by omega, by rw [insS, if_pos h3]; exact h2⟩
    ·exact ⟨i + 1, by omega, by rw [insS, if_neg (by omega), if_neg (by omega)]; exact h2⟩
  ·rw [cntX_set ha hXa, ← h.cnt]
theorem gaInv (b : ByteArray) {N : Nat} (hN : 0 < N) (l : List Int) : ∀ j, GaI b N (gaS b N l j).1 (gaS b N l j).2 (chX N l j)
 | 0 => ⟨fun i j _ h => absurd h (Nat.not_lt_zero j), fun i h => absurd h (Nat.not_lt_zero i), fun q _ h => (Bool.false_ne_true h).elim, cntX_none.symm⟩
 | j + 1 => (gaInv b hN l j).step (atN_lt hN l j)
theorem gaOk {b : ByteArray} {N n : Nat} {s : Nat → SSign} {X : Nat → Bool} (h : GaI b N n s X) : okA qS (N : Nat) (N : Nat) b s n = true := by
 refine okA_true fun k hk => ?_
 obtain ⟨q, h1, h2, h3⟩ := h.mem k hk
 have e : (s k).node = (q : Int) := by rw [h3]; rfl
 have et : (s k).tag = tagV (textB qS ++ putZ (q : Int)) b := by rw [h3]; rfl
 have hl : ¬ (s k).node ≤ lastS s k := by
  cases k with
  | zero => rw [e]; show ¬ (q : Int) ≤ -1; omega
  | succ k => have := h.sort k (k + 1) (Nat.lt_succ_self k) hk; show ¬ _ ≤ (s k).node; omega
 rw [okB, decide_eq_false hl, chkB, e, et, decide_eq_true (by omega), decide_eq_true ⟨by omega, by omega⟩, decide_eq_true rfl]; rfl
theorem wrN {N : Nat} (h : N ≤ 64) : IntKind.wrap .u64 (N : Int) = N := by
 simp [IntKind.wrap, IntKind.signed, IntKind.bits]; omega
theorem wr0 (x : Int) : 0 ≤ IntKind.wrap .u64 x ∧ IntKind.wrap .u64 x < 18446744073709551616 := by
 simp [IntKind.wrap, IntKind.signed, IntKind.bits]; omega
theorem mset {N : Nat} {l : List Int} {i : Nat} (k : Nat) : (Bool.rec [V.bool (chX N l i k)] [V.bool true] (Nat.beq k (atN N l i)) : List V) = [V.bool (chX N l (i + 1) k)] := by
 rw [chX_succ]
 cases hb : Nat.beq k (atN N l i) with
 | true => rw [decide_eq_true (Nat.eq_of_beq_eq_true hb), Bool.or_true]
 | false => rw [decide_eq_false (fun h => by rw [h, Nat.beq_refl] at hb; cases hb), Bool.or_false]
theorem T_adF {n : Nat} (s : Nat → SSign) (x : SSign) (hn : n ≤ 1000000) : T Try.prog 25 [sgs 1 n, .agg x.c] [(.o 1, sgB n s)] (sgs 1731 (addN s n x)) [(.o 1731, sgB (addN s n x) (addS s n x))] := by
 obtain ⟨σ, hσ, h3⟩ := T.at (T_ad s x hn) [.o 1] [.o 1731] (by decide) (by simp) rfl
 simp only [List.map_cons, List.map_nil, List.cons.injEq, and_true] at hσ
 have h4 : T Try.prog 25 [sg n s, .agg x.c] [] (sgs 1731 (addN s n x)) [(.o 1731, sgB (addN s n x) (addS s n x))] := by
  simpa [V.rens, V.ren, Heap.ren, Sy.B.ren, sgs, sgB, sg, SSign.c, hσ] using h3
 refine T.frz h4 (hw_of rfl ?_) ?_
 ·and_intros
  all_goals first
   | exact True.intro
   | (intro k hk; rw [Nat.zero_add]; rfl)
   | (with_reducible assumption)
   | (rw [decide_eq_true_eq]; omega)
   | (rw [decide_eq_false_iff_not]; omega)
   | with_reducible rfl
   | (intro _ _; exact True.intro)
   | (intro _ _; with_reducible rfl)
   | (intro _ _; rfl)
   | (simp only [IntKind.min, IntKind.max, IntKind.signed, IntKind.bits, if_true]; omega)
   | omega
   | (intro h; exact h)
   | (intro h; cases h; done)
   | exact .inl rfl
   | exact .inl True.intro
   | exact .inr rfl
   | (simp; done)
 ·rintro n ⟨b, hb⟩ ⟨b', hb'⟩
  simp only [List.mem_cons, List.mem_nil_iff, or_false, Prod.mk.injEq] at hb hb'
  rw [hb.1] at hb'
  cases hb'.1
theorem T_chL {sd : ByteArray} (hs : sd.size ≤ 1000) {N n : Int} (hN : N ≠ 0) {b : ByteArray} (hb : b.size ≤ 1000000000) {m : Nat} (hm : m ≤ 1000000) (s : Nat → SSign) (need : Int) : T Try.prog 41 [p0 0, .int .i64 n, .str b, sgs 1 m, .int .i64 need] [(.o 0, kyB sd N), (.o 1, sgB m s)] (.int .i64 (chkV sd N n b m s need)) [(.o 0, kyB sd N), (.o 1, sgB m s)] := by
 refine T.lendH (pre0 := [(.o 0, kyB sd N)]) (pre0' := [(.o 0, kyB sd N)]) (pre1 := [(.o 1, sgB m s)]) (post := [(.o 0, kyB sd N)]) (T_ch hs (n := n) hN hb hm s need) rfl ?_ rfl ?_ (FreeV.int _ _) ?_ ?_
 ·and_intros
  all_goals first
   | exact True.intro
   | (intro k hk; rw [Nat.zero_add]; rfl)
   | (with_reducible assumption)
   | (rw [decide_eq_true_eq]; omega)
   | (rw [decide_eq_false_iff_not]; omega)
   | with_reducible rfl
   | (intro _ _; exact True.intro)
   | (intro _ _; with_reducible rfl)
   | (intro _ _; rfl)
   | (simp only [IntKind.min, IntKind.max, IntKind.signed, IntKind.bits, if_true]; omega)
   | omega
   | (intro h; exact h)
   | (intro h; cases h; done)
   | exact .inl rfl
   | exact .inl True.intro
   | exact .inr rfl
   | (simp; done)
 ·and_intros
  all_goals first
   | exact True.intro
   | (with_reducible assumption)
   | (rw [decide_eq_true_eq]; omega)
   | (rw [decide_eq_false_iff_not]; omega)
   | with_reducible rfl
   | (intro _ _; exact True.intro)
   | (intro _ _; with_reducible rfl)
   | (intro _ _; rfl)
   | (simp only [IntKind.min, IntKind.max, IntKind.signed, IntKind.bits, if_true]; omega)
   | omega
   | (intro h; exact h)
   | (intro h; cases h; done)
   | exact .inl rfl
   | exact .inl True.intro
   | exact .inr rfl
   | (simp; done)
 ·intro q hq
  rw [List.mem_singleton] at hq; subst hq
  exact FreeB.flat rfl
 ·rintro n ⟨b, hb⟩ ⟨b', hb'⟩
  simp only [List.mem_cons, List.mem_nil_iff, or_false, Prod.mk.injEq] at hb hb'
  rw [hb.1] at hb'
  cases hb'.1
theorem T_ga (f : Int) (b : ByteArray) (l : List Int) (need : Int) : T Try.prog 11 [.int .i64 f, .str b, lr l, .int .i64 need] [] (.bool true) [] := by
 have hlv := T_lv
 have hf := wr0 f
 by_cases h1 : 200 < l.length
 ·refine T_al (bdGa_p11 f need b l 0 0 (fun _ => zS) 0 (fun _ => false) 0) Try.func11 ?_
  simp only [All, All_append, pcGa_c]; and_intros
  all_goals first
   | exact True.intro
   | exact hlv
   | (with_reducible assumption)
   | (rw [decide_eq_true_eq]; omega)
   | (rw [decide_eq_false_iff_not]; omega)
   | with_reducible rfl
   | (intro _ _; exact True.intro)
   | (intro _ _; with_reducible rfl)
   | (intro _ _; rfl)
   | (simp only [IntKind.min, IntKind.max, IntKind.signed, IntKind.bits, if_true]; omega)
   | omega
   | (intro h; exact h)
   | (intro h; cases h; done)
   | exact .inl rfl
   | exact .inl True.intro
   | exact .inr rfl
   | (simp; done)
 by_cases h2 : 2000 < b.size
 ·refine T_al (bdGa_p01 f need b l 0 0 (fun _ => zS) 0 (fun _ => false) 0) Try.func11 ?_
  simp only [All, All_append, pcGa_c]; and_intros
  all_goals first
   | exact True.intro
   | exact hlv
   | (with_reducible assumption)
   | (rw [decide_eq_true_eq]; omega)
   | (rw [decide_eq_false_iff_not]; omega)
   | with_reducible rfl
   | (intro _ _; exact True.intro)
   | (intro _ _; with_reducible rfl)
   | (intro _ _; rfl)
   | (simp only [IntKind.min, IntKind.max, IntKind.signed, IntKind.bits, if_true]; omega)
   | omega
   | (intro h; exact h)
   | (intro h; cases h; done)
   | exact .inl rfl
   | exact .inl True.intro
   | exact .inr rfl
   | (simp; done)
 obtain ⟨N, hN, hN4, hN64, hN3⟩ : ∃ N : Nat, 4 + 3 * (IntKind.wrap .u64 f % 21) = (N : Int) ∧ 4 ≤ N ∧ N ≤ 64 ∧ N % 3 = 1 :=
  ⟨(4 + 3 * (IntKind.wrap .u64 f % 21)).toNat, by omega, by omega, by omega, by omega⟩
 have hwN := wrN hN64
 have hL : RLoop Try.prog none 0 (cB (cB (cR (cL (cR (cR (cR (cR (cR (cR (cR (bodyOf Try.f11)))))))))))) (l.length + 1) (gaI b need N l (gaS b N l 0).1 (gaS b N l 0).2 (cntX N (chX N l 0)) (chX N l 0) 0) (.exit 0) (gaI b need N l (gaS b N l l.length).1 (gaS b N l l.length).2 (cntX N (chX N l l.length)) (chX N l l.length) l.length) := by
  have hstep : ∀ j, j < l.length → R Try.prog none 0 (cB (cB (cR (cL (cR (cR (cR (cR (cR (cR (cR (bodyOf Try.f11)))))))))))) (gaI b need N l (gaS b N l j).1 (gaS b N l j).2 (cntX N (chX N l j)) (chX N l j) j) .normal (gaI b need N l (gaS b N l (j + 1)).1 (gaS b N l (j + 1)).2 (cntX N (chX N l (j + 1))) (chX N l (j + 1)) (j + 1)) := by
   intro j hj
   have ha := atN_lt (N := N) (by omega) l j
   have h0 := Int.emod_nonneg (IntKind.wrap .u64 (l.getD j 0)) (b := (N : Int)) (by omega)
   have hlj := wr0 (l.getD j 0)
   have hid : IntKind.wrap .u64 (l.getD j 0) % (N : Int) = ((atN N l j : Nat) : Int) := by
    rw [atN, if_pos hj]; omega
   have hcl := cntX_le N (chX N l j)
   have hcn : (gaS b N l j).1 ≤ 1000000 := by rw [(gaInv b (by omega) l j).cnt]; omega
   have hSg := T_sg (s := qS) (n := (N : Nat)) (id := (atN N l j : Nat)) (by rw [qS_size]; decide) (by omega) (by omega) (b := b) (by omega)
   rw [sgnV, sgnE, if_pos (by omega), if_pos (by omega)] at hSg
   have hAd := T_adF (gaS b N l j).2 (gaX b (atN N l j)) hcn
   cases hx : chX N l j (atN N l j) with
   | true =>
    have e := chX_cnt_old hx
    have hX : (!chX N l j (atN N l j)) = false := by rw [hx]; rfl
    refine R_alongPc NG MO _ (pcGa_p100 b need N l (gaS b N l j).1 (gaS b N l j).2 (cntX N (chX N l j)) (chX N l j) j (tgA b (atN N l j)) (gaS b N l (j + 1)).1 (gaS b N l (j + 1)).2 (cntX N (chX N l (j + 1))) (chX N l (j + 1))) ?_ (Nat.zero_le _)
    simp only [All, All_append, pcGa_c, Int.toNat_natCast, Nat.zero_add, hwN, hid]; and_intros
    all_goals first
     | exact True.intro
     | exact hSg
     | exact hAd
     | exact hX
     | (intro k _; rw [chX_old hx])
     | (with_reducible assumption)
     | (rw [decide_eq_true_eq]; omega)
     | (rw [decide_eq_false_iff_not]; omega)
     | with_reducible rfl
     | (intro _ _; exact True.intro)
     | (intro _ _; with_reducible rfl)
     | (intro _ _; rfl)
     | (simp only [IntKind.min, IntKind.max, IntKind.signed, IntKind.bits, if_true]; omega)
     | omega
     | (intro h; exact h)
     | (intro h; cases h; done)
     | exact .inl rfl
     | exact .inl True.intro
     | exact .inr rfl
     | (simp; done)
   | false =>
    have e := chX_cnt_new (by omega) hx
    have hX : (!chX N l j (atN N l j)) = true := by rw [hx]; rfl
    refine R_alongPc NG MO _ (pcGa_p101 b need N l (gaS b N l j).1 (gaS b N l j).2 (cntX N (chX N l j)) (chX N l j) j (tgA b (atN N l j)) (gaS b N l (j + 1)).1 (gaS b N l (j + 1)).2 (cntX N (chX N l (j + 1))) (chX N l (j + 1))) ?_ (Nat.zero_le _)
    simp only [All, All_append, pcGa_c, Int.toNat_natCast, Nat.zero_add, hwN, hid]; and_intros
    all_goals first
     | exact True.intro
     | exact hSg
     | exact hAd
     | exact hX
     | (intro k _; exact mset k)
     | (with_reducible assumption)
     | (rw [decide_eq_true_eq]; omega)
     | (rw [decide_eq_false_iff_not]; omega)
     | with_reducible rfl
     | (intro _ _; exact True.intro)
     | (intro _ _; with_reducible rfl)
     | (intro _ _; rfl)
     | (simp only [IntKind.min, IntKind.max, IntKind.signed, IntKind.bits, if_true]; omega)
     | omega
     | (intro h; exact h)
     | (intro h; cases h; done)
     | exact .inl rfl
     | exact .inl True.intro
     | exact .inr rfl
     | (simp; done)
  have hend : R Try.prog none 0 (cB (cB (cR (cL (cR (cR (cR (cR (cR (cR (cR (bodyOf Try.f11)))))))))))) (gaI b need N l (gaS b N l l.length).1 (gaS b N l l.length).2 (cntX N (chX N l l.length)) (chX N l l.length) l.length) (.exit 0) (gaI b need N l (gaS b N l l.length).1 (gaS b N l l.length).2 (cntX N (chX N l l.length)) (chX N l l.length) l.length) := by
   refine R_alongPc NG MO _ (pcGa_p0 b need N l (gaS b N l l.length).1 (gaS b N l l.length).2 (cntX N (chX N l l.length)) (chX N l l.length) l.length [] 0 (fun _ => zS) 0 (fun _ => false)) ?_ (Nat.zero_le _)
   simp only [All, All_append, pcGa_c]; and_intros
   all_goals first
    | exact True.intro
    | (with_reducible assumption)
    | (rw [decide_eq_true_eq]; omega)
    | (rw [decide_eq_false_iff_not]; omega)
    | with_reducible rfl
    | (intro _ _; exact True.intro)
    | (intro _ _; with_reducible rfl)
    | (intro _ _; rfl)
    | (simp only [IntKind.min, IntKind.max, IntKind.signed, IntKind.bits, if_true]; omega)
    | omega
    | (intro h; exact h)
    | (intro h; cases h; done)
    | exact .inl rfl
    | exact .inl True.intro
    | exact .inr rfl
    | (simp; done)
  exact RLoop.inv (fun j => gaI b need N l (gaS b N l j).1 (gaS b N l j).2 (cntX N (chX N l j)) (chX N l j) j) l.length hstep hend (by simp)
 have hI := gaInv b (N := N) (by omega) l l.length
 rw [show (gaS b N l 0).1 = 0 from rfl, show (gaS b N l 0).2 = fun _ => zS from rfl, show cntX N (chX N l 0) = 0 from cntX_none, show chX N l 0 = fun _ => false from rfl] at hL
 generalize (gaS b N l l.length).1 = n at *
 generalize (gaS b N l l.length).2 = s at *
 generalize chX N l l.length = X at *
 have hcl := cntX_le N X
 have hc := hI.cnt
 have hnd := wr0 need
 have hm0 := Int.emod_nonneg (IntKind.wrap .u64 need) (b := (N : Int)) (by omega)
 have hm1 := Int.emod_lt_of_pos (IntKind.wrap .u64 need) (b := (N : Int)) (by omega)
 have hC := T_chL (sd := qS) (N := (N : Nat)) (n := (N : Nat)) (by rw [qS_size]; decide) (by omega) (b := b) (by omega) (m := n) (by omega) s (1 + IntKind.wrap .u64 need % (N : Int))
 have hg : goodN (N : Int) = true := by
  have : Int.tmod (N : Int) 3 = 1 := by rw [Int.tmod_eq_emod_of_nonneg (by omega)]; omega
  rw [goodN, decide_eq_true (by omega), decide_eq_true (by omega), decide_eq_true this]; rfl
 have hv : decide (chkV qS (N : Nat) (N : Nat) b n s (1 + IntKind.wrap .u64 need % (N : Int)) = 0) = decide (1 + IntKind.wrap .u64 need % (N : Int) ≤ (n : Int)) := by
  rw [chkV, if_pos ⟨hg, by omega, by omega⟩, gaOk hI, if_pos rfl]
  by_cases hq : 1 + IntKind.wrap .u64 need % (N : Int) ≤ (n : Int)
  ·rw [if_pos ⟨hq, by omega⟩, decide_eq_true rfl, decide_eq_true hq]
  ·rw [if_neg (fun h => hq h.1), decide_eq_false (by decide), decide_eq_false hq]
 generalize chkV qS (N : Nat) (N : Nat) b n s (1 + IntKind.wrap .u64 need % (N : Int)) = v at *
 have hD := T_de (s := qS) (n := (N : Nat)) (by rw [qS_size]; decide) (by omega) 1088
 have hv2 : (decide (v = 0) == decide (1 + IntKind.wrap .u64 need % (N : Int) ≤ (n : Int))) = true := by rw [hv]; exact beq_self_eq_true _
 rw [← hc] at hL
 have hin : ∀ x : Int, -9223372036854775808 ≤ x → x ≤ 9223372036854775807 → InR .i64 x := fun x h1 h2 => by
  simp only [InR, IntKind.min, IntKind.max, IntKind.signed, IntKind.bits, if_true]; omega
 refine T_al (bdGa_p0011 f need b l N n s n X v) Try.func11 ?_
 simp only [All, All_append, pcGa_c, hN, hwN, Int.toNat_natCast]; and_intros
 all_goals first
  | exact True.intro
  | exact hlv
  | exact hD
  | exact hL
  | exact hC
  | exact hv2
  | exact decide_eq_true rfl
  | exact hin _ (by omega) (by omega)
  | (intro k hk; exact absurd hk (Nat.not_lt_zero k))
  | rfl
  | (with_reducible assumption)
  | (rw [decide_eq_true_eq]; omega)
  | (rw [decide_eq_false_iff_not]; omega)
  | with_reducible rfl
  | (intro _ _; exact True.intro)
  | (intro _ _; with_reducible rfl)
  | (intro _ _; rfl)
  | (simp only [IntKind.min, IntKind.max, IntKind.signed, IntKind.bits, if_true]; omega)
  | omega
  | (intro h; exact h)
  | (intro h; cases h; done)
  | exact .inl rfl
  | exact .inl True.intro
  | exact .inr rfl
  | (simp; done)
end Go.Proofs.Ytpallipnhmoipaa
namespace Go.Proofs.Ytpallipnhmoipaa
open Go Sy Go.Proofs
def tab (f : Nat → Int) (n : Nat) : List Int := (List.range n).map f
theorem tab_len (f : Nat → Int) (n : Nat) : (tab f n).length = n := by simp [tab]
theorem tab_get {f : Nat → Int} {n i : Nat} (h : i < n) : (tab f n).getD i 0 = f i := by
 rw [tab, List.getD_eq_getElem?_getD, List.getElem?_map, List.getElem?_range h]; rfl
theorem cellsInt : Try.prog.cellsOf 3 = 1 := by kernel_rfl
theorem sg_ints (U : Imm) {d : Nat} {cs : List V} (h : ShC Try.prog d 25 cs) : ∃ l : List Int, CsLe U cs [lr l] ∧ l.length ≤ 9223372036854775807 := by
 obtain ⟨d, len, f, rfl, hl, hf⟩ := sh_slice h Try.underlying25
 obtain ⟨s, hs⟩ := choose_fn (α := Int) (n := len) (p := fun i n => f i = [.int .i64 n]) fun i hi => by
  obtain ⟨n, h1, _⟩ := sh_int (hf i hi) Try.underlying3
  exact ⟨n, h1⟩
 refine ⟨tab s len, ?_, by rw [tab_len]; exact hl⟩
 rw [cellsInt, lr, tab_len]
 exact CsLe.ros fun i hi => by
  rw [hs i hi, li, tab_get hi]; exact CsLe.refl _ _
end Go.Proofs.Ytpallipnhmoipaa
namespace Go.Proofs.Ytpallipnhmoipaa
open Go Sy Go.Proofs
theorem cellsSign : Try.prog.cellsOf 37 = 17 := by kernel_rfl
theorem sg_sign {d : Nat} {cs : List V} (h : ShC Try.prog d 37 cs) : ∃ s : SSign, cs = s.c ∧ s.tag.length = 16 := by
 obtain ⟨d, a, _, rfl, ha, b, _, rfl, hb, rfl⟩ := sh_struct h Try.underlying37
 obtain ⟨n, rfl, _⟩ := sh_int ha Try.underlying3
 obtain ⟨xs, rfl, h1, h2⟩ := sh_arr hb Try.underlying35 Try.underlying5
 exact ⟨⟨n, xs⟩, rfl, h1⟩
theorem sg_signs (U : Imm) {d : Nat} {cs : List V} (h : ShC Try.prog d 33 cs) : ∃ n s, CsLe U cs [sg n s] ∧ n ≤ 9223372036854775807 ∧ ∀ i, i < n → (s i).tag.length = 16 := by
 obtain ⟨d, len, f, rfl, hl, hf⟩ := sh_slice h Try.underlying33
 obtain ⟨s, hs⟩ := choose_fn fun i hi => sg_sign (hf i hi)
 refine ⟨len, s, ?_, hl, fun i hi => (hs i hi).2⟩
 rw [cellsSign]
 exact CsLe.ros fun i hi => by rw [(hs i hi).1]; exact CsLe.refl _ _
end Go.Proofs.Ytpallipnhmoipaa
