/-
  Contracts and laws that the claim's theorem leans on, joined out of the texts Kd0 Kd1D Kd1 Mg1 (own work of this seat): Contracts: whether enough nodes signed a body, by the program and by the document; Contracts: QuorumChecks; Contracts: QuorumChecks; The shapes of signs that are handed in.
-/
import Derived.Test.YtpallipnhmoipaaC04
import Derived.Test.YtpallipnhmoipaaC05
import Derived.Test.YtpallipnhmoipaaC08
set_option linter.unusedVariables false
set_option linter.unusedSimpArgs false
set_option maxHeartbeats 1000000
namespace Go.Proofs.Ytpallipnhmoipaa
open Go Sy Go.Proofs
noncomputable def bdCh_c (sd : ByteArray) (N : Int) (n : Int) (b : ByteArray) (m : Nat) (s : Nat → SSign) (need : Int) (g : Bool) (mm : Nat) : Nat → List Prop
 | 0 => [T Try.prog 51 [.ptr (.o 0) 0 0 0 0] [(.o 0, .flat [.str sd, .int .i64 N])] (.int .i64 N) [(.o 0, .flat [.str sd, .int .i64 N])]]
 | 1 => [decide (N = (0 : Int)) = false, T Try.prog 12 [.int .i64 n] [] (.bool g) []]
 | _ => []
theorem bdCh_p1 (sd : ByteArray) (N : Int) (n : Int) (b : ByteArray) (m : Nat) (s : Nat → SSign) (need : Int) (g : Bool) (mm : Nat) :
 along Try.prog (bdCh sd N n b m s need g mm) [true] = (some (.int .i64 1, [(.o 0, .flat [.str sd, .int .i64 N])], bdCh_c sd N n b m s need g mm 0 ++ [decide (N = (0 : Int)) = true]) : Option (V × Heap × List Prop)) := by kernel_rfl
theorem bdCh_p0111 (sd : ByteArray) (N : Int) (n : Int) (b : ByteArray) (m : Nat) (s : Nat → SSign) (need : Int) (g : Bool) (mm : Nat) :
 along Try.prog (bdCh sd N n b m s need g mm) [false, true, true, true] = (some (.int .i64 2, [(.o 0, .flat [.str sd, .int .i64 N])], bdCh_c sd N n b m s need g mm 0 ++ (bdCh_c sd N n b m s need g mm 1 ++ [(!g) = true, q2, q2])) : Option (V × Heap × List Prop)) := by kernel_rfl
theorem bdCh_p0011 (sd : ByteArray) (N : Int) (n : Int) (b : ByteArray) (m : Nat) (s : Nat → SSign) (need : Int) (g : Bool) (mm : Nat) :
 along Try.prog (bdCh sd N n b m s need g mm) [false, false, true, true] = (some (.int .i64 2, [(.o 0, .flat [.str sd, .int .i64 N])], bdCh_c sd N n b m s need g mm 0 ++ (bdCh_c sd N n b m s need g mm 1 ++ [(!g) = false, decide (need < (1 : Int)) = true, q2])) : Option (V × Heap × List Prop)) := by kernel_rfl
theorem bdCh_p0001 (sd : ByteArray) (N : Int) (n : Int) (b : ByteArray) (m : Nat) (s : Nat → SSign) (need : Int) (g : Bool) (mm : Nat) :
 along Try.prog (bdCh sd N n b m s need g mm) [false, false, false, true] = (some (.int .i64 2, [(.o 0, .flat [.str sd, .int .i64 N])], bdCh_c sd N n b m s need g mm 0 ++ (bdCh_c sd N n b m s need g mm 1 ++ [(!g) = false, decide (need < (1 : Int)) = false, decide (n < need) = true])) : Option (V × Heap × List Prop)) := by kernel_rfl
theorem bdCh_p000011 (sd : ByteArray) (N : Int) (n : Int) (b : ByteArray) (m : Nat) (s : Nat → SSign) (need : Int) (g : Bool) (mm : Nat) :
 along Try.prog (bdCh sd N n b m s need g mm) [false, false, false, false, true, true] = (some (.int .i64 50, [(.o 0, .flat [.str sd, .int .i64 N])], bdCh_c sd N n b m s need g mm 0 ++ (bdCh_c sd N n b m s need g mm 1 ++ [(!g) = false, decide (need < (1 : Int)) = false, decide (n < need) = false, decide ((↑m : Int) < need) = true, q2])) : Option (V × Heap × List Prop)) := by kernel_rfl
theorem bdCh_p000001 (sd : ByteArray) (N : Int) (n : Int) (b : ByteArray) (m : Nat) (s : Nat → SSign) (need : Int) (g : Bool) (mm : Nat) :
 along Try.prog (bdCh sd N n b m s need g mm) [false, false, false, false, false, true] = (some (.int .i64 50, [(.o 0, .flat [.str sd, .int .i64 N])], bdCh_c sd N n b m s need g mm 0 ++ (bdCh_c sd N n b m s need g mm 1 ++ [(!g) = false, decide (need < (1 : Int)) = false, decide (n < need) = false, decide ((↑m : Int) < need) = false, decide (n < (↑m : Int)) = true])) : Option (V × Heap × List Prop)) := by kernel_rfl
theorem bdCh_p0000001 (sd : ByteArray) (N : Int) (n : Int) (b : ByteArray) (m : Nat) (s : Nat → SSign) (need : Int) (g : Bool) (mm : Nat) :
 along Try.prog (bdCh sd N n b m s need g mm) [false, false, false, false, false, false, true] = (some (.int .i64 0, [(.o 0, .flat [.str sd, .int .i64 N])], bdCh_c sd N n b m s need g mm 0 ++ (bdCh_c sd N n b m s need g mm 1 ++ [(!g) = false, decide (need < (1 : Int)) = false, decide (n < need) = false, decide ((↑m : Int) < need) = false, decide (n < (↑m : Int)) = false, RLoop Try.prog none 1 (cB (cB (cR (cL (cR (cR (cR (bodyOf (Bd.f (bdCh sd N n b m s need g mm)))))))))) (m + 1) (St.mk [.ptr (.o 0) 0 0 0 0, .int .i64 n, .str b, .any, .any, .any, .any, .any, .any, .any, .any, .int .i64 (lastS s 0), .any, .any, .any, .any, .any, .any, .any, .any, .any, .any, .any, .any, .any, .any, .any, .any, .any, .any, .any, .any, .any, .any, .any, .any, .any, .any, .any, .any, .any, .any, .ros 17 m (fun i => SSign.c (s i)) false, .int .i64 ↑m, .int .i64 0, .any, .any, .any, .any, .any, .any, .any, .any, .any, .any, .any, .any, .any, .any, .any, .any, .any, .any, .any, .any, .any, .any, .any, .any, .any, .any] [(.o 0, .flat [.str sd, .int .i64 N])] 1 []) (.exit 1) (St.mk [.ptr (.o 0) 0 0 0 0, .int .i64 n, .str b, .any, .any, .any, .any, .any, .any, .any, .any, .int .i64 (lastS s m), .any, .any, .any, .any, .any, .any, .any, .any, .any, .any, .any, .any, .any, .any, .any, .any, .any, .any, .any, .any, .any, .any, .any, .any, .any, .any, .any, .any, .any, .any, .ros 17 m (fun i => SSign.c (s i)) false, .int .i64 ↑m, .int .i64 ↑m, .any, .any, .any, .any, .any, .any, .any, .any, .any, .any, .any, .any, .any, .any, .any, .any, .any, .any, .any, .any, .any, .any, .any, .any, .any, .any] [(.o 0, .flat [.str sd, .int .i64 N])] 1 []), q sd, q N, q0, q0, q0, q n, q b, (-1 : Int) = lastS s (0 : Nat), q m, ∀ (k : Nat), k < m → SSign.c (s k) = SSign.c (s k), false = true → false = true, q (↑m : Int), q1])) : Option (V × Heap × List Prop)) := by kernel_rfl
theorem bdCh_p0000000 (sd : ByteArray) (N : Int) (n : Int) (b : ByteArray) (m : Nat) (s : Nat → SSign) (need : Int) (g : Bool) (mm : Nat) :
 along Try.prog (bdCh sd N n b m s need g mm) [false, false, false, false, false, false, false] = (some (.int .i64 50, [(.o 0, .flat [.str sd, .int .i64 N])], bdCh_c sd N n b m s need g mm 0 ++ (bdCh_c sd N n b m s need g mm 1 ++ [(!g) = false, decide (need < (1 : Int)) = false, decide (n < need) = false, decide ((↑m : Int) < need) = false, decide (n < (↑m : Int)) = false, RLoop Try.prog none 1 (cB (cB (cR (cL (cR (cR (cR (bodyOf (Bd.f (bdCh sd N n b m s need g mm)))))))))) (mm + 1) (St.mk [.ptr (.o 0) 0 0 0 0, .int .i64 n, .str b, .any, .any, .any, .any, .any, .any, .any, .any, .int .i64 (lastS s 0), .any, .any, .any, .any, .any, .any, .any, .any, .any, .any, .any, .any, .any, .any, .any, .any, .any, .any, .any, .any, .any, .any, .any, .any, .any, .any, .any, .any, .any, .any, .ros 17 m (fun i => SSign.c (s i)) false, .int .i64 ↑m, .int .i64 0, .any, .any, .any, .any, .any, .any, .any, .any, .any, .any, .any, .any, .any, .any, .any, .any, .any, .any, .any, .any, .any, .any, .any, .any, .any, .any] [(.o 0, .flat [.str sd, .int .i64 N])] 1 []) .ret (St.mk [.any, .any, .any, .any, .any, .any, .any, .any, .any, .any, .int .i64 50, .any, .any, .any, .any, .any, .any, .any, .any, .any, .any, .any, .any, .any, .any, .any, .any, .any, .any, .any, .any, .any, .any, .any, .any, .any, .any, .any, .any, .any, .any, .any, .any, .any, .any, .any, .any, .any, .any, .any, .any, .any, .any, .any, .any, .any, .any, .any, .any, .any, .any, .any, .any, .any, .any, .any, .any, .any, .any, .any, .any] [(.o 0, .flat [.str sd, .int .i64 N])] 1 []), q sd, q N, q0, q0, q0, q n, q b, (-1 : Int) = lastS s (0 : Nat), q m, ∀ (k : Nat), k < m → SSign.c (s k) = SSign.c (s k), false = true → false = true, q (↑m : Int), q1])) : Option (V × Heap × List Prop)) := by kernel_rfl

theorem pcCh_p1111 (sd : ByteArray) (N : Int) (n : Int) (b : ByteArray) (m : Nat) (s : Nat → SSign) (k : Nat) (c : Bool) :
  alongPc Try.prog (pcCh sd N n b m s k c) [true, true, true, true] = (some (.ret, St.mk [.any, .any, .any, .any, .any, .any, .any, .any, .any, .any, .int .i64 50, .any, .any, .any, .any, .any, .any, .any, .any, .any, .any, .any, .any, .any, .any, .any, .any, .any, .any, .any, .any, .any, .any, .any, .any, .any, .any, .any, .any, .any, .any, .any, .any, .any, .any, .any, .any, .any, .any, .any, .any, .any, .any, .any, .any, .any, .any, .any, .any, .any, .any, .any, .any, .any, .any, .any, .any, .any, .any, .any, .any] [(.o 0, .flat [.str sd, .int .i64 N])] 1 [], [decide ((↑k : Int) < (↑m : Int)) = true, (0 : Int) ≤ (↑k : Int) ∧ (↑k : Int) < (↑m : Int), decide (SSign.node (s (Int.toNat (↑k : Int))) ≤ lastS s k) = true, q2, q2, q sd, q N, q (50 : Int)]) : Option (Exit × St × List Prop)) := by kernel_rfl
theorem pcCh_p1011 (sd : ByteArray) (N : Int) (n : Int) (b : ByteArray) (m : Nat) (s : Nat → SSign) (k : Nat) (c : Bool) :
  alongPc Try.prog (pcCh sd N n b m s k c) [true, false, true, true] = (some (.ret, St.mk [.any, .any, .any, .any, .any, .any, .any, .any, .any, .any, .int .i64 50, .any, .any, .any, .any, .any, .any, .any, .any, .any, .any, .any, .any, .any, .any, .any, .any, .any, .any, .any, .any, .any, .any, .any, .any, .any, .any, .any, .any, .any, .any, .any, .any, .any, .any, .any, .any, .any, .any, .any, .any, .any, .any, .any, .any, .any, .any, .any, .any, .any, .any, .any, .any, .any, .any, .any, .any, .any, .any, .any, .any] [(.o 0, .flat [.str sd, .int .i64 N])] 1 [], [decide ((↑k : Int) < (↑m : Int)) = true, (0 : Int) ≤ (↑k : Int) ∧ (↑k : Int) < (↑m : Int), decide (SSign.node (s (Int.toNat (↑k : Int))) ≤ lastS s k) = false, decide (n ≤ SSign.node (s (Int.toNat (↑k : Int)))) = true, q2, q sd, q N, q (50 : Int)]) : Option (Exit × St × List Prop)) := by kernel_rfl
theorem pcCh_p1001 (sd : ByteArray) (N : Int) (n : Int) (b : ByteArray) (m : Nat) (s : Nat → SSign) (k : Nat) (c : Bool) :
  alongPc Try.prog (pcCh sd N n b m s k c) [true, false, false, true] = (some (.ret, St.mk [.any, .any, .any, .any, .any, .any, .any, .any, .any, .any, .int .i64 50, .any, .any, .any, .any, .any, .any, .any, .any, .any, .any, .any, .any, .any, .any, .any, .any, .any, .any, .any, .any, .any, .any, .any, .any, .any, .any, .any, .any, .any, .any, .any, .any, .any, .any, .any, .any, .any, .any, .any, .any, .any, .any, .any, .any, .any, .any, .any, .any, .any, .any, .any, .any, .any, .any, .any, .any, .any, .any, .any, .any] [(.o 0, .flat [.str sd, .int .i64 N])] 1 [], [decide ((↑k : Int) < (↑m : Int)) = true, (0 : Int) ≤ (↑k : Int) ∧ (↑k : Int) < (↑m : Int), decide (SSign.node (s (Int.toNat (↑k : Int))) ≤ lastS s k) = false, decide (n ≤ SSign.node (s (Int.toNat (↑k : Int)))) = false, T Try.prog 52 [.ptr (.o 0) 0 0 0 0, .int .i64 (SSign.node (s (Int.toNat (↑k : Int)))), .str b, .agg [.seg .u8 16 (SSign.tag (s (Int.toNat (↑k : Int))))]] [(.o 0, .flat [.str sd, .int .i64 N])] (.bool c) [(.o 0, .flat [.str sd, .int .i64 N])], (!c) = true, q sd, q N, q (50 : Int)]) : Option (Exit × St × List Prop)) := by kernel_rfl
theorem pcCh_p1000 (sd : ByteArray) (N : Int) (n : Int) (b : ByteArray) (m : Nat) (s : Nat → SSign) (k : Nat) (c : Bool) :
  alongPc Try.prog (pcCh sd N n b m s k c) [true, false, false, false] = (some (.normal, St.mk [.ptr (.o 0) 0 0 0 0, .int .i64 n, .str b, .any, .any, .any, .any, .any, .any, .any, .any, .int .i64 (lastS s (k + 1)), .any, .any, .any, .any, .any, .any, .any, .any, .any, .any, .any, .any, .any, .any, .any, .any, .any, .any, .any, .any, .any, .any, .any, .any, .any, .any, .any, .any, .any, .any, .ros 17 m (fun i => SSign.c (s i)) false, .int .i64 ↑m, .int .i64 (↑(k + 1) : Int), .any, .any, .any, .any, .any, .any, .any, .any, .any, .any, .any, .any, .any, .any, .any, .any, .any, .any, .any, .any, .any, .any, .any, .any, .any, .any] [(.o 0, .flat [.str sd, .int .i64 N])] 1 [], [decide ((↑k : Int) < (↑m : Int)) = true, (0 : Int) ≤ (↑k : Int) ∧ (↑k : Int) < (↑m : Int), decide (SSign.node (s (Int.toNat (↑k : Int))) ≤ lastS s k) = false, decide (n ≤ SSign.node (s (Int.toNat (↑k : Int)))) = false, T Try.prog 52 [.ptr (.o 0) 0 0 0 0, .int .i64 (SSign.node (s (Int.toNat (↑k : Int)))), .str b, .agg [.seg .u8 16 (SSign.tag (s (Int.toNat (↑k : Int))))]] [(.o 0, .flat [.str sd, .int .i64 N])] (.bool c) [(.o 0, .flat [.str sd, .int .i64 N])], (!c) = false, InR IntKind.i64 ((↑k : Int) + (1 : Int)), q sd, q N, q0, q0, q0, q n, q b, SSign.node (s (Int.toNat (↑k : Int))) = lastS s (k + (1 : Nat)), q m, ∀ (k : Nat), k < m → SSign.c (s k) = SSign.c (s k), false = true → false = true, q (↑m : Int), (↑k : Int) + (1 : Int) = (↑(k + (1 : Nat)) : Int)]) : Option (Exit × St × List Prop)) := by kernel_rfl
theorem pcCh_p0 (sd : ByteArray) (N : Int) (n : Int) (b : ByteArray) (m : Nat) (s : Nat → SSign) (k : Nat) (c : Bool) :
  alongPc Try.prog (pcCh sd N n b m s k c) [false] = (some (.exit 1, St.mk [.ptr (.o 0) 0 0 0 0, .int .i64 n, .str b, .any, .any, .any, .any, .any, .any, .any, .any, .int .i64 (lastS s m), .any, .any, .any, .any, .any, .any, .any, .any, .any, .any, .any, .any, .any, .any, .any, .any, .any, .any, .any, .any, .any, .any, .any, .any, .any, .any, .any, .any, .any, .any, .ros 17 m (fun i => SSign.c (s i)) false, .int .i64 ↑m, .int .i64 ↑m, .any, .any, .any, .any, .any, .any, .any, .any, .any, .any, .any, .any, .any, .any, .any, .any, .any, .any, .any, .any, .any, .any, .any, .any, .any, .any] [(.o 0, .flat [.str sd, .int .i64 N])] 1 [], [decide ((↑k : Int) < (↑m : Int)) = false, q sd, q N, q0, q0, q0, q n, q b, lastS s k = lastS s m, q m, ∀ (k : Nat), k < m → SSign.c (s k) = SSign.c (s k), false = true → false = true, q (↑m : Int), (↑k : Int) = (↑m : Int)]) : Option (Exit × St × List Prop)) := by kernel_rfl

theorem bdCn_p1 (n : Int) (b : ByteArray) (m : Nat) (s : Nat → SSign) (need : Int) :
  along Try.prog (bdCn n b m s need) [true] = (some (.int .i64 1, [], [T Try.prog 51 [.pnil] [] (.int .i64 0) [], q2]) : Option (V × Heap × List Prop)) := by kernel_rfl

theorem bdRc_p111 (sd : ByteArray) (N : Int) (n : Int) (b : ByteArray) (m : Nat) (s : Nat → SSign) (need : Int) (g : Bool) (mm : Nat) :
  along Try.prog (bdRc sd N n b m s need g mm) [true, true, true] = (some (.int .i64 2, [], [T Try.prog 13 [.int .i64 n] [] (.bool g) [], (!g) = true, q2, q2]) : Option (V × Heap × List Prop)) := by kernel_rfl
theorem bdRc_p011 (sd : ByteArray) (N : Int) (n : Int) (b : ByteArray) (m : Nat) (s : Nat → SSign) (need : Int) (g : Bool) (mm : Nat) :
  along Try.prog (bdRc sd N n b m s need g mm) [false, true, true] = (some (.int .i64 2, [], [T Try.prog 13 [.int .i64 n] [] (.bool g) [], (!g) = false, decide (need < (1 : Int)) = true, q2]) : Option (V × Heap × List Prop)) := by kernel_rfl
theorem bdRc_p001 (sd : ByteArray) (N : Int) (n : Int) (b : ByteArray) (m : Nat) (s : Nat → SSign) (need : Int) (g : Bool) (mm : Nat) :
  along Try.prog (bdRc sd N n b m s need g mm) [false, false, true] = (some (.int .i64 2, [], [T Try.prog 13 [.int .i64 n] [] (.bool g) [], (!g) = false, decide (need < (1 : Int)) = false, decide (n < need) = true]) : Option (V × Heap × List Prop)) := by kernel_rfl
theorem bdRc_p00011 (sd : ByteArray) (N : Int) (n : Int) (b : ByteArray) (m : Nat) (s : Nat → SSign) (need : Int) (g : Bool) (mm : Nat) :
  along Try.prog (bdRc sd N n b m s need g mm) [false, false, false, true, true] = (some (.int .i64 50, [], [T Try.prog 13 [.int .i64 n] [] (.bool g) [], (!g) = false, decide (need < (1 : Int)) = false, decide (n < need) = false, decide ((↑m : Int) < need) = true, q2]) : Option (V × Heap × List Prop)) := by kernel_rfl
theorem bdRc_p00001 (sd : ByteArray) (N : Int) (n : Int) (b : ByteArray) (m : Nat) (s : Nat → SSign) (need : Int) (g : Bool) (mm : Nat) :
  along Try.prog (bdRc sd N n b m s need g mm) [false, false, false, false, true] = (some (.int .i64 50, [], [T Try.prog 13 [.int .i64 n] [] (.bool g) [], (!g) = false, decide (need < (1 : Int)) = false, decide (n < need) = false, decide ((↑m : Int) < need) = false, decide (n < (↑m : Int)) = true]) : Option (V × Heap × List Prop)) := by kernel_rfl
theorem bdRc_p000001 (sd : ByteArray) (N : Int) (n : Int) (b : ByteArray) (m : Nat) (s : Nat → SSign) (need : Int) (g : Bool) (mm : Nat) :
  along Try.prog (bdRc sd N n b m s need g mm) [false, false, false, false, false, true] = (some (.int .i64 0, [], [T Try.prog 13 [.int .i64 n] [] (.bool g) [], (!g) = false, decide (need < (1 : Int)) = false, decide (n < need) = false, decide ((↑m : Int) < need) = false, decide (n < (↑m : Int)) = false, RLoop Try.prog none 0 (cB (cB (cR (cL (cR (cR (cR (bodyOf (Bd.f (bdRc sd N n b m s need g mm)))))))))) (m + 1) (St.mk [.any, .int .i64 n, .str b, .ros 17 m (fun i => SSign.c (s i)) false, .any, .ptr (.o 0) 0 0 0 0, .any, .any, .any, .any, .any, .int .i64 0, .any, .any, .any, .any, .any, .any, .any, .any, .any, .any, .any, .any, .any, .any, .any, .any, .any, .any, .any, .any, .any, .any, .any, .any, .any, .any, .any, .any, .any, .any, .any, .any, .any, .any, .any, .any, .any, .any, .any, .any, .any, .any, .any, .any, .any, .any, .any, .any, .any, .any, .any, .any, .any, .any, .any, .any, .any, .any, .any, .any, .any, .any, .any, .any, .any, .any, .any, .any, .any, .any, .any, .any, .any, .any, .any, .any, .any] [(.o 0, .flat [.str sd, .int .i64 N])] 1 []) (.exit 0) (St.mk [.any, .int .i64 n, .str b, .ros 17 m (fun i => SSign.c (s i)) false, .any, .ptr (.o 0) 0 0 0 0, .any, .any, .any, .any, .any, .int .i64 ↑m, .any, .any, .any, .any, .any, .any, .any, .any, .any, .any, .any, .any, .any, .any, .any, .any, .any, .any, .any, .any, .any, .any, .any, .any, .any, .any, .any, .any, .any, .any, .any, .any, .any, .any, .any, .any, .any, .any, .any, .any, .any, .any, .any, .any, .any, .any, .any, .any, .any, .any, .any, .any, .any, .any, .any, .any, .any, .any, .any, .any, .any, .any, .any, .any, .any, .any, .any, .any, .any, .any, .any, .any, .any, .any, .any, .any, .any] [(.o 0, .flat [.str sd, .int .i64 N])] 1 []), q sd, q N, q n, q b, q m, ∀ (k : Nat), k < m → SSign.c (s k) = SSign.c (s k), false = true → false = true, q0, q0, q0, q1]) : Option (V × Heap × List Prop)) := by kernel_rfl
theorem bdRc_p000000 (sd : ByteArray) (N : Int) (n : Int) (b : ByteArray) (m : Nat) (s : Nat → SSign) (need : Int) (g : Bool) (mm : Nat) :
  along Try.prog (bdRc sd N n b m s need g mm) [false, false, false, false, false, false] = (some (.int .i64 50, [], [T Try.prog 13 [.int .i64 n] [] (.bool g) [], (!g) = false, decide (need < (1 : Int)) = false, decide (n < need) = false, decide ((↑m : Int) < need) = false, decide (n < (↑m : Int)) = false, RLoop Try.prog none 0 (cB (cB (cR (cL (cR (cR (cR (bodyOf (Bd.f (bdRc sd N n b m s need g mm)))))))))) (mm + 1) (St.mk [.any, .int .i64 n, .str b, .ros 17 m (fun i => SSign.c (s i)) false, .any, .ptr (.o 0) 0 0 0 0, .any, .any, .any, .any, .any, .int .i64 0, .any, .any, .any, .any, .any, .any, .any, .any, .any, .any, .any, .any, .any, .any, .any, .any, .any, .any, .any, .any, .any, .any, .any, .any, .any, .any, .any, .any, .any, .any, .any, .any, .any, .any, .any, .any, .any, .any, .any, .any, .any, .any, .any, .any, .any, .any, .any, .any, .any, .any, .any, .any, .any, .any, .any, .any, .any, .any, .any, .any, .any, .any, .any, .any, .any, .any, .any, .any, .any, .any, .any, .any, .any, .any, .any, .any, .any] [(.o 0, .flat [.str sd, .int .i64 N])] 1 []) .ret (St.mk [.any, .any, .any, .any, .any, .any, .any, .any, .any, .any, .int .i64 50, .any, .any, .any, .any, .any, .any, .any, .any, .any, .any, .any, .any, .any, .any, .any, .any, .any, .any, .any, .any, .any, .any, .any, .any, .any, .any, .any, .any, .any, .any, .any, .any, .any, .any, .any, .any, .any, .any, .any, .any, .any, .any, .any, .any, .any, .any, .any, .any, .any, .any, .any, .any, .any, .any, .any, .any, .any, .any, .any, .any, .any, .any, .any, .any, .any, .any, .any, .any, .any, .any, .any, .any, .any, .any, .any, .any, .any, .any] [(.o 0, .flat [.str sd, .int .i64 N])] 1 []), q sd, q N, q n, q b, q m, ∀ (k : Nat), k < m → SSign.c (s k) = SSign.c (s k), false = true → false = true, q0, q0, q0, q1]) : Option (V × Heap × List Prop)) := by kernel_rfl

noncomputable def pcRc_c (sd : ByteArray) (N : Int) (n : Int) (b : ByteArray) (m : Nat) (s : Nat → SSign) (k : Nat) (c : Bool) : Nat → List Prop
 | 0 => [decide ((↑k : Int) < (↑m : Int)) = true, (0 : Int) ≤ (↑k : Int) ∧ (↑k : Int) < (↑m : Int)]
 | 1 => [decide (SSign.node (s (Int.toNat (↑k : Int))) < (0 : Int)) = false, (0 : Int) ≤ (↑k : Int) ∧ (↑k : Int) < (↑m : Int)]
 | 2 => [decide ((0 : Int) < (↑k : Int)) = true, (0 : Int) ≤ (↑k : Int) ∧ (↑k : Int) < (↑m : Int), InR IntKind.i64 ((↑k : Int) - (1 : Int)), (0 : Int) ≤ (↑k : Int) - (1 : Int) ∧ (↑k : Int) - (1 : Int) < (↑m : Int)]
 | 3 => [decide (SSign.node (s (Int.toNat (↑k : Int))) ≤ SSign.node (s (Int.toNat ((↑k : Int) - (1 : Int))))) = false, (0 : Int) ≤ (↑k : Int) ∧ (↑k : Int) < (↑m : Int), (0 : Int) ≤ (↑k : Int) ∧ (↑k : Int) < (↑m : Int), T Try.prog 53 [.agg [.str sd, .int .i64 N], .int .i64 (SSign.node (s (Int.toNat (↑k : Int)))), .str b, .agg [.seg .u8 16 (SSign.tag (s (Int.toNat (↑k : Int))))]] [] (.bool c) []]
 | 4 => [decide ((0 : Int) < (↑k : Int)) = false, q false, (0 : Int) ≤ (↑k : Int) ∧ (↑k : Int) < (↑m : Int), (0 : Int) ≤ (↑k : Int) ∧ (↑k : Int) < (↑m : Int), T Try.prog 53 [.agg [.str sd, .int .i64 N], .int .i64 (SSign.node (s (Int.toNat (↑k : Int)))), .str b, .agg [.seg .u8 16 (SSign.tag (s (Int.toNat (↑k : Int))))]] [] (.bool c) []]
 | _ => []
theorem pcRc_p11111 (sd : ByteArray) (N : Int) (n : Int) (b : ByteArray) (m : Nat) (s : Nat → SSign) (k : Nat) (c : Bool) :
 alongPc Try.prog (pcRc sd N n b m s k c) [true, true, true, true, true] = (some (.ret, St.mk [.any, .any, .any, .any, .any, .any, .any, .any, .any, .any, .int .i64 50, .any, .any, .any, .any, .any, .any, .any, .any, .any, .any, .any, .any, .any, .any, .any, .any, .any, .any, .any, .any, .any, .any, .any, .any, .any, .any, .any, .any, .any, .any, .any, .any, .any, .any, .any, .any, .any, .any, .any, .any, .any, .any, .any, .any, .any, .any, .any, .any, .any, .any, .any, .any, .any, .any, .any, .any, .any, .any, .any, .any, .any, .any, .any, .any, .any, .any, .any, .any, .any, .any, .any, .any, .any, .any, .any, .any, .any, .any] [(.o 0, .flat [.str sd, .int .i64 N])] 1 [], pcRc_c sd N n b m s k c 0 ++ [decide (SSign.node (s (Int.toNat (↑k : Int))) < (0 : Int)) = true, q2, q2, q2, q sd, q N, q (50 : Int)]) : Option (Exit × St × List Prop)) := by kernel_rfl
theorem pcRc_p10111 (sd : ByteArray) (N : Int) (n : Int) (b : ByteArray) (m : Nat) (s : Nat → SSign) (k : Nat) (c : Bool) :
 alongPc Try.prog (pcRc sd N n b m s k c) [true, false, true, true, true] = (some (.ret, St.mk [.any, .any, .any, .any, .any, .any, .any, .any, .any, .any, .int .i64 50, .any, .any, .any, .any, .any, .any, .any, .any, .any, .any, .any, .any, .any, .any, .any, .any, .any, .any, .any, .any, .any, .any, .any, .any, .any, .any, .any, .any, .any, .any, .any, .any, .any, .any, .any, .any, .any, .any, .any, .any, .any, .any, .any, .any, .any, .any, .any, .any, .any, .any, .any, .any, .any, .any, .any, .any, .any, .any, .any, .any, .any, .any, .any, .any, .any, .any, .any, .any, .any, .any, .any, .any, .any, .any, .any, .any, .any, .any] [(.o 0, .flat [.str sd, .int .i64 N])] 1 [], pcRc_c sd N n b m s k c 0 ++ (pcRc_c sd N n b m s k c 1 ++ [decide (n ≤ SSign.node (s (Int.toNat (↑k : Int)))) = true, q2, q2, q sd, q N, q (50 : Int)])) : Option (Exit × St × List Prop)) := by kernel_rfl
theorem pcRc_p100111 (sd : ByteArray) (N : Int) (n : Int) (b : ByteArray) (m : Nat) (s : Nat → SSign) (k : Nat) (c : Bool) :
 alongPc Try.prog (pcRc sd N n b m s k c) [true, false, false, true, true, true] = (some (.ret, St.mk [.any, .any, .any, .any, .any, .any, .any, .any, .any, .any, .int .i64 50, .any, .any, .any, .any, .any, .any, .any, .any, .any, .any, .any, .any, .any, .any, .any, .any, .any, .any, .any, .any, .any, .any, .any, .any, .any, .any, .any, .any, .any, .any, .any, .any, .any, .any, .any, .any, .any, .any, .any, .any, .any, .any, .any, .any, .any, .any, .any, .any, .any, .any, .any, .any, .any, .any, .any, .any, .any, .any, .any, .any, .any, .any, .any, .any, .any, .any, .any, .any, .any, .any, .any, .any, .any, .any, .any, .any, .any, .any] [(.o 0, .flat [.str sd, .int .i64 N])] 1 [], pcRc_c sd N n b m s k c 0 ++ (pcRc_c sd N n b m s k c 1 ++ ([decide (n ≤ SSign.node (s (Int.toNat (↑k : Int)))) = false] ++ (pcRc_c sd N n b m s k c 2 ++ [decide (SSign.node (s (Int.toNat (↑k : Int))) ≤ SSign.node (s (Int.toNat ((↑k : Int) - (1 : Int))))) = true, q2, q sd, q N, q (50 : Int)])))) : Option (Exit × St × List Prop)) := by kernel_rfl
theorem pcRc_p100101 (sd : ByteArray) (N : Int) (n : Int) (b : ByteArray) (m : Nat) (s : Nat → SSign) (k : Nat) (c : Bool) :
 alongPc Try.prog (pcRc sd N n b m s k c) [true, false, false, true, false, true] = (some (.ret, St.mk [.any, .any, .any, .any, .any, .any, .any, .any, .any, .any, .int .i64 50, .any, .any, .any, .any, .any, .any, .any, .any, .any, .any, .any, .any, .any, .any, .any, .any, .any, .any, .any, .any, .any, .any, .any, .any, .any, .any, .any, .any, .any, .any, .any, .any, .any, .any, .any, .any, .any, .any, .any, .any, .any, .any, .any, .any, .any, .any, .any, .any, .any, .any, .any, .any, .any, .any, .any, .any, .any, .any, .any, .any, .any, .any, .any, .any, .any, .any, .any, .any, .any, .any, .any, .any, .any, .any, .any, .any, .any, .any] [(.o 0, .flat [.str sd, .int .i64 N])] 1 [], pcRc_c sd N n b m s k c 0 ++ (pcRc_c sd N n b m s k c 1 ++ ([decide (n ≤ SSign.node (s (Int.toNat (↑k : Int)))) = false] ++ (pcRc_c sd N n b m s k c 2 ++ (pcRc_c sd N n b m s k c 3 ++ [(!c) = true, q sd, q N, q (50 : Int)]))))) : Option (Exit × St × List Prop)) := by kernel_rfl
theorem pcRc_p100100 (sd : ByteArray) (N : Int) (n : Int) (b : ByteArray) (m : Nat) (s : Nat → SSign) (k : Nat) (c : Bool) :
 alongPc Try.prog (pcRc sd N n b m s k c) [true, false, false, true, false, false] = (some (.normal, St.mk [.any, .int .i64 n, .str b, .ros 17 m (fun i => SSign.c (s i)) false, .any, .ptr (.o 0) 0 0 0 0, .any, .any, .any, .any, .any, .int .i64 (↑(k + 1) : Int), .any, .any, .any, .any, .any, .any, .any, .any, .any, .any, .any, .any, .any, .any, .any, .any, .any, .any, .any, .any, .any, .any, .any, .any, .any, .any, .any, .any, .any, .any, .any, .any, .any, .any, .any, .any, .any, .any, .any, .any, .any, .any, .any, .any, .any, .any, .any, .any, .any, .any, .any, .any, .any, .any, .any, .any, .any, .any, .any, .any, .any, .any, .any, .any, .any, .any, .any, .any, .any, .any, .any, .any, .any, .any, .any, .any, .any] [(.o 0, .flat [.str sd, .int .i64 N])] 1 [], pcRc_c sd N n b m s k c 0 ++ (pcRc_c sd N n b m s k c 1 ++ ([decide (n ≤ SSign.node (s (Int.toNat (↑k : Int)))) = false] ++ (pcRc_c sd N n b m s k c 2 ++ (pcRc_c sd N n b m s k c 3 ++ [(!c) = false, InR IntKind.i64 ((↑k : Int) + (1 : Int)), q sd, q N, q n, q b, q m, ∀ (k : Nat), k < m → SSign.c (s k) = SSign.c (s k), false = true → false = true, q0, q0, q0, (↑k : Int) + (1 : Int) = (↑(k + (1 : Nat)) : Int)]))))) : Option (Exit × St × List Prop)) := by kernel_rfl
theorem pcRc_p100001 (sd : ByteArray) (N : Int) (n : Int) (b : ByteArray) (m : Nat) (s : Nat → SSign) (k : Nat) (c : Bool) :
 alongPc Try.prog (pcRc sd N n b m s k c) [true, false, false, false, false, true] = (some (.ret, St.mk [.any, .any, .any, .any, .any, .any, .any, .any, .any, .any, .int .i64 50, .any, .any, .any, .any, .any, .any, .any, .any, .any, .any, .any, .any, .any, .any, .any, .any, .any, .any, .any, .any, .any, .any, .any, .any, .any, .any, .any, .any, .any, .any, .any, .any, .any, .any, .any, .any, .any, .any, .any, .any, .any, .any, .any, .any, .any, .any, .any, .any, .any, .any, .any, .any, .any, .any, .any, .any, .any, .any, .any, .any, .any, .any, .any, .any, .any, .any, .any, .any, .any, .any, .any, .any, .any, .any, .any, .any, .any, .any] [(.o 0, .flat [.str sd, .int .i64 N])] 1 [], pcRc_c sd N n b m s k c 0 ++ (pcRc_c sd N n b m s k c 1 ++ ([decide (n ≤ SSign.node (s (Int.toNat (↑k : Int)))) = false] ++ (pcRc_c sd N n b m s k c 4 ++ [(!c) = true, q sd, q N, q (50 : Int)])))) : Option (Exit × St × List Prop)) := by kernel_rfl
theorem pcRc_p100000 (sd : ByteArray) (N : Int) (n : Int) (b : ByteArray) (m : Nat) (s : Nat → SSign) (k : Nat) (c : Bool) :
 alongPc Try.prog (pcRc sd N n b m s k c) [true, false, false, false, false, false] = (some (.normal, St.mk [.any, .int .i64 n, .str b, .ros 17 m (fun i => SSign.c (s i)) false, .any, .ptr (.o 0) 0 0 0 0, .any, .any, .any, .any, .any, .int .i64 (↑(k + 1) : Int), .any, .any, .any, .any, .any, .any, .any, .any, .any, .any, .any, .any, .any, .any, .any, .any, .any, .any, .any, .any, .any, .any, .any, .any, .any, .any, .any, .any, .any, .any, .any, .any, .any, .any, .any, .any, .any, .any, .any, .any, .any, .any, .any, .any, .any, .any, .any, .any, .any, .any, .any, .any, .any, .any, .any, .any, .any, .any, .any, .any, .any, .any, .any, .any, .any, .any, .any, .any, .any, .any, .any, .any, .any, .any, .any, .any, .any] [(.o 0, .flat [.str sd, .int .i64 N])] 1 [], pcRc_c sd N n b m s k c 0 ++ (pcRc_c sd N n b m s k c 1 ++ ([decide (n ≤ SSign.node (s (Int.toNat (↑k : Int)))) = false] ++ (pcRc_c sd N n b m s k c 4 ++ [(!c) = false, InR IntKind.i64 ((↑k : Int) + (1 : Int)), q sd, q N, q n, q b, q m, ∀ (k : Nat), k < m → SSign.c (s k) = SSign.c (s k), false = true → false = true, q0, q0, q0, (↑k : Int) + (1 : Int) = (↑(k + (1 : Nat)) : Int)])))) : Option (Exit × St × List Prop)) := by kernel_rfl
theorem pcRc_p0 (sd : ByteArray) (N : Int) (n : Int) (b : ByteArray) (m : Nat) (s : Nat → SSign) (k : Nat) (c : Bool) :
 alongPc Try.prog (pcRc sd N n b m s k c) [false] = (some (.exit 0, St.mk [.any, .int .i64 n, .str b, .ros 17 m (fun i => SSign.c (s i)) false, .any, .ptr (.o 0) 0 0 0 0, .any, .any, .any, .any, .any, .int .i64 ↑m, .any, .any, .any, .any, .any, .any, .any, .any, .any, .any, .any, .any, .any, .any, .any, .any, .any, .any, .any, .any, .any, .any, .any, .any, .any, .any, .any, .any, .any, .any, .any, .any, .any, .any, .any, .any, .any, .any, .any, .any, .any, .any, .any, .any, .any, .any, .any, .any, .any, .any, .any, .any, .any, .any, .any, .any, .any, .any, .any, .any, .any, .any, .any, .any, .any, .any, .any, .any, .any, .any, .any, .any, .any, .any, .any, .any, .any] [(.o 0, .flat [.str sd, .int .i64 N])] 1 [], [decide ((↑k : Int) < (↑m : Int)) = false, q sd, q N, q n, q b, q m, ∀ (k : Nat), k < m → SSign.c (s k) = SSign.c (s k), false = true → false = true, q0, q0, q0, (↑k : Int) = (↑m : Int)]) : Option (Exit × St × List Prop)) := by kernel_rfl

def okB (sd : ByteArray) (N n : Int) (b : ByteArray) (s : Nat → SSign) (k : Nat) : Bool := !decide ((s k).node ≤ lastS s k) && (decide ((s k).node < n) && chkB sd N (s k).node b (s k).tag)
def okA (sd : ByteArray) (N n : Int) (b : ByteArray) (s : Nat → SSign) (m : Nat) : Bool := (List.range m).all (okB sd N n b s)
theorem okA_true {sd : ByteArray} {N n : Int} {b : ByteArray} {s : Nat → SSign} {m : Nat} (h : ∀ k, k < m → okB sd N n b s k = true) : okA sd N n b s m = true := by
 rw [okA, List.all_eq_true]; intro k hk; exact h k (List.mem_range.1 hk)
theorem okA_false {sd : ByteArray} {N n : Int} {b : ByteArray} {s : Nat → SSign} {m k : Nat} (hk : k < m) (h : ¬ okB sd N n b s k = true) : okA sd N n b s m = false := by
 rw [okA, List.all_eq_false]; exact ⟨k, List.mem_range.2 hk, h⟩
theorem chLoop {sd : ByteArray} (hs : sd.size ≤ 1000) {N n : Int} (hN : N ≠ 0) (hn : n ≤ 64) {b : ByteArray} (hb : b.size ≤ 1000000000) {m : Nat} (hm : m ≤ 1000000) (s : Nat → SSign) :
  (okA sd N n b s m = true ∧ RLoop Try.prog none 1 (cB (cB (cR (cL (cR (cR (cR (bodyOf Try.f41)))))))) (m + 1) (chI sd N n b m s 0) (.exit 1) (chI sd N n b m s m)) ∨
  (okA sd N n b s m = false ∧ ∃ mm, RLoop Try.prog none 1 (cB (cB (cR (cL (cR (cR (cR (bodyOf Try.f41)))))))) (mm + 1) (chI sd N n b m s 0) .ret (chR sd N)) := by
 rcases loop_all (P := Try.prog) (ro := none) (p := 1) (c := cB (cB (cR (cL (cR (cR (cR (bodyOf Try.f41)))))))) (I := chI sd N n b m s) (F := fun _ => chR sd N) (e := fun _ => .ret) (q := fun k => okB sd N n b s k = true) (n := m)
   (fun k hk hq => by
    simp only [okB, Bool.and_eq_true, Bool.not_eq_true', decide_eq_false_iff_not, decide_eq_true_eq] at hq
    obtain ⟨h1, h2, h3⟩ := hq
    have hT := T_ck hs hN (id := (s k).node) (by omega) hb (s k).tag
    rw [h3] at hT
    refine R_alongPc NG MO _ (pcCh_p1000 sd N n b m s k true) ?_ (by show 1 ≤ 1; decide)
    simp only [All, All_append, bdCh_c, pcRc_c, Int.toNat_natCast]; and_intros
    all_goals first
     | exact True.intro
     | exact hT
     | exact (rfl : (s k).node = lastS s (k + 1))
     | (with_reducible assumption)
     | (rw [decide_eq_true_eq]; omega)
     | (rw [decide_eq_false_iff_not]; omega)
     | with_reducible rfl
     | (intro _ _; exact True.intro)
     | (intro _ _; with_reducible rfl)
     | (intro _ _; rfl)
     | (simp only [IntKind.min, IntKind.max, IntKind.signed, IntKind.bits, if_true]; omega)
     | omega
     | (intro h; exact h)
     | (intro h; cases h; done)
     | exact .inl rfl
     | exact .inl True.intro
     | exact .inr rfl
     | (simp; done)
)
   (fun k hk hq => by
    by_cases h1 : (s k).node ≤ lastS s k
    ·refine R_alongPc NG MO _ (pcCh_p1111 sd N n b m s k true) ?_ (by show 1 ≤ 1; decide)
     simp only [All, All_append, bdCh_c, pcRc_c, Int.toNat_natCast]; and_intros
     all_goals first
      | exact True.intro
      | exact decide_eq_true h1
      | (with_reducible assumption)
      | (rw [decide_eq_true_eq]; omega)
      | (rw [decide_eq_false_iff_not]; omega)
      | with_reducible rfl
      | (intro _ _; exact True.intro)
      | (intro _ _; with_reducible rfl)
      | (intro _ _; rfl)
      | (simp only [IntKind.min, IntKind.max, IntKind.signed, IntKind.bits, if_true]; omega)
      | omega
      | (intro h; exact h)
      | (intro h; cases h; done)
      | exact .inl rfl
      | exact .inl True.intro
      | exact .inr rfl
      | (simp; done)
    ·by_cases h2 : n ≤ (s k).node
     ·refine R_alongPc NG MO _ (pcCh_p1011 sd N n b m s k true) ?_ (by show 1 ≤ 1; decide)
      simp only [All, All_append, bdCh_c, pcRc_c, Int.toNat_natCast]; and_intros
      all_goals first
       | exact True.intro
       | exact decide_eq_false h1
       | (with_reducible assumption)
       | (rw [decide_eq_true_eq]; omega)
       | (rw [decide_eq_false_iff_not]; omega)
       | with_reducible rfl
       | (intro _ _; exact True.intro)
       | (intro _ _; with_reducible rfl)
       | (intro _ _; rfl)
       | (simp only [IntKind.min, IntKind.max, IntKind.signed, IntKind.bits, if_true]; omega)
       | omega
       | (intro h; exact h)
       | (intro h; cases h; done)
       | exact .inl rfl
       | exact .inl True.intro
       | exact .inr rfl
       | (simp; done)
     ·have hT := T_ck hs hN (id := (s k).node) (by omega) hb (s k).tag
      have h3 : chkB sd N (s k).node b (s k).tag = false := by
       cases hc : chkB sd N (s k).node b (s k).tag with
       | false => rfl
       | true => exact (hq (by rw [okB, hc, decide_eq_false h1, decide_eq_true (by omega)]; rfl)).elim
      rw [h3] at hT
      refine R_alongPc NG MO _ (pcCh_p1001 sd N n b m s k false) ?_ (by show 1 ≤ 1; decide)
      simp only [All, All_append, bdCh_c, pcRc_c, Int.toNat_natCast]; and_intros
      all_goals first
       | exact True.intro
       | exact hT
       | exact decide_eq_false h1
       | (with_reducible assumption)
       | (rw [decide_eq_true_eq]; omega)
       | (rw [decide_eq_false_iff_not]; omega)
       | with_reducible rfl
       | (intro _ _; exact True.intro)
       | (intro _ _; with_reducible rfl)
       | (intro _ _; rfl)
       | (simp only [IntKind.min, IntKind.max, IntKind.signed, IntKind.bits, if_true]; omega)
       | omega
       | (intro h; exact h)
       | (intro h; cases h; done)
       | exact .inl rfl
       | exact .inl True.intro
       | exact .inr rfl
       | (simp; done)
)
   (by simp) (R_alongPc NG MO _ (pcCh_p0 sd N n b m s m true) (by
    simp only [All, All_append, bdCh_c, pcRc_c]; and_intros
    all_goals first
     | exact True.intro
     | (with_reducible assumption)
     | (rw [decide_eq_true_eq]; omega)
     | (rw [decide_eq_false_iff_not]; omega)
     | with_reducible rfl
     | (intro _ _; exact True.intro)
     | (intro _ _; with_reducible rfl)
     | (intro _ _; rfl)
     | (simp only [IntKind.min, IntKind.max, IntKind.signed, IntKind.bits, if_true]; omega)
     | omega
     | (intro h; exact h)
     | (intro h; cases h; done)
     | exact .inl rfl
     | exact .inl True.intro
     | exact .inr rfl
     | (simp; done)
) (by show 1 ≤ 1; decide)) (by simp) with ⟨h, hL⟩ | ⟨mm, hmm, _, hq, hL⟩
 ·exact .inl ⟨okA_true h, hL⟩
 ·exact .inr ⟨okA_false hmm hq, mm, hL⟩
theorem rcLoop {sd : ByteArray} (hs : sd.size ≤ 1000) {N n : Int} (hn : n ≤ 64) {b : ByteArray} (hb : b.size ≤ 1000000000) {m : Nat} (hm : m ≤ 1000000) (s : Nat → SSign) :
  (okA sd N n b s m = true ∧ RLoop Try.prog none 0 (cB (cB (cR (cL (cR (cR (cR (bodyOf Try.f42)))))))) (m + 1) (rcI sd N n b m s 0) (.exit 0) (rcI sd N n b m s m)) ∨
  (okA sd N n b s m = false ∧ ∃ mm, RLoop Try.prog none 0 (cB (cB (cR (cL (cR (cR (cR (bodyOf Try.f42)))))))) (mm + 1) (rcI sd N n b m s 0) .ret (rcR sd N)) := by
 have hl : ∀ k, 0 < k → lastS s k = (s (Int.toNat ((k : Int) - 1))).node := by
  intro k hk
  obtain ⟨j, rfl⟩ : ∃ j, k = j + 1 := ⟨k - 1, by omega⟩
  rw [show Int.toNat (((j + 1 : Nat) : Int) - 1) = j by omega]; rfl
 rcases loop_all (P := Try.prog) (ro := none) (p := 0) (c := cB (cB (cR (cL (cR (cR (cR (bodyOf Try.f42)))))))) (I := rcI sd N n b m s) (F := fun _ => rcR sd N) (e := fun _ => .ret) (q := fun k => okB sd N n b s k = true) (n := m)
   (fun k hk hq => by
    simp only [okB, Bool.and_eq_true, Bool.not_eq_true', decide_eq_false_iff_not, decide_eq_true_eq] at hq
    obtain ⟨h1, h2, h3⟩ := hq
    have hT := T_rk hs (n := N) (id := (s k).node) (by omega) hb (s k).tag
    have h0 : 0 ≤ (s k).node := by
     rw [chkB, Bool.and_eq_true, decide_eq_true_eq] at h3; exact h3.1.1
    rw [h3] at hT
    by_cases hk0 : 0 < k
    ·have e := hl k hk0
     rw [e] at h1
     refine R_alongPc NG MO _ (pcRc_p100100 sd N n b m s k true) ?_ (by show 0 ≤ 1; decide)
     simp only [All, All_append, bdCh_c, pcRc_c, Int.toNat_natCast]; and_intros
     all_goals first
      | exact True.intro
      | exact hT
      | exact decide_eq_false h1
      | (with_reducible assumption)
      | (rw [decide_eq_true_eq]; omega)
      | (rw [decide_eq_false_iff_not]; omega)
      | with_reducible rfl
      | (intro _ _; exact True.intro)
      | (intro _ _; with_reducible rfl)
      | (intro _ _; rfl)
      | (simp only [IntKind.min, IntKind.max, IntKind.signed, IntKind.bits, if_true]; omega)
      | omega
      | (intro h; exact h)
      | (intro h; cases h; done)
      | exact .inl rfl
      | exact .inl True.intro
      | exact .inr rfl
      | (simp; done)
    ·refine R_alongPc NG MO _ (pcRc_p100000 sd N n b m s k true) ?_ (by show 0 ≤ 1; decide)
     simp only [All, All_append, bdCh_c, pcRc_c, Int.toNat_natCast]; and_intros
     all_goals first
      | exact True.intro
      | exact hT
      | (with_reducible assumption)
      | (rw [decide_eq_true_eq]; omega)
      | (rw [decide_eq_false_iff_not]; omega)
      | with_reducible rfl
      | (intro _ _; exact True.intro)
      | (intro _ _; with_reducible rfl)
      | (intro _ _; rfl)
      | (simp only [IntKind.min, IntKind.max, IntKind.signed, IntKind.bits, if_true]; omega)
      | omega
      | (intro h; exact h)
      | (intro h; cases h; done)
      | exact .inl rfl
      | exact .inl True.intro
      | exact .inr rfl
      | (simp; done)
)
   (fun k hk hq => by
    by_cases h0 : (s k).node < 0
    ·refine R_alongPc NG MO _ (pcRc_p11111 sd N n b m s k true) ?_ (by show 0 ≤ 1; decide)
     simp only [All, All_append, bdCh_c, pcRc_c, Int.toNat_natCast]; and_intros
     all_goals first
      | exact True.intro
      | exact decide_eq_true h0
      | (with_reducible assumption)
      | (rw [decide_eq_true_eq]; omega)
      | (rw [decide_eq_false_iff_not]; omega)
      | with_reducible rfl
      | (intro _ _; exact True.intro)
      | (intro _ _; with_reducible rfl)
      | (intro _ _; rfl)
      | (simp only [IntKind.min, IntKind.max, IntKind.signed, IntKind.bits, if_true]; omega)
      | omega
      | (intro h; exact h)
      | (intro h; cases h; done)
      | exact .inl rfl
      | exact .inl True.intro
      | exact .inr rfl
      | (simp; done)
    ·by_cases h2 : n ≤ (s k).node
     ·refine R_alongPc NG MO _ (pcRc_p10111 sd N n b m s k true) ?_ (by show 0 ≤ 1; decide)
      simp only [All, All_append, bdCh_c, pcRc_c, Int.toNat_natCast]; and_intros
      all_goals first
       | exact True.intro
       | exact decide_eq_false h0
       | (with_reducible assumption)
       | (rw [decide_eq_true_eq]; omega)
       | (rw [decide_eq_false_iff_not]; omega)
       | with_reducible rfl
       | (intro _ _; exact True.intro)
       | (intro _ _; with_reducible rfl)
       | (intro _ _; rfl)
       | (simp only [IntKind.min, IntKind.max, IntKind.signed, IntKind.bits, if_true]; omega)
       | omega
       | (intro h; exact h)
       | (intro h; cases h; done)
       | exact .inl rfl
       | exact .inl True.intro
       | exact .inr rfl
       | (simp; done)
     ·have hT := T_rk hs (n := N) (id := (s k).node) (by omega) hb (s k).tag
      by_cases hk0 : 0 < k
      ·have e := hl k hk0
       by_cases h1 : (s k).node ≤ (s (Int.toNat ((k : Int) - 1))).node
       ·refine R_alongPc NG MO _ (pcRc_p100111 sd N n b m s k true) ?_ (by show 0 ≤ 1; decide)
        simp only [All, All_append, bdCh_c, pcRc_c, Int.toNat_natCast]; and_intros
        all_goals first
         | exact True.intro
         | exact decide_eq_false h0
         | exact decide_eq_true h1
         | (with_reducible assumption)
         | (rw [decide_eq_true_eq]; omega)
         | (rw [decide_eq_false_iff_not]; omega)
         | with_reducible rfl
         | (intro _ _; exact True.intro)
         | (intro _ _; with_reducible rfl)
         | (intro _ _; rfl)
         | (simp only [IntKind.min, IntKind.max, IntKind.signed, IntKind.bits, if_true]; omega)
         | omega
         | (intro h; exact h)
         | (intro h; cases h; done)
         | exact .inl rfl
         | exact .inl True.intro
         | exact .inr rfl
         | (simp; done)
       ·have h3 : chkB sd N (s k).node b (s k).tag = false := by
         cases hc : chkB sd N (s k).node b (s k).tag with
         | false => rfl
         | true => exact (hq (by rw [okB, hc, decide_eq_false (by rw [e]; exact h1), decide_eq_true (by omega)]; rfl)).elim
        rw [h3] at hT
        refine R_alongPc NG MO _ (pcRc_p100101 sd N n b m s k false) ?_ (by show 0 ≤ 1; decide)
        simp only [All, All_append, bdCh_c, pcRc_c, Int.toNat_natCast]; and_intros
        all_goals first
         | exact True.intro
         | exact hT
         | exact decide_eq_false h0
         | exact decide_eq_false h1
         | (with_reducible assumption)
         | (rw [decide_eq_true_eq]; omega)
         | (rw [decide_eq_false_iff_not]; omega)
         | with_reducible rfl
         | (intro _ _; exact True.intro)
         | (intro _ _; with_reducible rfl)
         | (intro _ _; rfl)
         | (simp only [IntKind.min, IntKind.max, IntKind.signed, IntKind.bits, if_true]; omega)
         | omega
         | (intro h; exact h)
         | (intro h; cases h; done)
         | exact .inl rfl
         | exact .inl True.intro
         | exact .inr rfl
         | (simp; done)
      ·have h3 : chkB sd N (s k).node b (s k).tag = false := by
        cases hc : chkB sd N (s k).node b (s k).tag with
        | false => rfl
        | true =>
         obtain rfl : k = 0 := by omega
         exact (hq (by rw [okB, hc, decide_eq_false (show ¬ (s 0).node ≤ lastS s 0 by show ¬ (s 0).node ≤ -1; omega), decide_eq_true (by omega)]; rfl)).elim
       rw [h3] at hT
       refine R_alongPc NG MO _ (pcRc_p100001 sd N n b m s k false) ?_ (by show 0 ≤ 1; decide)
       simp only [All, All_append, bdCh_c, pcRc_c, Int.toNat_natCast]; and_intros
       all_goals first
        | exact True.intro
        | exact hT
        | exact decide_eq_false h0
        | (with_reducible assumption)
        | (rw [decide_eq_true_eq]; omega)
        | (rw [decide_eq_false_iff_not]; omega)
        | with_reducible rfl
        | (intro _ _; exact True.intro)
        | (intro _ _; with_reducible rfl)
        | (intro _ _; rfl)
        | (simp only [IntKind.min, IntKind.max, IntKind.signed, IntKind.bits, if_true]; omega)
        | omega
        | (intro h; exact h)
        | (intro h; cases h; done)
        | exact .inl rfl
        | exact .inl True.intro
        | exact .inr rfl
        | (simp; done)
)
   (by simp) (R_alongPc NG MO _ (pcRc_p0 sd N n b m s m true) (by
    simp only [All, All_append, bdCh_c, pcRc_c]; and_intros
    all_goals first
     | exact True.intro
     | (with_reducible assumption)
     | (rw [decide_eq_true_eq]; omega)
     | (rw [decide_eq_false_iff_not]; omega)
     | with_reducible rfl
     | (intro _ _; exact True.intro)
     | (intro _ _; with_reducible rfl)
     | (intro _ _; rfl)
     | (simp only [IntKind.min, IntKind.max, IntKind.signed, IntKind.bits, if_true]; omega)
     | omega
     | (intro h; exact h)
     | (intro h; cases h; done)
     | exact .inl rfl
     | exact .inl True.intro
     | exact .inr rfl
     | (simp; done)
) (by show 0 ≤ 1; decide)) (by simp) with ⟨h, hL⟩ | ⟨mm, hmm, _, hq, hL⟩
 ·exact .inl ⟨okA_true h, hL⟩
 ·exact .inr ⟨okA_false hmm hq, mm, hL⟩
def chkV (sd : ByteArray) (N n : Int) (b : ByteArray) (m : Nat) (s : Nat → SSign) (need : Int) : Int := if goodN n = true ∧ 1 ≤ need ∧ need ≤ n then (if need ≤ m ∧ (m : Int) ≤ n then (if okA sd N n b s m = true then 0 else 50) else 50) else 2
theorem good64 {n : Int} (h : goodN n = true) : n ≤ 64 := by
 simp only [goodN, Bool.and_eq_true, decide_eq_true_eq] at h; exact h.2.1
theorem T_ch {sd : ByteArray} (hs : sd.size ≤ 1000) {N n : Int} (hN : N ≠ 0) {b : ByteArray} (hb : b.size ≤ 1000000000) {m : Nat} (hm : m ≤ 1000000) (s : Nat → SSign) (need : Int) : T Try.prog 41 [p0 0, .int .i64 n, .str b, sg m s, .int .i64 need] [(.o 0, kyB sd N)] (.int .i64 (chkV sd N n b m s need)) [(.o 0, kyB sd N)] := by
 have hle := T_le sd N
 have hgd := T_gn n
 cases hg : goodN n with
 | false =>
  rw [hg] at hgd
  rw [chkV, if_neg (by rw [hg]; rintro ⟨h, _⟩; cases h)]
  refine T_al (bdCh_p0111 sd N n b m s need false 0) Try.func41 ?_
  simp only [All, All_append, bdCh_c, pcRc_c]; and_intros
  all_goals first
   | exact True.intro
   | exact hle
   | exact hgd
   | (with_reducible assumption)
   | (rw [decide_eq_true_eq]; omega)
   | (rw [decide_eq_false_iff_not]; omega)
   | with_reducible rfl
   | (intro _ _; exact True.intro)
   | (intro _ _; with_reducible rfl)
   | (intro _ _; rfl)
   | (simp only [IntKind.min, IntKind.max, IntKind.signed, IntKind.bits, if_true]; omega)
   | omega
   | (intro h; exact h)
   | (intro h; cases h; done)
   | exact .inl rfl
   | exact .inl True.intro
   | exact .inr rfl
   | (simp; done)
 | true =>
  rw [hg] at hgd
  by_cases h1 : need < 1
  ·rw [chkV, if_neg (by rintro ⟨_, h, _⟩; omega)]
   refine T_al (bdCh_p0011 sd N n b m s need true 0) Try.func41 ?_
   simp only [All, All_append, bdCh_c, pcRc_c]; and_intros
   all_goals first
    | exact True.intro
    | exact hle
    | exact hgd
    | (with_reducible assumption)
    | (rw [decide_eq_true_eq]; omega)
    | (rw [decide_eq_false_iff_not]; omega)
    | with_reducible rfl
    | (intro _ _; exact True.intro)
    | (intro _ _; with_reducible rfl)
    | (intro _ _; rfl)
    | (simp only [IntKind.min, IntKind.max, IntKind.signed, IntKind.bits, if_true]; omega)
    | omega
    | (intro h; exact h)
    | (intro h; cases h; done)
    | exact .inl rfl
    | exact .inl True.intro
    | exact .inr rfl
    | (simp; done)
  ·by_cases h2 : n < need
   ·rw [chkV, if_neg (by rintro ⟨_, _, h⟩; omega)]
    refine T_al (bdCh_p0001 sd N n b m s need true 0) Try.func41 ?_
    simp only [All, All_append, bdCh_c, pcRc_c]; and_intros
    all_goals first
     | exact True.intro
     | exact hle
     | exact hgd
     | (with_reducible assumption)
     | (rw [decide_eq_true_eq]; omega)
     | (rw [decide_eq_false_iff_not]; omega)
     | with_reducible rfl
     | (intro _ _; exact True.intro)
     | (intro _ _; with_reducible rfl)
     | (intro _ _; rfl)
     | (simp only [IntKind.min, IntKind.max, IntKind.signed, IntKind.bits, if_true]; omega)
     | omega
     | (intro h; exact h)
     | (intro h; cases h; done)
     | exact .inl rfl
     | exact .inl True.intro
     | exact .inr rfl
     | (simp; done)
   ·rw [chkV, if_pos ⟨hg, by omega, by omega⟩]
    by_cases h3 : (m : Int) < need
    ·rw [if_neg (by omega)]
     refine T_al (bdCh_p000011 sd N n b m s need true 0) Try.func41 ?_
     simp only [All, All_append, bdCh_c, pcRc_c]; and_intros
     all_goals first
      | exact True.intro
      | exact hle
      | exact hgd
      | (with_reducible assumption)
      | (rw [decide_eq_true_eq]; omega)
      | (rw [decide_eq_false_iff_not]; omega)
      | with_reducible rfl
      | (intro _ _; exact True.intro)
      | (intro _ _; with_reducible rfl)
      | (intro _ _; rfl)
      | (simp only [IntKind.min, IntKind.max, IntKind.signed, IntKind.bits, if_true]; omega)
      | omega
      | (intro h; exact h)
      | (intro h; cases h; done)
      | exact .inl rfl
      | exact .inl True.intro
      | exact .inr rfl
      | (simp; done)
    ·by_cases h4 : n < (m : Int)
     ·rw [if_neg (by omega)]
      refine T_al (bdCh_p000001 sd N n b m s need true 0) Try.func41 ?_
      simp only [All, All_append, bdCh_c, pcRc_c]; and_intros
      all_goals first
       | exact True.intro
       | exact hle
       | exact hgd
       | (with_reducible assumption)
       | (rw [decide_eq_true_eq]; omega)
       | (rw [decide_eq_false_iff_not]; omega)
       | with_reducible rfl
       | (intro _ _; exact True.intro)
       | (intro _ _; with_reducible rfl)
       | (intro _ _; rfl)
       | (simp only [IntKind.min, IntKind.max, IntKind.signed, IntKind.bits, if_true]; omega)
       | omega
       | (intro h; exact h)
       | (intro h; cases h; done)
       | exact .inl rfl
       | exact .inl True.intro
       | exact .inr rfl
       | (simp; done)
     ·rw [if_pos (by omega)]
      rcases chLoop hs hN (good64 hg) hb hm s with ⟨e, hL⟩ | ⟨e, mm, hL⟩
      ·rw [e, if_pos rfl]
       refine T_al (bdCh_p0000001 sd N n b m s need true 0) Try.func41 ?_
       simp only [All, All_append, bdCh_c, pcRc_c]; and_intros
       all_goals first
        | exact True.intro
        | exact hle
        | exact hgd
        | exact hL
        | exact (rfl : -1 = lastS s 0)
        | (with_reducible assumption)
        | (rw [decide_eq_true_eq]; omega)
        | (rw [decide_eq_false_iff_not]; omega)
        | with_reducible rfl
        | (intro _ _; exact True.intro)
        | (intro _ _; with_reducible rfl)
        | (intro _ _; rfl)
        | (simp only [IntKind.min, IntKind.max, IntKind.signed, IntKind.bits, if_true]; omega)
        | omega
        | (intro h; exact h)
        | (intro h; cases h; done)
        | exact .inl rfl
        | exact .inl True.intro
        | exact .inr rfl
        | (simp; done)
      ·rw [e, if_neg (by decide)]
       refine T_al (bdCh_p0000000 sd N n b m s need true mm) Try.func41 ?_
       simp only [All, All_append, bdCh_c, pcRc_c]; and_intros
       all_goals first
        | exact True.intro
        | exact hle
        | exact hgd
        | exact hL
        | exact (rfl : -1 = lastS s 0)
        | (with_reducible assumption)
        | (rw [decide_eq_true_eq]; omega)
        | (rw [decide_eq_false_iff_not]; omega)
        | with_reducible rfl
        | (intro _ _; exact True.intro)
        | (intro _ _; with_reducible rfl)
        | (intro _ _; rfl)
        | (simp only [IntKind.min, IntKind.max, IntKind.signed, IntKind.bits, if_true]; omega)
        | omega
        | (intro h; exact h)
        | (intro h; cases h; done)
        | exact .inl rfl
        | exact .inl True.intro
        | exact .inr rfl
        | (simp; done)
theorem T_cn (n : Int) (b : ByteArray) (m : Nat) (s : Nat → SSign) (need : Int) : T Try.prog 41 [.pnil, .int .i64 n, .str b, sg m s, .int .i64 need] [] (.int .i64 1) [] := by
 refine T_al (bdCn_p1 n b m s need) Try.func41 ?_
 simp only [All, All_append, bdCh_c, pcRc_c]; and_intros
 all_goals first
  | exact True.intro
  | exact T_ln
  | (with_reducible assumption)
  | (rw [decide_eq_true_eq]; omega)
  | (rw [decide_eq_false_iff_not]; omega)
  | with_reducible rfl
  | (intro _ _; exact True.intro)
  | (intro _ _; with_reducible rfl)
  | (intro _ _; rfl)
  | (simp only [IntKind.min, IntKind.max, IntKind.signed, IntKind.bits, if_true]; omega)
  | omega
  | (intro h; exact h)
  | (intro h; cases h; done)
  | exact .inl rfl
  | exact .inl True.intro
  | exact .inr rfl
  | (simp; done)
theorem T_rc {sd : ByteArray} (hs : sd.size ≤ 1000) {N n : Int} {b : ByteArray} (hb : b.size ≤ 1000000000) {m : Nat} (hm : m ≤ 1000000) (s : Nat → SSign) (need : Int) : T Try.prog 42 [kyV sd N, .int .i64 n, .str b, sg m s, .int .i64 need] [] (.int .i64 (chkV sd N n b m s need)) [] := by
 have hgd := T_rgn n
 cases hg : goodN n with
 | false =>
  rw [hg] at hgd
  rw [chkV, if_neg (by rw [hg]; rintro ⟨h, _⟩; cases h)]
  refine T_al (bdRc_p111 sd N n b m s need false 0) Try.func42 ?_
  simp only [All, All_append, bdCh_c, pcRc_c]; and_intros
  all_goals first
   | exact True.intro
   | exact hgd
   | (with_reducible assumption)
   | (rw [decide_eq_true_eq]; omega)
   | (rw [decide_eq_false_iff_not]; omega)
   | with_reducible rfl
   | (intro _ _; exact True.intro)
   | (intro _ _; with_reducible rfl)
   | (intro _ _; rfl)
   | (simp only [IntKind.min, IntKind.max, IntKind.signed, IntKind.bits, if_true]; omega)
   | omega
   | (intro h; exact h)
   | (intro h; cases h; done)
   | exact .inl rfl
   | exact .inl True.intro
   | exact .inr rfl
   | (simp; done)
 | true =>
  rw [hg] at hgd
  by_cases h1 : need < 1
  ·rw [chkV, if_neg (by rintro ⟨_, h, _⟩; omega)]
   refine T_al (bdRc_p011 sd N n b m s need true 0) Try.func42 ?_
   simp only [All, All_append, bdCh_c, pcRc_c]; and_intros
   all_goals first
    | exact True.intro
    | exact hgd
    | (with_reducible assumption)
    | (rw [decide_eq_true_eq]; omega)
    | (rw [decide_eq_false_iff_not]; omega)
    | with_reducible rfl
    | (intro _ _; exact True.intro)
    | (intro _ _; with_reducible rfl)
    | (intro _ _; rfl)
    | (simp only [IntKind.min, IntKind.max, IntKind.signed, IntKind.bits, if_true]; omega)
    | omega
    | (intro h; exact h)
    | (intro h; cases h; done)
    | exact .inl rfl
    | exact .inl True.intro
    | exact .inr rfl
    | (simp; done)
  ·by_cases h2 : n < need
   ·rw [chkV, if_neg (by rintro ⟨_, _, h⟩; omega)]
    refine T_al (bdRc_p001 sd N n b m s need true 0) Try.func42 ?_
    simp only [All, All_append, bdCh_c, pcRc_c]; and_intros
    all_goals first
     | exact True.intro
     | exact hgd
     | (with_reducible assumption)
     | (rw [decide_eq_true_eq]; omega)
     | (rw [decide_eq_false_iff_not]; omega)
     | with_reducible rfl
     | (intro _ _; exact True.intro)
     | (intro _ _; with_reducible rfl)
     | (intro _ _; rfl)
     | (simp only [IntKind.min, IntKind.max, IntKind.signed, IntKind.bits, if_true]; omega)
     | omega
     | (intro h; exact h)
     | (intro h; cases h; done)
     | exact .inl rfl
     | exact .inl True.intro
     | exact .inr rfl
     | (simp; done)
   ·rw [chkV, if_pos ⟨hg, by omega, by omega⟩]
    by_cases h3 : (m : Int) < need
    ·rw [if_neg (by omega)]
     refine T_al (bdRc_p00011 sd N n b m s need true 0) Try.func42 ?_
     simp only [All, All_append, bdCh_c, pcRc_c]; and_intros
     all_goals first
      | exact True.intro
      | exact hgd
      | (with_reducible assumption)
      | (rw [decide_eq_true_eq]; omega)
      | (rw [decide_eq_false_iff_not]; omega)
      | with_reducible rfl
      | (intro _ _; exact True.intro)
      | (intro _ _; with_reducible rfl)
      | (intro _ _; rfl)
      | (simp only [IntKind.min, IntKind.max, IntKind.signed, IntKind.bits, if_true]; omega)
      | omega
      | (intro h; exact h)
      | (intro h; cases h; done)
      | exact .inl rfl
      | exact .inl True.intro
      | exact .inr rfl
      | (simp; done)
    ·by_cases h4 : n < (m : Int)
     ·rw [if_neg (by omega)]
      refine T_al (bdRc_p00001 sd N n b m s need true 0) Try.func42 ?_
      simp only [All, All_append, bdCh_c, pcRc_c]; and_intros
      all_goals first
       | exact True.intro
       | exact hgd
       | (with_reducible assumption)
       | (rw [decide_eq_true_eq]; omega)
       | (rw [decide_eq_false_iff_not]; omega)
       | with_reducible rfl
       | (intro _ _; exact True.intro)
       | (intro _ _; with_reducible rfl)
       | (intro _ _; rfl)
       | (simp only [IntKind.min, IntKind.max, IntKind.signed, IntKind.bits, if_true]; omega)
       | omega
       | (intro h; exact h)
       | (intro h; cases h; done)
       | exact .inl rfl
       | exact .inl True.intro
       | exact .inr rfl
       | (simp; done)
     ·rw [if_pos (by omega)]
      rcases rcLoop hs (N := N) (good64 hg) hb hm s with ⟨e, hL⟩ | ⟨e, mm, hL⟩
      ·rw [e, if_pos rfl]
       refine T_al (bdRc_p000001 sd N n b m s need true 0) Try.func42 ?_
       simp only [All, All_append, bdCh_c, pcRc_c]; and_intros
       all_goals first
        | exact True.intro
        | exact hgd
        | exact hL
        | (with_reducible assumption)
        | (rw [decide_eq_true_eq]; omega)
        | (rw [decide_eq_false_iff_not]; omega)
        | with_reducible rfl
        | (intro _ _; exact True.intro)
        | (intro _ _; with_reducible rfl)
        | (intro _ _; rfl)
        | (simp only [IntKind.min, IntKind.max, IntKind.signed, IntKind.bits, if_true]; omega)
        | omega
        | (intro h; exact h)
        | (intro h; cases h; done)
        | exact .inl rfl
        | exact .inl True.intro
        | exact .inr rfl
        | (simp; done)
      ·rw [e, if_neg (by decide)]
       refine T_al (bdRc_p000000 sd N n b m s need true mm) Try.func42 ?_
       simp only [All, All_append, bdCh_c, pcRc_c]; and_intros
       all_goals first
        | exact True.intro
        | exact hgd
        | exact hL
        | (with_reducible assumption)
        | (rw [decide_eq_true_eq]; omega)
        | (rw [decide_eq_false_iff_not]; omega)
        | with_reducible rfl
        | (intro _ _; exact True.intro)
        | (intro _ _; with_reducible rfl)
        | (intro _ _; rfl)
        | (simp only [IntKind.min, IntKind.max, IntKind.signed, IntKind.bits, if_true]; omega)
        | omega
        | (intro h; exact h)
        | (intro h; cases h; done)
        | exact .inl rfl
        | exact .inl True.intro
        | exact .inr rfl
        | (simp; done)
end Go.Proofs.Ytpallipnhmoipaa
namespace Go.Proofs.Ytpallipnhmoipaa
open Go Sy Go.Proofs
noncomputable def qkDb (v : Int) : Nat → List V → Heap → Nat → List Cl := dbQ [
 (20, cVal (.bool true)),
 (39, fun a _ lo => match a with
  | [.str s, .int _ n] => [{ val := p0 lo, post := [(.o lo, kyB s n)] }]
  | _ => []),
 (40, fun a _ _ => match a with
  | [.str s, .int _ n] => [{ val := .tup [kyV s n, .bool true] }]
  | _ => []),
 (41, fun a _ _ => match a with
  | .ptr x _ _ _ _ :: _ => [{ rd := [x], val := .int .i64 v }]
  | _ => [{ val := .int .i64 1 }]),
 (42, cVal (.int .i64 v))]
noncomputable def bdQk (n : Int) (b : ByteArray) (m : Nat) (s : Nat → SSign) (need v : Int) : Bd := { f := Try.f10, args := [.int .i64 n, .str b, sg m s, .int .i64 need], kb := { db := qkDb v } }
end Go.Proofs.Ytpallipnhmoipaa
namespace Go.Proofs.Ytpallipnhmoipaa
open Go Sy Go.Proofs
noncomputable def bdQk_c (n : Int) (b : ByteArray) (m : Nat) (s : Nat → SSign) (need : Int) (v : Int) : Nat → List Prop
 | 0 => [decide ((2000 : Int) < (↑(ByteArray.size b) : Int)) = false, T Try.prog 39 [.str (ByteArray.mk (Array.mk [(113 : UInt8)])), .int .i64 64] [] (.ptr (.o 576) 0 0 0 0) [(.o 576, .flat [.str (ByteArray.mk (Array.mk [(113 : UInt8)])), .int .i64 64])], T Try.prog 40 [.str (ByteArray.mk (Array.mk [(113 : UInt8)])), .int .i64 64] [] (.tup [.agg [.str (ByteArray.mk (Array.mk [(113 : UInt8)])), .int .i64 64], .bool true]) [], T Try.prog 41 [.ptr (.o 576) 0 0 0 0, .int .i64 n, .str b, .ros 17 m (fun i => SSign.c (s i)) false, .int .i64 need] [(.o 576, .flat [.str (ByteArray.mk (Array.mk [(113 : UInt8)])), .int .i64 64])] (.int .i64 v) [(.o 576, .flat [.str (ByteArray.mk (Array.mk [(113 : UInt8)])), .int .i64 64])], T Try.prog 42 [.agg [.str (ByteArray.mk (Array.mk [(113 : UInt8)])), .int .i64 64], .int .i64 n, .str b, .ros 17 m (fun i => SSign.c (s i)) false, .int .i64 need] [] (.int .i64 v) []]
 | _ => []
theorem bdQk_p11 (n : Int) (b : ByteArray) (m : Nat) (s : Nat → SSign) (need : Int) (v : Int) :
 along Try.prog (bdQk n b m s need v) [true, true] = (some (.bool true, [], [decide ((200 : Int) < (↑m : Int)) = true, q2, T Try.prog 20 [] [] (.bool true) []]) : Option (V × Heap × List Prop)) := by kernel_rfl
theorem bdQk_p01 (n : Int) (b : ByteArray) (m : Nat) (s : Nat → SSign) (need : Int) (v : Int) :
 along Try.prog (bdQk n b m s need v) [false, true] = (some (.bool true, [], [decide ((200 : Int) < (↑m : Int)) = false, decide ((2000 : Int) < (↑(ByteArray.size b) : Int)) = true, T Try.prog 20 [] [] (.bool true) []]) : Option (V × Heap × List Prop)) := by kernel_rfl
theorem bdQk_p0011 (n : Int) (b : ByteArray) (m : Nat) (s : Nat → SSign) (need : Int) (v : Int) :
 along Try.prog (bdQk n b m s need v) [false, false, true, true] = (some (.bool true, [], [decide ((200 : Int) < (↑m : Int)) = false] ++ (bdQk_c n b m s need v 0 ++ [decide (v = v) = true, T Try.prog 41 [.pnil, .int .i64 n, .str b, .ros 17 m (fun i => SSign.c (s i)) false, .int .i64 need] [] (.int .i64 1) [], q2, T Try.prog 20 [] [] (.bool true) []])) : Option (V × Heap × List Prop)) := by kernel_rfl
theorem bdQk_p0000 (n : Int) (b : ByteArray) (m : Nat) (s : Nat → SSign) (need : Int) (v : Int) :
 along Try.prog (bdQk n b m s need v) [false, false, false, false] = (some (.bool false, [], [decide ((200 : Int) < (↑m : Int)) = false] ++ (bdQk_c n b m s need v 0 ++ [decide (v = v) = false, q false])) : Option (V × Heap × List Prop)) := by kernel_rfl

def qS : ByteArray := ByteArray.mk (Array.mk [113])
theorem qS_size : qS.size = 1 := rfl
theorem T_chA {sd : ByteArray} (hs : sd.size ≤ 1000) {N n : Int} (hN : N ≠ 0) {b : ByteArray} (hb : b.size ≤ 1000000000) {m : Nat} (hm : m ≤ 1000000) (s : Nat → SSign) (need : Int) (a : Nat) : T Try.prog 41 [p0 a, .int .i64 n, .str b, sg m s, .int .i64 need] [(.o a, kyB sd N)] (.int .i64 (chkV sd N n b m s need)) [(.o a, kyB sd N)] := by
 obtain ⟨σ, hσ, h3⟩ := T.at (T_ch hs (n := n) hN hb hm s need) [.o 0] [.o a] (by decide) (by simp) rfl
 simp only [List.map_cons, List.map_nil, List.cons.injEq, and_true] at hσ
 simpa [V.rens, V.ren, Heap.ren, Sy.B.ren, kyB, p0, sg, hσ] using h3
theorem T_qk (n : Int) (b : ByteArray) (m : Nat) (s : Nat → SSign) (need : Int) : T Try.prog 10 [.int .i64 n, .str b, sg m s, .int .i64 need] [] (.bool true) [] := by
 have hlv := T_lv
 by_cases h1 : 200 < m
 ·refine T_al (bdQk_p11 n b m s need 0) Try.func10 ?_
  simp only [All, All_append, bdQk_c]; and_intros
  all_goals first
   | exact True.intro
   | exact hlv
   | (with_reducible assumption)
   | (rw [decide_eq_true_eq]; omega)
   | (rw [decide_eq_false_iff_not]; omega)
   | with_reducible rfl
   | (intro _ _; exact True.intro)
   | (intro _ _; with_reducible rfl)
   | (intro _ _; rfl)
   | (simp only [IntKind.min, IntKind.max, IntKind.signed, IntKind.bits, if_true]; omega)
   | omega
   | (intro h; exact h)
   | (intro h; cases h; done)
   | exact .inl rfl
   | exact .inl True.intro
   | exact .inr rfl
   | (simp; done)
 ·by_cases h2 : 2000 < b.size
  ·refine T_al (bdQk_p01 n b m s need 0) Try.func10 ?_
   simp only [All, All_append, bdQk_c]; and_intros
   all_goals first
    | exact True.intro
    | exact hlv
    | (with_reducible assumption)
    | (rw [decide_eq_true_eq]; omega)
    | (rw [decide_eq_false_iff_not]; omega)
    | with_reducible rfl
    | (intro _ _; exact True.intro)
    | (intro _ _; with_reducible rfl)
    | (intro _ _; rfl)
    | (simp only [IntKind.min, IntKind.max, IntKind.signed, IntKind.bits, if_true]; omega)
    | omega
    | (intro h; exact h)
    | (intro h; cases h; done)
    | exact .inl rfl
    | exact .inl True.intro
    | exact .inr rfl
    | (simp; done)
  ·have hD := T_de (s := qS) (n := 64) (by rw [qS_size]; decide) (by decide) 576
   have hR := T_re (s := qS) (n := 64) (by rw [qS_size]; decide) (by decide)
   have hC := T_chA (sd := qS) (N := 64) (n := n) (by rw [qS_size]; decide) (by decide) (b := b) (by omega) (m := m) (by omega) s need 576
   have hC2 := T_rc (sd := qS) (N := 64) (n := n) (by rw [qS_size]; decide) (b := b) (by omega) (m := m) (by omega) s need
   have hN := T_cn n b m s need
   generalize chkV qS 64 n b m s need = v at hC hC2
   refine T_al (bdQk_p0011 n b m s need v) Try.func10 ?_
   simp only [All, All_append, bdQk_c]; and_intros
   all_goals first
    | exact True.intro
    | exact hlv
    | exact hD
    | exact hR
    | exact hC
    | exact hC2
    | exact hN
    | exact decide_eq_true rfl
    | (with_reducible assumption)
    | (rw [decide_eq_true_eq]; omega)
    | (rw [decide_eq_false_iff_not]; omega)
    | with_reducible rfl
    | (intro _ _; exact True.intro)
    | (intro _ _; with_reducible rfl)
    | (intro _ _; rfl)
    | (simp only [IntKind.min, IntKind.max, IntKind.signed, IntKind.bits, if_true]; omega)
    | omega
    | (intro h; exact h)
    | (intro h; cases h; done)
    | exact .inl rfl
    | exact .inl True.intro
    | exact .inr rfl
    | (simp; done)
end Go.Proofs.Ytpallipnhmoipaa
namespace Go.Proofs.Ytpallipnhmoipaa
open Go Sy Go.Proofs
theorem cellsSign : Try.prog.cellsOf 37 = 17 := by kernel_rfl
theorem sg_sign {d : Nat} {cs : List V} (h : ShC Try.prog d 37 cs) : ∃ s : SSign, cs = s.c ∧ s.tag.length = 16 := by
 obtain ⟨d, a, _, rfl, ha, b, _, rfl, hb, rfl⟩ := sh_struct h Try.underlying37
 obtain ⟨n, rfl, _⟩ := sh_int ha Try.underlying3
 obtain ⟨xs, rfl, h1, h2⟩ := sh_arr hb Try.underlying35 Try.underlying5
 exact ⟨⟨n, xs⟩, rfl, h1⟩
theorem sg_signs (U : Imm) {d : Nat} {cs : List V} (h : ShC Try.prog d 33 cs) : ∃ n s, CsLe U cs [sg n s] ∧ n ≤ 9223372036854775807 ∧ ∀ i, i < n → (s i).tag.length = 16 := by
 obtain ⟨d, len, f, rfl, hl, hf⟩ := sh_slice h Try.underlying33
 obtain ⟨s, hs⟩ := choose_fn fun i hi => sg_sign (hf i hi)
 refine ⟨len, s, ?_, hl, fun i hi => (hs i hi).2⟩
 rw [cellsSign]
 exact CsLe.ros fun i hi => by rw [(hs i hi).1]; exact CsLe.refl _ _
end Go.Proofs.Ytpallipnhmoipaa
