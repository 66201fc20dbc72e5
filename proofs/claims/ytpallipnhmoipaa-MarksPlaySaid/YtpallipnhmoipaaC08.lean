/-
  Contracts and laws that the claim's theorem leans on, joined out of the texts Nb2 Ng0 Ng1 (own work of this seat): Contract: whatever marks come, what is kept, told and refused is as the document says; The shapes of acts on marks that are handed in; The shapes of lists of acts on marks that are handed in.
-/
import Derived.Test.YtpallipnhmoipaaC04
import Derived.Test.YtpallipnhmoipaaC07
set_option linter.unusedVariables false
set_option linter.unusedSimpArgs false
set_option maxHeartbeats 1000000
namespace Go.Proofs.Ytpallipnhmoipaa
open Go Sy Go.Proofs
theorem bdP0_p011 (n : Int) (m : Nat) (f : Nat → SAct) (need : Int) :
  along Try.prog (bdP0 n m f need) [false, true, true] = (some (.bool true, [], [T Try.prog 29 [.int .i64 n] [] .pnil [], T Try.prog 33 [.int .i64 n] [] .pnil [], q false, q2, q2, T Try.prog 30 [] [] (.bool true) []]) : Option (V × Heap × List Prop)) := by kernel_rfl

theorem bdPl_p001 (n : Nat) (m : Nat) (f : Nat → SAct) (need : Int) (l0 : List (Int × MK)) (l : List (Int × MK)) :
  along Try.prog (bdPl n m f need l0 l) [false, false, true] = (some (.bool true, [], [T Try.prog 29 [.int .i64 ↑n] [] (.ptr (.o 128) 0 0 0 0) [(.o 128, .flat [.int .i64 ↑n, .mp (.o 129)]), (.o 129, .map (entsF 0 (mkL l0)) (List.length (mkL l0)))], T Try.prog 33 [.int .i64 ↑n] [] (.ptr (.o 256) 0 0 0 0) [(.o 256, .flat [.int .i64 ↑n, .sl (.o 257) 1 0 0 0 n (some n), .sl (.o 258) 32 0 0 0 n (some n), .sl (.o 259) 16 0 0 0 n (some n)]), (.o 257, .rows 1 n (eR l0) false), (.o 258, .rows 32 n (dR l0) false), (.o 259, .rows 16 n (tR l0) false)], q false, q false, decide ((200 : Int) < (↑m : Int)) = true, T Try.prog 30 [] [] (.bool true) []]) : Option (V × Heap × List Prop)) := by kernel_rfl
theorem bdPl_p000 (n : Nat) (m : Nat) (f : Nat → SAct) (need : Int) (l0 : List (Int × MK)) (l : List (Int × MK)) :
  along Try.prog (bdPl n m f need l0 l) [false, false, false] = (some (.bool true, [], [T Try.prog 29 [.int .i64 ↑n] [] (.ptr (.o 128) 0 0 0 0) [(.o 128, .flat [.int .i64 ↑n, .mp (.o 129)]), (.o 129, .map (entsF 0 (mkL l0)) (List.length (mkL l0)))], T Try.prog 33 [.int .i64 ↑n] [] (.ptr (.o 256) 0 0 0 0) [(.o 256, .flat [.int .i64 ↑n, .sl (.o 257) 1 0 0 0 n (some n), .sl (.o 258) 32 0 0 0 n (some n), .sl (.o 259) 16 0 0 0 n (some n)]), (.o 257, .rows 1 n (eR l0) false), (.o 258, .rows 32 n (dR l0) false), (.o 259, .rows 16 n (tR l0) false)], q false, q false, decide ((200 : Int) < (↑m : Int)) = false, RLoop Try.prog none 0 (cB (cB (cR (cL (cR (cR (cR (cR (bodyOf (Bd.f (bdPl n m f need l0 l))))))))))) (m + 1) (St.mk [.int .i64 ↑n, .any, .int .i64 need, .any, .any, .any, .any, .ptr (.o 0) 0 0 0 0, .ptr (.o 2) 0 0 0 0, .any, .any, .any, .any, .any, .any, .any, .any, .any, .any, .any, .any, .any, .any, .any, .any, .any, .any, .any, .any, .any, .any, .ros 50 m (fun i => [.int .i64 (SAct.node (f i)), .int .i64 (SAct.epoch (f i)), .seg .u8 32 (SAct.d (f i)), .seg .u8 16 (SAct.tag (f i))]) false, .int .i64 ↑m, .int .i64 0, .any, .any, .any, .any, .any, .any, .any, .any, .any, .any, .any, .any, .any, .any, .any, .any, .any, .any, .any, .any, .any, .any, .any, .any, .any, .any, .any, .any, .any, .any, .any, .any, .any, .any, .any, .any, .any, .any, .any, .any, .any, .any, .any, .any, .any, .any, .any, .any, .any, .any, .any, .any, .any, .any, .any, .any, .any, .any, .any, .any, .any, .any, .any, .any, .any, .any, .any, .any, .any, .any, .any, .any, .any, .any, .any, .any, .any, .any, .any, .any, .any, .any, .any, .any, .any, .any, .any, .any, .any, .any, .any, .any, .any, .any, .any, .any, .any, .any] [(.o 0, .flat [.int .i64 ↑n, .mp (.o 1)]), (.o 1, .map (entsF 0 (mkL l0)) (List.length (mkL l0))), (.o 2, .flat [.int .i64 ↑n, .sl (.o 3) 1 0 0 0 n none, .sl (.o 4) 32 0 0 0 n none, .sl (.o 5) 16 0 0 0 n none]), (.o 3, .rows 1 n (eR l0) false), (.o 4, .rows 32 n (dR l0) false), (.o 5, .rows 16 n (tR l0) false)] 6 []) (.exit 0) (St.mk [.int .i64 ↑n, .any, .int .i64 need, .any, .any, .any, .any, .ptr (.o 0) 0 0 0 0, .ptr (.o 2) 0 0 0 0, .any, .any, .any, .any, .any, .any, .any, .any, .any, .any, .any, .any, .any, .any, .any, .any, .any, .any, .any, .any, .any, .any, .ros 50 m (fun i => [.int .i64 (SAct.node (f i)), .int .i64 (SAct.epoch (f i)), .seg .u8 32 (SAct.d (f i)), .seg .u8 16 (SAct.tag (f i))]) false, .int .i64 ↑m, .int .i64 ↑m, .any, .any, .any, .any, .any, .any, .any, .any, .any, .any, .any, .any, .any, .any, .any, .any, .any, .any, .any, .any, .any, .any, .any, .any, .any, .any, .any, .any, .any, .any, .any, .any, .any, .any, .any, .any, .any, .any, .any, .any, .any, .any, .any, .any, .any, .any, .any, .any, .any, .any, .any, .any, .any, .any, .any, .any, .any, .any, .any, .any, .any, .any, .any, .any, .any, .any, .any, .any, .any, .any, .any, .any, .any, .any, .any, .any, .any, .any, .any, .any, .any, .any, .any, .any, .any, .any, .any, .any, .any, .any, .any, .any, .any, .any, .any, .any, .any, .any] [(.o 0, .flat [.int .i64 ↑n, .mp (.o 1)]), (.o 1, .map (entsF 0 (mkL l)) (List.length (mkL l))), (.o 2, .flat [.int .i64 ↑n, .sl (.o 3) 1 0 0 0 n none, .sl (.o 4) 32 0 0 0 n none, .sl (.o 5) 16 0 0 0 n none]), (.o 3, .rows 1 n (eR l) false), (.o 4, .rows 32 n (dR l) false), (.o 5, .rows 16 n (tR l) false)] 6 []), q (↑n : Int), q (entsF (0 : Nat) (mkL l0)), q (List.length (mkL l0)), q (↑n : Int), q0, q0, q0, q n, (none : Option Nat) = none ∨ none = some n, q0, q0, q0, q n, (none : Option Nat) = none ∨ none = some n, q0, q0, q0, q n, (none : Option Nat) = none ∨ none = some n, q n, ∀ (k : Nat), k < n → [V.int IntKind.i64 (ofM l0 (↑k : Int)).1] = [V.int IntKind.i64 (ofM l0 (↑k : Int)).1], false = false → false = false, q n, ∀ (k : Nat), k < n → [V.seg IntKind.u8 (32 : Nat) (Prod.snd (ofM l0 (↑k : Int))).1] = [V.seg IntKind.u8 (32 : Nat) (Prod.snd (ofM l0 (↑k : Int))).1], false = false → false = false, q n, ∀ (k : Nat), k < n → [V.seg IntKind.u8 (16 : Nat) (Prod.snd (ofM l0 (↑k : Int))).2] = [V.seg IntKind.u8 (16 : Nat) (Prod.snd (ofM l0 (↑k : Int))).2], false = false → false = false, q (↑n : Int), q need, q0, q0, q0, q0, q0, q0, q m, ∀ (k : Nat), k < m → [V.int IntKind.i64 (SAct.node (f k)), V.int IntKind.i64 (SAct.epoch (f k)), V.seg IntKind.u8 (32 : Nat) (SAct.d (f k)), V.seg IntKind.u8 (16 : Nat) (SAct.tag (f k))] = [V.int IntKind.i64 (SAct.node (f k)), V.int IntKind.i64 (SAct.epoch (f k)), V.seg IntKind.u8 (32 : Nat) (SAct.d (f k)), V.seg IntKind.u8 (16 : Nat) (SAct.tag (f k))], false = true → false = true, q (↑m : Int), q1, T Try.prog 30 [] [] (.bool true) []]) : Option (V × Heap × List Prop)) := by kernel_rfl

theorem pcPy_p1000 (n : Nat) (m : Nat) (f : Nat → SAct) (need : Int) (l : List (Int × MK)) (l2 : List (Int × MK)) (k : Nat) (r : Int) (v : Int) (L : List SSign) :
  alongPc Try.prog (pcPy n m f need l l2 k r v L) [true, false, false, false] = (some (.normal, St.mk [.int .i64 ↑n, .any, .int .i64 need, .any, .any, .any, .any, .ptr (.o 0) 0 0 0 0, .ptr (.o 2) 0 0 0 0, .any, .any, .any, .any, .any, .any, .any, .any, .any, .any, .any, .any, .any, .any, .any, .any, .any, .any, .any, .any, .any, .any, .ros 50 m (fun i => [.int .i64 (SAct.node (f i)), .int .i64 (SAct.epoch (f i)), .seg .u8 32 (SAct.d (f i)), .seg .u8 16 (SAct.tag (f i))]) false, .int .i64 ↑m, .int .i64 (↑(k + 1) : Int), .any, .any, .any, .any, .any, .any, .any, .any, .any, .any, .any, .any, .any, .any, .any, .any, .any, .any, .any, .any, .any, .any, .any, .any, .any, .any, .any, .any, .any, .any, .any, .any, .any, .any, .any, .any, .any, .any, .any, .any, .any, .any, .any, .any, .any, .any, .any, .any, .any, .any, .any, .any, .any, .any, .any, .any, .any, .any, .any, .any, .any, .any, .any, .any, .any, .any, .any, .any, .any, .any, .any, .any, .any, .any, .any, .any, .any, .any, .any, .any, .any, .any, .any, .any, .any, .any, .any, .any, .any, .any, .any, .any, .any, .any, .any, .any, .any, .any] [(.o 0, .flat [.int .i64 ↑n, .mp (.o 1)]), (.o 1, .map (entsF 0 (mkL l2)) (List.length (mkL l2))), (.o 2, .flat [.int .i64 ↑n, .sl (.o 3) 1 0 0 0 n none, .sl (.o 4) 32 0 0 0 n none, .sl (.o 5) 16 0 0 0 n none]), (.o 3, .rows 1 n (eR l2) false), (.o 4, .rows 32 n (dR l2) false), (.o 5, .rows 16 n (tR l2) false)] 6 [], [decide ((↑k : Int) < (↑m : Int)) = true, (0 : Int) ≤ (↑k : Int) ∧ (↑k : Int) < (↑m : Int), T Try.prog 31 [.ptr (.o 0) 0 0 0 0, .int .i64 (SAct.node (f (Int.toNat (↑k : Int)))), .int .i64 (SAct.epoch (f (Int.toNat (↑k : Int)))), .agg [.seg .u8 32 (SAct.d (f (Int.toNat (↑k : Int))))], .agg [.seg .u8 16 (SAct.tag (f (Int.toNat (↑k : Int))))]] [(.o 0, .flat [.int .i64 ↑n, .mp (.o 1)]), (.o 1, .map (entsF 0 (mkL l)) (List.length (mkL l)))] (.int .i64 r) [(.o 0, .flat [.int .i64 ↑n, .mp (.o 1)]), (.o 1, .map (entsF 0 (mkL l2)) (List.length (mkL l2)))], T Try.prog 34 [.ptr (.o 2) 0 0 0 0, .int .i64 (SAct.node (f (Int.toNat (↑k : Int)))), .int .i64 (SAct.epoch (f (Int.toNat (↑k : Int)))), .agg [.seg .u8 32 (SAct.d (f (Int.toNat (↑k : Int))))], .agg [.seg .u8 16 (SAct.tag (f (Int.toNat (↑k : Int))))]] [(.o 2, .flat [.int .i64 ↑n, .sl (.o 3) 1 0 0 0 n none, .sl (.o 4) 32 0 0 0 n none, .sl (.o 5) 16 0 0 0 n none]), (.o 3, .rows 1 n (eR l) false), (.o 4, .rows 32 n (dR l) false), (.o 5, .rows 16 n (tR l) false)] (.int .i64 r) [(.o 2, .flat [.int .i64 ↑n, .sl (.o 3) 1 0 0 0 n none, .sl (.o 4) 32 0 0 0 n none, .sl (.o 5) 16 0 0 0 n none]), (.o 3, .rows 1 n (eR l2) false), (.o 4, .rows 32 n (dR l2) false), (.o 5, .rows 16 n (tR l2) false)], (!decide (r = r)) = false, T Try.prog 35 [.ptr (.o 0) 0 0 0 0, .int .i64 need] [(.o 0, .flat [.int .i64 ↑n, .mp (.o 1)]), (.o 1, .map (entsF 0 (mkL l2)) (List.length (mkL l2)))] (.int .i64 v) [(.o 0, .flat [.int .i64 ↑n, .mp (.o 1)]), (.o 1, .map (entsF 0 (mkL l2)) (List.length (mkL l2)))], T Try.prog 36 [.ptr (.o 2) 0 0 0 0, .int .i64 need] [(.o 2, .flat [.int .i64 ↑n, .sl (.o 3) 1 0 0 0 n none, .sl (.o 4) 32 0 0 0 n none, .sl (.o 5) 16 0 0 0 n none]), (.o 3, .rows 1 n (eR l2) false), (.o 4, .rows 32 n (dR l2) false), (.o 5, .rows 16 n (tR l2) false)] (.int .i64 v) [(.o 2, .flat [.int .i64 ↑n, .sl (.o 3) 1 0 0 0 n none, .sl (.o 4) 32 0 0 0 n none, .sl (.o 5) 16 0 0 0 n none]), (.o 3, .rows 1 n (eR l2) false), (.o 4, .rows 32 n (dR l2) false), (.o 5, .rows 16 n (tR l2) false)], (!decide (v = v)) = false, T Try.prog 32 [.ptr (.o 0) 0 0 0 0, .int .i64 (SAct.epoch (f (Int.toNat (↑k : Int)))), .agg [.seg .u8 32 (SAct.d (f (Int.toNat (↑k : Int))))], .int .i64 need] [(.o 0, .flat [.int .i64 ↑n, .mp (.o 1)]), (.o 1, .map (entsF 0 (mkL l2)) (List.length (mkL l2)))] (.sl (.o 2694) 17 0 0 0 (List.length L) none) [(.o 0, .flat [.int .i64 ↑n, .mp (.o 1)]), (.o 1, .map (entsF 0 (mkL l2)) (List.length (mkL l2))), (.o 2694, .rows 17 (List.length L) (gn (siF L)) true)], T Try.prog 37 [.ptr (.o 2) 0 0 0 0, .int .i64 (SAct.epoch (f (Int.toNat (↑k : Int)))), .agg [.seg .u8 32 (SAct.d (f (Int.toNat (↑k : Int))))], .int .i64 need] [(.o 2, .flat [.int .i64 ↑n, .sl (.o 3) 1 0 0 0 n none, .sl (.o 4) 32 0 0 0 n none, .sl (.o 5) 16 0 0 0 n none]), (.o 3, .rows 1 n (eR l2) false), (.o 4, .rows 32 n (dR l2) false), (.o 5, .rows 16 n (tR l2) false)] (.sl (.o 3142) 17 0 0 0 (List.length L) none) [(.o 2, .flat [.int .i64 ↑n, .sl (.o 3) 1 0 0 0 n none, .sl (.o 4) 32 0 0 0 n none, .sl (.o 5) 16 0 0 0 n none]), (.o 3, .rows 1 n (eR l2) false), (.o 4, .rows 32 n (dR l2) false), (.o 5, .rows 16 n (tR l2) false), (.o 3142, .rows 17 (List.length L) (gn (siF L)) true)], T Try.prog 26 [.sl (.o 2694) 17 0 0 0 (List.length L) none, .sl (.o 3142) 17 0 0 0 (List.length L) none] [(.o 2694, .rows 17 (List.length L) (gn (siF L)) true), (.o 3142, .rows 17 (List.length L) (gn (siF L)) true)] (.bool true) [(.o 2694, .rows 17 (List.length L) (gn (siF L)) true), (.o 3142, .rows 17 (List.length L) (gn (siF L)) true)], q false, RLoop Try.prog none 0 (cB (cB (cR (cR (cR (cB (cL (cR (cR (Pc.c (pcPy n m f need l l2 k r v L))))))))))) (n + 3) (St.mk [.int .i64 ↑n, .any, .int .i64 need, .any, .any, .any, .any, .ptr (.o 0) 0 0 0 0, .ptr (.o 2) 0 0 0 0, .any, .any, .int .i64 ((0 : Int) - (1 : Int)), .any, .any, .any, .any, .any, .any, .any, .any, .any, .any, .any, .any, .any, .any, .any, .any, .any, .any, .any, .ros 50 m (fun i => [.int .i64 (SAct.node (f i)), .int .i64 (SAct.epoch (f i)), .seg .u8 32 (SAct.d (f i)), .seg .u8 16 (SAct.tag (f i))]) false, .int .i64 ↑m, .int .i64 ↑k, .any, .any, .any, .any, .any, .any, .any, .any, .any, .any, .any, .any, .any, .any, .any, .any, .any, .any, .any, .any, .any, .any, .any, .any, .any, .any, .any, .any, .any, .any, .any, .any, .any, .any, .any, .any, .any, .any, .any, .any, .any, .any, .any, .any, .any, .any, .any, .any, .any, .any, .any, .any, .any, .any, .any, .any, .any, .any, .any, .any, .any, .any, .any, .any, .any, .any, .any, .any, .any, .any, .any, .any, .any, .any, .any, .any, .any, .any, .any, .any, .any, .any, .any, .any, .any, .any, .any, .any, .any, .any, .any, .any, .any, .any, .any, .any, .any, .any] [(.o 0, .flat [.int .i64 ↑n, .mp (.o 1)]), (.o 1, .map (entsF 0 (mkL l2)) (List.length (mkL l2))), (.o 2, .flat [.int .i64 ↑n, .sl (.o 3) 1 0 0 0 n none, .sl (.o 4) 32 0 0 0 n none, .sl (.o 5) 16 0 0 0 n none]), (.o 3, .rows 1 n (eR l2) false), (.o 4, .rows 32 n (dR l2) false), (.o 5, .rows 16 n (tR l2) false)] 6 []) (.exit 2) (St.mk [.int .i64 ↑n, .any, .int .i64 need, .any, .any, .any, .any, .ptr (.o 0) 0 0 0 0, .ptr (.o 2) 0 0 0 0, .any, .any, .int .i64 ((↑(n + 2) : Int) - (1 : Int)), .any, .any, .any, .any, .any, .any, .any, .any, .any, .any, .any, .any, .any, .any, .any, .any, .any, .any, .any, .ros 50 m (fun i => [.int .i64 (SAct.node (f i)), .int .i64 (SAct.epoch (f i)), .seg .u8 32 (SAct.d (f i)), .seg .u8 16 (SAct.tag (f i))]) false, .int .i64 ↑m, .int .i64 ↑k, .any, .any, .any, .any, .any, .any, .any, .any, .any, .any, .any, .any, .any, .any, .any, .any, .any, .any, .any, .any, .any, .any, .any, .any, .any, .any, .any, .any, .any, .any, .any, .any, .any, .any, .any, .any, .any, .any, .any, .any, .any, .any, .any, .any, .any, .any, .any, .any, .any, .any, .any, .any, .any, .any, .any, .any, .any, .any, .any, .any, .any, .any, .any, .any, .any, .any, .any, .any, .any, .any, .any, .any, .any, .any, .any, .any, .any, .any, .any, .any, .any, .any, .any, .any, .any, .any, .any, .any, .any, .any, .any, .any, .any, .any, .any, .any, .any, .any] [(.o 0, .flat [.int .i64 ↑n, .mp (.o 1)]), (.o 1, .map (entsF 0 (mkL l2)) (List.length (mkL l2))), (.o 2, .flat [.int .i64 ↑n, .sl (.o 3) 1 0 0 0 n none, .sl (.o 4) 32 0 0 0 n none, .sl (.o 5) 16 0 0 0 n none]), (.o 3, .rows 1 n (eR l2) false), (.o 4, .rows 32 n (dR l2) false), (.o 5, .rows 16 n (tR l2) false)] 6 []), q (↑n : Int), q (entsF (0 : Nat) (mkL l2)), q (List.length (mkL l2)), q (↑n : Int), q0, q0, q0, q n, (none : Option Nat) = none ∨ (none : Option Nat) = none, q0, q0, q0, q n, (none : Option Nat) = none ∨ (none : Option Nat) = none, q0, q0, q0, q n, (none : Option Nat) = none ∨ (none : Option Nat) = none, q n, ∀ (k : Nat), k < n → [V.int IntKind.i64 (ofM l2 (↑k : Int)).1] = [V.int IntKind.i64 (ofM l2 (↑k : Int)).1], false = false → false = false, q n, ∀ (k : Nat), k < n → [V.seg IntKind.u8 (32 : Nat) (Prod.snd (ofM l2 (↑k : Int))).1] = [V.seg IntKind.u8 (32 : Nat) (Prod.snd (ofM l2 (↑k : Int))).1], false = false → false = false, q n, ∀ (k : Nat), k < n → [V.seg IntKind.u8 (16 : Nat) (Prod.snd (ofM l2 (↑k : Int))).2] = [V.seg IntKind.u8 (16 : Nat) (Prod.snd (ofM l2 (↑k : Int))).2], false = false → false = false, q (↑n : Int), q need, q0, q0, q0, q0, q0, q0, (-1 : Int) = (0 : Int) - (1 : Int), q m, ∀ (k : Nat), k < m → [V.int IntKind.i64 (SAct.node (f k)), V.int IntKind.i64 (SAct.epoch (f k)), V.seg IntKind.u8 (32 : Nat) (SAct.d (f k)), V.seg IntKind.u8 (16 : Nat) (SAct.tag (f k))] = [V.int IntKind.i64 (SAct.node (f k)), V.int IntKind.i64 (SAct.epoch (f k)), V.seg IntKind.u8 (32 : Nat) (SAct.d (f k)), V.seg IntKind.u8 (16 : Nat) (SAct.tag (f k))], false = true → false = true, q (↑m : Int), q (↑k : Int), InR IntKind.i64 ((↑k : Int) + (1 : Int)), q (↑n : Int), q (entsF (0 : Nat) (mkL l2)), q (List.length (mkL l2)), q (↑n : Int), q0, q0, q0, q n, (none : Option Nat) = none ∨ (none : Option Nat) = none, q0, q0, q0, q n, (none : Option Nat) = none ∨ (none : Option Nat) = none, q0, q0, q0, q n, (none : Option Nat) = none ∨ (none : Option Nat) = none, q n, ∀ (k : Nat), k < n → [V.int IntKind.i64 (ofM l2 (↑k : Int)).1] = [V.int IntKind.i64 (ofM l2 (↑k : Int)).1], false = false → false = false, q n, ∀ (k : Nat), k < n → [V.seg IntKind.u8 (32 : Nat) (Prod.snd (ofM l2 (↑k : Int))).1] = [V.seg IntKind.u8 (32 : Nat) (Prod.snd (ofM l2 (↑k : Int))).1], false = false → false = false, q n, ∀ (k : Nat), k < n → [V.seg IntKind.u8 (16 : Nat) (Prod.snd (ofM l2 (↑k : Int))).2] = [V.seg IntKind.u8 (16 : Nat) (Prod.snd (ofM l2 (↑k : Int))).2], false = false → false = false, q (↑n : Int), q need, q0, q0, q0, q0, q0, q0, q m, ∀ (k : Nat), k < m → [V.int IntKind.i64 (SAct.node (f k)), V.int IntKind.i64 (SAct.epoch (f k)), V.seg IntKind.u8 (32 : Nat) (SAct.d (f k)), V.seg IntKind.u8 (16 : Nat) (SAct.tag (f k))] = [V.int IntKind.i64 (SAct.node (f k)), V.int IntKind.i64 (SAct.epoch (f k)), V.seg IntKind.u8 (32 : Nat) (SAct.d (f k)), V.seg IntKind.u8 (16 : Nat) (SAct.tag (f k))], false = true → false = true, q (↑m : Int), (↑k : Int) + (1 : Int) = (↑(k + (1 : Nat)) : Int)]) : Option (Exit × St × List Prop)) := by kernel_rfl

theorem pcPy_p0 (n : Nat) (m : Nat) (f : Nat → SAct) (need : Int) (l : List (Int × MK)) (l2 : List (Int × MK)) (k : Nat) (r : Int) (v : Int) (L : List SSign) :
  alongPc Try.prog (pcPy n m f need l l2 k r v L) [false] = (some (.exit 0, St.mk [.int .i64 ↑n, .any, .int .i64 need, .any, .any, .any, .any, .ptr (.o 0) 0 0 0 0, .ptr (.o 2) 0 0 0 0, .any, .any, .any, .any, .any, .any, .any, .any, .any, .any, .any, .any, .any, .any, .any, .any, .any, .any, .any, .any, .any, .any, .ros 50 m (fun i => [.int .i64 (SAct.node (f i)), .int .i64 (SAct.epoch (f i)), .seg .u8 32 (SAct.d (f i)), .seg .u8 16 (SAct.tag (f i))]) false, .int .i64 ↑m, .int .i64 ↑m, .any, .any, .any, .any, .any, .any, .any, .any, .any, .any, .any, .any, .any, .any, .any, .any, .any, .any, .any, .any, .any, .any, .any, .any, .any, .any, .any, .any, .any, .any, .any, .any, .any, .any, .any, .any, .any, .any, .any, .any, .any, .any, .any, .any, .any, .any, .any, .any, .any, .any, .any, .any, .any, .any, .any, .any, .any, .any, .any, .any, .any, .any, .any, .any, .any, .any, .any, .any, .any, .any, .any, .any, .any, .any, .any, .any, .any, .any, .any, .any, .any, .any, .any, .any, .any, .any, .any, .any, .any, .any, .any, .any, .any, .any, .any, .any, .any, .any] [(.o 0, .flat [.int .i64 ↑n, .mp (.o 1)]), (.o 1, .map (entsF 0 (mkL l)) (List.length (mkL l))), (.o 2, .flat [.int .i64 ↑n, .sl (.o 3) 1 0 0 0 n none, .sl (.o 4) 32 0 0 0 n none, .sl (.o 5) 16 0 0 0 n none]), (.o 3, .rows 1 n (eR l) false), (.o 4, .rows 32 n (dR l) false), (.o 5, .rows 16 n (tR l) false)] 6 [], [decide ((↑k : Int) < (↑m : Int)) = false, q (↑n : Int), q (entsF (0 : Nat) (mkL l)), q (List.length (mkL l)), q (↑n : Int), q0, q0, q0, q n, (none : Option Nat) = none ∨ (none : Option Nat) = none, q0, q0, q0, q n, (none : Option Nat) = none ∨ (none : Option Nat) = none, q0, q0, q0, q n, (none : Option Nat) = none ∨ (none : Option Nat) = none, q n, ∀ (k : Nat), k < n → [V.int IntKind.i64 (ofM l (↑k : Int)).1] = [V.int IntKind.i64 (ofM l (↑k : Int)).1], false = false → false = false, q n, ∀ (k : Nat), k < n → [V.seg IntKind.u8 (32 : Nat) (Prod.snd (ofM l (↑k : Int))).1] = [V.seg IntKind.u8 (32 : Nat) (Prod.snd (ofM l (↑k : Int))).1], false = false → false = false, q n, ∀ (k : Nat), k < n → [V.seg IntKind.u8 (16 : Nat) (Prod.snd (ofM l (↑k : Int))).2] = [V.seg IntKind.u8 (16 : Nat) (Prod.snd (ofM l (↑k : Int))).2], false = false → false = false, q (↑n : Int), q need, q0, q0, q0, q0, q0, q0, q m, ∀ (k : Nat), k < m → [V.int IntKind.i64 (SAct.node (f k)), V.int IntKind.i64 (SAct.epoch (f k)), V.seg IntKind.u8 (32 : Nat) (SAct.d (f k)), V.seg IntKind.u8 (16 : Nat) (SAct.tag (f k))] = [V.int IntKind.i64 (SAct.node (f k)), V.int IntKind.i64 (SAct.epoch (f k)), V.seg IntKind.u8 (32 : Nat) (SAct.d (f k)), V.seg IntKind.u8 (16 : Nat) (SAct.tag (f k))], false = true → false = true, q (↑m : Int), (↑k : Int) = (↑m : Int)]) : Option (Exit × St × List Prop)) := by kernel_rfl

theorem pcPn_p1000 (n : Nat) (m : Nat) (f : Nat → SAct) (need : Int) (l : List (Int × MK)) (l2 : List (Int × MK)) (k : Nat) (r : Int) (v : Int) :
  alongPc Try.prog (pcPn n m f need l l2 k r v) [true, false, false, false] = (some (.normal, St.mk [.int .i64 ↑n, .any, .int .i64 need, .any, .any, .any, .any, .ptr (.o 0) 0 0 0 0, .ptr (.o 2) 0 0 0 0, .any, .any, .any, .any, .any, .any, .any, .any, .any, .any, .any, .any, .any, .any, .any, .any, .any, .any, .any, .any, .any, .any, .ros 50 m (fun i => [.int .i64 (SAct.node (f i)), .int .i64 (SAct.epoch (f i)), .seg .u8 32 (SAct.d (f i)), .seg .u8 16 (SAct.tag (f i))]) false, .int .i64 ↑m, .int .i64 (↑(k + 1) : Int), .any, .any, .any, .any, .any, .any, .any, .any, .any, .any, .any, .any, .any, .any, .any, .any, .any, .any, .any, .any, .any, .any, .any, .any, .any, .any, .any, .any, .any, .any, .any, .any, .any, .any, .any, .any, .any, .any, .any, .any, .any, .any, .any, .any, .any, .any, .any, .any, .any, .any, .any, .any, .any, .any, .any, .any, .any, .any, .any, .any, .any, .any, .any, .any, .any, .any, .any, .any, .any, .any, .any, .any, .any, .any, .any, .any, .any, .any, .any, .any, .any, .any, .any, .any, .any, .any, .any, .any, .any, .any, .any, .any, .any, .any, .any, .any, .any, .any] [(.o 0, .flat [.int .i64 ↑n, .mp (.o 1)]), (.o 1, .map (entsF 0 (mkL l2)) (List.length (mkL l2))), (.o 2, .flat [.int .i64 ↑n, .sl (.o 3) 1 0 0 0 n none, .sl (.o 4) 32 0 0 0 n none, .sl (.o 5) 16 0 0 0 n none]), (.o 3, .rows 1 n (eR l2) false), (.o 4, .rows 32 n (dR l2) false), (.o 5, .rows 16 n (tR l2) false)] 6 [], [decide ((↑k : Int) < (↑m : Int)) = true, (0 : Int) ≤ (↑k : Int) ∧ (↑k : Int) < (↑m : Int), T Try.prog 31 [.ptr (.o 0) 0 0 0 0, .int .i64 (SAct.node (f (Int.toNat (↑k : Int)))), .int .i64 (SAct.epoch (f (Int.toNat (↑k : Int)))), .agg [.seg .u8 32 (SAct.d (f (Int.toNat (↑k : Int))))], .agg [.seg .u8 16 (SAct.tag (f (Int.toNat (↑k : Int))))]] [(.o 0, .flat [.int .i64 ↑n, .mp (.o 1)]), (.o 1, .map (entsF 0 (mkL l)) (List.length (mkL l)))] (.int .i64 r) [(.o 0, .flat [.int .i64 ↑n, .mp (.o 1)]), (.o 1, .map (entsF 0 (mkL l2)) (List.length (mkL l2)))], T Try.prog 34 [.ptr (.o 2) 0 0 0 0, .int .i64 (SAct.node (f (Int.toNat (↑k : Int)))), .int .i64 (SAct.epoch (f (Int.toNat (↑k : Int)))), .agg [.seg .u8 32 (SAct.d (f (Int.toNat (↑k : Int))))], .agg [.seg .u8 16 (SAct.tag (f (Int.toNat (↑k : Int))))]] [(.o 2, .flat [.int .i64 ↑n, .sl (.o 3) 1 0 0 0 n none, .sl (.o 4) 32 0 0 0 n none, .sl (.o 5) 16 0 0 0 n none]), (.o 3, .rows 1 n (eR l) false), (.o 4, .rows 32 n (dR l) false), (.o 5, .rows 16 n (tR l) false)] (.int .i64 r) [(.o 2, .flat [.int .i64 ↑n, .sl (.o 3) 1 0 0 0 n none, .sl (.o 4) 32 0 0 0 n none, .sl (.o 5) 16 0 0 0 n none]), (.o 3, .rows 1 n (eR l2) false), (.o 4, .rows 32 n (dR l2) false), (.o 5, .rows 16 n (tR l2) false)], (!decide (r = r)) = false, T Try.prog 35 [.ptr (.o 0) 0 0 0 0, .int .i64 need] [(.o 0, .flat [.int .i64 ↑n, .mp (.o 1)]), (.o 1, .map (entsF 0 (mkL l2)) (List.length (mkL l2)))] (.int .i64 v) [(.o 0, .flat [.int .i64 ↑n, .mp (.o 1)]), (.o 1, .map (entsF 0 (mkL l2)) (List.length (mkL l2)))], T Try.prog 36 [.ptr (.o 2) 0 0 0 0, .int .i64 need] [(.o 2, .flat [.int .i64 ↑n, .sl (.o 3) 1 0 0 0 n none, .sl (.o 4) 32 0 0 0 n none, .sl (.o 5) 16 0 0 0 n none]), (.o 3, .rows 1 n (eR l2) false), (.o 4, .rows 32 n (dR l2) false), (.o 5, .rows 16 n (tR l2) false)] (.int .i64 v) [(.o 2, .flat [.int .i64 ↑n, .sl (.o 3) 1 0 0 0 n none, .sl (.o 4) 32 0 0 0 n none, .sl (.o 5) 16 0 0 0 n none]), (.o 3, .rows 1 n (eR l2) false), (.o 4, .rows 32 n (dR l2) false), (.o 5, .rows 16 n (tR l2) false)], (!decide (v = v)) = false, T Try.prog 32 [.ptr (.o 0) 0 0 0 0, .int .i64 (SAct.epoch (f (Int.toNat (↑k : Int)))), .agg [.seg .u8 32 (SAct.d (f (Int.toNat (↑k : Int))))], .int .i64 need] [(.o 0, .flat [.int .i64 ↑n, .mp (.o 1)]), (.o 1, .map (entsF 0 (mkL l2)) (List.length (mkL l2)))] .snil [(.o 0, .flat [.int .i64 ↑n, .mp (.o 1)]), (.o 1, .map (entsF 0 (mkL l2)) (List.length (mkL l2)))], T Try.prog 37 [.ptr (.o 2) 0 0 0 0, .int .i64 (SAct.epoch (f (Int.toNat (↑k : Int)))), .agg [.seg .u8 32 (SAct.d (f (Int.toNat (↑k : Int))))], .int .i64 need] [(.o 2, .flat [.int .i64 ↑n, .sl (.o 3) 1 0 0 0 n none, .sl (.o 4) 32 0 0 0 n none, .sl (.o 5) 16 0 0 0 n none]), (.o 3, .rows 1 n (eR l2) false), (.o 4, .rows 32 n (dR l2) false), (.o 5, .rows 16 n (tR l2) false)] .snil [(.o 2, .flat [.int .i64 ↑n, .sl (.o 3) 1 0 0 0 n none, .sl (.o 4) 32 0 0 0 n none, .sl (.o 5) 16 0 0 0 n none]), (.o 3, .rows 1 n (eR l2) false), (.o 4, .rows 32 n (dR l2) false), (.o 5, .rows 16 n (tR l2) false)], T Try.prog 26 [.snil, .snil] [] (.bool true) [], q false, RLoop Try.prog none 0 (cB (cB (cR (cR (cR (cB (cL (cR (cR (Pc.c (pcPn n m f need l l2 k r v))))))))))) (n + 3) (St.mk [.int .i64 ↑n, .any, .int .i64 need, .any, .any, .any, .any, .ptr (.o 0) 0 0 0 0, .ptr (.o 2) 0 0 0 0, .any, .any, .int .i64 ((0 : Int) - (1 : Int)), .any, .any, .any, .any, .any, .any, .any, .any, .any, .any, .any, .any, .any, .any, .any, .any, .any, .any, .any, .ros 50 m (fun i => [.int .i64 (SAct.node (f i)), .int .i64 (SAct.epoch (f i)), .seg .u8 32 (SAct.d (f i)), .seg .u8 16 (SAct.tag (f i))]) false, .int .i64 ↑m, .int .i64 ↑k, .any, .any, .any, .any, .any, .any, .any, .any, .any, .any, .any, .any, .any, .any, .any, .any, .any, .any, .any, .any, .any, .any, .any, .any, .any, .any, .any, .any, .any, .any, .any, .any, .any, .any, .any, .any, .any, .any, .any, .any, .any, .any, .any, .any, .any, .any, .any, .any, .any, .any, .any, .any, .any, .any, .any, .any, .any, .any, .any, .any, .any, .any, .any, .any, .any, .any, .any, .any, .any, .any, .any, .any, .any, .any, .any, .any, .any, .any, .any, .any, .any, .any, .any, .any, .any, .any, .any, .any, .any, .any, .any, .any, .any, .any, .any, .any, .any, .any] [(.o 0, .flat [.int .i64 ↑n, .mp (.o 1)]), (.o 1, .map (entsF 0 (mkL l2)) (List.length (mkL l2))), (.o 2, .flat [.int .i64 ↑n, .sl (.o 3) 1 0 0 0 n none, .sl (.o 4) 32 0 0 0 n none, .sl (.o 5) 16 0 0 0 n none]), (.o 3, .rows 1 n (eR l2) false), (.o 4, .rows 32 n (dR l2) false), (.o 5, .rows 16 n (tR l2) false)] 6 []) (.exit 2) (St.mk [.int .i64 ↑n, .any, .int .i64 need, .any, .any, .any, .any, .ptr (.o 0) 0 0 0 0, .ptr (.o 2) 0 0 0 0, .any, .any, .int .i64 ((↑(n + 2) : Int) - (1 : Int)), .any, .any, .any, .any, .any, .any, .any, .any, .any, .any, .any, .any, .any, .any, .any, .any, .any, .any, .any, .ros 50 m (fun i => [.int .i64 (SAct.node (f i)), .int .i64 (SAct.epoch (f i)), .seg .u8 32 (SAct.d (f i)), .seg .u8 16 (SAct.tag (f i))]) false, .int .i64 ↑m, .int .i64 ↑k, .any, .any, .any, .any, .any, .any, .any, .any, .any, .any, .any, .any, .any, .any, .any, .any, .any, .any, .any, .any, .any, .any, .any, .any, .any, .any, .any, .any, .any, .any, .any, .any, .any, .any, .any, .any, .any, .any, .any, .any, .any, .any, .any, .any, .any, .any, .any, .any, .any, .any, .any, .any, .any, .any, .any, .any, .any, .any, .any, .any, .any, .any, .any, .any, .any, .any, .any, .any, .any, .any, .any, .any, .any, .any, .any, .any, .any, .any, .any, .any, .any, .any, .any, .any, .any, .any, .any, .any, .any, .any, .any, .any, .any, .any, .any, .any, .any, .any] [(.o 0, .flat [.int .i64 ↑n, .mp (.o 1)]), (.o 1, .map (entsF 0 (mkL l2)) (List.length (mkL l2))), (.o 2, .flat [.int .i64 ↑n, .sl (.o 3) 1 0 0 0 n none, .sl (.o 4) 32 0 0 0 n none, .sl (.o 5) 16 0 0 0 n none]), (.o 3, .rows 1 n (eR l2) false), (.o 4, .rows 32 n (dR l2) false), (.o 5, .rows 16 n (tR l2) false)] 6 []), q (↑n : Int), q (entsF (0 : Nat) (mkL l2)), q (List.length (mkL l2)), q (↑n : Int), q0, q0, q0, q n, (none : Option Nat) = none ∨ (none : Option Nat) = none, q0, q0, q0, q n, (none : Option Nat) = none ∨ (none : Option Nat) = none, q0, q0, q0, q n, (none : Option Nat) = none ∨ (none : Option Nat) = none, q n, ∀ (k : Nat), k < n → [V.int IntKind.i64 (ofM l2 (↑k : Int)).1] = [V.int IntKind.i64 (ofM l2 (↑k : Int)).1], false = false → false = false, q n, ∀ (k : Nat), k < n → [V.seg IntKind.u8 (32 : Nat) (Prod.snd (ofM l2 (↑k : Int))).1] = [V.seg IntKind.u8 (32 : Nat) (Prod.snd (ofM l2 (↑k : Int))).1], false = false → false = false, q n, ∀ (k : Nat), k < n → [V.seg IntKind.u8 (16 : Nat) (Prod.snd (ofM l2 (↑k : Int))).2] = [V.seg IntKind.u8 (16 : Nat) (Prod.snd (ofM l2 (↑k : Int))).2], false = false → false = false, q (↑n : Int), q need, q0, q0, q0, q0, q0, q0, (-1 : Int) = (0 : Int) - (1 : Int), q m, ∀ (k : Nat), k < m → [V.int IntKind.i64 (SAct.node (f k)), V.int IntKind.i64 (SAct.epoch (f k)), V.seg IntKind.u8 (32 : Nat) (SAct.d (f k)), V.seg IntKind.u8 (16 : Nat) (SAct.tag (f k))] = [V.int IntKind.i64 (SAct.node (f k)), V.int IntKind.i64 (SAct.epoch (f k)), V.seg IntKind.u8 (32 : Nat) (SAct.d (f k)), V.seg IntKind.u8 (16 : Nat) (SAct.tag (f k))], false = true → false = true, q (↑m : Int), q (↑k : Int), InR IntKind.i64 ((↑k : Int) + (1 : Int)), q (↑n : Int), q (entsF (0 : Nat) (mkL l2)), q (List.length (mkL l2)), q (↑n : Int), q0, q0, q0, q n, (none : Option Nat) = none ∨ (none : Option Nat) = none, q0, q0, q0, q n, (none : Option Nat) = none ∨ (none : Option Nat) = none, q0, q0, q0, q n, (none : Option Nat) = none ∨ (none : Option Nat) = none, q n, ∀ (k : Nat), k < n → [V.int IntKind.i64 (ofM l2 (↑k : Int)).1] = [V.int IntKind.i64 (ofM l2 (↑k : Int)).1], false = false → false = false, q n, ∀ (k : Nat), k < n → [V.seg IntKind.u8 (32 : Nat) (Prod.snd (ofM l2 (↑k : Int))).1] = [V.seg IntKind.u8 (32 : Nat) (Prod.snd (ofM l2 (↑k : Int))).1], false = false → false = false, q n, ∀ (k : Nat), k < n → [V.seg IntKind.u8 (16 : Nat) (Prod.snd (ofM l2 (↑k : Int))).2] = [V.seg IntKind.u8 (16 : Nat) (Prod.snd (ofM l2 (↑k : Int))).2], false = false → false = false, q (↑n : Int), q need, q0, q0, q0, q0, q0, q0, q m, ∀ (k : Nat), k < m → [V.int IntKind.i64 (SAct.node (f k)), V.int IntKind.i64 (SAct.epoch (f k)), V.seg IntKind.u8 (32 : Nat) (SAct.d (f k)), V.seg IntKind.u8 (16 : Nat) (SAct.tag (f k))] = [V.int IntKind.i64 (SAct.node (f k)), V.int IntKind.i64 (SAct.epoch (f k)), V.seg IntKind.u8 (32 : Nat) (SAct.d (f k)), V.seg IntKind.u8 (16 : Nat) (SAct.tag (f k))], false = true → false = true, q (↑m : Int), (↑k : Int) + (1 : Int) = (↑(k + (1 : Nat)) : Int)]) : Option (Exit × St × List Prop)) := by kernel_rfl

noncomputable def pcPj_c (n : Nat) (m : Nat) (f : Nat → SAct) (need : Int) (l : List (Int × MK)) (k : Nat) (j : Nat) (e : Int) (d : List Int) : Nat → List Prop
 | 0 => [decide ((↑j : Int) - (1 : Int) ≤ (↑n : Int)) = true, T Try.prog 38 [.ptr (.o 0) 0 0 0 0, .int .i64 ((↑j : Int) - (1 : Int))] [(.o 0, .flat [.int .i64 ↑n, .mp (.o 1)]), (.o 1, .map (entsF 0 (mkL l)) (List.length (mkL l)))] (.tup [.int .i64 e, .agg [.seg .u8 32 d]]) [(.o 0, .flat [.int .i64 ↑n, .mp (.o 1)]), (.o 1, .map (entsF 0 (mkL l)) (List.length (mkL l)))]]
 | _ => []
theorem pcPj_p11100 (n : Nat) (m : Nat) (f : Nat → SAct) (need : Int) (l : List (Int × MK)) (k : Nat) (j : Nat) (e : Int) (d : List Int) :
 alongPc Try.prog (pcPj n m f need l k j e d) [true, true, true, false, false] = (some (.normal, St.mk [.int .i64 ↑n, .any, .int .i64 need, .any, .any, .any, .any, .ptr (.o 0) 0 0 0 0, .ptr (.o 2) 0 0 0 0, .any, .any, .int .i64 ((↑(j + 1) : Int) - (1 : Int)), .any, .any, .any, .any, .any, .any, .any, .any, .any, .any, .any, .any, .any, .any, .any, .any, .any, .any, .any, .ros 50 m (fun i => [.int .i64 (SAct.node (f i)), .int .i64 (SAct.epoch (f i)), .seg .u8 32 (SAct.d (f i)), .seg .u8 16 (SAct.tag (f i))]) false, .int .i64 ↑m, .int .i64 ↑k, .any, .any, .any, .any, .any, .any, .any, .any, .any, .any, .any, .any, .any, .any, .any, .any, .any, .any, .any, .any, .any, .any, .any, .any, .any, .any, .any, .any, .any, .any, .any, .any, .any, .any, .any, .any, .any, .any, .any, .any, .any, .any, .any, .any, .any, .any, .any, .any, .any, .any, .any, .any, .any, .any, .any, .any, .any, .any, .any, .any, .any, .any, .any, .any, .any, .any, .any, .any, .any, .any, .any, .any, .any, .any, .any, .any, .any, .any, .any, .any, .any, .any, .any, .any, .any, .any, .any, .any, .any, .any, .any, .any, .any, .any, .any, .any, .any, .any] [(.o 0, .flat [.int .i64 ↑n, .mp (.o 1)]), (.o 1, .map (entsF 0 (mkL l)) (List.length (mkL l))), (.o 2, .flat [.int .i64 ↑n, .sl (.o 3) 1 0 0 0 n none, .sl (.o 4) 32 0 0 0 n none, .sl (.o 5) 16 0 0 0 n none]), (.o 3, .rows 1 n (eR l) false), (.o 4, .rows 32 n (dR l) false), (.o 5, .rows 16 n (tR l) false)] 6 [], pcPj_c n m f need l k j e d 0 ++ [decide ((↑j : Int) - (1 : Int) < (0 : Int)) = true, q2, (!decide (e = (0 : Int))) = false, (!decide (d = z32)) = false, InR IntKind.i64 ((↑j : Int) - (1 : Int) + (1 : Int)), q (↑n : Int), q (entsF (0 : Nat) (mkL l)), q (List.length (mkL l)), q (↑n : Int), q0, q0, q0, q n, (none : Option Nat) = none ∨ (none : Option Nat) = none, q0, q0, q0, q n, (none : Option Nat) = none ∨ (none : Option Nat) = none, q0, q0, q0, q n, (none : Option Nat) = none ∨ (none : Option Nat) = none, q n, ∀ (k : Nat), k < n → [V.int IntKind.i64 (ofM l (↑k : Int)).1] = [V.int IntKind.i64 (ofM l (↑k : Int)).1], false = false → false = false, q n, ∀ (k : Nat), k < n → [V.seg IntKind.u8 (32 : Nat) (Prod.snd (ofM l (↑k : Int))).1] = [V.seg IntKind.u8 (32 : Nat) (Prod.snd (ofM l (↑k : Int))).1], false = false → false = false, q n, ∀ (k : Nat), k < n → [V.seg IntKind.u8 (16 : Nat) (Prod.snd (ofM l (↑k : Int))).2] = [V.seg IntKind.u8 (16 : Nat) (Prod.snd (ofM l (↑k : Int))).2], false = false → false = false, q (↑n : Int), q need, q0, q0, q0, q0, q0, q0, (↑j : Int) - (1 : Int) + (1 : Int) = (↑(j + (1 : Nat)) : Int) - (1 : Int), q m, ∀ (k : Nat), k < m → [V.int IntKind.i64 (SAct.node (f k)), V.int IntKind.i64 (SAct.epoch (f k)), V.seg IntKind.u8 (32 : Nat) (SAct.d (f k)), V.seg IntKind.u8 (16 : Nat) (SAct.tag (f k))] = [V.int IntKind.i64 (SAct.node (f k)), V.int IntKind.i64 (SAct.epoch (f k)), V.seg IntKind.u8 (32 : Nat) (SAct.d (f k)), V.seg IntKind.u8 (16 : Nat) (SAct.tag (f k))], false = true → false = true, q (↑m : Int), q (↑k : Int)]) : Option (Exit × St × List Prop)) := by kernel_rfl

theorem pcPj_p10100 (n : Nat) (m : Nat) (f : Nat → SAct) (need : Int) (l : List (Int × MK)) (k : Nat) (j : Nat) (e : Int) (d : List Int) :
 alongPc Try.prog (pcPj n m f need l k j e d) [true, false, true, false, false] = (some (.normal, St.mk [.int .i64 ↑n, .any, .int .i64 need, .any, .any, .any, .any, .ptr (.o 0) 0 0 0 0, .ptr (.o 2) 0 0 0 0, .any, .any, .int .i64 ((↑(j + 1) : Int) - (1 : Int)), .any, .any, .any, .any, .any, .any, .any, .any, .any, .any, .any, .any, .any, .any, .any, .any, .any, .any, .any, .ros 50 m (fun i => [.int .i64 (SAct.node (f i)), .int .i64 (SAct.epoch (f i)), .seg .u8 32 (SAct.d (f i)), .seg .u8 16 (SAct.tag (f i))]) false, .int .i64 ↑m, .int .i64 ↑k, .any, .any, .any, .any, .any, .any, .any, .any, .any, .any, .any, .any, .any, .any, .any, .any, .any, .any, .any, .any, .any, .any, .any, .any, .any, .any, .any, .any, .any, .any, .any, .any, .any, .any, .any, .any, .any, .any, .any, .any, .any, .any, .any, .any, .any, .any, .any, .any, .any, .any, .any, .any, .any, .any, .any, .any, .any, .any, .any, .any, .any, .any, .any, .any, .any, .any, .any, .any, .any, .any, .any, .any, .any, .any, .any, .any, .any, .any, .any, .any, .any, .any, .any, .any, .any, .any, .any, .any, .any, .any, .any, .any, .any, .any, .any, .any, .any, .any] [(.o 0, .flat [.int .i64 ↑n, .mp (.o 1)]), (.o 1, .map (entsF 0 (mkL l)) (List.length (mkL l))), (.o 2, .flat [.int .i64 ↑n, .sl (.o 3) 1 0 0 0 n none, .sl (.o 4) 32 0 0 0 n none, .sl (.o 5) 16 0 0 0 n none]), (.o 3, .rows 1 n (eR l) false), (.o 4, .rows 32 n (dR l) false), (.o 5, .rows 16 n (tR l) false)] 6 [], pcPj_c n m f need l k j e d 0 ++ [decide ((↑j : Int) - (1 : Int) < (0 : Int)) = false, decide ((↑n : Int) ≤ (↑j : Int) - (1 : Int)) = true, (!decide (e = (0 : Int))) = false, (!decide (d = z32)) = false, InR IntKind.i64 ((↑j : Int) - (1 : Int) + (1 : Int)), q (↑n : Int), q (entsF (0 : Nat) (mkL l)), q (List.length (mkL l)), q (↑n : Int), q0, q0, q0, q n, (none : Option Nat) = none ∨ (none : Option Nat) = none, q0, q0, q0, q n, (none : Option Nat) = none ∨ (none : Option Nat) = none, q0, q0, q0, q n, (none : Option Nat) = none ∨ (none : Option Nat) = none, q n, ∀ (k : Nat), k < n → [V.int IntKind.i64 (ofM l (↑k : Int)).1] = [V.int IntKind.i64 (ofM l (↑k : Int)).1], false = false → false = false, q n, ∀ (k : Nat), k < n → [V.seg IntKind.u8 (32 : Nat) (Prod.snd (ofM l (↑k : Int))).1] = [V.seg IntKind.u8 (32 : Nat) (Prod.snd (ofM l (↑k : Int))).1], false = false → false = false, q n, ∀ (k : Nat), k < n → [V.seg IntKind.u8 (16 : Nat) (Prod.snd (ofM l (↑k : Int))).2] = [V.seg IntKind.u8 (16 : Nat) (Prod.snd (ofM l (↑k : Int))).2], false = false → false = false, q (↑n : Int), q need, q0, q0, q0, q0, q0, q0, (↑j : Int) - (1 : Int) + (1 : Int) = (↑(j + (1 : Nat)) : Int) - (1 : Int), q m, ∀ (k : Nat), k < m → [V.int IntKind.i64 (SAct.node (f k)), V.int IntKind.i64 (SAct.epoch (f k)), V.seg IntKind.u8 (32 : Nat) (SAct.d (f k)), V.seg IntKind.u8 (16 : Nat) (SAct.tag (f k))] = [V.int IntKind.i64 (SAct.node (f k)), V.int IntKind.i64 (SAct.epoch (f k)), V.seg IntKind.u8 (32 : Nat) (SAct.d (f k)), V.seg IntKind.u8 (16 : Nat) (SAct.tag (f k))], false = true → false = true, q (↑m : Int), q (↑k : Int)]) : Option (Exit × St × List Prop)) := by kernel_rfl

theorem pcPj_p10000 (n : Nat) (m : Nat) (f : Nat → SAct) (need : Int) (l : List (Int × MK)) (k : Nat) (j : Nat) (e : Int) (d : List Int) :
 alongPc Try.prog (pcPj n m f need l k j e d) [true, false, false, false, false] = (some (.normal, St.mk [.int .i64 ↑n, .any, .int .i64 need, .any, .any, .any, .any, .ptr (.o 0) 0 0 0 0, .ptr (.o 2) 0 0 0 0, .any, .any, .int .i64 ((↑(j + 1) : Int) - (1 : Int)), .any, .any, .any, .any, .any, .any, .any, .any, .any, .any, .any, .any, .any, .any, .any, .any, .any, .any, .any, .ros 50 m (fun i => [.int .i64 (SAct.node (f i)), .int .i64 (SAct.epoch (f i)), .seg .u8 32 (SAct.d (f i)), .seg .u8 16 (SAct.tag (f i))]) false, .int .i64 ↑m, .int .i64 ↑k, .any, .any, .any, .any, .any, .any, .any, .any, .any, .any, .any, .any, .any, .any, .any, .any, .any, .any, .any, .any, .any, .any, .any, .any, .any, .any, .any, .any, .any, .any, .any, .any, .any, .any, .any, .any, .any, .any, .any, .any, .any, .any, .any, .any, .any, .any, .any, .any, .any, .any, .any, .any, .any, .any, .any, .any, .any, .any, .any, .any, .any, .any, .any, .any, .any, .any, .any, .any, .any, .any, .any, .any, .any, .any, .any, .any, .any, .any, .any, .any, .any, .any, .any, .any, .any, .any, .any, .any, .any, .any, .any, .any, .any, .any, .any, .any, .any, .any] [(.o 0, .flat [.int .i64 ↑n, .mp (.o 1)]), (.o 1, .map (entsF 0 (mkL l)) (List.length (mkL l))), (.o 2, .flat [.int .i64 ↑n, .sl (.o 3) 1 0 0 0 n none, .sl (.o 4) 32 0 0 0 n none, .sl (.o 5) 16 0 0 0 n none]), (.o 3, .rows 1 n (eR l) false), (.o 4, .rows 32 n (dR l) false), (.o 5, .rows 16 n (tR l) false)] 6 [], pcPj_c n m f need l k j e d 0 ++ [decide ((↑j : Int) - (1 : Int) < (0 : Int)) = false, decide ((↑n : Int) ≤ (↑j : Int) - (1 : Int)) = false, (0 : Int) ≤ (↑j : Int) - (1 : Int) ∧ (↑j : Int) - (1 : Int) < (↑n : Int), (0 : Nat) + Int.toNat ((↑j : Int) - (1 : Int)) < n, (!decide (e = (ofM l (↑((0 : Nat) + Int.toNat ((↑j : Int) - (1 : Int))) : Int)).1)) = false, (0 : Int) ≤ (↑j : Int) - (1 : Int) ∧ (↑j : Int) - (1 : Int) < (↑n : Int), (0 : Nat) + Int.toNat ((↑j : Int) - (1 : Int)) < n, (!decide (d = (Prod.snd (ofM l (↑((0 : Nat) + Int.toNat ((↑j : Int) - (1 : Int))) : Int))).1)) = false, InR IntKind.i64 ((↑j : Int) - (1 : Int) + (1 : Int)), q (↑n : Int), q (entsF (0 : Nat) (mkL l)), q (List.length (mkL l)), q (↑n : Int), q0, q0, q0, q n, (none : Option Nat) = none ∨ (none : Option Nat) = none, q0, q0, q0, q n, (none : Option Nat) = none ∨ (none : Option Nat) = none, q0, q0, q0, q n, (none : Option Nat) = none ∨ (none : Option Nat) = none, q n, ∀ (k : Nat), k < n → [V.int IntKind.i64 (ofM l (↑k : Int)).1] = [V.int IntKind.i64 (ofM l (↑k : Int)).1], false = false → false = false, q n, ∀ (k : Nat), k < n → [V.seg IntKind.u8 (32 : Nat) (Prod.snd (ofM l (↑k : Int))).1] = [V.seg IntKind.u8 (32 : Nat) (Prod.snd (ofM l (↑k : Int))).1], false = false → false = false, q n, ∀ (k : Nat), k < n → [V.seg IntKind.u8 (16 : Nat) (Prod.snd (ofM l (↑k : Int))).2] = [V.seg IntKind.u8 (16 : Nat) (Prod.snd (ofM l (↑k : Int))).2], false = false → false = false, q (↑n : Int), q need, q0, q0, q0, q0, q0, q0, (↑j : Int) - (1 : Int) + (1 : Int) = (↑(j + (1 : Nat)) : Int) - (1 : Int), q m, ∀ (k : Nat), k < m → [V.int IntKind.i64 (SAct.node (f k)), V.int IntKind.i64 (SAct.epoch (f k)), V.seg IntKind.u8 (32 : Nat) (SAct.d (f k)), V.seg IntKind.u8 (16 : Nat) (SAct.tag (f k))] = [V.int IntKind.i64 (SAct.node (f k)), V.int IntKind.i64 (SAct.epoch (f k)), V.seg IntKind.u8 (32 : Nat) (SAct.d (f k)), V.seg IntKind.u8 (16 : Nat) (SAct.tag (f k))], false = true → false = true, q (↑m : Int), q (↑k : Int)]) : Option (Exit × St × List Prop)) := by kernel_rfl

theorem pcPj_p0 (n : Nat) (m : Nat) (f : Nat → SAct) (need : Int) (l : List (Int × MK)) (k : Nat) (j : Nat) (e : Int) (d : List Int) :
 alongPc Try.prog (pcPj n m f need l k j e d) [false] = (some (.exit 2, St.mk [.int .i64 ↑n, .any, .int .i64 need, .any, .any, .any, .any, .ptr (.o 0) 0 0 0 0, .ptr (.o 2) 0 0 0 0, .any, .any, .int .i64 ((↑(n + 2) : Int) - (1 : Int)), .any, .any, .any, .any, .any, .any, .any, .any, .any, .any, .any, .any, .any, .any, .any, .any, .any, .any, .any, .ros 50 m (fun i => [.int .i64 (SAct.node (f i)), .int .i64 (SAct.epoch (f i)), .seg .u8 32 (SAct.d (f i)), .seg .u8 16 (SAct.tag (f i))]) false, .int .i64 ↑m, .int .i64 ↑k, .any, .any, .any, .any, .any, .any, .any, .any, .any, .any, .any, .any, .any, .any, .any, .any, .any, .any, .any, .any, .any, .any, .any, .any, .any, .any, .any, .any, .any, .any, .any, .any, .any, .any, .any, .any, .any, .any, .any, .any, .any, .any, .any, .any, .any, .any, .any, .any, .any, .any, .any, .any, .any, .any, .any, .any, .any, .any, .any, .any, .any, .any, .any, .any, .any, .any, .any, .any, .any, .any, .any, .any, .any, .any, .any, .any, .any, .any, .any, .any, .any, .any, .any, .any, .any, .any, .any, .any, .any, .any, .any, .any, .any, .any, .any, .any, .any, .any] [(.o 0, .flat [.int .i64 ↑n, .mp (.o 1)]), (.o 1, .map (entsF 0 (mkL l)) (List.length (mkL l))), (.o 2, .flat [.int .i64 ↑n, .sl (.o 3) 1 0 0 0 n none, .sl (.o 4) 32 0 0 0 n none, .sl (.o 5) 16 0 0 0 n none]), (.o 3, .rows 1 n (eR l) false), (.o 4, .rows 32 n (dR l) false), (.o 5, .rows 16 n (tR l) false)] 6 [], [decide ((↑j : Int) - (1 : Int) ≤ (↑n : Int)) = false, q (↑n : Int), q (entsF (0 : Nat) (mkL l)), q (List.length (mkL l)), q (↑n : Int), q0, q0, q0, q n, (none : Option Nat) = none ∨ (none : Option Nat) = none, q0, q0, q0, q n, (none : Option Nat) = none ∨ (none : Option Nat) = none, q0, q0, q0, q n, (none : Option Nat) = none ∨ (none : Option Nat) = none, q n, ∀ (k : Nat), k < n → [V.int IntKind.i64 (ofM l (↑k : Int)).1] = [V.int IntKind.i64 (ofM l (↑k : Int)).1], false = false → false = false, q n, ∀ (k : Nat), k < n → [V.seg IntKind.u8 (32 : Nat) (Prod.snd (ofM l (↑k : Int))).1] = [V.seg IntKind.u8 (32 : Nat) (Prod.snd (ofM l (↑k : Int))).1], false = false → false = false, q n, ∀ (k : Nat), k < n → [V.seg IntKind.u8 (16 : Nat) (Prod.snd (ofM l (↑k : Int))).2] = [V.seg IntKind.u8 (16 : Nat) (Prod.snd (ofM l (↑k : Int))).2], false = false → false = false, q (↑n : Int), q need, q0, q0, q0, q0, q0, q0, (↑j : Int) - (1 : Int) = (↑(n + (2 : Nat)) : Int) - (1 : Int), q m, ∀ (k : Nat), k < m → [V.int IntKind.i64 (SAct.node (f k)), V.int IntKind.i64 (SAct.epoch (f k)), V.seg IntKind.u8 (32 : Nat) (SAct.d (f k)), V.seg IntKind.u8 (16 : Nat) (SAct.tag (f k))] = [V.int IntKind.i64 (SAct.node (f k)), V.int IntKind.i64 (SAct.epoch (f k)), V.seg IntKind.u8 (32 : Nat) (SAct.d (f k)), V.seg IntKind.u8 (16 : Nat) (SAct.tag (f k))], false = true → false = true, q (↑m : Int), q (↑k : Int)]) : Option (Exit × St × List Prop)) := by kernel_rfl

theorem getM_mem2 {k : Int} : ∀ {l : List (Int × MK)}, (getM k l).isSome = true → ∃ p ∈ l, p.1 = k
 | [], h => by cases h
 | p :: l, h => by
  rw [getM] at h
  by_cases e : k = p.1
  ·exact ⟨p, List.mem_cons_self .., e.symm⟩
  ·rw [if_neg e] at h
   obtain ⟨q, h1, h2⟩ := getM_mem2 h
   exact ⟨q, List.mem_cons_of_mem _ h1, h2⟩
theorem putM_mem {k : Int} {v : MK} {p : Int × MK} : ∀ {l : List (Int × MK)}, p ∈ putM k v l → p = (k, v) ∨ p ∈ l
 | [], h => .inl (by simpa [putM] using h)
 | q :: l, h => by
  rw [putM] at h
  by_cases e : k = q.1
  ·rw [if_pos e] at h
   rcases List.mem_cons.1 h with h | h
   ·exact .inl h
   ·exact .inr (List.mem_cons_of_mem _ h)
  ·rw [if_neg e] at h
   rcases List.mem_cons.1 h with h | h
   ·exact .inr (by rw [h]; exact List.mem_cons_self ..)
   ·rcases putM_mem h with h | h
    ·exact .inl h
    ·exact .inr (List.mem_cons_of_mem _ h)
theorem putM_nd {k : Int} {v : MK} : ∀ {l : List (Int × MK)}, (l.map (·.1)).Nodup → ((putM k v l).map (·.1)).Nodup
 | [], _ => by simp [putM]
 | q :: l, h => by
  rw [List.map_cons, List.nodup_cons] at h
  rw [putM]
  by_cases e : k = q.1
  ·rw [if_pos e, List.map_cons, List.nodup_cons]; exact ⟨by simpa [e] using h.1, h.2⟩
  ·rw [if_neg e, List.map_cons, List.nodup_cons]
   refine ⟨fun hm => ?_, putM_nd h.2⟩
   obtain ⟨p, h1, h2⟩ := List.mem_map.1 hm
   rcases putM_mem h1 with rfl | h1
   ·exact e h2
   ·exact h.1 (List.mem_map.2 ⟨p, h1, h2⟩)
theorem okM_nil (n : Nat) : okM n [] := ⟨List.nodup_nil, fun p h => absurd h List.not_mem_nil⟩
theorem posM_nil : posM [] := fun k => ⟨fun h => (by cases h), fun h => absurd (show (0 : Int) < 0 from h) (by decide)⟩
theorem addM_ok {n : Nat} {l : List (Int × MK)} (ho : okM n l) (hp : posM l) (k e : Int) (d t : List Int) : okM n (addM n l k e d t).2 ∧ posM (addM n l k e d t).2 := by
 rw [addM]
 split
 ·exact ⟨ho, hp⟩
 rename_i h
 split
 ·split <;> exact ⟨ho, hp⟩
 split
 ·exact ⟨ho, hp⟩
 refine ⟨⟨putM_nd ho.1, fun p hm => ?_⟩, fun j => ?_⟩
 ·rcases putM_mem hm with rfl | hm
  ·simp only; omega
  ·exact ho.2 p hm
 ·rw [getM_put, ofM_put]
  by_cases hj : j = k
  ·rw [if_pos hj, if_pos hj]; exact ⟨fun _ => by simp only; omega, fun _ => rfl⟩
  ·rw [if_neg hj, if_neg hj]; exact hp j
theorem acc_ok (n : Nat) (f : Nat → SAct) : ∀ k, okM n (accA n f k) ∧ posM (accA n f k)
 | 0 => ⟨okM_nil n, posM_nil⟩
 | k + 1 => by
  obtain ⟨h1, h2⟩ := acc_ok n f k
  exact addM_ok h1 h2 _ _ _ _
theorem ofM_out {n : Nat} {l : List (Int × MK)} (ho : okM n l) {k : Int} (h : k < 0 ∨ (n : Int) ≤ k) : ofM l k = zM := by
 rw [ofM]
 cases hg : getM k l with
 | none => rfl
 | some v =>
  obtain ⟨p, h1, h2⟩ := getM_mem2 (k := k) (l := l) (by rw [hg]; rfl)
  have := ho.2 p h1
  omega
theorem T_rsYA {n : Nat} (hn : n ≤ 64) {l : List (Int × MK)} (hp : posM l) {e : Int} {d : List Int} {need : Int} (h : sgsM n l e d need = true) {a : Nat} (ha : [Nm.o 2, Nm.o 3, Nm.o 4, Nm.o 5, Nm.o a].Nodup) : T Try.prog 37 [mP 2, .int .i64 e, dgV d, .int .i64 need] (rH n l) (sgL a (selS l e d need n)) (rH n l ++ [(.o a, sbL (selS l e d need n))]) := by
 obtain ⟨σ, hσ, h1⟩ := T.at (T_rsY hn hp h) [.o 2, .o 3, .o 4, .o 5, .o 7] [.o 2, .o 3, .o 4, .o 5, .o a] (by decide) ha rfl
 simp only [List.map_cons, List.map_nil, List.cons.injEq, and_true] at hσ
 simpa [V.rens, V.ren, Heap.ren, B.ren, mP, rH, rfB, dgV, sgL, sgs, sbL, sgB, hσ.1, hσ.2.1, hσ.2.2.1, hσ.2.2.2.1, hσ.2.2.2.2] using h1
theorem T_saL (L : List SSign) (hL : L.length ≤ 1000000) : T Try.prog 26 [sgL 2694 L, sgL 3142 L] [(.o 2694, sbL L), (.o 3142, sbL L)] (.bool true) [(.o 2694, sbL L), (.o 3142, sbL L)] := by
 refine T.lend (T_sa (siF L) hL) rfl ?_
 simp only [All, All_append, pcPj_c]; and_intros
 all_goals first
  | exact True.intro
  | (intro k hk; rw [Nat.zero_add]; rfl)
  | (with_reducible assumption)
  | (rw [decide_eq_true_eq]; omega)
  | (rw [decide_eq_false_iff_not]; omega)
  | with_reducible rfl
  | (intro _ _; exact True.intro)
  | (intro _ _; with_reducible rfl)
  | (intro _ _; rfl)
  | (simp only [IntKind.min, IntKind.max, IntKind.signed, IntKind.bits, if_true]; omega)
  | omega
  | (intro h; exact h)
  | (intro h; cases h; done)
  | exact .inl rfl
  | exact .inl True.intro
  | exact .inr rfl
  | (simp; done)
theorem T_sa0 : T Try.prog 26 [.snil, .snil] [] (.bool true) [] := by
 refine T.lend (T_sa (siF []) (Nat.zero_le _)) rfl ?_
 simp only [All, All_append, pcPj_c]; and_intros
 all_goals first
  | exact True.intro
  | (with_reducible assumption)
  | (rw [decide_eq_true_eq]; omega)
  | (rw [decide_eq_false_iff_not]; omega)
  | with_reducible rfl
  | (intro _ _; exact True.intro)
  | (intro _ _; with_reducible rfl)
  | (intro _ _; rfl)
  | (simp only [IntKind.min, IntKind.max, IntKind.signed, IntKind.bits, if_true]; omega)
  | omega
  | (intro h; exact h)
  | (intro h; cases h; done)
  | exact .inl rfl
  | exact .inl True.intro
  | exact .inr rfl
  | (simp; done)
theorem plJL (n m : Nat) (f : Nat → SAct) (need : Int) (hn : n ≤ 64) {l : List (Int × MK)} (ho : okM n l) (k : Nat) :
  RLoop Try.prog none 0 (cB (cB (cR (cR (cR (cB (cL (cR (cR plC))))))))) (n + 3) (plJ n m f need l k 0) (.exit 2) (plJ n m f need l k (n + 2)) := by
 have hstep : ∀ j, j < n + 2 → R Try.prog none 0 (cB (cB (cR (cR (cR (cB (cL (cR (cR plC))))))))) (plJ n m f need l k j) .normal (plJ n m f need l k (j + 1)) := by
  intro j hj
  have hO := T_ofA n l ((j : Int) - 1) (m := 0) (q := 1) (by decide)
  by_cases c1 : (j : Int) - 1 < 0
  ·rw [ofM_out ho (.inl c1)] at hO
   refine R_alongPc NG MO _ (pcPj_p11100 n m f need l k j 0 (List.replicate 32 0)) ?_ (Nat.zero_le _)
   simp only [All, All_append, pcPj_c]; and_intros
   all_goals first
    | exact True.intro
    | exact hO
    | (unfold z32; rfl)
    | (with_reducible assumption)
    | (rw [decide_eq_true_eq]; omega)
    | (rw [decide_eq_false_iff_not]; omega)
    | with_reducible rfl
    | (intro _ _; exact True.intro)
    | (intro _ _; with_reducible rfl)
    | (intro _ _; rfl)
    | (simp only [IntKind.min, IntKind.max, IntKind.signed, IntKind.bits, if_true]; omega)
    | omega
    | (intro h; exact h)
    | (intro h; cases h; done)
    | exact .inl rfl
    | exact .inl True.intro
    | exact .inr rfl
    | (simp; done)
  ·by_cases c2 : (n : Int) ≤ (j : Int) - 1
   ·rw [ofM_out ho (.inr c2)] at hO
    refine R_alongPc NG MO _ (pcPj_p10100 n m f need l k j 0 (List.replicate 32 0)) ?_ (Nat.zero_le _)
    simp only [All, All_append, pcPj_c]; and_intros
    all_goals first
     | exact True.intro
     | exact hO
     | (unfold z32; rfl)
     | (with_reducible assumption)
     | (rw [decide_eq_true_eq]; omega)
     | (rw [decide_eq_false_iff_not]; omega)
     | with_reducible rfl
     | (intro _ _; exact True.intro)
     | (intro _ _; with_reducible rfl)
     | (intro _ _; rfl)
     | (simp only [IntKind.min, IntKind.max, IntKind.signed, IntKind.bits, if_true]; omega)
     | omega
     | (intro h; exact h)
     | (intro h; cases h; done)
     | exact .inl rfl
     | exact .inl True.intro
     | exact .inr rfl
     | (simp; done)
   ·have e0 : ((0 + Int.toNat ((j : Int) - 1) : Nat) : Int) = (j : Int) - 1 := by omega
    refine R_alongPc NG MO _ (pcPj_p10000 n m f need l k j (ofM l ((j : Int) - 1)).1 (ofM l ((j : Int) - 1)).2.1) ?_ (Nat.zero_le _)
    simp only [All, All_append, pcPj_c, e0]; and_intros
    all_goals first
     | exact True.intro
     | exact hO
     | (with_reducible assumption)
     | (rw [decide_eq_true_eq]; omega)
     | (rw [decide_eq_false_iff_not]; omega)
     | with_reducible rfl
     | (intro _ _; exact True.intro)
     | (intro _ _; with_reducible rfl)
     | (intro _ _; rfl)
     | (simp only [IntKind.min, IntKind.max, IntKind.signed, IntKind.bits, if_true]; omega)
     | omega
     | (intro h; exact h)
     | (intro h; cases h; done)
     | exact .inl rfl
     | exact .inl True.intro
     | exact .inr rfl
     | (simp; done)
 have hend : R Try.prog none 0 (cB (cB (cR (cR (cR (cB (cL (cR (cR plC))))))))) (plJ n m f need l k (n + 2)) (.exit 2) (plJ n m f need l k (n + 2)) := by
  refine R_alongPc NG MO _ (pcPj_p0 n m f need l k (n + 2) 0 []) ?_ (Nat.zero_le _)
  simp only [All, All_append, pcPj_c]; and_intros
  all_goals first
   | exact True.intro
   | (with_reducible assumption)
   | (rw [decide_eq_true_eq]; omega)
   | (rw [decide_eq_false_iff_not]; omega)
   | with_reducible rfl
   | (intro _ _; exact True.intro)
   | (intro _ _; with_reducible rfl)
   | (intro _ _; rfl)
   | (simp only [IntKind.min, IntKind.max, IntKind.signed, IntKind.bits, if_true]; omega)
   | omega
   | (intro h; exact h)
   | (intro h; cases h; done)
   | exact .inl rfl
   | exact .inl True.intro
   | exact .inr rfl
   | (simp; done)
 exact RLoop.inv (fun j => plJ n m f need l k j) (n + 2) hstep hend (by simp)
theorem plL (n m : Nat) (f : Nat → SAct) (need : Int) (hn : n ≤ 64) (hm : m ≤ 200) :
  RLoop Try.prog none 0 plC (m + 1) (plI n m f need [] 0) (.exit 0) (plI n m f need (accA n f m) m) := by
 have hstep : ∀ k, k < m → R Try.prog none 0 plC (plI n m f need (accA n f k) k) .normal (plI n m f need (accA n f (k + 1)) (k + 1)) := by
  intro k hk
  obtain ⟨ho, hp⟩ := acc_ok n f k
  obtain ⟨ho2, hp2⟩ := acc_ok n f (k + 1)
  have h1 := T_amA n (accA n f k) (f k).node (f k).epoch (f k).d (f k).tag (m := 0) (q := 1) (by decide)
  have h2 := T_rk n (accA n f k) (f k).node (f k).epoch (f k).d (f k).tag
  have h3 := T_laA hn ho2 need (m := 0) (q := 1) (by decide)
  have h4 := T_re hn (accA n f (k + 1)) need
  have hJ := plJL n m f need hn ho2 k
  have hlen := selS_len (accA n f (k + 1)) (f k).epoch (f k).d need n
  cases hs : sgsM n (accA n f (k + 1)) (f k).epoch (f k).d need with
  | true =>
   have h5 := T_sgYA hn hs (m := 0) (q := 1) (a := 2694) (by decide)
   have h6 := T_rsYA hn hp2 hs (a := 3142) (by decide)
   have h7 := T_saL (selS (accA n f (k + 1)) (f k).epoch (f k).d need n) (by omega)
   refine R_alongPc NG MO _ (pcPy_p1000 n m f need (accA n f k) (accA n f (k + 1)) k (addM n (accA n f k) (f k).node (f k).epoch (f k).d (f k).tag).1 (nthV (epM n (accA n f (k + 1))) need) (selS (accA n f (k + 1)) (f k).epoch (f k).d need n)) ?_ (Nat.zero_le _)
   simp only [All, All_append, pcPj_c, Int.toNat_natCast]; and_intros
   all_goals first
    | exact True.intro
    | exact h1
    | exact h2
    | exact h3
    | exact h4
    | exact h5
    | exact h6
    | exact h7
    | exact hJ
    | (with_reducible assumption)
    | (rw [decide_eq_true_eq]; omega)
    | (rw [decide_eq_false_iff_not]; omega)
    | with_reducible rfl
    | (intro _ _; exact True.intro)
    | (intro _ _; with_reducible rfl)
    | (intro _ _; rfl)
    | (simp only [IntKind.min, IntKind.max, IntKind.signed, IntKind.bits, if_true]; omega)
    | omega
    | (intro h; exact h)
    | (intro h; cases h; done)
    | exact .inl rfl
    | exact .inl True.intro
    | exact .inr rfl
    | (simp; done)
  | false =>
   have h5 := T_sgNA hn hs (m := 0) (q := 1) (by decide)
   have h6 := T_rsN hn hp2 hs
   have h7 := T_sa0
   refine R_alongPc NG MO _ (pcPn_p1000 n m f need (accA n f k) (accA n f (k + 1)) k (addM n (accA n f k) (f k).node (f k).epoch (f k).d (f k).tag).1 (nthV (epM n (accA n f (k + 1))) need)) ?_ (Nat.zero_le _)
   simp only [All, All_append, pcPj_c, Int.toNat_natCast]; and_intros
   all_goals first
    | exact True.intro
    | exact h1
    | exact h2
    | exact h3
    | exact h4
    | exact h5
    | exact h6
    | exact h7
    | exact hJ
    | (with_reducible assumption)
    | (rw [decide_eq_true_eq]; omega)
    | (rw [decide_eq_false_iff_not]; omega)
    | with_reducible rfl
    | (intro _ _; exact True.intro)
    | (intro _ _; with_reducible rfl)
    | (intro _ _; rfl)
    | (simp only [IntKind.min, IntKind.max, IntKind.signed, IntKind.bits, if_true]; omega)
    | omega
    | (intro h; exact h)
    | (intro h; cases h; done)
    | exact .inl rfl
    | exact .inl True.intro
    | exact .inr rfl
    | (simp; done)
 have hend : R Try.prog none 0 plC (plI n m f need (accA n f m) m) (.exit 0) (plI n m f need (accA n f m) m) := by
  refine R_alongPc NG MO _ (pcPy_p0 n m f need (accA n f m) [] m 0 0 []) ?_ (Nat.zero_le _)
  simp only [All, All_append, pcPj_c]; and_intros
  all_goals first
   | exact True.intro
   | (with_reducible assumption)
   | (rw [decide_eq_true_eq]; omega)
   | (rw [decide_eq_false_iff_not]; omega)
   | with_reducible rfl
   | (intro _ _; exact True.intro)
   | (intro _ _; with_reducible rfl)
   | (intro _ _; rfl)
   | (simp only [IntKind.min, IntKind.max, IntKind.signed, IntKind.bits, if_true]; omega)
   | omega
   | (intro h; exact h)
   | (intro h; cases h; done)
   | exact .inl rfl
   | exact .inl True.intro
   | exact .inr rfl
   | (simp; done)
 exact RLoop.inv (fun k => plI n m f need (accA n f k) k) m hstep hend (by simp)
theorem T_nwB {n : Int} (h : goodN n = true) : T Try.prog 29 [.int .i64 n] [] (mP 128) (mH 128 129 n []) := T_nwA h (by decide)
theorem T_rwB {n : Nat} (h : goodN (n : Nat) = true) : T Try.prog 33 [.int .i64 (n : Nat)] [] (.ptr (.o 256) 0 0 0 0) [(.o 256, .flat [.int .i64 (n : Nat), .sl (.o 257) 1 0 0 0 n (some n), .sl (.o 258) 32 0 0 0 n (some n), .sl (.o 259) 16 0 0 0 n (some n)]), (.o 257, .rows 1 n (eR []) false), (.o 258, .rows 32 n (dR []) false), (.o 259, .rows 16 n (tR []) false)] := by
 obtain ⟨σ, hσ, h1⟩ := T.at (T_rw h) [.o 768, .o 384, .o 512, .o 640] [.o 256, .o 257, .o 258, .o 259] (by decide) (by decide) rfl
 simp only [List.map_cons, List.map_nil, List.cons.injEq, and_true] at hσ
 simpa [V.rens, V.ren, Heap.ren, B.ren, hσ.1, hσ.2.1, hσ.2.2.1, hσ.2.2.2] using h1
theorem T_pl (n : Int) (m : Nat) (f : Nat → SAct) (need : Int) : T Try.prog 8 [.int .i64 n, ac m f, .int .i64 need] [] (.bool true) [] := by
 have h9 := T_lv3
 cases hg : goodN n with
 | false =>
  have h1 := T_nwN hg
  have h2 := T_rwN hg
  refine T_al (bdP0_p011 n m f need) Try.func8 ?_
  simp only [All, All_append, pcPj_c]; and_intros
  all_goals first
   | exact True.intro
   | exact h1
   | exact h2
   | exact h9
   | (with_reducible assumption)
   | (rw [decide_eq_true_eq]; omega)
   | (rw [decide_eq_false_iff_not]; omega)
   | with_reducible rfl
   | (intro _ _; exact True.intro)
   | (intro _ _; with_reducible rfl)
   | (intro _ _; rfl)
   | (simp only [IntKind.min, IntKind.max, IntKind.signed, IntKind.bits, if_true]; omega)
   | omega
   | (intro h; exact h)
   | (intro h; cases h; done)
   | exact .inl rfl
   | exact .inl True.intro
   | exact .inr rfl
   | (simp; done)
 | true =>
  have hn : 4 ≤ n ∧ n ≤ 64 := by
   rw [goodN, Bool.and_eq_true, Bool.and_eq_true, decide_eq_true_eq, decide_eq_true_eq] at hg
   exact ⟨hg.1, hg.2.1⟩
  obtain ⟨N, rfl⟩ : ∃ N : Nat, n = N := ⟨n.toNat, by omega⟩
  have h1 := T_nwB hg
  have h2 := T_rwB hg
  by_cases hm : 200 < m
  ·refine T_al (bdPl_p001 N m f need [] []) Try.func8 ?_
   simp only [All, All_append, pcPj_c]; and_intros
   all_goals first
    | exact True.intro
    | exact h1
    | exact h2
    | exact h9
    | (with_reducible assumption)
    | (rw [decide_eq_true_eq]; omega)
    | (rw [decide_eq_false_iff_not]; omega)
    | with_reducible rfl
    | (intro _ _; exact True.intro)
    | (intro _ _; with_reducible rfl)
    | (intro _ _; rfl)
    | (simp only [IntKind.min, IntKind.max, IntKind.signed, IntKind.bits, if_true]; omega)
    | omega
    | (intro h; exact h)
    | (intro h; cases h; done)
    | exact .inl rfl
    | exact .inl True.intro
    | exact .inr rfl
    | (simp; done)
  ·have hL := plL N m f need (by omega) (by omega)
   refine T_al (bdPl_p000 N m f need [] (accA N f m)) Try.func8 ?_
   simp only [All, All_append, pcPj_c]; and_intros
   all_goals first
    | exact True.intro
    | exact h1
    | exact h2
    | exact h9
    | exact hL
    | (with_reducible assumption)
    | (rw [decide_eq_true_eq]; omega)
    | (rw [decide_eq_false_iff_not]; omega)
    | with_reducible rfl
    | (intro _ _; exact True.intro)
    | (intro _ _; with_reducible rfl)
    | (intro _ _; rfl)
    | (simp only [IntKind.min, IntKind.max, IntKind.signed, IntKind.bits, if_true]; omega)
    | omega
    | (intro h; exact h)
    | (intro h; cases h; done)
    | exact .inl rfl
    | exact .inl True.intro
    | exact .inr rfl
    | (simp; done)
end Go.Proofs.Ytpallipnhmoipaa
namespace Go.Proofs.Ytpallipnhmoipaa
open Go Sy Go.Proofs
theorem cellsAct : Try.prog.cellsOf 48 = 50 := by kernel_rfl
theorem sg_act {d : Nat} {cs : List V} (h : ShC Try.prog d 48 cs) : ∃ s : SAct, cs = s.c ∧ (s.d.length = 32 ∧ s.tag.length = 16) := by
 obtain ⟨d, a, _, rfl, ha, b, _, rfl, hb, x, _, rfl, hx, y, _, rfl, hy, rfl⟩ := sh_struct h Try.underlying48
 obtain ⟨n, rfl, _⟩ := sh_int ha Try.underlying3
 obtain ⟨e, rfl, _⟩ := sh_int hb Try.underlying3
 obtain ⟨xs, rfl, h1, h2⟩ := sh_arr hx Try.underlying46 Try.underlying5
 obtain ⟨ys, rfl, h3, h4⟩ := sh_arr hy Try.underlying35 Try.underlying5
 exact ⟨⟨n, e, xs, ys⟩, rfl, h1, h3⟩
end Go.Proofs.Ytpallipnhmoipaa
namespace Go.Proofs.Ytpallipnhmoipaa
open Go Sy Go.Proofs
instance : Inhabited SAct := ⟨{}⟩
theorem sg_acts (U : Imm) {d : Nat} {cs : List V} (h : ShC Try.prog d 42 cs) : ∃ n f, CsLe U cs [ac n f] ∧ (n ≤ 9223372036854775807 ∧ ∀ i, i < n → (f i).d.length = 32 ∧ (f i).tag.length = 16) := by
 obtain ⟨d, len, g, rfl, hl, hf⟩ := sh_slice h Try.underlying42
 obtain ⟨s, hs⟩ := choose_fn fun i hi => sg_act (hf i hi)
 refine ⟨len, s, ?_, hl, fun i hi => (hs i hi).2⟩
 rw [cellsAct]
 exact CsLe.ros fun i hi => by rw [(hs i hi).1]; exact CsLe.refl _ _
end Go.Proofs.Ytpallipnhmoipaa
