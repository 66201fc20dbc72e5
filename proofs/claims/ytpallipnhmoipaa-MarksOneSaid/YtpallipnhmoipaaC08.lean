/-
  Contracts and laws that the claim's theorem leans on, joined out of the texts Nb2 Nb3D Nb3 Ng0 Ng1 (own work of this seat): Contract: whatever marks come, what is kept, told and refused is as the document says; Contract: more than half of the nodes mark one digest of an epoch at most; Contract: more than half of the nodes mark one digest of an epoch at most; The shapes of acts on marks that are handed in; The shapes of lists of acts on marks that are handed in.
-/
import Derived.Test.YtpallipnhmoipaaC04
import Derived.Test.YtpallipnhmoipaaC07
set_option linter.unusedVariables false
set_option linter.unusedSimpArgs false
set_option maxHeartbeats 1000000
namespace Go.Proofs.Ytpallipnhmoipaa
open Go Sy Go.Proofs
theorem bdP0_p011 (n : Int) (m : Nat) (f : Nat → SAct) (need : Int) :
  along Try.prog (bdP0 n m f need) [false, true, true] = (some (.bool true, [], [T Try.prog 29 [.int .i64 n] [] .pnil [], T Try.prog 33 [.int .i64 n] [] .pnil [], q false, q2, q2, T Try.prog 30 [] [] (.bool true) []]) : Option (V × Heap × List Prop)) := by kernel_rfl

theorem bdPl_p001 (n : Nat) (m : Nat) (f : Nat → SAct) (need : Int) (l0 : List (Int × MK)) (l : List (Int × MK)) :
  along Try.prog (bdPl n m f need l0 l) [false, false, true] = (some (.bool true, [], [T Try.prog 29 [.int .i64 ↑n] [] (.ptr (.o 128) 0 0 0 0) [(.o 128, .flat [.int .i64 ↑n, .mp (.o 129)]), (.o 129, .map (entsF 0 (mkL l0)) (List.length (mkL l0)))], T Try.prog 33 [.int .i64 ↑n] [] (.ptr (.o 256) 0 0 0 0) [(.o 256, .flat [.int .i64 ↑n, .sl (.o 257) 1 0 0 0 n (some n), .sl (.o 258) 32 0 0 0 n (some n), .sl (.o 259) 16 0 0 0 n (some n)]), (.o 257, .rows 1 n (eR l0) false), (.o 258, .rows 32 n (dR l0) false), (.o 259, .rows 16 n (tR l0) false)], q false, q false, decide ((200 : Int) < (↑m : Int)) = true, T Try.prog 30 [] [] (.bool true) []]) : Option (V × Heap × List Prop)) := by kernel_rfl
theorem bdPl_p000 (n : Nat) (m : Nat) (f : Nat → SAct) (need : Int) (l0 : List (Int × MK)) (l : List (Int × MK)) :
  along Try.prog (bdPl n m f need l0 l) [false, false, false] = (some (.bool true, [], [T Try.prog 29 [.int .i64 ↑n] [] (.ptr (.o 128) 0 0 0 0) [(.o 128, .flat [.int .i64 ↑n, .mp (.o 129)]), (.o 129, .map (entsF 0 (mkL l0)) (List.length (mkL l0)))], T Try.prog 33 [.int .i64 ↑n] [] (.ptr (.o 256) 0 0 0 0) [(.o 256, .flat [.int .i64 ↑n, .sl (.o 257) 1 0 0 0 n (some n), .sl (.o 258) 32 0 0 0 n (some n), .sl (.o 259) 16 0 0 0 n (some n)]), (.o 257, .rows 1 n (eR l0) false), (.o 258, .rows 32 n (dR l0) false), (.o 259, .rows 16 n (tR l0) false)], q false, q false, decide ((200 : Int) < (↑m : Int)) = false, RLoop Try.prog none 0 (cB (cB (cR (cL (cR (cR (cR (cR (bodyOf (Bd.f (bdPl n m f need l0 l))))))))))) (m + 1) (St.mk [.int .i64 ↑n, .any, .int .i64 need, .any, .any, .any, .any, .ptr (.o 0) 0 0 0 0, .ptr (.o 2) 0 0 0 0, .any, .any, .any, .any, .any, .any, .any, .any, .any, .any, .any, .any, .any, .any, .any, .any, .any, .any, .any, .any, .any, .any, .ros 50 m (fun i => [.int .i64 (SAct.node (f i)), .int .i64 (SAct.epoch (f i)), .seg .u8 32 (SAct.d (f i)), .seg .u8 16 (SAct.tag (f i))]) false, .int .i64 ↑m, .int .i64 0, .any, .any, .any, .any, .any, .any, .any, .any, .any, .any, .any, .any, .any, .any, .any, .any, .any, .any, .any, .any, .any, .any, .any, .any, .any, .any, .any, .any, .any, .any, .any, .any, .any, .any, .any, .any, .any, .any, .any, .any, .any, .any, .any, .any, .any, .any, .any, .any, .any, .any, .any, .any, .any, .any, .any, .any, .any, .any, .any, .any, .any, .any, .any, .any, .any, .any, .any, .any, .any, .any, .any, .any, .any, .any, .any, .any, .any, .any, .any, .any, .any, .any, .any, .any, .any, .any, .any, .any, .any, .any, .any, .any, .any, .any, .any, .any, .any, .any] [(.o 0, .flat [.int .i64 ↑n, .mp (.o 1)]), (.o 1, .map (entsF 0 (mkL l0)) (List.length (mkL l0))), (.o 2, .flat [.int .i64 ↑n, .sl (.o 3) 1 0 0 0 n none, .sl (.o 4) 32 0 0 0 n none, .sl (.o 5) 16 0 0 0 n none]), (.o 3, .rows 1 n (eR l0) false), (.o 4, .rows 32 n (dR l0) false), (.o 5, .rows 16 n (tR l0) false)] 6 []) (.exit 0) (St.mk [.int .i64 ↑n, .any, .int .i64 need, .any, .any, .any, .any, .ptr (.o 0) 0 0 0 0, .ptr (.o 2) 0 0 0 0, .any, .any, .any, .any, .any, .any, .any, .any, .any, .any, .any, .any, .any, .any, .any, .any, .any, .any, .any, .any, .any, .any, .ros 50 m (fun i => [.int .i64 (SAct.node (f i)), .int .i64 (SAct.epoch (f i)), .seg .u8 32 (SAct.d (f i)), .seg .u8 16 (SAct.tag (f i))]) false, .int .i64 ↑m, .int .i64 ↑m, .any, .any, .any, .any, .any, .any, .any, .any, .any, .any, .any, .any, .any, .any, .any, .any, .any, .any, .any, .any, .any, .any, .any, .any, .any, .any, .any, .any, .any, .any, .any, .any, .any, .any, .any, .any, .any, .any, .any, .any, .any, .any, .any, .any, .any, .any, .any, .any, .any, .any, .any, .any, .any, .any, .any, .any, .any, .any, .any, .any, .any, .any, .any, .any, .any, .any, .any, .any, .any, .any, .any, .any, .any, .any, .any, .any, .any, .any, .any, .any, .any, .any, .any, .any, .any, .any, .any, .any, .any, .any, .any, .any, .any, .any, .any, .any, .any, .any] [(.o 0, .flat [.int .i64 ↑n, .mp (.o 1)]), (.o 1, .map (entsF 0 (mkL l)) (List.length (mkL l))), (.o 2, .flat [.int .i64 ↑n, .sl (.o 3) 1 0 0 0 n none, .sl (.o 4) 32 0 0 0 n none, .sl (.o 5) 16 0 0 0 n none]), (.o 3, .rows 1 n (eR l) false), (.o 4, .rows 32 n (dR l) false), (.o 5, .rows 16 n (tR l) false)] 6 []), q (↑n : Int), q (entsF (0 : Nat) (mkL l0)), q (List.length (mkL l0)), q (↑n : Int), q0, q0, q0, q n, (none : Option Nat) = none ∨ none = some n, q0, q0, q0, q n, (none : Option Nat) = none ∨ none = some n, q0, q0, q0, q n, (none : Option Nat) = none ∨ none = some n, q n, ∀ (k : Nat), k < n → [V.int IntKind.i64 (ofM l0 (↑k : Int)).1] = [V.int IntKind.i64 (ofM l0 (↑k : Int)).1], false = false → false = false, q n, ∀ (k : Nat), k < n → [V.seg IntKind.u8 (32 : Nat) (Prod.snd (ofM l0 (↑k : Int))).1] = [V.seg IntKind.u8 (32 : Nat) (Prod.snd (ofM l0 (↑k : Int))).1], false = false → false = false, q n, ∀ (k : Nat), k < n → [V.seg IntKind.u8 (16 : Nat) (Prod.snd (ofM l0 (↑k : Int))).2] = [V.seg IntKind.u8 (16 : Nat) (Prod.snd (ofM l0 (↑k : Int))).2], false = false → false = false, q (↑n : Int), q need, q0, q0, q0, q0, q0, q0, q m, ∀ (k : Nat), k < m → [V.int IntKind.i64 (SAct.node (f k)), V.int IntKind.i64 (SAct.epoch (f k)), V.seg IntKind.u8 (32 : Nat) (SAct.d (f k)), V.seg IntKind.u8 (16 : Nat) (SAct.tag (f k))] = [V.int IntKind.i64 (SAct.node (f k)), V.int IntKind.i64 (SAct.epoch (f k)), V.seg IntKind.u8 (32 : Nat) (SAct.d (f k)), V.seg IntKind.u8 (16 : Nat) (SAct.tag (f k))], false = true → false = true, q (↑m : Int), q1, T Try.prog 30 [] [] (.bool true) []]) : Option (V × Heap × List Prop)) := by kernel_rfl

theorem pcPy_p1000 (n : Nat) (m : Nat) (f : Nat → SAct) (need : Int) (l : List (Int × MK)) (l2 : List (Int × MK)) (k : Nat) (r : Int) (v : Int) (L : List SSign) :
  alongPc Try.prog (pcPy n m f need l l2 k r v L) [true, false, false, false] = (some (.normal, St.mk [.int .i64 ↑n, .any, .int .i64 need, .any, .any, .any, .any, .ptr (.o 0) 0 0 0 0, .ptr (.o 2) 0 0 0 0, .any, .any, .any, .any, .any, .any, .any, .any, .any, .any, .any, .any, .any, .any, .any, .any, .any, .any, .any, .any, .any, .any, .ros 50 m (fun i => [.int .i64 (SAct.node (f i)), .int .i64 (SAct.epoch (f i)), .seg .u8 32 (SAct.d (f i)), .seg .u8 16 (SAct.tag (f i))]) false, .int .i64 ↑m, .int .i64 (↑(k + 1) : Int), .any, .any, .any, .any, .any, .any, .any, .any, .any, .any, .any, .any, .any, .any, .any, .any, .any, .any, .any, .any, .any, .any, .any, .any, .any, .any, .any, .any, .any, .any, .any, .any, .any, .any, .any, .any, .any, .any, .any, .any, .any, .any, .any, .any, .any, .any, .any, .any, .any, .any, .any, .any, .any, .any, .any, .any, .any, .any, .any, .any, .any, .any, .any, .any, .any, .any, .any, .any, .any, .any, .any, .any, .any, .any, .any, .any, .any, .any, .any, .any, .any, .any, .any, .any, .any, .any, .any, .any, .any, .any, .any, .any, .any, .any, .any, .any, .any, .any] [(.o 0, .flat [.int .i64 ↑n, .mp (.o 1)]), (.o 1, .map (entsF 0 (mkL l2)) (List.length (mkL l2))), (.o 2, .flat [.int .i64 ↑n, .sl (.o 3) 1 0 0 0 n none, .sl (.o 4) 32 0 0 0 n none, .sl (.o 5) 16 0 0 0 n none]), (.o 3, .rows 1 n (eR l2) false), (.o 4, .rows 32 n (dR l2) false), (.o 5, .rows 16 n (tR l2) false)] 6 [], [decide ((↑k : Int) < (↑m : Int)) = true, (0 : Int) ≤ (↑k : Int) ∧ (↑k : Int) < (↑m : Int), T Try.prog 31 [.ptr (.o 0) 0 0 0 0, .int .i64 (SAct.node (f (Int.toNat (↑k : Int)))), .int .i64 (SAct.epoch (f (Int.toNat (↑k : Int)))), .agg [.seg .u8 32 (SAct.d (f (Int.toNat (↑k : Int))))], .agg [.seg .u8 16 (SAct.tag (f (Int.toNat (↑k : Int))))]] [(.o 0, .flat [.int .i64 ↑n, .mp (.o 1)]), (.o 1, .map (entsF 0 (mkL l)) (List.length (mkL l)))] (.int .i64 r) [(.o 0, .flat [.int .i64 ↑n, .mp (.o 1)]), (.o 1, .map (entsF 0 (mkL l2)) (List.length (mkL l2)))], T Try.prog 34 [.ptr (.o 2) 0 0 0 0, .int .i64 (SAct.node (f (Int.toNat (↑k : Int)))), .int .i64 (SAct.epoch (f (Int.toNat (↑k : Int)))), .agg [.seg .u8 32 (SAct.d (f (Int.toNat (↑k : Int))))], .agg [.seg .u8 16 (SAct.tag (f (Int.toNat (↑k : Int))))]] [(.o 2, .flat [.int .i64 ↑n, .sl (.o 3) 1 0 0 0 n none, .sl (.o 4) 32 0 0 0 n none, .sl (.o 5) 16 0 0 0 n none]), (.o 3, .rows 1 n (eR l) false), (.o 4, .rows 32 n (dR l) false), (.o 5, .rows 16 n (tR l) false)] (.int .i64 r) [(.o 2, .flat [.int .i64 ↑n, .sl (.o 3) 1 0 0 0 n none, .sl (.o 4) 32 0 0 0 n none, .sl (.o 5) 16 0 0 0 n none]), (.o 3, .rows 1 n (eR l2) false), (.o 4, .rows 32 n (dR l2) false), (.o 5, .rows 16 n (tR l2) false)], (!decide (r = r)) = false, T Try.prog 35 [.ptr (.o 0) 0 0 0 0, .int .i64 need] [(.o 0, .flat [.int .i64 ↑n, .mp (.o 1)]), (.o 1, .map (entsF 0 (mkL l2)) (List.length (mkL l2)))] (.int .i64 v) [(.o 0, .flat [.int .i64 ↑n, .mp (.o 1)]), (.o 1, .map (entsF 0 (mkL l2)) (List.length (mkL l2)))], T Try.prog 36 [.ptr (.o 2) 0 0 0 0, .int .i64 need] [(.o 2, .flat [.int .i64 ↑n, .sl (.o 3) 1 0 0 0 n none, .sl (.o 4) 32 0 0 0 n none, .sl (.o 5) 16 0 0 0 n none]), (.o 3, .rows 1 n (eR l2) false), (.o 4, .rows 32 n (dR l2) false), (.o 5, .rows 16 n (tR l2) false)] (.int .i64 v) [(.o 2, .flat [.int .i64 ↑n, .sl (.o 3) 1 0 0 0 n none, .sl (.o 4) 32 0 0 0 n none, .sl (.o 5) 16 0 0 0 n none]), (.o 3, .rows 1 n (eR l2) false), (.o 4, .rows 32 n (dR l2) false), (.o 5, .rows 16 n (tR l2) false)], (!decide (v = v)) = false, T Try.prog 32 [.ptr (.o 0) 0 0 0 0, .int .i64 (SAct.epoch (f (Int.toNat (↑k : Int)))), .agg [.seg .u8 32 (SAct.d (f (Int.toNat (↑k : Int))))], .int .i64 need] [(.o 0, .flat [.int .i64 ↑n, .mp (.o 1)]), (.o 1, .map (entsF 0 (mkL l2)) (List.length (mkL l2)))] (.sl (.o 2694) 17 0 0 0 (List.length L) none) [(.o 0, .flat [.int .i64 ↑n, .mp (.o 1)]), (.o 1, .map (entsF 0 (mkL l2)) (List.length (mkL l2))), (.o 2694, .rows 17 (List.length L) (gn (siF L)) true)], T Try.prog 37 [.ptr (.o 2) 0 0 0 0, .int .i64 (SAct.epoch (f (Int.toNat (↑k : Int)))), .agg [.seg .u8 32 (SAct.d (f (Int.toNat (↑k : Int))))], .int .i64 need] [(.o 2, .flat [.int .i64 ↑n, .sl (.o 3) 1 0 0 0 n none, .sl (.o 4) 32 0 0 0 n none, .sl (.o 5) 16 0 0 0 n none]), (.o 3, .rows 1 n (eR l2) false), (.o 4, .rows 32 n (dR l2) false), (.o 5, .rows 16 n (tR l2) false)] (.sl (.o 3142) 17 0 0 0 (List.length L) none) [(.o 2, .flat [.int .i64 ↑n, .sl (.o 3) 1 0 0 0 n none, .sl (.o 4) 32 0 0 0 n none, .sl (.o 5) 16 0 0 0 n none]), (.o 3, .rows 1 n (eR l2) false), (.o 4, .rows 32 n (dR l2) false), (.o 5, .rows 16 n (tR l2) false), (.o 3142, .rows 17 (List.length L) (gn (siF L)) true)], T Try.prog 26 [.sl (.o 2694) 17 0 0 0 (List.length L) none, .sl (.o 3142) 17 0 0 0 (List.length L) none] [(.o 2694, .rows 17 (List.length L) (gn (siF L)) true), (.o 3142, .rows 17 (List.length L) (gn (siF L)) true)] (.bool true) [(.o 2694, .rows 17 (List.length L) (gn (siF L)) true), (.o 3142, .rows 17 (List.length L) (gn (siF L)) true)], q false, RLoop Try.prog none 0 (cB (cB (cR (cR (cR (cB (cL (cR (cR (Pc.c (pcPy n m f need l l2 k r v L))))))))))) (n + 3) (St.mk [.int .i64 ↑n, .any, .int .i64 need, .any, .any, .any, .any, .ptr (.o 0) 0 0 0 0, .ptr (.o 2) 0 0 0 0, .any, .any, .int .i64 ((0 : Int) - (1 : Int)), .any, .any, .any, .any, .any, .any, .any, .any, .any, .any, .any, .any, .any, .any, .any, .any, .any, .any, .any, .ros 50 m (fun i => [.int .i64 (SAct.node (f i)), .int .i64 (SAct.epoch (f i)), .seg .u8 32 (SAct.d (f i)), .seg .u8 16 (SAct.tag (f i))]) false, .int .i64 ↑m, .int .i64 ↑k, .any, .any, .any, .any, .any, .any, .any, .any, .any, .any, .any, .any, .any, .any, .any, .any, .any, .any, .any, .any, .any, .any, .any, .any, .any, .any, .any, .any, .any, .any, .any, .any, .any, .any, .any, .any, .any, .any, .any, .any, .any, .any, .any, .any, .any, .any, .any, .any, .any, .any, .any, .any, .any, .any, .any, .any, .any, .any, .any, .any, .any, .any, .any, .any, .any, .any, .any, .any, .any, .any, .any, .any, .any, .any, .any, .any, .any, .any, .any, .any, .any, .any, .any, .any, .any, .any, .any, .any, .any, .any, .any, .any, .any, .any, .any, .any, .any, .any] [(.o 0, .flat [.int .i64 ↑n, .mp (.o 1)]), (.o 1, .map (entsF 0 (mkL l2)) (List.length (mkL l2))), (.o 2, .flat [.int .i64 ↑n, .sl (.o 3) 1 0 0 0 n none, .sl (.o 4) 32 0 0 0 n none, .sl (.o 5) 16 0 0 0 n none]), (.o 3, .rows 1 n (eR l2) false), (.o 4, .rows 32 n (dR l2) false), (.o 5, .rows 16 n (tR l2) false)] 6 []) (.exit 2) (St.mk [.int .i64 ↑n, .any, .int .i64 need, .any, .any, .any, .any, .ptr (.o 0) 0 0 0 0, .ptr (.o 2) 0 0 0 0, .any, .any, .int .i64 ((↑(n + 2) : Int) - (1 : Int)), .any, .any, .any, .any, .any, .any, .any, .any, .any, .any, .any, .any, .any, .any, .any, .any, .any, .any, .any, .ros 50 m (fun i => [.int .i64 (SAct.node (f i)), .int .i64 (SAct.epoch (f i)), .seg .u8 32 (SAct.d (f i)), .seg .u8 16 (SAct.tag (f i))]) false, .int .i64 ↑m, .int .i64 ↑k, .any, .any, .any, .any, .any, .any, .any, .any, .any, .any, .any, .any, .any, .any, .any, .any, .any, .any, .any, .any, .any, .any, .any, .any, .any, .any, .any, .any, .any, .any, .any, .any, .any, .any, .any, .any, .any, .any, .any, .any, .any, .any, .any, .any, .any, .any, .any, .any, .any, .any, .any, .any, .any, .any, .any, .any, .any, .any, .any, .any, .any, .any, .any, .any, .any, .any, .any, .any, .any, .any, .any, .any, .any, .any, .any, .any, .any, .any, .any, .any, .any, .any, .any, .any, .any, .any, .any, .any, .any, .any, .any, .any, .any, .any, .any, .any, .any, .any] [(.o 0, .flat [.int .i64 ↑n, .mp (.o 1)]), (.o 1, .map (entsF 0 (mkL l2)) (List.length (mkL l2))), (.o 2, .flat [.int .i64 ↑n, .sl (.o 3) 1 0 0 0 n none, .sl (.o 4) 32 0 0 0 n none, .sl (.o 5) 16 0 0 0 n none]), (.o 3, .rows 1 n (eR l2) false), (.o 4, .rows 32 n (dR l2) false), (.o 5, .rows 16 n (tR l2) false)] 6 []), q (↑n : Int), q (entsF (0 : Nat) (mkL l2)), q (List.length (mkL l2)), q (↑n : Int), q0, q0, q0, q n, (none : Option Nat) = none ∨ (none : Option Nat) = none, q0, q0, q0, q n, (none : Option Nat) = none ∨ (none : Option Nat) = none, q0, q0, q0, q n, (none : Option Nat) = none ∨ (none : Option Nat) = none, q n, ∀ (k : Nat), k < n → [V.int IntKind.i64 (ofM l2 (↑k : Int)).1] = [V.int IntKind.i64 (ofM l2 (↑k : Int)).1], false = false → false = false, q n, ∀ (k : Nat), k < n → [V.seg IntKind.u8 (32 : Nat) (Prod.snd (ofM l2 (↑k : Int))).1] = [V.seg IntKind.u8 (32 : Nat) (Prod.snd (ofM l2 (↑k : Int))).1], false = false → false = false, q n, ∀ (k : Nat), k < n → [V.seg IntKind.u8 (16 : Nat) (Prod.snd (ofM l2 (↑k : Int))).2] = [V.seg IntKind.u8 (16 : Nat) (Prod.snd (ofM l2 (↑k : Int))).2], false = false → false = false, q (↑n : Int), q need, q0, q0, q0, q0, q0, q0, (-1 : Int) = (0 : Int) - (1 : Int), q m, ∀ (k : Nat), k < m → [V.int IntKind.i64 (SAct.node (f k)), V.int IntKind.i64 (SAct.epoch (f k)), V.seg IntKind.u8 (32 : Nat) (SAct.d (f k)), V.seg IntKind.u8 (16 : Nat) (SAct.tag (f k))] = [V.int IntKind.i64 (SAct.node (f k)), V.int IntKind.i64 (SAct.epoch (f k)), V.seg IntKind.u8 (32 : Nat) (SAct.d (f k)), V.seg IntKind.u8 (16 : Nat) (SAct.tag (f k))], false = true → false = true, q (↑m : Int), q (↑k : Int), InR IntKind.i64 ((↑k : Int) + (1 : Int)), q (↑n : Int), q (entsF (0 : Nat) (mkL l2)), q (List.length (mkL l2)), q (↑n : Int), q0, q0, q0, q n, (none : Option Nat) = none ∨ (none : Option Nat) = none, q0, q0, q0, q n, (none : Option Nat) = none ∨ (none : Option Nat) = none, q0, q0, q0, q n, (none : Option Nat) = none ∨ (none : Option Nat) = none, q n, ∀ (k : Nat), k < n → [V.int IntKind.i64 (ofM l2 (↑k : Int)).1] = [V.int IntKind.i64 (ofM l2 (↑k : Int)).1], false = false → false = false, q n, ∀ (k : Nat), k < n → [V.seg IntKind.u8 (32 : Nat) (Prod.snd (ofM l2 (↑k : Int))).1] = [V.seg IntKind.u8 (32 : Nat) (Prod.snd (ofM l2 (↑k : Int))).1], false = false → false = false, q n, ∀ (k : Nat), k < n → [V.seg IntKind.u8 (16 : Nat) (Prod.snd (ofM l2 (↑k : Int))).2] = [V.seg IntKind.u8 (16 : Nat) (Prod.snd (ofM l2 (↑k : Int))).2], false = false → false = false, q (↑n : Int), q need, q0, q0, q0, q0, q0, q0, q m, ∀ (k : Nat), k < m → [V.int IntKind.i64 (SAct.node (f k)), V.int IntKind.i64 (SAct.epoch (f k)), V.seg IntKind.u8 (32 : Nat) (SAct.d (f k)), V.seg IntKind.u8 (16 : Nat) (SAct.tag (f k))] = [V.int IntKind.i64 (SAct.node (f k)), V.int IntKind.i64 (SAct.epoch (f k)), V.seg IntKind.u8 (32 : Nat) (SAct.d (f k)), V.seg IntKind.u8 (16 : Nat) (SAct.tag (f k))], false = true → false = true, q (↑m : Int), (↑k : Int) + (1 : Int) = (↑(k + (1 : Nat)) : Int)]) : Option (Exit × St × List Prop)) := by kernel_rfl

theorem pcPy_p0 (n : Nat) (m : Nat) (f : Nat → SAct) (need : Int) (l : List (Int × MK)) (l2 : List (Int × MK)) (k : Nat) (r : Int) (v : Int) (L : List SSign) :
  alongPc Try.prog (pcPy n m f need l l2 k r v L) [false] = (some (.exit 0, St.mk [.int .i64 ↑n, .any, .int .i64 need, .any, .any, .any, .any, .ptr (.o 0) 0 0 0 0, .ptr (.o 2) 0 0 0 0, .any, .any, .any, .any, .any, .any, .any, .any, .any, .any, .any, .any, .any, .any, .any, .any, .any, .any, .any, .any, .any, .any, .ros 50 m (fun i => [.int .i64 (SAct.node (f i)), .int .i64 (SAct.epoch (f i)), .seg .u8 32 (SAct.d (f i)), .seg .u8 16 (SAct.tag (f i))]) false, .int .i64 ↑m, .int .i64 ↑m, .any, .any, .any, .any, .any, .any, .any, .any, .any, .any, .any, .any, .any, .any, .any, .any, .any, .any, .any, .any, .any, .any, .any, .any, .any, .any, .any, .any, .any, .any, .any, .any, .any, .any, .any, .any, .any, .any, .any, .any, .any, .any, .any, .any, .any, .any, .any, .any, .any, .any, .any, .any, .any, .any, .any, .any, .any, .any, .any, .any, .any, .any, .any, .any, .any, .any, .any, .any, .any, .any, .any, .any, .any, .any, .any, .any, .any, .any, .any, .any, .any, .any, .any, .any, .any, .any, .any, .any, .any, .any, .any, .any, .any, .any, .any, .any, .any, .any] [(.o 0, .flat [.int .i64 ↑n, .mp (.o 1)]), (.o 1, .map (entsF 0 (mkL l)) (List.length (mkL l))), (.o 2, .flat [.int .i64 ↑n, .sl (.o 3) 1 0 0 0 n none, .sl (.o 4) 32 0 0 0 n none, .sl (.o 5) 16 0 0 0 n none]), (.o 3, .rows 1 n (eR l) false), (.o 4, .rows 32 n (dR l) false), (.o 5, .rows 16 n (tR l) false)] 6 [], [decide ((↑k : Int) < (↑m : Int)) = false, q (↑n : Int), q (entsF (0 : Nat) (mkL l)), q (List.length (mkL l)), q (↑n : Int), q0, q0, q0, q n, (none : Option Nat) = none ∨ (none : Option Nat) = none, q0, q0, q0, q n, (none : Option Nat) = none ∨ (none : Option Nat) = none, q0, q0, q0, q n, (none : Option Nat) = none ∨ (none : Option Nat) = none, q n, ∀ (k : Nat), k < n → [V.int IntKind.i64 (ofM l (↑k : Int)).1] = [V.int IntKind.i64 (ofM l (↑k : Int)).1], false = false → false = false, q n, ∀ (k : Nat), k < n → [V.seg IntKind.u8 (32 : Nat) (Prod.snd (ofM l (↑k : Int))).1] = [V.seg IntKind.u8 (32 : Nat) (Prod.snd (ofM l (↑k : Int))).1], false = false → false = false, q n, ∀ (k : Nat), k < n → [V.seg IntKind.u8 (16 : Nat) (Prod.snd (ofM l (↑k : Int))).2] = [V.seg IntKind.u8 (16 : Nat) (Prod.snd (ofM l (↑k : Int))).2], false = false → false = false, q (↑n : Int), q need, q0, q0, q0, q0, q0, q0, q m, ∀ (k : Nat), k < m → [V.int IntKind.i64 (SAct.node (f k)), V.int IntKind.i64 (SAct.epoch (f k)), V.seg IntKind.u8 (32 : Nat) (SAct.d (f k)), V.seg IntKind.u8 (16 : Nat) (SAct.tag (f k))] = [V.int IntKind.i64 (SAct.node (f k)), V.int IntKind.i64 (SAct.epoch (f k)), V.seg IntKind.u8 (32 : Nat) (SAct.d (f k)), V.seg IntKind.u8 (16 : Nat) (SAct.tag (f k))], false = true → false = true, q (↑m : Int), (↑k : Int) = (↑m : Int)]) : Option (Exit × St × List Prop)) := by kernel_rfl

theorem pcPn_p1000 (n : Nat) (m : Nat) (f : Nat → SAct) (need : Int) (l : List (Int × MK)) (l2 : List (Int × MK)) (k : Nat) (r : Int) (v : Int) :
  alongPc Try.prog (pcPn n m f need l l2 k r v) [true, false, false, false] = (some (.normal, St.mk [.int .i64 ↑n, .any, .int .i64 need, .any, .any, .any, .any, .ptr (.o 0) 0 0 0 0, .ptr (.o 2) 0 0 0 0, .any, .any, .any, .any, .any, .any, .any, .any, .any, .any, .any, .any, .any, .any, .any, .any, .any, .any, .any, .any, .any, .any, .ros 50 m (fun i => [.int .i64 (SAct.node (f i)), .int .i64 (SAct.epoch (f i)), .seg .u8 32 (SAct.d (f i)), .seg .u8 16 (SAct.tag (f i))]) false, .int .i64 ↑m, .int .i64 (↑(k + 1) : Int), .any, .any, .any, .any, .any, .any, .any, .any, .any, .any, .any, .any, .any, .any, .any, .any, .any, .any, .any, .any, .any, .any, .any, .any, .any, .any, .any, .any, .any, .any, .any, .any, .any, .any, .any, .any, .any, .any, .any, .any, .any, .any, .any, .any, .any, .any, .any, .any, .any, .any, .any, .any, .any, .any, .any, .any, .any, .any, .any, .any, .any, .any, .any, .any, .any, .any, .any, .any, .any, .any, .any, .any, .any, .any, .any, .any, .any, .any, .any, .any, .any, .any, .any, .any, .any, .any, .any, .any, .any, .any, .any, .any, .any, .any, .any, .any, .any, .any] [(.o 0, .flat [.int .i64 ↑n, .mp (.o 1)]), (.o 1, .map (entsF 0 (mkL l2)) (List.length (mkL l2))), (.o 2, .flat [.int .i64 ↑n, .sl (.o 3) 1 0 0 0 n none, .sl (.o 4) 32 0 0 0 n none, .sl (.o 5) 16 0 0 0 n none]), (.o 3, .rows 1 n (eR l2) false), (.o 4, .rows 32 n (dR l2) false), (.o 5, .rows 16 n (tR l2) false)] 6 [], [decide ((↑k : Int) < (↑m : Int)) = true, (0 : Int) ≤ (↑k : Int) ∧ (↑k : Int) < (↑m : Int), T Try.prog 31 [.ptr (.o 0) 0 0 0 0, .int .i64 (SAct.node (f (Int.toNat (↑k : Int)))), .int .i64 (SAct.epoch (f (Int.toNat (↑k : Int)))), .agg [.seg .u8 32 (SAct.d (f (Int.toNat (↑k : Int))))], .agg [.seg .u8 16 (SAct.tag (f (Int.toNat (↑k : Int))))]] [(.o 0, .flat [.int .i64 ↑n, .mp (.o 1)]), (.o 1, .map (entsF 0 (mkL l)) (List.length (mkL l)))] (.int .i64 r) [(.o 0, .flat [.int .i64 ↑n, .mp (.o 1)]), (.o 1, .map (entsF 0 (mkL l2)) (List.length (mkL l2)))], T Try.prog 34 [.ptr (.o 2) 0 0 0 0, .int .i64 (SAct.node (f (Int.toNat (↑k : Int)))), .int .i64 (SAct.epoch (f (Int.toNat (↑k : Int)))), .agg [.seg .u8 32 (SAct.d (f (Int.toNat (↑k : Int))))], .agg [.seg .u8 16 (SAct.tag (f (Int.toNat (↑k : Int))))]] [(.o 2, .flat [.int .i64 ↑n, .sl (.o 3) 1 0 0 0 n none, .sl (.o 4) 32 0 0 0 n none, .sl (.o 5) 16 0 0 0 n none]), (.o 3, .rows 1 n (eR l) false), (.o 4, .rows 32 n (dR l) false), (.o 5, .rows 16 n (tR l) false)] (.int .i64 r) [(.o 2, .flat [.int .i64 ↑n, .sl (.o 3) 1 0 0 0 n none, .sl (.o 4) 32 0 0 0 n none, .sl (.o 5) 16 0 0 0 n none]), (.o 3, .rows 1 n (eR l2) false), (.o 4, .rows 32 n (dR l2) false), (.o 5, .rows 16 n (tR l2) false)], (!decide (r = r)) = false, T Try.prog 35 [.ptr (.o 0) 0 0 0 0, .int .i64 need] [(.o 0, .flat [.int .i64 ↑n, .mp (.o 1)]), (.o 1, .map (entsF 0 (mkL l2)) (List.length (mkL l2)))] (.int .i64 v) [(.o 0, .flat [.int .i64 ↑n, .mp (.o 1)]), (.o 1, .map (entsF 0 (mkL l2)) (List.length (mkL l2)))], T Try.prog 36 [.ptr (.o 2) 0 0 0 0, .int .i64 need] [(.o 2, .flat [.int .i64 ↑n, .sl (.o 3) 1 0 0 0 n none, .sl (.o 4) 32 0 0 0 n none, .sl (.o 5) 16 0 0 0 n none]), (.o 3, .rows 1 n (eR l2) false), (.o 4, .rows 32 n (dR l2) false), (.o 5, .rows 16 n (tR l2) false)] (.int .i64 v) [(.o 2, .flat [.int .i64 ↑n, .sl (.o 3) 1 0 0 0 n none, .sl (.o 4) 32 0 0 0 n none, .sl (.o 5) 16 0 0 0 n none]), (.o 3, .rows 1 n (eR l2) false), (.o 4, .rows 32 n (dR l2) false), (.o 5, .rows 16 n (tR l2) false)], (!decide (v = v)) = false, T Try.prog 32 [.ptr (.o 0) 0 0 0 0, .int .i64 (SAct.epoch (f (Int.toNat (↑k : Int)))), .agg [.seg .u8 32 (SAct.d (f (Int.toNat (↑k : Int))))], .int .i64 need] [(.o 0, .flat [.int .i64 ↑n, .mp (.o 1)]), (.o 1, .map (entsF 0 (mkL l2)) (List.length (mkL l2)))] .snil [(.o 0, .flat [.int .i64 ↑n, .mp (.o 1)]), (.o 1, .map (entsF 0 (mkL l2)) (List.length (mkL l2)))], T Try.prog 37 [.ptr (.o 2) 0 0 0 0, .int .i64 (SAct.epoch (f (Int.toNat (↑k : Int)))), .agg [.seg .u8 32 (SAct.d (f (Int.toNat (↑k : Int))))], .int .i64 need] [(.o 2, .flat [.int .i64 ↑n, .sl (.o 3) 1 0 0 0 n none, .sl (.o 4) 32 0 0 0 n none, .sl (.o 5) 16 0 0 0 n none]), (.o 3, .rows 1 n (eR l2) false), (.o 4, .rows 32 n (dR l2) false), (.o 5, .rows 16 n (tR l2) false)] .snil [(.o 2, .flat [.int .i64 ↑n, .sl (.o 3) 1 0 0 0 n none, .sl (.o 4) 32 0 0 0 n none, .sl (.o 5) 16 0 0 0 n none]), (.o 3, .rows 1 n (eR l2) false), (.o 4, .rows 32 n (dR l2) false), (.o 5, .rows 16 n (tR l2) false)], T Try.prog 26 [.snil, .snil] [] (.bool true) [], q false, RLoop Try.prog none 0 (cB (cB (cR (cR (cR (cB (cL (cR (cR (Pc.c (pcPn n m f need l l2 k r v))))))))))) (n + 3) (St.mk [.int .i64 ↑n, .any, .int .i64 need, .any, .any, .any, .any, .ptr (.o 0) 0 0 0 0, .ptr (.o 2) 0 0 0 0, .any, .any, .int .i64 ((0 : Int) - (1 : Int)), .any, .any, .any, .any, .any, .any, .any, .any, .any, .any, .any, .any, .any, .any, .any, .any, .any, .any, .any, .ros 50 m (fun i => [.int .i64 (SAct.node (f i)), .int .i64 (SAct.epoch (f i)), .seg .u8 32 (SAct.d (f i)), .seg .u8 16 (SAct.tag (f i))]) false, .int .i64 ↑m, .int .i64 ↑k, .any, .any, .any, .any, .any, .any, .any, .any, .any, .any, .any, .any, .any, .any, .any, .any, .any, .any, .any, .any, .any, .any, .any, .any, .any, .any, .any, .any, .any, .any, .any, .any, .any, .any, .any, .any, .any, .any, .any, .any, .any, .any, .any, .any, .any, .any, .any, .any, .any, .any, .any, .any, .any, .any, .any, .any, .any, .any, .any, .any, .any, .any, .any, .any, .any, .any, .any, .any, .any, .any, .any, .any, .any, .any, .any, .any, .any, .any, .any, .any, .any, .any, .any, .any, .any, .any, .any, .any, .any, .any, .any, .any, .any, .any, .any, .any, .any, .any] [(.o 0, .flat [.int .i64 ↑n, .mp (.o 1)]), (.o 1, .map (entsF 0 (mkL l2)) (List.length (mkL l2))), (.o 2, .flat [.int .i64 ↑n, .sl (.o 3) 1 0 0 0 n none, .sl (.o 4) 32 0 0 0 n none, .sl (.o 5) 16 0 0 0 n none]), (.o 3, .rows 1 n (eR l2) false), (.o 4, .rows 32 n (dR l2) false), (.o 5, .rows 16 n (tR l2) false)] 6 []) (.exit 2) (St.mk [.int .i64 ↑n, .any, .int .i64 need, .any, .any, .any, .any, .ptr (.o 0) 0 0 0 0, .ptr (.o 2) 0 0 0 0, .any, .any, .int .i64 ((↑(n + 2) : Int) - (1 : Int)), .any, .any, .any, .any, .any, .any, .any, .any, .any, .any, .any, .any, .any, .any, .any, .any, .any, .any, .any, .ros 50 m (fun i => [.int .i64 (SAct.node (f i)), .int .i64 (SAct.epoch (f i)), .seg .u8 32 (SAct.d (f i)), .seg .u8 16 (SAct.tag (f i))]) false, .int .i64 ↑m, .int .i64 ↑k, .any, .any, .any, .any, .any, .any, .any, .any, .any, .any, .any, .any, .any, .any, .any, .any, .any, .any, .any, .any, .any, .any, .any, .any, .any, .any, .any, .any, .any, .any, .any, .any, .any, .any, .any, .any, .any, .any, .any, .any, .any, .any, .any, .any, .any, .any, .any, .any, .any, .any, .any, .any, .any, .any, .any, .any, .any, .any, .any, .any, .any, .any, .any, .any, .any, .any, .any, .any, .any, .any, .any, .any, .any, .any, .any, .any, .any, .any, .any, .any, .any, .any, .any, .any, .any, .any, .any, .any, .any, .any, .any, .any, .any, .any, .any, .any, .any, .any] [(.o 0, .flat [.int .i64 ↑n, .mp (.o 1)]), (.o 1, .map (entsF 0 (mkL l2)) (List.length (mkL l2))), (.o 2, .flat [.int .i64 ↑n, .sl (.o 3) 1 0 0 0 n none, .sl (.o 4) 32 0 0 0 n none, .sl (.o 5) 16 0 0 0 n none]), (.o 3, .rows 1 n (eR l2) false), (.o 4, .rows 32 n (dR l2) false), (.o 5, .rows 16 n (tR l2) false)] 6 []), q (↑n : Int), q (entsF (0 : Nat) (mkL l2)), q (List.length (mkL l2)), q (↑n : Int), q0, q0, q0, q n, (none : Option Nat) = none ∨ (none : Option Nat) = none, q0, q0, q0, q n, (none : Option Nat) = none ∨ (none : Option Nat) = none, q0, q0, q0, q n, (none : Option Nat) = none ∨ (none : Option Nat) = none, q n, ∀ (k : Nat), k < n → [V.int IntKind.i64 (ofM l2 (↑k : Int)).1] = [V.int IntKind.i64 (ofM l2 (↑k : Int)).1], false = false → false = false, q n, ∀ (k : Nat), k < n → [V.seg IntKind.u8 (32 : Nat) (Prod.snd (ofM l2 (↑k : Int))).1] = [V.seg IntKind.u8 (32 : Nat) (Prod.snd (ofM l2 (↑k : Int))).1], false = false → false = false, q n, ∀ (k : Nat), k < n → [V.seg IntKind.u8 (16 : Nat) (Prod.snd (ofM l2 (↑k : Int))).2] = [V.seg IntKind.u8 (16 : Nat) (Prod.snd (ofM l2 (↑k : Int))).2], false = false → false = false, q (↑n : Int), q need, q0, q0, q0, q0, q0, q0, (-1 : Int) = (0 : Int) - (1 : Int), q m, ∀ (k : Nat), k < m → [V.int IntKind.i64 (SAct.node (f k)), V.int IntKind.i64 (SAct.epoch (f k)), V.seg IntKind.u8 (32 : Nat) (SAct.d (f k)), V.seg IntKind.u8 (16 : Nat) (SAct.tag (f k))] = [V.int IntKind.i64 (SAct.node (f k)), V.int IntKind.i64 (SAct.epoch (f k)), V.seg IntKind.u8 (32 : Nat) (SAct.d (f k)), V.seg IntKind.u8 (16 : Nat) (SAct.tag (f k))], false = true → false = true, q (↑m : Int), q (↑k : Int), InR IntKind.i64 ((↑k : Int) + (1 : Int)), q (↑n : Int), q (entsF (0 : Nat) (mkL l2)), q (List.length (mkL l2)), q (↑n : Int), q0, q0, q0, q n, (none : Option Nat) = none ∨ (none : Option Nat) = none, q0, q0, q0, q n, (none : Option Nat) = none ∨ (none : Option Nat) = none, q0, q0, q0, q n, (none : Option Nat) = none ∨ (none : Option Nat) = none, q n, ∀ (k : Nat), k < n → [V.int IntKind.i64 (ofM l2 (↑k : Int)).1] = [V.int IntKind.i64 (ofM l2 (↑k : Int)).1], false = false → false = false, q n, ∀ (k : Nat), k < n → [V.seg IntKind.u8 (32 : Nat) (Prod.snd (ofM l2 (↑k : Int))).1] = [V.seg IntKind.u8 (32 : Nat) (Prod.snd (ofM l2 (↑k : Int))).1], false = false → false = false, q n, ∀ (k : Nat), k < n → [V.seg IntKind.u8 (16 : Nat) (Prod.snd (ofM l2 (↑k : Int))).2] = [V.seg IntKind.u8 (16 : Nat) (Prod.snd (ofM l2 (↑k : Int))).2], false = false → false = false, q (↑n : Int), q need, q0, q0, q0, q0, q0, q0, q m, ∀ (k : Nat), k < m → [V.int IntKind.i64 (SAct.node (f k)), V.int IntKind.i64 (SAct.epoch (f k)), V.seg IntKind.u8 (32 : Nat) (SAct.d (f k)), V.seg IntKind.u8 (16 : Nat) (SAct.tag (f k))] = [V.int IntKind.i64 (SAct.node (f k)), V.int IntKind.i64 (SAct.epoch (f k)), V.seg IntKind.u8 (32 : Nat) (SAct.d (f k)), V.seg IntKind.u8 (16 : Nat) (SAct.tag (f k))], false = true → false = true, q (↑m : Int), (↑k : Int) + (1 : Int) = (↑(k + (1 : Nat)) : Int)]) : Option (Exit × St × List Prop)) := by kernel_rfl

noncomputable def pcPj_c (n : Nat) (m : Nat) (f : Nat → SAct) (need : Int) (l : List (Int × MK)) (k : Nat) (j : Nat) (e : Int) (d : List Int) : Nat → List Prop
 | 0 => [decide ((↑j : Int) - (1 : Int) ≤ (↑n : Int)) = true, T Try.prog 38 [.ptr (.o 0) 0 0 0 0, .int .i64 ((↑j : Int) - (1 : Int))] [(.o 0, .flat [.int .i64 ↑n, .mp (.o 1)]), (.o 1, .map (entsF 0 (mkL l)) (List.length (mkL l)))] (.tup [.int .i64 e, .agg [.seg .u8 32 d]]) [(.o 0, .flat [.int .i64 ↑n, .mp (.o 1)]), (.o 1, .map (entsF 0 (mkL l)) (List.length (mkL l)))]]
 | _ => []
theorem pcPj_p11100 (n : Nat) (m : Nat) (f : Nat → SAct) (need : Int) (l : List (Int × MK)) (k : Nat) (j : Nat) (e : Int) (d : List Int) :
 alongPc Try.prog (pcPj n m f need l k j e d) [true, true, true, false, false] = (some (.normal, St.mk [.int .i64 ↑n, .any, .int .i64 need, .any, .any, .any, .any, .ptr (.o 0) 0 0 0 0, .ptr (.o 2) 0 0 0 0, .any, .any, .int .i64 ((↑(j + 1) : Int) - (1 : Int)), .any, .any, .any, .any, .any, .any, .any, .any, .any, .any, .any, .any, .any, .any, .any, .any, .any, .any, .any, .ros 50 m (fun i => [.int .i64 (SAct.node (f i)), .int .i64 (SAct.epoch (f i)), .seg .u8 32 (SAct.d (f i)), .seg .u8 16 (SAct.tag (f i))]) false, .int .i64 ↑m, .int .i64 ↑k, .any, .any, .any, .any, .any, .any, .any, .any, .any, .any, .any, .any, .any, .any, .any, .any, .any, .any, .any, .any, .any, .any, .any, .any, .any, .any, .any, .any, .any, .any, .any, .any, .any, .any, .any, .any, .any, .any, .any, .any, .any, .any, .any, .any, .any, .any, .any, .any, .any, .any, .any, .any, .any, .any, .any, .any, .any, .any, .any, .any, .any, .any, .any, .any, .any, .any, .any, .any, .any, .any, .any, .any, .any, .any, .any, .any, .any, .any, .any, .any, .any, .any, .any, .any, .any, .any, .any, .any, .any, .any, .any, .any, .any, .any, .any, .any, .any, .any] [(.o 0, .flat [.int .i64 ↑n, .mp (.o 1)]), (.o 1, .map (entsF 0 (mkL l)) (List.length (mkL l))), (.o 2, .flat [.int .i64 ↑n, .sl (.o 3) 1 0 0 0 n none, .sl (.o 4) 32 0 0 0 n none, .sl (.o 5) 16 0 0 0 n none]), (.o 3, .rows 1 n (eR l) false), (.o 4, .rows 32 n (dR l) false), (.o 5, .rows 16 n (tR l) false)] 6 [], pcPj_c n m f need l k j e d 0 ++ [decide ((↑j : Int) - (1 : Int) < (0 : Int)) = true, q2, (!decide (e = (0 : Int))) = false, (!decide (d = z32)) = false, InR IntKind.i64 ((↑j : Int) - (1 : Int) + (1 : Int)), q (↑n : Int), q (entsF (0 : Nat) (mkL l)), q (List.length (mkL l)), q (↑n : Int), q0, q0, q0, q n, (none : Option Nat) = none ∨ (none : Option Nat) = none, q0, q0, q0, q n, (none : Option Nat) = none ∨ (none : Option Nat) = none, q0, q0, q0, q n, (none : Option Nat) = none ∨ (none : Option Nat) = none, q n, ∀ (k : Nat), k < n → [V.int IntKind.i64 (ofM l (↑k : Int)).1] = [V.int IntKind.i64 (ofM l (↑k : Int)).1], false = false → false = false, q n, ∀ (k : Nat), k < n → [V.seg IntKind.u8 (32 : Nat) (Prod.snd (ofM l (↑k : Int))).1] = [V.seg IntKind.u8 (32 : Nat) (Prod.snd (ofM l (↑k : Int))).1], false = false → false = false, q n, ∀ (k : Nat), k < n → [V.seg IntKind.u8 (16 : Nat) (Prod.snd (ofM l (↑k : Int))).2] = [V.seg IntKind.u8 (16 : Nat) (Prod.snd (ofM l (↑k : Int))).2], false = false → false = false, q (↑n : Int), q need, q0, q0, q0, q0, q0, q0, (↑j : Int) - (1 : Int) + (1 : Int) = (↑(j + (1 : Nat)) : Int) - (1 : Int), q m, ∀ (k : Nat), k < m → [V.int IntKind.i64 (SAct.node (f k)), V.int IntKind.i64 (SAct.epoch (f k)), V.seg IntKind.u8 (32 : Nat) (SAct.d (f k)), V.seg IntKind.u8 (16 : Nat) (SAct.tag (f k))] = [V.int IntKind.i64 (SAct.node (f k)), V.int IntKind.i64 (SAct.epoch (f k)), V.seg IntKind.u8 (32 : Nat) (SAct.d (f k)), V.seg IntKind.u8 (16 : Nat) (SAct.tag (f k))], false = true → false = true, q (↑m : Int), q (↑k : Int)]) : Option (Exit × St × List Prop)) := by kernel_rfl

theorem pcPj_p10100 (n : Nat) (m : Nat) (f : Nat → SAct) (need : Int) (l : List (Int × MK)) (k : Nat) (j : Nat) (e : Int) (d : List Int) :
 alongPc Try.prog (pcPj n m f need l k j e d) [true, false, true, false, false] = (some (.normal, St.mk [.int .i64 ↑n, .any, .int .i64 need, .any, .any, .any, .any, .ptr (.o 0) 0 0 0 0, .ptr (.o 2) 0 0 0 0, .any, .any, .int .i64 ((↑(j + 1) : Int) - (1 : Int)), .any, .any, .any, .any, .any, .any, .any, .any, .any, .any, .any, .any, .any, .any, .any, .any, .any, .any, .any, .ros 50 m (fun i => [.int .i64 (SAct.node (f i)), .int .i64 (SAct.epoch (f i)), .seg .u8 32 (SAct.d (f i)), .seg .u8 16 (SAct.tag (f i))]) false, .int .i64 ↑m, .int .i64 ↑k, .any, .any, .any, .any, .any, .any, .any, .any, .any, .any, .any, .any, .any, .any, .any, .any, .any, .any, .any, .any, .any, .any, .any, .any, .any, .any, .any, .any, .any, .any, .any, .any, .any, .any, .any, .any, .any, .any, .any, .any, .any, .any, .any, .any, .any, .any, .any, .any, .any, .any, .any, .any, .any, .any, .any, .any, .any, .any, .any, .any, .any, .any, .any, .any, .any, .any, .any, .any, .any, .any, .any, .any, .any, .any, .any, .any, .any, .any, .any, .any, .any, .any, .any, .any, .any, .any, .any, .any, .any, .any, .any, .any, .any, .any, .any, .any, .any, .any] [(.o 0, .flat [.int .i64 ↑n, .mp (.o 1)]), (.o 1, .map (entsF 0 (mkL l)) (List.length (mkL l))), (.o 2, .flat [.int .i64 ↑n, .sl (.o 3) 1 0 0 0 n none, .sl (.o 4) 32 0 0 0 n none, .sl (.o 5) 16 0 0 0 n none]), (.o 3, .rows 1 n (eR l) false), (.o 4, .rows 32 n (dR l) false), (.o 5, .rows 16 n (tR l) false)] 6 [], pcPj_c n m f need l k j e d 0 ++ [decide ((↑j : Int) - (1 : Int) < (0 : Int)) = false, decide ((↑n : Int) ≤ (↑j : Int) - (1 : Int)) = true, (!decide (e = (0 : Int))) = false, (!decide (d = z32)) = false, InR IntKind.i64 ((↑j : Int) - (1 : Int) + (1 : Int)), q (↑n : Int), q (entsF (0 : Nat) (mkL l)), q (List.length (mkL l)), q (↑n : Int), q0, q0, q0, q n, (none : Option Nat) = none ∨ (none : Option Nat) = none, q0, q0, q0, q n, (none : Option Nat) = none ∨ (none : Option Nat) = none, q0, q0, q0, q n, (none : Option Nat) = none ∨ (none : Option Nat) = none, q n, ∀ (k : Nat), k < n → [V.int IntKind.i64 (ofM l (↑k : Int)).1] = [V.int IntKind.i64 (ofM l (↑k : Int)).1], false = false → false = false, q n, ∀ (k : Nat), k < n → [V.seg IntKind.u8 (32 : Nat) (Prod.snd (ofM l (↑k : Int))).1] = [V.seg IntKind.u8 (32 : Nat) (Prod.snd (ofM l (↑k : Int))).1], false = false → false = false, q n, ∀ (k : Nat), k < n → [V.seg IntKind.u8 (16 : Nat) (Prod.snd (ofM l (↑k : Int))).2] = [V.seg IntKind.u8 (16 : Nat) (Prod.snd (ofM l (↑k : Int))).2], false = false → false = false, q (↑n : Int), q need, q0, q0, q0, q0, q0, q0, (↑j : Int) - (1 : Int) + (1 : Int) = (↑(j + (1 : Nat)) : Int) - (1 : Int), q m, ∀ (k : Nat), k < m → [V.int IntKind.i64 (SAct.node (f k)), V.int IntKind.i64 (SAct.epoch (f k)), V.seg IntKind.u8 (32 : Nat) (SAct.d (f k)), V.seg IntKind.u8 (16 : Nat) (SAct.tag (f k))] = [V.int IntKind.i64 (SAct.node (f k)), V.int IntKind.i64 (SAct.epoch (f k)), V.seg IntKind.u8 (32 : Nat) (SAct.d (f k)), V.seg IntKind.u8 (16 : Nat) (SAct.tag (f k))], false = true → false = true, q (↑m : Int), q (↑k : Int)]) : Option (Exit × St × List Prop)) := by kernel_rfl

theorem pcPj_p10000 (n : Nat) (m : Nat) (f : Nat → SAct) (need : Int) (l : List (Int × MK)) (k : Nat) (j : Nat) (e : Int) (d : List Int) :
 alongPc Try.prog (pcPj n m f need l k j e d) [true, false, false, false, false] = (some (.normal, St.mk [.int .i64 ↑n, .any, .int .i64 need, .any, .any, .any, .any, .ptr (.o 0) 0 0 0 0, .ptr (.o 2) 0 0 0 0, .any, .any, .int .i64 ((↑(j + 1) : Int) - (1 : Int)), .any, .any, .any, .any, .any, .any, .any, .any, .any, .any, .any, .any, .any, .any, .any, .any, .any, .any, .any, .ros 50 m (fun i => [.int .i64 (SAct.node (f i)), .int .i64 (SAct.epoch (f i)), .seg .u8 32 (SAct.d (f i)), .seg .u8 16 (SAct.tag (f i))]) false, .int .i64 ↑m, .int .i64 ↑k, .any, .any, .any, .any, .any, .any, .any, .any, .any, .any, .any, .any, .any, .any, .any, .any, .any, .any, .any, .any, .any, .any, .any, .any, .any, .any, .any, .any, .any, .any, .any, .any, .any, .any, .any, .any, .any, .any, .any, .any, .any, .any, .any, .any, .any, .any, .any, .any, .any, .any, .any, .any, .any, .any, .any, .any, .any, .any, .any, .any, .any, .any, .any, .any, .any, .any, .any, .any, .any, .any, .any, .any, .any, .any, .any, .any, .any, .any, .any, .any, .any, .any, .any, .any, .any, .any, .any, .any, .any, .any, .any, .any, .any, .any, .any, .any, .any, .any] [(.o 0, .flat [.int .i64 ↑n, .mp (.o 1)]), (.o 1, .map (entsF 0 (mkL l)) (List.length (mkL l))), (.o 2, .flat [.int .i64 ↑n, .sl (.o 3) 1 0 0 0 n none, .sl (.o 4) 32 0 0 0 n none, .sl (.o 5) 16 0 0 0 n none]), (.o 3, .rows 1 n (eR l) false), (.o 4, .rows 32 n (dR l) false), (.o 5, .rows 16 n (tR l) false)] 6 [], pcPj_c n m f need l k j e d 0 ++ [decide ((↑j : Int) - (1 : Int) < (0 : Int)) = false, decide ((↑n : Int) ≤ (↑j : Int) - (1 : Int)) = false, (0 : Int) ≤ (↑j : Int) - (1 : Int) ∧ (↑j : Int) - (1 : Int) < (↑n : Int), (0 : Nat) + Int.toNat ((↑j : Int) - (1 : Int)) < n, (!decide (e = (ofM l (↑((0 : Nat) + Int.toNat ((↑j : Int) - (1 : Int))) : Int)).1)) = false, (0 : Int) ≤ (↑j : Int) - (1 : Int) ∧ (↑j : Int) - (1 : Int) < (↑n : Int), (0 : Nat) + Int.toNat ((↑j : Int) - (1 : Int)) < n, (!decide (d = (Prod.snd (ofM l (↑((0 : Nat) + Int.toNat ((↑j : Int) - (1 : Int))) : Int))).1)) = false, InR IntKind.i64 ((↑j : Int) - (1 : Int) + (1 : Int)), q (↑n : Int), q (entsF (0 : Nat) (mkL l)), q (List.length (mkL l)), q (↑n : Int), q0, q0, q0, q n, (none : Option Nat) = none ∨ (none : Option Nat) = none, q0, q0, q0, q n, (none : Option Nat) = none ∨ (none : Option Nat) = none, q0, q0, q0, q n, (none : Option Nat) = none ∨ (none : Option Nat) = none, q n, ∀ (k : Nat), k < n → [V.int IntKind.i64 (ofM l (↑k : Int)).1] = [V.int IntKind.i64 (ofM l (↑k : Int)).1], false = false → false = false, q n, ∀ (k : Nat), k < n → [V.seg IntKind.u8 (32 : Nat) (Prod.snd (ofM l (↑k : Int))).1] = [V.seg IntKind.u8 (32 : Nat) (Prod.snd (ofM l (↑k : Int))).1], false = false → false = false, q n, ∀ (k : Nat), k < n → [V.seg IntKind.u8 (16 : Nat) (Prod.snd (ofM l (↑k : Int))).2] = [V.seg IntKind.u8 (16 : Nat) (Prod.snd (ofM l (↑k : Int))).2], false = false → false = false, q (↑n : Int), q need, q0, q0, q0, q0, q0, q0, (↑j : Int) - (1 : Int) + (1 : Int) = (↑(j + (1 : Nat)) : Int) - (1 : Int), q m, ∀ (k : Nat), k < m → [V.int IntKind.i64 (SAct.node (f k)), V.int IntKind.i64 (SAct.epoch (f k)), V.seg IntKind.u8 (32 : Nat) (SAct.d (f k)), V.seg IntKind.u8 (16 : Nat) (SAct.tag (f k))] = [V.int IntKind.i64 (SAct.node (f k)), V.int IntKind.i64 (SAct.epoch (f k)), V.seg IntKind.u8 (32 : Nat) (SAct.d (f k)), V.seg IntKind.u8 (16 : Nat) (SAct.tag (f k))], false = true → false = true, q (↑m : Int), q (↑k : Int)]) : Option (Exit × St × List Prop)) := by kernel_rfl

theorem pcPj_p0 (n : Nat) (m : Nat) (f : Nat → SAct) (need : Int) (l : List (Int × MK)) (k : Nat) (j : Nat) (e : Int) (d : List Int) :
 alongPc Try.prog (pcPj n m f need l k j e d) [false] = (some (.exit 2, St.mk [.int .i64 ↑n, .any, .int .i64 need, .any, .any, .any, .any, .ptr (.o 0) 0 0 0 0, .ptr (.o 2) 0 0 0 0, .any, .any, .int .i64 ((↑(n + 2) : Int) - (1 : Int)), .any, .any, .any, .any, .any, .any, .any, .any, .any, .any, .any, .any, .any, .any, .any, .any, .any, .any, .any, .ros 50 m (fun i => [.int .i64 (SAct.node (f i)), .int .i64 (SAct.epoch (f i)), .seg .u8 32 (SAct.d (f i)), .seg .u8 16 (SAct.tag (f i))]) false, .int .i64 ↑m, .int .i64 ↑k, .any, .any, .any, .any, .any, .any, .any, .any, .any, .any, .any, .any, .any, .any, .any, .any, .any, .any, .any, .any, .any, .any, .any, .any, .any, .any, .any, .any, .any, .any, .any, .any, .any, .any, .any, .any, .any, .any, .any, .any, .any, .any, .any, .any, .any, .any, .any, .any, .any, .any, .any, .any, .any, .any, .any, .any, .any, .any, .any, .any, .any, .any, .any, .any, .any, .any, .any, .any, .any, .any, .any, .any, .any, .any, .any, .any, .any, .any, .any, .any, .any, .any, .any, .any, .any, .any, .any, .any, .any, .any, .any, .any, .any, .any, .any, .any, .any, .any] [(.o 0, .flat [.int .i64 ↑n, .mp (.o 1)]), (.o 1, .map (entsF 0 (mkL l)) (List.length (mkL l))), (.o 2, .flat [.int .i64 ↑n, .sl (.o 3) 1 0 0 0 n none, .sl (.o 4) 32 0 0 0 n none, .sl (.o 5) 16 0 0 0 n none]), (.o 3, .rows 1 n (eR l) false), (.o 4, .rows 32 n (dR l) false), (.o 5, .rows 16 n (tR l) false)] 6 [], [decide ((↑j : Int) - (1 : Int) ≤ (↑n : Int)) = false, q (↑n : Int), q (entsF (0 : Nat) (mkL l)), q (List.length (mkL l)), q (↑n : Int), q0, q0, q0, q n, (none : Option Nat) = none ∨ (none : Option Nat) = none, q0, q0, q0, q n, (none : Option Nat) = none ∨ (none : Option Nat) = none, q0, q0, q0, q n, (none : Option Nat) = none ∨ (none : Option Nat) = none, q n, ∀ (k : Nat), k < n → [V.int IntKind.i64 (ofM l (↑k : Int)).1] = [V.int IntKind.i64 (ofM l (↑k : Int)).1], false = false → false = false, q n, ∀ (k : Nat), k < n → [V.seg IntKind.u8 (32 : Nat) (Prod.snd (ofM l (↑k : Int))).1] = [V.seg IntKind.u8 (32 : Nat) (Prod.snd (ofM l (↑k : Int))).1], false = false → false = false, q n, ∀ (k : Nat), k < n → [V.seg IntKind.u8 (16 : Nat) (Prod.snd (ofM l (↑k : Int))).2] = [V.seg IntKind.u8 (16 : Nat) (Prod.snd (ofM l (↑k : Int))).2], false = false → false = false, q (↑n : Int), q need, q0, q0, q0, q0, q0, q0, (↑j : Int) - (1 : Int) = (↑(n + (2 : Nat)) : Int) - (1 : Int), q m, ∀ (k : Nat), k < m → [V.int IntKind.i64 (SAct.node (f k)), V.int IntKind.i64 (SAct.epoch (f k)), V.seg IntKind.u8 (32 : Nat) (SAct.d (f k)), V.seg IntKind.u8 (16 : Nat) (SAct.tag (f k))] = [V.int IntKind.i64 (SAct.node (f k)), V.int IntKind.i64 (SAct.epoch (f k)), V.seg IntKind.u8 (32 : Nat) (SAct.d (f k)), V.seg IntKind.u8 (16 : Nat) (SAct.tag (f k))], false = true → false = true, q (↑m : Int), q (↑k : Int)]) : Option (Exit × St × List Prop)) := by kernel_rfl

theorem getM_mem2 {k : Int} : ∀ {l : List (Int × MK)}, (getM k l).isSome = true → ∃ p ∈ l, p.1 = k
 | [], h => by cases h
 | p :: l, h => by
  rw [getM] at h
  by_cases e : k = p.1
  ·exact ⟨p, List.mem_cons_self .., e.symm⟩
  ·rw [if_neg e] at h
   obtain ⟨q, h1, h2⟩ := getM_mem2 h
   exact ⟨q, List.mem_cons_of_mem _ h1, h2⟩
theorem putM_mem {k : Int} {v : MK} {p : Int × MK} : ∀ {l : List (Int × MK)}, p ∈ putM k v l → p = (k, v) ∨ p ∈ l
 | [], h => .inl (by simpa [putM] using h)
 | q :: l, h => by
  rw [putM] at h
  by_cases e : k = q.1
  ·rw [if_pos e] at h
   rcases List.mem_cons.1 h with h | h
   ·exact .inl h
   ·exact .inr (List.mem_cons_of_mem _ h)
  ·rw [if_neg e] at h
   rcases List.mem_cons.1 h with h | h
   ·exact .inr (by rw [h]; exact List.mem_cons_self ..)
   ·rcases putM_mem h with h | h
    ·exact .inl h
    ·exact .inr (List.mem_cons_of_mem _ h)
theorem putM_nd {k : Int} {v : MK} : ∀ {l : List (Int × MK)}, (l.map (·.1)).Nodup → ((putM k v l).map (·.1)).Nodup
 | [], _ => by simp [putM]
 | q :: l, h => by
  rw [List.map_cons, List.nodup_cons] at h
  rw [putM]
  by_cases e : k = q.1
  ·rw [if_pos e, List.map_cons, List.nodup_cons]; exact ⟨by simpa [e] using h.1, h.2⟩
  ·rw [if_neg e, List.map_cons, List.nodup_cons]
   refine ⟨fun hm => ?_, putM_nd h.2⟩
   obtain ⟨p, h1, h2⟩ := List.mem_map.1 hm
   rcases putM_mem h1 with rfl | h1
   ·exact e h2
   ·exact h.1 (List.mem_map.2 ⟨p, h1, h2⟩)
theorem okM_nil (n : Nat) : okM n [] := ⟨List.nodup_nil, fun p h => absurd h List.not_mem_nil⟩
theorem posM_nil : posM [] := fun k => ⟨fun h => (by cases h), fun h => absurd (show (0 : Int) < 0 from h) (by decide)⟩
theorem addM_ok {n : Nat} {l : List (Int × MK)} (ho : okM n l) (hp : posM l) (k e : Int) (d t : List Int) : okM n (addM n l k e d t).2 ∧ posM (addM n l k e d t).2 := by
 rw [addM]
 split
 ·exact ⟨ho, hp⟩
 rename_i h
 split
 ·split <;> exact ⟨ho, hp⟩
 split
 ·exact ⟨ho, hp⟩
 refine ⟨⟨putM_nd ho.1, fun p hm => ?_⟩, fun j => ?_⟩
 ·rcases putM_mem hm with rfl | hm
  ·simp only; omega
  ·exact ho.2 p hm
 ·rw [getM_put, ofM_put]
  by_cases hj : j = k
  ·rw [if_pos hj, if_pos hj]; exact ⟨fun _ => by simp only; omega, fun _ => rfl⟩
  ·rw [if_neg hj, if_neg hj]; exact hp j
theorem acc_ok (n : Nat) (f : Nat → SAct) : ∀ k, okM n (accA n f k) ∧ posM (accA n f k)
 | 0 => ⟨okM_nil n, posM_nil⟩
 | k + 1 => by
  obtain ⟨h1, h2⟩ := acc_ok n f k
  exact addM_ok h1 h2 _ _ _ _
theorem ofM_out {n : Nat} {l : List (Int × MK)} (ho : okM n l) {k : Int} (h : k < 0 ∨ (n : Int) ≤ k) : ofM l k = zM := by
 rw [ofM]
 cases hg : getM k l with
 | none => rfl
 | some v =>
  obtain ⟨p, h1, h2⟩ := getM_mem2 (k := k) (l := l) (by rw [hg]; rfl)
  have := ho.2 p h1
  omega
theorem T_rsYA {n : Nat} (hn : n ≤ 64) {l : List (Int × MK)} (hp : posM l) {e : Int} {d : List Int} {need : Int} (h : sgsM n l e d need = true) {a : Nat} (ha : [Nm.o 2, Nm.o 3, Nm.o 4, Nm.o 5, Nm.o a].Nodup) : T Try.prog 37 [mP 2, .int .i64 e, dgV d, .int .i64 need] (rH n l) (sgL a (selS l e d need n)) (rH n l ++ [(.o a, sbL (selS l e d need n))]) := by
 obtain ⟨σ, hσ, h1⟩ := T.at (T_rsY hn hp h) [.o 2, .o 3, .o 4, .o 5, .o 7] [.o 2, .o 3, .o 4, .o 5, .o a] (by decide) ha rfl
 simp only [List.map_cons, List.map_nil, List.cons.injEq, and_true] at hσ
 simpa [V.rens, V.ren, Heap.ren, B.ren, mP, rH, rfB, dgV, sgL, sgs, sbL, sgB, hσ.1, hσ.2.1, hσ.2.2.1, hσ.2.2.2.1, hσ.2.2.2.2] using h1
theorem T_saL (L : List SSign) (hL : L.length ≤ 1000000) : T Try.prog 26 [sgL 2694 L, sgL 3142 L] [(.o 2694, sbL L), (.o 3142, sbL L)] (.bool true) [(.o 2694, sbL L), (.o 3142, sbL L)] := by
 refine T.lend (T_sa (siF L) hL) rfl ?_
 simp only [All, All_append, pcPj_c]; and_intros
 all_goals first
  | exact True.intro
  | (intro k hk; rw [Nat.zero_add]; rfl)
  | (with_reducible assumption)
  | (rw [decide_eq_true_eq]; omega)
  | (rw [decide_eq_false_iff_not]; omega)
  | with_reducible rfl
  | (intro _ _; exact True.intro)
  | (intro _ _; with_reducible rfl)
  | (intro _ _; rfl)
  | (simp only [IntKind.min, IntKind.max, IntKind.signed, IntKind.bits, if_true]; omega)
  | omega
  | (intro h; exact h)
  | (intro h; cases h; done)
  | exact .inl rfl
  | exact .inl True.intro
  | exact .inr rfl
  | (simp; done)
theorem T_sa0 : T Try.prog 26 [.snil, .snil] [] (.bool true) [] := by
 refine T.lend (T_sa (siF []) (Nat.zero_le _)) rfl ?_
 simp only [All, All_append, pcPj_c]; and_intros
 all_goals first
  | exact True.intro
  | (with_reducible assumption)
  | (rw [decide_eq_true_eq]; omega)
  | (rw [decide_eq_false_iff_not]; omega)
  | with_reducible rfl
  | (intro _ _; exact True.intro)
  | (intro _ _; with_reducible rfl)
  | (intro _ _; rfl)
  | (simp only [IntKind.min, IntKind.max, IntKind.signed, IntKind.bits, if_true]; omega)
  | omega
  | (intro h; exact h)
  | (intro h; cases h; done)
  | exact .inl rfl
  | exact .inl True.intro
  | exact .inr rfl
  | (simp; done)
theorem plJL (n m : Nat) (f : Nat → SAct) (need : Int) (hn : n ≤ 64) {l : List (Int × MK)} (ho : okM n l) (k : Nat) :
  RLoop Try.prog none 0 (cB (cB (cR (cR (cR (cB (cL (cR (cR plC))))))))) (n + 3) (plJ n m f need l k 0) (.exit 2) (plJ n m f need l k (n + 2)) := by
 have hstep : ∀ j, j < n + 2 → R Try.prog none 0 (cB (cB (cR (cR (cR (cB (cL (cR (cR plC))))))))) (plJ n m f need l k j) .normal (plJ n m f need l k (j + 1)) := by
  intro j hj
  have hO := T_ofA n l ((j : Int) - 1) (m := 0) (q := 1) (by decide)
  by_cases c1 : (j : Int) - 1 < 0
  ·rw [ofM_out ho (.inl c1)] at hO
   refine R_alongPc NG MO _ (pcPj_p11100 n m f need l k j 0 (List.replicate 32 0)) ?_ (Nat.zero_le _)
   simp only [All, All_append, pcPj_c]; and_intros
   all_goals first
    | exact True.intro
    | exact hO
    | (unfold z32; rfl)
    | (with_reducible assumption)
    | (rw [decide_eq_true_eq]; omega)
    | (rw [decide_eq_false_iff_not]; omega)
    | with_reducible rfl
    | (intro _ _; exact True.intro)
    | (intro _ _; with_reducible rfl)
    | (intro _ _; rfl)
    | (simp only [IntKind.min, IntKind.max, IntKind.signed, IntKind.bits, if_true]; omega)
    | omega
    | (intro h; exact h)
    | (intro h; cases h; done)
    | exact .inl rfl
    | exact .inl True.intro
    | exact .inr rfl
    | (simp; done)
  ·by_cases c2 : (n : Int) ≤ (j : Int) - 1
   ·rw [ofM_out ho (.inr c2)] at hO
    refine R_alongPc NG MO _ (pcPj_p10100 n m f need l k j 0 (List.replicate 32 0)) ?_ (Nat.zero_le _)
    simp only [All, All_append, pcPj_c]; and_intros
    all_goals first
     | exact True.intro
     | exact hO
     | (unfold z32; rfl)
     | (with_reducible assumption)
     | (rw [decide_eq_true_eq]; omega)
     | (rw [decide_eq_false_iff_not]; omega)
     | with_reducible rfl
     | (intro _ _; exact True.intro)
     | (intro _ _; with_reducible rfl)
     | (intro _ _; rfl)
     | (simp only [IntKind.min, IntKind.max, IntKind.signed, IntKind.bits, if_true]; omega)
     | omega
     | (intro h; exact h)
     | (intro h; cases h; done)
     | exact .inl rfl
     | exact .inl True.intro
     | exact .inr rfl
     | (simp; done)
   ·have e0 : ((0 + Int.toNat ((j : Int) - 1) : Nat) : Int) = (j : Int) - 1 := by omega
    refine R_alongPc NG MO _ (pcPj_p10000 n m f need l k j (ofM l ((j : Int) - 1)).1 (ofM l ((j : Int) - 1)).2.1) ?_ (Nat.zero_le _)
    simp only [All, All_append, pcPj_c, e0]; and_intros
    all_goals first
     | exact True.intro
     | exact hO
     | (with_reducible assumption)
     | (rw [decide_eq_true_eq]; omega)
     | (rw [decide_eq_false_iff_not]; omega)
     | with_reducible rfl
     | (intro _ _; exact True.intro)
     | (intro _ _; with_reducible rfl)
     | (intro _ _; rfl)
     | (simp only [IntKind.min, IntKind.max, IntKind.signed, IntKind.bits, if_true]; omega)
     | omega
     | (intro h; exact h)
     | (intro h; cases h; done)
     | exact .inl rfl
     | exact .inl True.intro
     | exact .inr rfl
     | (simp; done)
 have hend : R Try.prog none 0 (cB (cB (cR (cR (cR (cB (cL (cR (cR plC))))))))) (plJ n m f need l k (n + 2)) (.exit 2) (plJ n m f need l k (n + 2)) := by
  refine R_alongPc NG MO _ (pcPj_p0 n m f need l k (n + 2) 0 []) ?_ (Nat.zero_le _)
  simp only [All, All_append, pcPj_c]; and_intros
  all_goals first
   | exact True.intro
   | (with_reducible assumption)
   | (rw [decide_eq_true_eq]; omega)
   | (rw [decide_eq_false_iff_not]; omega)
   | with_reducible rfl
   | (intro _ _; exact True.intro)
   | (intro _ _; with_reducible rfl)
   | (intro _ _; rfl)
   | (simp only [IntKind.min, IntKind.max, IntKind.signed, IntKind.bits, if_true]; omega)
   | omega
   | (intro h; exact h)
   | (intro h; cases h; done)
   | exact .inl rfl
   | exact .inl True.intro
   | exact .inr rfl
   | (simp; done)
 exact RLoop.inv (fun j => plJ n m f need l k j) (n + 2) hstep hend (by simp)
theorem plL (n m : Nat) (f : Nat → SAct) (need : Int) (hn : n ≤ 64) (hm : m ≤ 200) :
  RLoop Try.prog none 0 plC (m + 1) (plI n m f need [] 0) (.exit 0) (plI n m f need (accA n f m) m) := by
 have hstep : ∀ k, k < m → R Try.prog none 0 plC (plI n m f need (accA n f k) k) .normal (plI n m f need (accA n f (k + 1)) (k + 1)) := by
  intro k hk
  obtain ⟨ho, hp⟩ := acc_ok n f k
  obtain ⟨ho2, hp2⟩ := acc_ok n f (k + 1)
  have h1 := T_amA n (accA n f k) (f k).node (f k).epoch (f k).d (f k).tag (m := 0) (q := 1) (by decide)
  have h2 := T_rk n (accA n f k) (f k).node (f k).epoch (f k).d (f k).tag
  have h3 := T_laA hn ho2 need (m := 0) (q := 1) (by decide)
  have h4 := T_re hn (accA n f (k + 1)) need
  have hJ := plJL n m f need hn ho2 k
  have hlen := selS_len (accA n f (k + 1)) (f k).epoch (f k).d need n
  cases hs : sgsM n (accA n f (k + 1)) (f k).epoch (f k).d need with
  | true =>
   have h5 := T_sgYA hn hs (m := 0) (q := 1) (a := 2694) (by decide)
   have h6 := T_rsYA hn hp2 hs (a := 3142) (by decide)
   have h7 := T_saL (selS (accA n f (k + 1)) (f k).epoch (f k).d need n) (by omega)
   refine R_alongPc NG MO _ (pcPy_p1000 n m f need (accA n f k) (accA n f (k + 1)) k (addM n (accA n f k) (f k).node (f k).epoch (f k).d (f k).tag).1 (nthV (epM n (accA n f (k + 1))) need) (selS (accA n f (k + 1)) (f k).epoch (f k).d need n)) ?_ (Nat.zero_le _)
   simp only [All, All_append, pcPj_c, Int.toNat_natCast]; and_intros
   all_goals first
    | exact True.intro
    | exact h1
    | exact h2
    | exact h3
    | exact h4
    | exact h5
    | exact h6
    | exact h7
    | exact hJ
    | (with_reducible assumption)
    | (rw [decide_eq_true_eq]; omega)
    | (rw [decide_eq_false_iff_not]; omega)
    | with_reducible rfl
    | (intro _ _; exact True.intro)
    | (intro _ _; with_reducible rfl)
    | (intro _ _; rfl)
    | (simp only [IntKind.min, IntKind.max, IntKind.signed, IntKind.bits, if_true]; omega)
    | omega
    | (intro h; exact h)
    | (intro h; cases h; done)
    | exact .inl rfl
    | exact .inl True.intro
    | exact .inr rfl
    | (simp; done)
  | false =>
   have h5 := T_sgNA hn hs (m := 0) (q := 1) (by decide)
   have h6 := T_rsN hn hp2 hs
   have h7 := T_sa0
   refine R_alongPc NG MO _ (pcPn_p1000 n m f need (accA n f k) (accA n f (k + 1)) k (addM n (accA n f k) (f k).node (f k).epoch (f k).d (f k).tag).1 (nthV (epM n (accA n f (k + 1))) need)) ?_ (Nat.zero_le _)
   simp only [All, All_append, pcPj_c, Int.toNat_natCast]; and_intros
   all_goals first
    | exact True.intro
    | exact h1
    | exact h2
    | exact h3
    | exact h4
    | exact h5
    | exact h6
    | exact h7
    | exact hJ
    | (with_reducible assumption)
    | (rw [decide_eq_true_eq]; omega)
    | (rw [decide_eq_false_iff_not]; omega)
    | with_reducible rfl
    | (intro _ _; exact True.intro)
    | (intro _ _; with_reducible rfl)
    | (intro _ _; rfl)
    | (simp only [IntKind.min, IntKind.max, IntKind.signed, IntKind.bits, if_true]; omega)
    | omega
    | (intro h; exact h)
    | (intro h; cases h; done)
    | exact .inl rfl
    | exact .inl True.intro
    | exact .inr rfl
    | (simp; done)
 have hend : R Try.prog none 0 plC (plI n m f need (accA n f m) m) (.exit 0) (plI n m f need (accA n f m) m) := by
  refine R_alongPc NG MO _ (pcPy_p0 n m f need (accA n f m) [] m 0 0 []) ?_ (Nat.zero_le _)
  simp only [All, All_append, pcPj_c]; and_intros
  all_goals first
   | exact True.intro
   | (with_reducible assumption)
   | (rw [decide_eq_true_eq]; omega)
   | (rw [decide_eq_false_iff_not]; omega)
   | with_reducible rfl
   | (intro _ _; exact True.intro)
   | (intro _ _; with_reducible rfl)
   | (intro _ _; rfl)
   | (simp only [IntKind.min, IntKind.max, IntKind.signed, IntKind.bits, if_true]; omega)
   | omega
   | (intro h; exact h)
   | (intro h; cases h; done)
   | exact .inl rfl
   | exact .inl True.intro
   | exact .inr rfl
   | (simp; done)
 exact RLoop.inv (fun k => plI n m f need (accA n f k) k) m hstep hend (by simp)
theorem T_nwB {n : Int} (h : goodN n = true) : T Try.prog 29 [.int .i64 n] [] (mP 128) (mH 128 129 n []) := T_nwA h (by decide)
theorem T_rwB {n : Nat} (h : goodN (n : Nat) = true) : T Try.prog 33 [.int .i64 (n : Nat)] [] (.ptr (.o 256) 0 0 0 0) [(.o 256, .flat [.int .i64 (n : Nat), .sl (.o 257) 1 0 0 0 n (some n), .sl (.o 258) 32 0 0 0 n (some n), .sl (.o 259) 16 0 0 0 n (some n)]), (.o 257, .rows 1 n (eR []) false), (.o 258, .rows 32 n (dR []) false), (.o 259, .rows 16 n (tR []) false)] := by
 obtain ⟨σ, hσ, h1⟩ := T.at (T_rw h) [.o 768, .o 384, .o 512, .o 640] [.o 256, .o 257, .o 258, .o 259] (by decide) (by decide) rfl
 simp only [List.map_cons, List.map_nil, List.cons.injEq, and_true] at hσ
 simpa [V.rens, V.ren, Heap.ren, B.ren, hσ.1, hσ.2.1, hσ.2.2.1, hσ.2.2.2] using h1
theorem T_pl (n : Int) (m : Nat) (f : Nat → SAct) (need : Int) : T Try.prog 8 [.int .i64 n, ac m f, .int .i64 need] [] (.bool true) [] := by
 have h9 := T_lv3
 cases hg : goodN n with
 | false =>
  have h1 := T_nwN hg
  have h2 := T_rwN hg
  refine T_al (bdP0_p011 n m f need) Try.func8 ?_
  simp only [All, All_append, pcPj_c]; and_intros
  all_goals first
   | exact True.intro
   | exact h1
   | exact h2
   | exact h9
   | (with_reducible assumption)
   | (rw [decide_eq_true_eq]; omega)
   | (rw [decide_eq_false_iff_not]; omega)
   | with_reducible rfl
   | (intro _ _; exact True.intro)
   | (intro _ _; with_reducible rfl)
   | (intro _ _; rfl)
   | (simp only [IntKind.min, IntKind.max, IntKind.signed, IntKind.bits, if_true]; omega)
   | omega
   | (intro h; exact h)
   | (intro h; cases h; done)
   | exact .inl rfl
   | exact .inl True.intro
   | exact .inr rfl
   | (simp; done)
 | true =>
  have hn : 4 ≤ n ∧ n ≤ 64 := by
   rw [goodN, Bool.and_eq_true, Bool.and_eq_true, decide_eq_true_eq, decide_eq_true_eq] at hg
   exact ⟨hg.1, hg.2.1⟩
  obtain ⟨N, rfl⟩ : ∃ N : Nat, n = N := ⟨n.toNat, by omega⟩
  have h1 := T_nwB hg
  have h2 := T_rwB hg
  by_cases hm : 200 < m
  ·refine T_al (bdPl_p001 N m f need [] []) Try.func8 ?_
   simp only [All, All_append, pcPj_c]; and_intros
   all_goals first
    | exact True.intro
    | exact h1
    | exact h2
    | exact h9
    | (with_reducible assumption)
    | (rw [decide_eq_true_eq]; omega)
    | (rw [decide_eq_false_iff_not]; omega)
    | with_reducible rfl
    | (intro _ _; exact True.intro)
    | (intro _ _; with_reducible rfl)
    | (intro _ _; rfl)
    | (simp only [IntKind.min, IntKind.max, IntKind.signed, IntKind.bits, if_true]; omega)
    | omega
    | (intro h; exact h)
    | (intro h; cases h; done)
    | exact .inl rfl
    | exact .inl True.intro
    | exact .inr rfl
    | (simp; done)
  ·have hL := plL N m f need (by omega) (by omega)
   refine T_al (bdPl_p000 N m f need [] (accA N f m)) Try.func8 ?_
   simp only [All, All_append, pcPj_c]; and_intros
   all_goals first
    | exact True.intro
    | exact h1
    | exact h2
    | exact h9
    | exact hL
    | (with_reducible assumption)
    | (rw [decide_eq_true_eq]; omega)
    | (rw [decide_eq_false_iff_not]; omega)
    | with_reducible rfl
    | (intro _ _; exact True.intro)
    | (intro _ _; with_reducible rfl)
    | (intro _ _; rfl)
    | (simp only [IntKind.min, IntKind.max, IntKind.signed, IntKind.bits, if_true]; omega)
    | omega
    | (intro h; exact h)
    | (intro h; cases h; done)
    | exact .inl rfl
    | exact .inl True.intro
    | exact .inr rfl
    | (simp; done)
end Go.Proofs.Ytpallipnhmoipaa
namespace Go.Proofs.Ytpallipnhmoipaa
open Go Sy Go.Proofs
def nU (f : Int) : Int := 4 + 3 * (IntKind.wrap .u64 f % 21)
def moH (n m : Nat) (f : Nat → SAct) (nd : Int) (l : List (Int × MK)) : Heap := mH 0 1 n l
def moI (n m : Nat) (f : Nat → SAct) (nd : Int) (l : List (Int × MK)) (k : Nat) : St := ⟨mkT 113 [(1, ac m f), (7, .int .i64 (n : Nat)), (8, .int .i64 nd), (9, mP 0), (47, ac m f), (48, .int .i64 (m : Nat)), (49, .int .i64 (k : Nat))], mH 0 1 n l, 2, []⟩
def moJ (n m : Nat) (f : Nat → SAct) (nd : Int) (l : List (Int × MK)) (i : Nat) : St := ⟨mkT 113 [(1, ac m f), (7, .int .i64 (n : Nat)), (8, .int .i64 nd), (9, mP 0), (64, ac m f), (65, .int .i64 (m : Nat)), (66, .int .i64 (i : Nat))], mH 0 1 n l, 2, []⟩
def moK (n m : Nat) (f : Nat → SAct) (nd : Int) (l : List (Int × MK)) (i j : Nat) : St := ⟨mkT 113 [(1, ac m f), (7, .int .i64 (n : Nat)), (8, .int .i64 nd), (9, mP 0), (13, .ptr (.o 2) 0 0 0 0), (64, ac m f), (65, .int .i64 (m : Nat)), (66, .int .i64 (i : Nat)), (70, ac m f), (71, .int .i64 (m : Nat)), (72, .int .i64 (j : Nat))], mH 0 1 n l ++ [(.o 2, .flat (f i).c)], 3, []⟩
def moW (t : St) : List (Nm × Nm) := [(.o 0, nmV (getV t.tmps 9)), (.o 1, mapOf (nmV (getV t.tmps 9)) t.heap)]
noncomputable def moDb (f : Int) (l0 : List (Int × MK)) (b : Bool) : Nat → List V → Heap → Nat → List Cl := dbQ [
 (29, fun _ _ lo => [{ val := .ptr (.o lo) 0 0 0 0, post := hM (.o lo) (.o (lo + 1)) (nU f) l0 }]),
 (30, cVal (.bool b))]
noncomputable def bdMz (f more : Int) (n m : Nat) (a : Nat → SAct) (nd : Int) (l0 l : List (Int × MK)) : Bd := { f := Try.f7, args := [.int .i64 f, ac m a, .int .i64 more], kb := { db := moDb f l0 true, lp := fun id t => bif Nat.beq id 0 then [(True, .loop (m + 1) (wToS (moW t) (moI n m a nd l0 0)) (.exit 0) (moI n m a nd l m))] else [(True, .loop (m + 1) (wTo (moJ n m a nd l 0)) (.exit 2) (moJ n m a nd l m))] } }
noncomputable def pcMi (n m : Nat) (f : Nat → SAct) (nd : Int) (l l2 : List (Int × MK)) (k : Nat) (r : Int) : Pc := { c := cB (cB (cR (cL (cR (cR (cR (cR (cR (bodyOf Try.f7))))))))), st := moI n m f nd l k, kb := { db := dbQ [(31, fun _ _ _ => [{ pre := [.o 0, .o 1], val := .int .i64 r, post := mH 0 1 n l2 }])] }, k := fun x_ _ => match x_ with
 | .normal => some (wTo (moI n m f nd l2 (k + 1)))
 | _ => some (wTo (moI n m f nd l m)) }
noncomputable def moC : Code := cB (cB (cR (cL (cR (cR (cR (cR (cR (cR (bodyOf Try.f7))))))))))
noncomputable def pcMj (n m : Nat) (f : Nat → SAct) (nd : Int) (l : List (Int × MK)) (i : Nat) : Pc := { c := moC, st := moJ n m f nd l i, kb := { db := fun _ _ _ _ => [], lp := fun _ t => [(True, .loop (m + 1) (wToS [(.o 2, nmV (getV t.tmps 13))] (moK n m f nd l i 0)) (.exit 4) (moK n m f nd l i m))] }, k := fun x_ _ => match x_ with
 | .normal => some (wTo (moJ n m f nd l (i + 1)))
 | _ => some (wTo (moJ n m f nd l m)) }
noncomputable def mkDb (n : Nat) (l : List (Int × MK)) (y1 y2 : Bool) (L1 L2 : List SSign) : Nat → List V → Heap → Nat → List Cl := dbQ [(32, fun _ _ lo => bif Nat.ble lo 1800 then sgCl [.o 0, .o 1] (mH 0 1 n l) L1 lo y1 else sgCl [.o 0, .o 1] (mH 0 1 n l) L2 lo y2)]
noncomputable def moD : Code := cB (cB (cR (cR (cB (cL (cR (cR moC)))))))
noncomputable def pcMk (n m : Nat) (f : Nat → SAct) (nd : Int) (l : List (Int × MK)) (i j : Nat) : Pc := { c := moD, st := moK n m f nd l i j, kb := { db := mkDb n l false false [] [] }, k := fun x_ _ => match x_ with
 | .normal => some (wTo (moK n m f nd l i (j + 1)))
 | _ => some (wTo (moK n m f nd l i m)) }
noncomputable def pcMy (n m : Nat) (f : Nat → SAct) (nd : Int) (l : List (Int × MK)) (i j : Nat) (L : List SSign) : Pc := { c := moD, st := moK n m f nd l i j, kb := { db := mkDb n l true false L [] }, k := fun x_ _ => match x_ with
 | .normal => some (wTo (moK n m f nd l i (j + 1)))
 | _ => some (wTo (moK n m f nd l i m)) }
end Go.Proofs.Ytpallipnhmoipaa
namespace Go.Proofs.Ytpallipnhmoipaa
open Go Sy Go.Proofs
noncomputable def bdMz_c (f : Int) (more : Int) (n : Nat) (m : Nat) (a : Nat → SAct) (nd : Int) (l0 : List (Int × MK)) (l : List (Int × MK)) : Nat → List Prop
 | 0 => [(0 : Int) ≤ IntKind.wrap IntKind.u64 f ∧ (0 : Int) < (21 : Int), InR IntKind.i64 (IntKind.wrap IntKind.u64 f % (21 : Int)), InR IntKind.i64 ((3 : Int) * (IntKind.wrap IntKind.u64 f % (21 : Int))), InR IntKind.i64 ((4 : Int) + (3 : Int) * (IntKind.wrap IntKind.u64 f % (21 : Int))), (0 : Int) ≤ (4 : Int) + (3 : Int) * (IntKind.wrap IntKind.u64 f % (21 : Int)) ∧ (0 : Int) < (2 : Int) ∧ InR IntKind.i64 (((4 : Int) + (3 : Int) * (IntKind.wrap IntKind.u64 f % (21 : Int))) / (2 : Int)), InR IntKind.i64 (((4 : Int) + (3 : Int) * (IntKind.wrap IntKind.u64 f % (21 : Int))) / (2 : Int) + (1 : Int)), (0 : Int) ≤ (4 : Int) + (3 : Int) * (IntKind.wrap IntKind.u64 f % (21 : Int)) ∧ (0 : Int) < (2 : Int) ∧ InR IntKind.i64 (((4 : Int) + (3 : Int) * (IntKind.wrap IntKind.u64 f % (21 : Int))) / (2 : Int)), (0 : Int) ≤ IntKind.wrap IntKind.u64 more ∧ (0 : Int) < IntKind.wrap IntKind.u64 (((4 : Int) + (3 : Int) * (IntKind.wrap IntKind.u64 f % (21 : Int))) / (2 : Int)), InR IntKind.i64 (IntKind.wrap IntKind.u64 more % IntKind.wrap IntKind.u64 (((4 : Int) + (3 : Int) * (IntKind.wrap IntKind.u64 f % (21 : Int))) / (2 : Int))), InR IntKind.i64 (((4 : Int) + (3 : Int) * (IntKind.wrap IntKind.u64 f % (21 : Int))) / (2 : Int) + (1 : Int) + IntKind.wrap IntKind.u64 more % IntKind.wrap IntKind.u64 (((4 : Int) + (3 : Int) * (IntKind.wrap IntKind.u64 f % (21 : Int))) / (2 : Int))), T Try.prog 29 [.int .i64 ((4 : Int) + (3 : Int) * (IntKind.wrap .u64 f % (21 : Int)))] [] (.ptr (.o 1344) 0 0 0 0) [(.o 1344, .flat [.int .i64 (nU f), .mp (.o 1345)]), (.o 1345, .map (entsF 0 (mkL l0)) (List.length (mkL l0)))], q false]
 | _ => []
theorem bdMz_p011 (f : Int) (more : Int) (n : Nat) (m : Nat) (a : Nat → SAct) (nd : Int) (l0 : List (Int × MK)) (l : List (Int × MK)) :
 along Try.prog (bdMz f more n m a nd l0 l) [false, true, true] = (some (.bool true, [], bdMz_c f more n m a nd l0 l 0 ++ [decide ((200 : Int) < (↑m : Int)) = true, q2, T Try.prog 30 [] [] (.bool true) []]) : Option (V × Heap × List Prop)) := by kernel_rfl

theorem bdMz_p00 (f : Int) (more : Int) (n : Nat) (m : Nat) (a : Nat → SAct) (nd : Int) (l0 : List (Int × MK)) (l : List (Int × MK)) :
 along Try.prog (bdMz f more n m a nd l0 l) [false, false] = (some (.bool true, [], bdMz_c f more n m a nd l0 l 0 ++ [decide ((200 : Int) < (↑m : Int)) = false, RLoop Try.prog none 0 (cB (cB (cR (cL (cR (cR (cR (cR (cR (bodyOf (Bd.f (bdMz f more n m a nd l0 l)))))))))))) (m + 1) (St.mk [.any, .ros 50 m (fun i => [.int .i64 (SAct.node (a i)), .int .i64 (SAct.epoch (a i)), .seg .u8 32 (SAct.d (a i)), .seg .u8 16 (SAct.tag (a i))]) false, .any, .any, .any, .any, .any, .int .i64 ↑n, .int .i64 nd, .ptr (.o 0) 0 0 0 0, .any, .any, .any, .any, .any, .any, .any, .any, .any, .any, .any, .any, .any, .any, .any, .any, .any, .any, .any, .any, .any, .any, .any, .any, .any, .any, .any, .any, .any, .any, .any, .any, .any, .any, .any, .any, .any, .ros 50 m (fun i => [.int .i64 (SAct.node (a i)), .int .i64 (SAct.epoch (a i)), .seg .u8 32 (SAct.d (a i)), .seg .u8 16 (SAct.tag (a i))]) false, .int .i64 ↑m, .int .i64 0, .any, .any, .any, .any, .any, .any, .any, .any, .any, .any, .any, .any, .any, .any, .any, .any, .any, .any, .any, .any, .any, .any, .any, .any, .any, .any, .any, .any, .any, .any, .any, .any, .any, .any, .any, .any, .any, .any, .any, .any, .any, .any, .any, .any, .any, .any, .any, .any, .any, .any, .any, .any, .any, .any, .any, .any, .any, .any, .any, .any, .any, .any, .any] [(.o 0, .flat [.int .i64 ↑n, .mp (.o 1)]), (.o 1, .map (entsF 0 (mkL l0)) (List.length (mkL l0)))] 2 []) (.exit 0) (St.mk [.any, .ros 50 m (fun i => [.int .i64 (SAct.node (a i)), .int .i64 (SAct.epoch (a i)), .seg .u8 32 (SAct.d (a i)), .seg .u8 16 (SAct.tag (a i))]) false, .any, .any, .any, .any, .any, .int .i64 ↑n, .int .i64 nd, .ptr (.o 0) 0 0 0 0, .any, .any, .any, .any, .any, .any, .any, .any, .any, .any, .any, .any, .any, .any, .any, .any, .any, .any, .any, .any, .any, .any, .any, .any, .any, .any, .any, .any, .any, .any, .any, .any, .any, .any, .any, .any, .any, .ros 50 m (fun i => [.int .i64 (SAct.node (a i)), .int .i64 (SAct.epoch (a i)), .seg .u8 32 (SAct.d (a i)), .seg .u8 16 (SAct.tag (a i))]) false, .int .i64 ↑m, .int .i64 ↑m, .any, .any, .any, .any, .any, .any, .any, .any, .any, .any, .any, .any, .any, .any, .any, .any, .any, .any, .any, .any, .any, .any, .any, .any, .any, .any, .any, .any, .any, .any, .any, .any, .any, .any, .any, .any, .any, .any, .any, .any, .any, .any, .any, .any, .any, .any, .any, .any, .any, .any, .any, .any, .any, .any, .any, .any, .any, .any, .any, .any, .any, .any, .any] [(.o 0, .flat [.int .i64 ↑n, .mp (.o 1)]), (.o 1, .map (entsF 0 (mkL l)) (List.length (mkL l)))] 2 []), nU f = (↑n : Int), q (entsF (0 : Nat) (mkL l0)), q (List.length (mkL l0)), q m, ∀ (k : Nat), k < m → [V.int IntKind.i64 (SAct.node (a k)), V.int IntKind.i64 (SAct.epoch (a k)), V.seg IntKind.u8 (32 : Nat) (SAct.d (a k)), V.seg IntKind.u8 (16 : Nat) (SAct.tag (a k))] = [V.int IntKind.i64 (SAct.node (a k)), V.int IntKind.i64 (SAct.epoch (a k)), V.seg IntKind.u8 (32 : Nat) (SAct.d (a k)), V.seg IntKind.u8 (16 : Nat) (SAct.tag (a k))], false = true → false = true, (4 : Int) + (3 : Int) * (IntKind.wrap IntKind.u64 f % (21 : Int)) = (↑n : Int), ((4 : Int) + (3 : Int) * (IntKind.wrap IntKind.u64 f % (21 : Int))) / (2 : Int) + (1 : Int) + IntKind.wrap IntKind.u64 more % IntKind.wrap IntKind.u64 (((4 : Int) + (3 : Int) * (IntKind.wrap IntKind.u64 f % (21 : Int))) / (2 : Int)) = nd, q0, q0, q0, q m, ∀ (k : Nat), k < m → [V.int IntKind.i64 (SAct.node (a k)), V.int IntKind.i64 (SAct.epoch (a k)), V.seg IntKind.u8 (32 : Nat) (SAct.d (a k)), V.seg IntKind.u8 (16 : Nat) (SAct.tag (a k))] = [V.int IntKind.i64 (SAct.node (a k)), V.int IntKind.i64 (SAct.epoch (a k)), V.seg IntKind.u8 (32 : Nat) (SAct.d (a k)), V.seg IntKind.u8 (16 : Nat) (SAct.tag (a k))], false = true → false = true, q (↑m : Int), q1, RLoop Try.prog none 0 (cB (cB (cR (cL (cR (cR (cR (cR (cR (cR (bodyOf (Bd.f (bdMz f more n m a nd l0 l))))))))))))) (m + 1) (St.mk [.any, .ros 50 m (fun i => [.int .i64 (SAct.node (a i)), .int .i64 (SAct.epoch (a i)), .seg .u8 32 (SAct.d (a i)), .seg .u8 16 (SAct.tag (a i))]) false, .any, .any, .any, .any, .any, .int .i64 ↑n, .int .i64 nd, .ptr (.o 0) 0 0 0 0, .any, .any, .any, .any, .any, .any, .any, .any, .any, .any, .any, .any, .any, .any, .any, .any, .any, .any, .any, .any, .any, .any, .any, .any, .any, .any, .any, .any, .any, .any, .any, .any, .any, .any, .any, .any, .any, .any, .any, .any, .any, .any, .any, .any, .any, .any, .any, .any, .any, .any, .any, .any, .any, .any, .ros 50 m (fun i => [.int .i64 (SAct.node (a i)), .int .i64 (SAct.epoch (a i)), .seg .u8 32 (SAct.d (a i)), .seg .u8 16 (SAct.tag (a i))]) false, .int .i64 ↑m, .int .i64 0, .any, .any, .any, .any, .any, .any, .any, .any, .any, .any, .any, .any, .any, .any, .any, .any, .any, .any, .any, .any, .any, .any, .any, .any, .any, .any, .any, .any, .any, .any, .any, .any, .any, .any, .any, .any, .any, .any, .any, .any, .any, .any, .any, .any, .any, .any] [(.o 0, .flat [.int .i64 ↑n, .mp (.o 1)]), (.o 1, .map (entsF 0 (mkL l)) (List.length (mkL l)))] 2 []) (.exit 2) (St.mk [.any, .ros 50 m (fun i => [.int .i64 (SAct.node (a i)), .int .i64 (SAct.epoch (a i)), .seg .u8 32 (SAct.d (a i)), .seg .u8 16 (SAct.tag (a i))]) false, .any, .any, .any, .any, .any, .int .i64 ↑n, .int .i64 nd, .ptr (.o 0) 0 0 0 0, .any, .any, .any, .any, .any, .any, .any, .any, .any, .any, .any, .any, .any, .any, .any, .any, .any, .any, .any, .any, .any, .any, .any, .any, .any, .any, .any, .any, .any, .any, .any, .any, .any, .any, .any, .any, .any, .any, .any, .any, .any, .any, .any, .any, .any, .any, .any, .any, .any, .any, .any, .any, .any, .any, .ros 50 m (fun i => [.int .i64 (SAct.node (a i)), .int .i64 (SAct.epoch (a i)), .seg .u8 32 (SAct.d (a i)), .seg .u8 16 (SAct.tag (a i))]) false, .int .i64 ↑m, .int .i64 ↑m, .any, .any, .any, .any, .any, .any, .any, .any, .any, .any, .any, .any, .any, .any, .any, .any, .any, .any, .any, .any, .any, .any, .any, .any, .any, .any, .any, .any, .any, .any, .any, .any, .any, .any, .any, .any, .any, .any, .any, .any, .any, .any, .any, .any, .any, .any] [(.o 0, .flat [.int .i64 ↑n, .mp (.o 1)]), (.o 1, .map (entsF 0 (mkL l)) (List.length (mkL l)))] 2 []), q (↑n : Int), q (entsF (0 : Nat) (mkL l)), q (List.length (mkL l)), q m, ∀ (k : Nat), k < m → [V.int IntKind.i64 (SAct.node (a k)), V.int IntKind.i64 (SAct.epoch (a k)), V.seg IntKind.u8 (32 : Nat) (SAct.d (a k)), V.seg IntKind.u8 (16 : Nat) (SAct.tag (a k))] = [V.int IntKind.i64 (SAct.node (a k)), V.int IntKind.i64 (SAct.epoch (a k)), V.seg IntKind.u8 (32 : Nat) (SAct.d (a k)), V.seg IntKind.u8 (16 : Nat) (SAct.tag (a k))], false = true → false = true, q (↑n : Int), q nd, q0, q0, q0, q m, ∀ (k : Nat), k < m → [V.int IntKind.i64 (SAct.node (a k)), V.int IntKind.i64 (SAct.epoch (a k)), V.seg IntKind.u8 (32 : Nat) (SAct.d (a k)), V.seg IntKind.u8 (16 : Nat) (SAct.tag (a k))] = [V.int IntKind.i64 (SAct.node (a k)), V.int IntKind.i64 (SAct.epoch (a k)), V.seg IntKind.u8 (32 : Nat) (SAct.d (a k)), V.seg IntKind.u8 (16 : Nat) (SAct.tag (a k))], false = true → false = true, q (↑m : Int), q1, T Try.prog 30 [] [] (.bool true) []]) : Option (V × Heap × List Prop)) := by kernel_rfl

theorem pcMi_p1 (n : Nat) (m : Nat) (f : Nat → SAct) (nd : Int) (l : List (Int × MK)) (l2 : List (Int × MK)) (k : Nat) (r : Int) :
  alongPc Try.prog (pcMi n m f nd l l2 k r) [true] = (some (.normal, St.mk [.any, .ros 50 m (fun i => [.int .i64 (SAct.node (f i)), .int .i64 (SAct.epoch (f i)), .seg .u8 32 (SAct.d (f i)), .seg .u8 16 (SAct.tag (f i))]) false, .any, .any, .any, .any, .any, .int .i64 ↑n, .int .i64 nd, .ptr (.o 0) 0 0 0 0, .any, .any, .any, .any, .any, .any, .any, .any, .any, .any, .any, .any, .any, .any, .any, .any, .any, .any, .any, .any, .any, .any, .any, .any, .any, .any, .any, .any, .any, .any, .any, .any, .any, .any, .any, .any, .any, .ros 50 m (fun i => [.int .i64 (SAct.node (f i)), .int .i64 (SAct.epoch (f i)), .seg .u8 32 (SAct.d (f i)), .seg .u8 16 (SAct.tag (f i))]) false, .int .i64 ↑m, .int .i64 (↑(k + 1) : Int), .any, .any, .any, .any, .any, .any, .any, .any, .any, .any, .any, .any, .any, .any, .any, .any, .any, .any, .any, .any, .any, .any, .any, .any, .any, .any, .any, .any, .any, .any, .any, .any, .any, .any, .any, .any, .any, .any, .any, .any, .any, .any, .any, .any, .any, .any, .any, .any, .any, .any, .any, .any, .any, .any, .any, .any, .any, .any, .any, .any, .any, .any, .any] [(.o 0, .flat [.int .i64 ↑n, .mp (.o 1)]), (.o 1, .map (entsF 0 (mkL l2)) (List.length (mkL l2)))] 2 [], [decide ((↑k : Int) < (↑m : Int)) = true, (0 : Int) ≤ (↑k : Int) ∧ (↑k : Int) < (↑m : Int), T Try.prog 31 [.ptr (.o 0) 0 0 0 0, .int .i64 (SAct.node (f (Int.toNat (↑k : Int)))), .int .i64 (SAct.epoch (f (Int.toNat (↑k : Int)))), .agg [.seg .u8 32 (SAct.d (f (Int.toNat (↑k : Int))))], .agg [.seg .u8 16 (SAct.tag (f (Int.toNat (↑k : Int))))]] [(.o 0, .flat [.int .i64 ↑n, .mp (.o 1)]), (.o 1, .map (entsF 0 (mkL l)) (List.length (mkL l)))] (.int .i64 r) [(.o 0, .flat [.int .i64 ↑n, .mp (.o 1)]), (.o 1, .map (entsF 0 (mkL l2)) (List.length (mkL l2)))], InR IntKind.i64 ((↑k : Int) + (1 : Int)), q (↑n : Int), q (entsF (0 : Nat) (mkL l2)), q (List.length (mkL l2)), q m, ∀ (k : Nat), k < m → [V.int IntKind.i64 (SAct.node (f k)), V.int IntKind.i64 (SAct.epoch (f k)), V.seg IntKind.u8 (32 : Nat) (SAct.d (f k)), V.seg IntKind.u8 (16 : Nat) (SAct.tag (f k))] = [V.int IntKind.i64 (SAct.node (f k)), V.int IntKind.i64 (SAct.epoch (f k)), V.seg IntKind.u8 (32 : Nat) (SAct.d (f k)), V.seg IntKind.u8 (16 : Nat) (SAct.tag (f k))], false = true → false = true, q (↑n : Int), q nd, q0, q0, q0, q m, ∀ (k : Nat), k < m → [V.int IntKind.i64 (SAct.node (f k)), V.int IntKind.i64 (SAct.epoch (f k)), V.seg IntKind.u8 (32 : Nat) (SAct.d (f k)), V.seg IntKind.u8 (16 : Nat) (SAct.tag (f k))] = [V.int IntKind.i64 (SAct.node (f k)), V.int IntKind.i64 (SAct.epoch (f k)), V.seg IntKind.u8 (32 : Nat) (SAct.d (f k)), V.seg IntKind.u8 (16 : Nat) (SAct.tag (f k))], false = true → false = true, q (↑m : Int), (↑k : Int) + (1 : Int) = (↑(k + (1 : Nat)) : Int)]) : Option (Exit × St × List Prop)) := by kernel_rfl
theorem pcMi_p0 (n : Nat) (m : Nat) (f : Nat → SAct) (nd : Int) (l : List (Int × MK)) (l2 : List (Int × MK)) (k : Nat) (r : Int) :
  alongPc Try.prog (pcMi n m f nd l l2 k r) [false] = (some (.exit 0, St.mk [.any, .ros 50 m (fun i => [.int .i64 (SAct.node (f i)), .int .i64 (SAct.epoch (f i)), .seg .u8 32 (SAct.d (f i)), .seg .u8 16 (SAct.tag (f i))]) false, .any, .any, .any, .any, .any, .int .i64 ↑n, .int .i64 nd, .ptr (.o 0) 0 0 0 0, .any, .any, .any, .any, .any, .any, .any, .any, .any, .any, .any, .any, .any, .any, .any, .any, .any, .any, .any, .any, .any, .any, .any, .any, .any, .any, .any, .any, .any, .any, .any, .any, .any, .any, .any, .any, .any, .ros 50 m (fun i => [.int .i64 (SAct.node (f i)), .int .i64 (SAct.epoch (f i)), .seg .u8 32 (SAct.d (f i)), .seg .u8 16 (SAct.tag (f i))]) false, .int .i64 ↑m, .int .i64 ↑m, .any, .any, .any, .any, .any, .any, .any, .any, .any, .any, .any, .any, .any, .any, .any, .any, .any, .any, .any, .any, .any, .any, .any, .any, .any, .any, .any, .any, .any, .any, .any, .any, .any, .any, .any, .any, .any, .any, .any, .any, .any, .any, .any, .any, .any, .any, .any, .any, .any, .any, .any, .any, .any, .any, .any, .any, .any, .any, .any, .any, .any, .any, .any] [(.o 0, .flat [.int .i64 ↑n, .mp (.o 1)]), (.o 1, .map (entsF 0 (mkL l)) (List.length (mkL l)))] 2 [], [decide ((↑k : Int) < (↑m : Int)) = false, q (↑n : Int), q (entsF (0 : Nat) (mkL l)), q (List.length (mkL l)), q m, ∀ (k : Nat), k < m → [V.int IntKind.i64 (SAct.node (f k)), V.int IntKind.i64 (SAct.epoch (f k)), V.seg IntKind.u8 (32 : Nat) (SAct.d (f k)), V.seg IntKind.u8 (16 : Nat) (SAct.tag (f k))] = [V.int IntKind.i64 (SAct.node (f k)), V.int IntKind.i64 (SAct.epoch (f k)), V.seg IntKind.u8 (32 : Nat) (SAct.d (f k)), V.seg IntKind.u8 (16 : Nat) (SAct.tag (f k))], false = true → false = true, q (↑n : Int), q nd, q0, q0, q0, q m, ∀ (k : Nat), k < m → [V.int IntKind.i64 (SAct.node (f k)), V.int IntKind.i64 (SAct.epoch (f k)), V.seg IntKind.u8 (32 : Nat) (SAct.d (f k)), V.seg IntKind.u8 (16 : Nat) (SAct.tag (f k))] = [V.int IntKind.i64 (SAct.node (f k)), V.int IntKind.i64 (SAct.epoch (f k)), V.seg IntKind.u8 (32 : Nat) (SAct.d (f k)), V.seg IntKind.u8 (16 : Nat) (SAct.tag (f k))], false = true → false = true, q (↑m : Int), (↑k : Int) = (↑m : Int)]) : Option (Exit × St × List Prop)) := by kernel_rfl

theorem pcMj_p1 (n : Nat) (m : Nat) (f : Nat → SAct) (nd : Int) (l : List (Int × MK)) (i : Nat) :
  alongPc Try.prog (pcMj n m f nd l i) [true] = (some (.normal, St.mk [.any, .ros 50 m (fun i => [.int .i64 (SAct.node (f i)), .int .i64 (SAct.epoch (f i)), .seg .u8 32 (SAct.d (f i)), .seg .u8 16 (SAct.tag (f i))]) false, .any, .any, .any, .any, .any, .int .i64 ↑n, .int .i64 nd, .ptr (.o 0) 0 0 0 0, .any, .any, .any, .any, .any, .any, .any, .any, .any, .any, .any, .any, .any, .any, .any, .any, .any, .any, .any, .any, .any, .any, .any, .any, .any, .any, .any, .any, .any, .any, .any, .any, .any, .any, .any, .any, .any, .any, .any, .any, .any, .any, .any, .any, .any, .any, .any, .any, .any, .any, .any, .any, .any, .any, .ros 50 m (fun i => [.int .i64 (SAct.node (f i)), .int .i64 (SAct.epoch (f i)), .seg .u8 32 (SAct.d (f i)), .seg .u8 16 (SAct.tag (f i))]) false, .int .i64 ↑m, .int .i64 (↑(i + 1) : Int), .any, .any, .any, .any, .any, .any, .any, .any, .any, .any, .any, .any, .any, .any, .any, .any, .any, .any, .any, .any, .any, .any, .any, .any, .any, .any, .any, .any, .any, .any, .any, .any, .any, .any, .any, .any, .any, .any, .any, .any, .any, .any, .any, .any, .any, .any] [(.o 0, .flat [.int .i64 ↑n, .mp (.o 1)]), (.o 1, .map (entsF 0 (mkL l)) (List.length (mkL l)))] 2 [], [decide ((↑i : Int) < (↑m : Int)) = true, (0 : Int) ≤ (↑i : Int) ∧ (↑i : Int) < (↑m : Int), RLoop Try.prog none 0 (cB (cB (cR (cR (cB (cL (cR (cR (Pc.c (pcMj n m f nd l i)))))))))) (m + 1) (St.mk [.any, .ros 50 m (fun i => [.int .i64 (SAct.node (f i)), .int .i64 (SAct.epoch (f i)), .seg .u8 32 (SAct.d (f i)), .seg .u8 16 (SAct.tag (f i))]) false, .any, .any, .any, .any, .any, .int .i64 ↑n, .int .i64 nd, .ptr (.o 0) 0 0 0 0, .any, .any, .any, .ptr (.o 2) 0 0 0 0, .any, .any, .any, .any, .any, .any, .any, .any, .any, .any, .any, .any, .any, .any, .any, .any, .any, .any, .any, .any, .any, .any, .any, .any, .any, .any, .any, .any, .any, .any, .any, .any, .any, .any, .any, .any, .any, .any, .any, .any, .any, .any, .any, .any, .any, .any, .any, .any, .any, .any, .ros 50 m (fun i => [.int .i64 (SAct.node (f i)), .int .i64 (SAct.epoch (f i)), .seg .u8 32 (SAct.d (f i)), .seg .u8 16 (SAct.tag (f i))]) false, .int .i64 ↑m, .int .i64 ↑i, .any, .any, .any, .ros 50 m (fun i => [.int .i64 (SAct.node (f i)), .int .i64 (SAct.epoch (f i)), .seg .u8 32 (SAct.d (f i)), .seg .u8 16 (SAct.tag (f i))]) false, .int .i64 ↑m, .int .i64 0, .any, .any, .any, .any, .any, .any, .any, .any, .any, .any, .any, .any, .any, .any, .any, .any, .any, .any, .any, .any, .any, .any, .any, .any, .any, .any, .any, .any, .any, .any, .any, .any, .any, .any, .any, .any, .any, .any, .any, .any] [(.o 0, .flat [.int .i64 ↑n, .mp (.o 1)]), (.o 1, .map (entsF 0 (mkL l)) (List.length (mkL l))), (.o 2, .flat [.int .i64 (SAct.node (f i)), .int .i64 (SAct.epoch (f i)), .seg .u8 32 (SAct.d (f i)), .seg .u8 16 (SAct.tag (f i))])] 3 []) (.exit 4) (St.mk [.any, .ros 50 m (fun i => [.int .i64 (SAct.node (f i)), .int .i64 (SAct.epoch (f i)), .seg .u8 32 (SAct.d (f i)), .seg .u8 16 (SAct.tag (f i))]) false, .any, .any, .any, .any, .any, .int .i64 ↑n, .int .i64 nd, .ptr (.o 0) 0 0 0 0, .any, .any, .any, .ptr (.o 2) 0 0 0 0, .any, .any, .any, .any, .any, .any, .any, .any, .any, .any, .any, .any, .any, .any, .any, .any, .any, .any, .any, .any, .any, .any, .any, .any, .any, .any, .any, .any, .any, .any, .any, .any, .any, .any, .any, .any, .any, .any, .any, .any, .any, .any, .any, .any, .any, .any, .any, .any, .any, .any, .ros 50 m (fun i => [.int .i64 (SAct.node (f i)), .int .i64 (SAct.epoch (f i)), .seg .u8 32 (SAct.d (f i)), .seg .u8 16 (SAct.tag (f i))]) false, .int .i64 ↑m, .int .i64 ↑i, .any, .any, .any, .ros 50 m (fun i => [.int .i64 (SAct.node (f i)), .int .i64 (SAct.epoch (f i)), .seg .u8 32 (SAct.d (f i)), .seg .u8 16 (SAct.tag (f i))]) false, .int .i64 ↑m, .int .i64 ↑m, .any, .any, .any, .any, .any, .any, .any, .any, .any, .any, .any, .any, .any, .any, .any, .any, .any, .any, .any, .any, .any, .any, .any, .any, .any, .any, .any, .any, .any, .any, .any, .any, .any, .any, .any, .any, .any, .any, .any, .any] [(.o 0, .flat [.int .i64 ↑n, .mp (.o 1)]), (.o 1, .map (entsF 0 (mkL l)) (List.length (mkL l))), (.o 2, .flat [.int .i64 (SAct.node (f i)), .int .i64 (SAct.epoch (f i)), .seg .u8 32 (SAct.d (f i)), .seg .u8 16 (SAct.tag (f i))])] 3 []), q (↑n : Int), q (entsF (0 : Nat) (mkL l)), q (List.length (mkL l)), SAct.node (f (Int.toNat (↑i : Int))) = SAct.node (f i), SAct.epoch (f (Int.toNat (↑i : Int))) = SAct.epoch (f i), q (32 : Nat), SAct.d (f (Int.toNat (↑i : Int))) = SAct.d (f i), q (16 : Nat), SAct.tag (f (Int.toNat (↑i : Int))) = SAct.tag (f i), q m, ∀ (k : Nat), k < m → [V.int IntKind.i64 (SAct.node (f k)), V.int IntKind.i64 (SAct.epoch (f k)), V.seg IntKind.u8 (32 : Nat) (SAct.d (f k)), V.seg IntKind.u8 (16 : Nat) (SAct.tag (f k))] = [V.int IntKind.i64 (SAct.node (f k)), V.int IntKind.i64 (SAct.epoch (f k)), V.seg IntKind.u8 (32 : Nat) (SAct.d (f k)), V.seg IntKind.u8 (16 : Nat) (SAct.tag (f k))], false = true → false = true, q (↑n : Int), q nd, q0, q0, q0, q0, q0, q0, q m, ∀ (k : Nat), k < m → [V.int IntKind.i64 (SAct.node (f k)), V.int IntKind.i64 (SAct.epoch (f k)), V.seg IntKind.u8 (32 : Nat) (SAct.d (f k)), V.seg IntKind.u8 (16 : Nat) (SAct.tag (f k))] = [V.int IntKind.i64 (SAct.node (f k)), V.int IntKind.i64 (SAct.epoch (f k)), V.seg IntKind.u8 (32 : Nat) (SAct.d (f k)), V.seg IntKind.u8 (16 : Nat) (SAct.tag (f k))], false = true → false = true, q (↑m : Int), q (↑i : Int), q m, ∀ (k : Nat), k < m → [V.int IntKind.i64 (SAct.node (f k)), V.int IntKind.i64 (SAct.epoch (f k)), V.seg IntKind.u8 (32 : Nat) (SAct.d (f k)), V.seg IntKind.u8 (16 : Nat) (SAct.tag (f k))] = [V.int IntKind.i64 (SAct.node (f k)), V.int IntKind.i64 (SAct.epoch (f k)), V.seg IntKind.u8 (32 : Nat) (SAct.d (f k)), V.seg IntKind.u8 (16 : Nat) (SAct.tag (f k))], false = true → false = true, q (↑m : Int), q1, InR IntKind.i64 ((↑i : Int) + (1 : Int)), q (↑n : Int), q (entsF (0 : Nat) (mkL l)), q (List.length (mkL l)), q m, ∀ (k : Nat), k < m → [V.int IntKind.i64 (SAct.node (f k)), V.int IntKind.i64 (SAct.epoch (f k)), V.seg IntKind.u8 (32 : Nat) (SAct.d (f k)), V.seg IntKind.u8 (16 : Nat) (SAct.tag (f k))] = [V.int IntKind.i64 (SAct.node (f k)), V.int IntKind.i64 (SAct.epoch (f k)), V.seg IntKind.u8 (32 : Nat) (SAct.d (f k)), V.seg IntKind.u8 (16 : Nat) (SAct.tag (f k))], false = true → false = true, q (↑n : Int), q nd, q0, q0, q0, q m, ∀ (k : Nat), k < m → [V.int IntKind.i64 (SAct.node (f k)), V.int IntKind.i64 (SAct.epoch (f k)), V.seg IntKind.u8 (32 : Nat) (SAct.d (f k)), V.seg IntKind.u8 (16 : Nat) (SAct.tag (f k))] = [V.int IntKind.i64 (SAct.node (f k)), V.int IntKind.i64 (SAct.epoch (f k)), V.seg IntKind.u8 (32 : Nat) (SAct.d (f k)), V.seg IntKind.u8 (16 : Nat) (SAct.tag (f k))], false = true → false = true, q (↑m : Int), (↑i : Int) + (1 : Int) = (↑(i + (1 : Nat)) : Int)]) : Option (Exit × St × List Prop)) := by kernel_rfl
theorem pcMj_p0 (n : Nat) (m : Nat) (f : Nat → SAct) (nd : Int) (l : List (Int × MK)) (i : Nat) :
  alongPc Try.prog (pcMj n m f nd l i) [false] = (some (.exit 2, St.mk [.any, .ros 50 m (fun i => [.int .i64 (SAct.node (f i)), .int .i64 (SAct.epoch (f i)), .seg .u8 32 (SAct.d (f i)), .seg .u8 16 (SAct.tag (f i))]) false, .any, .any, .any, .any, .any, .int .i64 ↑n, .int .i64 nd, .ptr (.o 0) 0 0 0 0, .any, .any, .any, .any, .any, .any, .any, .any, .any, .any, .any, .any, .any, .any, .any, .any, .any, .any, .any, .any, .any, .any, .any, .any, .any, .any, .any, .any, .any, .any, .any, .any, .any, .any, .any, .any, .any, .any, .any, .any, .any, .any, .any, .any, .any, .any, .any, .any, .any, .any, .any, .any, .any, .any, .ros 50 m (fun i => [.int .i64 (SAct.node (f i)), .int .i64 (SAct.epoch (f i)), .seg .u8 32 (SAct.d (f i)), .seg .u8 16 (SAct.tag (f i))]) false, .int .i64 ↑m, .int .i64 ↑m, .any, .any, .any, .any, .any, .any, .any, .any, .any, .any, .any, .any, .any, .any, .any, .any, .any, .any, .any, .any, .any, .any, .any, .any, .any, .any, .any, .any, .any, .any, .any, .any, .any, .any, .any, .any, .any, .any, .any, .any, .any, .any, .any, .any, .any, .any] [(.o 0, .flat [.int .i64 ↑n, .mp (.o 1)]), (.o 1, .map (entsF 0 (mkL l)) (List.length (mkL l)))] 2 [], [decide ((↑i : Int) < (↑m : Int)) = false, q (↑n : Int), q (entsF (0 : Nat) (mkL l)), q (List.length (mkL l)), q m, ∀ (k : Nat), k < m → [V.int IntKind.i64 (SAct.node (f k)), V.int IntKind.i64 (SAct.epoch (f k)), V.seg IntKind.u8 (32 : Nat) (SAct.d (f k)), V.seg IntKind.u8 (16 : Nat) (SAct.tag (f k))] = [V.int IntKind.i64 (SAct.node (f k)), V.int IntKind.i64 (SAct.epoch (f k)), V.seg IntKind.u8 (32 : Nat) (SAct.d (f k)), V.seg IntKind.u8 (16 : Nat) (SAct.tag (f k))], false = true → false = true, q (↑n : Int), q nd, q0, q0, q0, q m, ∀ (k : Nat), k < m → [V.int IntKind.i64 (SAct.node (f k)), V.int IntKind.i64 (SAct.epoch (f k)), V.seg IntKind.u8 (32 : Nat) (SAct.d (f k)), V.seg IntKind.u8 (16 : Nat) (SAct.tag (f k))] = [V.int IntKind.i64 (SAct.node (f k)), V.int IntKind.i64 (SAct.epoch (f k)), V.seg IntKind.u8 (32 : Nat) (SAct.d (f k)), V.seg IntKind.u8 (16 : Nat) (SAct.tag (f k))], false = true → false = true, q (↑m : Int), (↑i : Int) = (↑m : Int)]) : Option (Exit × St × List Prop)) := by kernel_rfl

theorem pcMk_p11100 (n : Nat) (m : Nat) (f : Nat → SAct) (nd : Int) (l : List (Int × MK)) (i : Nat) (j : Nat) :
  alongPc Try.prog (pcMk n m f nd l i j) [true, true, true, false, false] = (some (.normal, St.mk [.any, .ros 50 m (fun i => [.int .i64 (SAct.node (f i)), .int .i64 (SAct.epoch (f i)), .seg .u8 32 (SAct.d (f i)), .seg .u8 16 (SAct.tag (f i))]) false, .any, .any, .any, .any, .any, .int .i64 ↑n, .int .i64 nd, .ptr (.o 0) 0 0 0 0, .any, .any, .any, .ptr (.o 2) 0 0 0 0, .any, .any, .any, .any, .any, .any, .any, .any, .any, .any, .any, .any, .any, .any, .any, .any, .any, .any, .any, .any, .any, .any, .any, .any, .any, .any, .any, .any, .any, .any, .any, .any, .any, .any, .any, .any, .any, .any, .any, .any, .any, .any, .any, .any, .any, .any, .any, .any, .any, .any, .ros 50 m (fun i => [.int .i64 (SAct.node (f i)), .int .i64 (SAct.epoch (f i)), .seg .u8 32 (SAct.d (f i)), .seg .u8 16 (SAct.tag (f i))]) false, .int .i64 ↑m, .int .i64 ↑i, .any, .any, .any, .ros 50 m (fun i => [.int .i64 (SAct.node (f i)), .int .i64 (SAct.epoch (f i)), .seg .u8 32 (SAct.d (f i)), .seg .u8 16 (SAct.tag (f i))]) false, .int .i64 ↑m, .int .i64 (↑(j + 1) : Int), .any, .any, .any, .any, .any, .any, .any, .any, .any, .any, .any, .any, .any, .any, .any, .any, .any, .any, .any, .any, .any, .any, .any, .any, .any, .any, .any, .any, .any, .any, .any, .any, .any, .any, .any, .any, .any, .any, .any, .any] [(.o 0, .flat [.int .i64 ↑n, .mp (.o 1)]), (.o 1, .map (entsF 0 (mkL l)) (List.length (mkL l))), (.o 2, .flat [.int .i64 (SAct.node (f i)), .int .i64 (SAct.epoch (f i)), .seg .u8 32 (SAct.d (f i)), .seg .u8 16 (SAct.tag (f i))])] 3 [], [decide ((↑j : Int) < (↑m : Int)) = true, (0 : Int) ≤ (↑j : Int) ∧ (↑j : Int) < (↑m : Int), decide (SAct.epoch (f i) = SAct.epoch (f (Int.toNat (↑j : Int)))) = true, (!decide (SAct.d (f i) = SAct.d (f (Int.toNat (↑j : Int))))) = true, T Try.prog 32 [.ptr (.o 0) 0 0 0 0, .int .i64 (SAct.epoch (f i)), .agg [.seg .u8 32 (SAct.d (f i))], .int .i64 nd] [(.o 0, .flat [.int .i64 ↑n, .mp (.o 1)]), (.o 1, .map (entsF 0 (mkL l)) (List.length (mkL l)))] .snil [(.o 0, .flat [.int .i64 ↑n, .mp (.o 1)]), (.o 1, .map (entsF 0 (mkL l)) (List.length (mkL l)))], q false, q false, InR IntKind.i64 ((↑j : Int) + (1 : Int)), q (↑n : Int), q (entsF (0 : Nat) (mkL l)), q (List.length (mkL l)), q (SAct.node (f i)), q (SAct.epoch (f i)), q (32 : Nat), q (SAct.d (f i)), q (16 : Nat), q (SAct.tag (f i)), q m, ∀ (k : Nat), k < m → [V.int IntKind.i64 (SAct.node (f k)), V.int IntKind.i64 (SAct.epoch (f k)), V.seg IntKind.u8 (32 : Nat) (SAct.d (f k)), V.seg IntKind.u8 (16 : Nat) (SAct.tag (f k))] = [V.int IntKind.i64 (SAct.node (f k)), V.int IntKind.i64 (SAct.epoch (f k)), V.seg IntKind.u8 (32 : Nat) (SAct.d (f k)), V.seg IntKind.u8 (16 : Nat) (SAct.tag (f k))], false = true → false = true, q (↑n : Int), q nd, q0, q0, q0, q0, q0, q0, q m, ∀ (k : Nat), k < m → [V.int IntKind.i64 (SAct.node (f k)), V.int IntKind.i64 (SAct.epoch (f k)), V.seg IntKind.u8 (32 : Nat) (SAct.d (f k)), V.seg IntKind.u8 (16 : Nat) (SAct.tag (f k))] = [V.int IntKind.i64 (SAct.node (f k)), V.int IntKind.i64 (SAct.epoch (f k)), V.seg IntKind.u8 (32 : Nat) (SAct.d (f k)), V.seg IntKind.u8 (16 : Nat) (SAct.tag (f k))], false = true → false = true, q (↑m : Int), q (↑i : Int), q m, ∀ (k : Nat), k < m → [V.int IntKind.i64 (SAct.node (f k)), V.int IntKind.i64 (SAct.epoch (f k)), V.seg IntKind.u8 (32 : Nat) (SAct.d (f k)), V.seg IntKind.u8 (16 : Nat) (SAct.tag (f k))] = [V.int IntKind.i64 (SAct.node (f k)), V.int IntKind.i64 (SAct.epoch (f k)), V.seg IntKind.u8 (32 : Nat) (SAct.d (f k)), V.seg IntKind.u8 (16 : Nat) (SAct.tag (f k))], false = true → false = true, q (↑m : Int), (↑j : Int) + (1 : Int) = (↑(j + (1 : Nat)) : Int)]) : Option (Exit × St × List Prop)) := by kernel_rfl
theorem pcMk_p11000 (n : Nat) (m : Nat) (f : Nat → SAct) (nd : Int) (l : List (Int × MK)) (i : Nat) (j : Nat) :
  alongPc Try.prog (pcMk n m f nd l i j) [true, true, false, false, false] = (some (.normal, St.mk [.any, .ros 50 m (fun i => [.int .i64 (SAct.node (f i)), .int .i64 (SAct.epoch (f i)), .seg .u8 32 (SAct.d (f i)), .seg .u8 16 (SAct.tag (f i))]) false, .any, .any, .any, .any, .any, .int .i64 ↑n, .int .i64 nd, .ptr (.o 0) 0 0 0 0, .any, .any, .any, .ptr (.o 2) 0 0 0 0, .any, .any, .any, .any, .any, .any, .any, .any, .any, .any, .any, .any, .any, .any, .any, .any, .any, .any, .any, .any, .any, .any, .any, .any, .any, .any, .any, .any, .any, .any, .any, .any, .any, .any, .any, .any, .any, .any, .any, .any, .any, .any, .any, .any, .any, .any, .any, .any, .any, .any, .ros 50 m (fun i => [.int .i64 (SAct.node (f i)), .int .i64 (SAct.epoch (f i)), .seg .u8 32 (SAct.d (f i)), .seg .u8 16 (SAct.tag (f i))]) false, .int .i64 ↑m, .int .i64 ↑i, .any, .any, .any, .ros 50 m (fun i => [.int .i64 (SAct.node (f i)), .int .i64 (SAct.epoch (f i)), .seg .u8 32 (SAct.d (f i)), .seg .u8 16 (SAct.tag (f i))]) false, .int .i64 ↑m, .int .i64 (↑(j + 1) : Int), .any, .any, .any, .any, .any, .any, .any, .any, .any, .any, .any, .any, .any, .any, .any, .any, .any, .any, .any, .any, .any, .any, .any, .any, .any, .any, .any, .any, .any, .any, .any, .any, .any, .any, .any, .any, .any, .any, .any, .any] [(.o 0, .flat [.int .i64 ↑n, .mp (.o 1)]), (.o 1, .map (entsF 0 (mkL l)) (List.length (mkL l))), (.o 2, .flat [.int .i64 (SAct.node (f i)), .int .i64 (SAct.epoch (f i)), .seg .u8 32 (SAct.d (f i)), .seg .u8 16 (SAct.tag (f i))])] 3 [], [decide ((↑j : Int) < (↑m : Int)) = true, (0 : Int) ≤ (↑j : Int) ∧ (↑j : Int) < (↑m : Int), decide (SAct.epoch (f i) = SAct.epoch (f (Int.toNat (↑j : Int)))) = true, (!decide (SAct.d (f i) = SAct.d (f (Int.toNat (↑j : Int))))) = false, q false, q false, InR IntKind.i64 ((↑j : Int) + (1 : Int)), q (↑n : Int), q (entsF (0 : Nat) (mkL l)), q (List.length (mkL l)), q (SAct.node (f i)), q (SAct.epoch (f i)), q (32 : Nat), q (SAct.d (f i)), q (16 : Nat), q (SAct.tag (f i)), q m, ∀ (k : Nat), k < m → [V.int IntKind.i64 (SAct.node (f k)), V.int IntKind.i64 (SAct.epoch (f k)), V.seg IntKind.u8 (32 : Nat) (SAct.d (f k)), V.seg IntKind.u8 (16 : Nat) (SAct.tag (f k))] = [V.int IntKind.i64 (SAct.node (f k)), V.int IntKind.i64 (SAct.epoch (f k)), V.seg IntKind.u8 (32 : Nat) (SAct.d (f k)), V.seg IntKind.u8 (16 : Nat) (SAct.tag (f k))], false = true → false = true, q (↑n : Int), q nd, q0, q0, q0, q0, q0, q0, q m, ∀ (k : Nat), k < m → [V.int IntKind.i64 (SAct.node (f k)), V.int IntKind.i64 (SAct.epoch (f k)), V.seg IntKind.u8 (32 : Nat) (SAct.d (f k)), V.seg IntKind.u8 (16 : Nat) (SAct.tag (f k))] = [V.int IntKind.i64 (SAct.node (f k)), V.int IntKind.i64 (SAct.epoch (f k)), V.seg IntKind.u8 (32 : Nat) (SAct.d (f k)), V.seg IntKind.u8 (16 : Nat) (SAct.tag (f k))], false = true → false = true, q (↑m : Int), q (↑i : Int), q m, ∀ (k : Nat), k < m → [V.int IntKind.i64 (SAct.node (f k)), V.int IntKind.i64 (SAct.epoch (f k)), V.seg IntKind.u8 (32 : Nat) (SAct.d (f k)), V.seg IntKind.u8 (16 : Nat) (SAct.tag (f k))] = [V.int IntKind.i64 (SAct.node (f k)), V.int IntKind.i64 (SAct.epoch (f k)), V.seg IntKind.u8 (32 : Nat) (SAct.d (f k)), V.seg IntKind.u8 (16 : Nat) (SAct.tag (f k))], false = true → false = true, q (↑m : Int), (↑j : Int) + (1 : Int) = (↑(j + (1 : Nat)) : Int)]) : Option (Exit × St × List Prop)) := by kernel_rfl
theorem pcMk_p10000 (n : Nat) (m : Nat) (f : Nat → SAct) (nd : Int) (l : List (Int × MK)) (i : Nat) (j : Nat) :
  alongPc Try.prog (pcMk n m f nd l i j) [true, false, false, false, false] = (some (.normal, St.mk [.any, .ros 50 m (fun i => [.int .i64 (SAct.node (f i)), .int .i64 (SAct.epoch (f i)), .seg .u8 32 (SAct.d (f i)), .seg .u8 16 (SAct.tag (f i))]) false, .any, .any, .any, .any, .any, .int .i64 ↑n, .int .i64 nd, .ptr (.o 0) 0 0 0 0, .any, .any, .any, .ptr (.o 2) 0 0 0 0, .any, .any, .any, .any, .any, .any, .any, .any, .any, .any, .any, .any, .any, .any, .any, .any, .any, .any, .any, .any, .any, .any, .any, .any, .any, .any, .any, .any, .any, .any, .any, .any, .any, .any, .any, .any, .any, .any, .any, .any, .any, .any, .any, .any, .any, .any, .any, .any, .any, .any, .ros 50 m (fun i => [.int .i64 (SAct.node (f i)), .int .i64 (SAct.epoch (f i)), .seg .u8 32 (SAct.d (f i)), .seg .u8 16 (SAct.tag (f i))]) false, .int .i64 ↑m, .int .i64 ↑i, .any, .any, .any, .ros 50 m (fun i => [.int .i64 (SAct.node (f i)), .int .i64 (SAct.epoch (f i)), .seg .u8 32 (SAct.d (f i)), .seg .u8 16 (SAct.tag (f i))]) false, .int .i64 ↑m, .int .i64 (↑(j + 1) : Int), .any, .any, .any, .any, .any, .any, .any, .any, .any, .any, .any, .any, .any, .any, .any, .any, .any, .any, .any, .any, .any, .any, .any, .any, .any, .any, .any, .any, .any, .any, .any, .any, .any, .any, .any, .any, .any, .any, .any, .any] [(.o 0, .flat [.int .i64 ↑n, .mp (.o 1)]), (.o 1, .map (entsF 0 (mkL l)) (List.length (mkL l))), (.o 2, .flat [.int .i64 (SAct.node (f i)), .int .i64 (SAct.epoch (f i)), .seg .u8 32 (SAct.d (f i)), .seg .u8 16 (SAct.tag (f i))])] 3 [], [decide ((↑j : Int) < (↑m : Int)) = true, (0 : Int) ≤ (↑j : Int) ∧ (↑j : Int) < (↑m : Int), decide (SAct.epoch (f i) = SAct.epoch (f (Int.toNat (↑j : Int)))) = false, q false, q false, q false, InR IntKind.i64 ((↑j : Int) + (1 : Int)), q (↑n : Int), q (entsF (0 : Nat) (mkL l)), q (List.length (mkL l)), q (SAct.node (f i)), q (SAct.epoch (f i)), q (32 : Nat), q (SAct.d (f i)), q (16 : Nat), q (SAct.tag (f i)), q m, ∀ (k : Nat), k < m → [V.int IntKind.i64 (SAct.node (f k)), V.int IntKind.i64 (SAct.epoch (f k)), V.seg IntKind.u8 (32 : Nat) (SAct.d (f k)), V.seg IntKind.u8 (16 : Nat) (SAct.tag (f k))] = [V.int IntKind.i64 (SAct.node (f k)), V.int IntKind.i64 (SAct.epoch (f k)), V.seg IntKind.u8 (32 : Nat) (SAct.d (f k)), V.seg IntKind.u8 (16 : Nat) (SAct.tag (f k))], false = true → false = true, q (↑n : Int), q nd, q0, q0, q0, q0, q0, q0, q m, ∀ (k : Nat), k < m → [V.int IntKind.i64 (SAct.node (f k)), V.int IntKind.i64 (SAct.epoch (f k)), V.seg IntKind.u8 (32 : Nat) (SAct.d (f k)), V.seg IntKind.u8 (16 : Nat) (SAct.tag (f k))] = [V.int IntKind.i64 (SAct.node (f k)), V.int IntKind.i64 (SAct.epoch (f k)), V.seg IntKind.u8 (32 : Nat) (SAct.d (f k)), V.seg IntKind.u8 (16 : Nat) (SAct.tag (f k))], false = true → false = true, q (↑m : Int), q (↑i : Int), q m, ∀ (k : Nat), k < m → [V.int IntKind.i64 (SAct.node (f k)), V.int IntKind.i64 (SAct.epoch (f k)), V.seg IntKind.u8 (32 : Nat) (SAct.d (f k)), V.seg IntKind.u8 (16 : Nat) (SAct.tag (f k))] = [V.int IntKind.i64 (SAct.node (f k)), V.int IntKind.i64 (SAct.epoch (f k)), V.seg IntKind.u8 (32 : Nat) (SAct.d (f k)), V.seg IntKind.u8 (16 : Nat) (SAct.tag (f k))], false = true → false = true, q (↑m : Int), (↑j : Int) + (1 : Int) = (↑(j + (1 : Nat)) : Int)]) : Option (Exit × St × List Prop)) := by kernel_rfl
theorem pcMk_p0 (n : Nat) (m : Nat) (f : Nat → SAct) (nd : Int) (l : List (Int × MK)) (i : Nat) (j : Nat) :
  alongPc Try.prog (pcMk n m f nd l i j) [false] = (some (.exit 4, St.mk [.any, .ros 50 m (fun i => [.int .i64 (SAct.node (f i)), .int .i64 (SAct.epoch (f i)), .seg .u8 32 (SAct.d (f i)), .seg .u8 16 (SAct.tag (f i))]) false, .any, .any, .any, .any, .any, .int .i64 ↑n, .int .i64 nd, .ptr (.o 0) 0 0 0 0, .any, .any, .any, .ptr (.o 2) 0 0 0 0, .any, .any, .any, .any, .any, .any, .any, .any, .any, .any, .any, .any, .any, .any, .any, .any, .any, .any, .any, .any, .any, .any, .any, .any, .any, .any, .any, .any, .any, .any, .any, .any, .any, .any, .any, .any, .any, .any, .any, .any, .any, .any, .any, .any, .any, .any, .any, .any, .any, .any, .ros 50 m (fun i => [.int .i64 (SAct.node (f i)), .int .i64 (SAct.epoch (f i)), .seg .u8 32 (SAct.d (f i)), .seg .u8 16 (SAct.tag (f i))]) false, .int .i64 ↑m, .int .i64 ↑i, .any, .any, .any, .ros 50 m (fun i => [.int .i64 (SAct.node (f i)), .int .i64 (SAct.epoch (f i)), .seg .u8 32 (SAct.d (f i)), .seg .u8 16 (SAct.tag (f i))]) false, .int .i64 ↑m, .int .i64 ↑m, .any, .any, .any, .any, .any, .any, .any, .any, .any, .any, .any, .any, .any, .any, .any, .any, .any, .any, .any, .any, .any, .any, .any, .any, .any, .any, .any, .any, .any, .any, .any, .any, .any, .any, .any, .any, .any, .any, .any, .any] [(.o 0, .flat [.int .i64 ↑n, .mp (.o 1)]), (.o 1, .map (entsF 0 (mkL l)) (List.length (mkL l))), (.o 2, .flat [.int .i64 (SAct.node (f i)), .int .i64 (SAct.epoch (f i)), .seg .u8 32 (SAct.d (f i)), .seg .u8 16 (SAct.tag (f i))])] 3 [], [decide ((↑j : Int) < (↑m : Int)) = false, q (↑n : Int), q (entsF (0 : Nat) (mkL l)), q (List.length (mkL l)), q (SAct.node (f i)), q (SAct.epoch (f i)), q (32 : Nat), q (SAct.d (f i)), q (16 : Nat), q (SAct.tag (f i)), q m, ∀ (k : Nat), k < m → [V.int IntKind.i64 (SAct.node (f k)), V.int IntKind.i64 (SAct.epoch (f k)), V.seg IntKind.u8 (32 : Nat) (SAct.d (f k)), V.seg IntKind.u8 (16 : Nat) (SAct.tag (f k))] = [V.int IntKind.i64 (SAct.node (f k)), V.int IntKind.i64 (SAct.epoch (f k)), V.seg IntKind.u8 (32 : Nat) (SAct.d (f k)), V.seg IntKind.u8 (16 : Nat) (SAct.tag (f k))], false = true → false = true, q (↑n : Int), q nd, q0, q0, q0, q0, q0, q0, q m, ∀ (k : Nat), k < m → [V.int IntKind.i64 (SAct.node (f k)), V.int IntKind.i64 (SAct.epoch (f k)), V.seg IntKind.u8 (32 : Nat) (SAct.d (f k)), V.seg IntKind.u8 (16 : Nat) (SAct.tag (f k))] = [V.int IntKind.i64 (SAct.node (f k)), V.int IntKind.i64 (SAct.epoch (f k)), V.seg IntKind.u8 (32 : Nat) (SAct.d (f k)), V.seg IntKind.u8 (16 : Nat) (SAct.tag (f k))], false = true → false = true, q (↑m : Int), q (↑i : Int), q m, ∀ (k : Nat), k < m → [V.int IntKind.i64 (SAct.node (f k)), V.int IntKind.i64 (SAct.epoch (f k)), V.seg IntKind.u8 (32 : Nat) (SAct.d (f k)), V.seg IntKind.u8 (16 : Nat) (SAct.tag (f k))] = [V.int IntKind.i64 (SAct.node (f k)), V.int IntKind.i64 (SAct.epoch (f k)), V.seg IntKind.u8 (32 : Nat) (SAct.d (f k)), V.seg IntKind.u8 (16 : Nat) (SAct.tag (f k))], false = true → false = true, q (↑m : Int), (↑j : Int) = (↑m : Int)]) : Option (Exit × St × List Prop)) := by kernel_rfl

theorem pcMy_p11110 (n : Nat) (m : Nat) (f : Nat → SAct) (nd : Int) (l : List (Int × MK)) (i : Nat) (j : Nat) (L : List SSign) :
  alongPc Try.prog (pcMy n m f nd l i j L) [true, true, true, true, false] = (some (.normal, St.mk [.any, .ros 50 m (fun i => [.int .i64 (SAct.node (f i)), .int .i64 (SAct.epoch (f i)), .seg .u8 32 (SAct.d (f i)), .seg .u8 16 (SAct.tag (f i))]) false, .any, .any, .any, .any, .any, .int .i64 ↑n, .int .i64 nd, .ptr (.o 0) 0 0 0 0, .any, .any, .any, .ptr (.o 2) 0 0 0 0, .any, .any, .any, .any, .any, .any, .any, .any, .any, .any, .any, .any, .any, .any, .any, .any, .any, .any, .any, .any, .any, .any, .any, .any, .any, .any, .any, .any, .any, .any, .any, .any, .any, .any, .any, .any, .any, .any, .any, .any, .any, .any, .any, .any, .any, .any, .any, .any, .any, .any, .ros 50 m (fun i => [.int .i64 (SAct.node (f i)), .int .i64 (SAct.epoch (f i)), .seg .u8 32 (SAct.d (f i)), .seg .u8 16 (SAct.tag (f i))]) false, .int .i64 ↑m, .int .i64 ↑i, .any, .any, .any, .ros 50 m (fun i => [.int .i64 (SAct.node (f i)), .int .i64 (SAct.epoch (f i)), .seg .u8 32 (SAct.d (f i)), .seg .u8 16 (SAct.tag (f i))]) false, .int .i64 ↑m, .int .i64 (↑(j + 1) : Int), .any, .any, .any, .any, .any, .any, .any, .any, .any, .any, .any, .any, .any, .any, .any, .any, .any, .any, .any, .any, .any, .any, .any, .any, .any, .any, .any, .any, .any, .any, .any, .any, .any, .any, .any, .any, .any, .any, .any, .any] [(.o 0, .flat [.int .i64 ↑n, .mp (.o 1)]), (.o 1, .map (entsF 0 (mkL l)) (List.length (mkL l))), (.o 2, .flat [.int .i64 (SAct.node (f i)), .int .i64 (SAct.epoch (f i)), .seg .u8 32 (SAct.d (f i)), .seg .u8 16 (SAct.tag (f i))])] 3 [], [decide ((↑j : Int) < (↑m : Int)) = true, (0 : Int) ≤ (↑j : Int) ∧ (↑j : Int) < (↑m : Int), decide (SAct.epoch (f i) = SAct.epoch (f (Int.toNat (↑j : Int)))) = true, (!decide (SAct.d (f i) = SAct.d (f (Int.toNat (↑j : Int))))) = true, T Try.prog 32 [.ptr (.o 0) 0 0 0 0, .int .i64 (SAct.epoch (f i)), .agg [.seg .u8 32 (SAct.d (f i))], .int .i64 nd] [(.o 0, .flat [.int .i64 ↑n, .mp (.o 1)]), (.o 1, .map (entsF 0 (mkL l)) (List.length (mkL l)))] (.sl (.o 1539) 17 0 0 0 (List.length L) none) [(.o 0, .flat [.int .i64 ↑n, .mp (.o 1)]), (.o 1, .map (entsF 0 (mkL l)) (List.length (mkL l))), (.o 1539, .rows 17 (List.length L) (gn (siF L)) true)], decide ((0 : Int) < (↑(List.length L) : Int)) = true, T Try.prog 32 [.ptr (.o 0) 0 0 0 0, .int .i64 (SAct.epoch (f (Int.toNat (↑j : Int)))), .agg [.seg .u8 32 (SAct.d (f (Int.toNat (↑j : Int))))], .int .i64 nd] [(.o 0, .flat [.int .i64 ↑n, .mp (.o 1)]), (.o 1, .map (entsF 0 (mkL l)) (List.length (mkL l)))] .snil [(.o 0, .flat [.int .i64 ↑n, .mp (.o 1)]), (.o 1, .map (entsF 0 (mkL l)) (List.length (mkL l)))], q false, InR IntKind.i64 ((↑j : Int) + (1 : Int)), q (↑n : Int), q (entsF (0 : Nat) (mkL l)), q (List.length (mkL l)), q (SAct.node (f i)), q (SAct.epoch (f i)), q (32 : Nat), q (SAct.d (f i)), q (16 : Nat), q (SAct.tag (f i)), q m, ∀ (k : Nat), k < m → [V.int IntKind.i64 (SAct.node (f k)), V.int IntKind.i64 (SAct.epoch (f k)), V.seg IntKind.u8 (32 : Nat) (SAct.d (f k)), V.seg IntKind.u8 (16 : Nat) (SAct.tag (f k))] = [V.int IntKind.i64 (SAct.node (f k)), V.int IntKind.i64 (SAct.epoch (f k)), V.seg IntKind.u8 (32 : Nat) (SAct.d (f k)), V.seg IntKind.u8 (16 : Nat) (SAct.tag (f k))], false = true → false = true, q (↑n : Int), q nd, q0, q0, q0, q0, q0, q0, q m, ∀ (k : Nat), k < m → [V.int IntKind.i64 (SAct.node (f k)), V.int IntKind.i64 (SAct.epoch (f k)), V.seg IntKind.u8 (32 : Nat) (SAct.d (f k)), V.seg IntKind.u8 (16 : Nat) (SAct.tag (f k))] = [V.int IntKind.i64 (SAct.node (f k)), V.int IntKind.i64 (SAct.epoch (f k)), V.seg IntKind.u8 (32 : Nat) (SAct.d (f k)), V.seg IntKind.u8 (16 : Nat) (SAct.tag (f k))], false = true → false = true, q (↑m : Int), q (↑i : Int), q m, ∀ (k : Nat), k < m → [V.int IntKind.i64 (SAct.node (f k)), V.int IntKind.i64 (SAct.epoch (f k)), V.seg IntKind.u8 (32 : Nat) (SAct.d (f k)), V.seg IntKind.u8 (16 : Nat) (SAct.tag (f k))] = [V.int IntKind.i64 (SAct.node (f k)), V.int IntKind.i64 (SAct.epoch (f k)), V.seg IntKind.u8 (32 : Nat) (SAct.d (f k)), V.seg IntKind.u8 (16 : Nat) (SAct.tag (f k))], false = true → false = true, q (↑m : Int), (↑j : Int) + (1 : Int) = (↑(j + (1 : Nat)) : Int)]) : Option (Exit × St × List Prop)) := by kernel_rfl

def cntW (l : List (Int × MK)) (e : Int) (d : List Int) : Nat → Nat
 | 0 => 0
 | k + 1 => cntW l e d k + (if isW l e d (k : Nat) = true then 1 else 0)
theorem selS_cnt (l : List (Int × MK)) (e : Int) (d : List Int) (need : Int) : ∀ k, (selS l e d need k).length ≤ cntW l e d k
 | 0 => Nat.le_refl _
 | k + 1 => by
  have ih := selS_cnt l e d need k
  rw [selS, cntW]
  split
  ·rename_i h
   rw [if_pos h.2, List.length_append]
   simp; exact ih
  ·omega
theorem cntW_two (l : List (Int × MK)) (e : Int) {d d' : List Int} (h : d ≠ d') : ∀ k, cntW l e d k + cntW l e d' k ≤ k
 | 0 => Nat.le_refl _
 | k + 1 => by
  have ih := cntW_two l e h k
  rw [cntW, cntW]
  by_cases h1 : isW l e d (k : Nat) = true
  ·have h2 : ¬ isW l e d' (k : Nat) = true := fun h2 => by
    rw [isW, Bool.and_true, Bool.and_eq_true, decide_eq_true_eq, decide_eq_true_eq] at h1 h2
    exact h (h1.2.symm.trans h2.2)
   rw [if_pos h1, if_neg h2]; omega
  ·rw [if_neg h1]
   split <;> omega
/-- Of one epoch no two digests have the signs of more than half of the nodes. -/
theorem one_only {n : Nat} {l : List (Int × MK)} {e : Int} {d d' : List Int} {need : Int} (hh : (n : Int) < 2 * need) (hd : d ≠ d') (h : sgsM n l e d need = true) : sgsM n l e d' need = false := by
 cases h' : sgsM n l e d' need with
 | false => rfl
 | true =>
  rw [sgsM, Bool.and_eq_true, decide_eq_true_eq, decide_eq_true_eq] at h h'
  have h1 := selS_cnt l e d need n
  have h2 := selS_cnt l e d' need n
  have h3 := cntW_two l e hd n
  omega
theorem moKL (n m : Nat) (f : Nat → SAct) (nd : Int) (hn : n ≤ 64) (hm : m ≤ 200) (hh : (n : Int) < 2 * nd) (l : List (Int × MK)) (i : Nat) :
  RLoop Try.prog none 0 moD (m + 1) (moK n m f nd l i 0) (.exit 4) (moK n m f nd l i m) := by
 have hstep : ∀ j, j < m → R Try.prog none 0 moD (moK n m f nd l i j) .normal (moK n m f nd l i (j + 1)) := by
  intro j hj
  by_cases c1 : (f i).epoch = (f j).epoch
  ·by_cases c2 : (f i).d = (f j).d
   ·refine R_alongPc NG MO _ (pcMk_p11000 n m f nd l i j) ?_ (Nat.zero_le _)
    simp only [All, All_append, bdMz_c, Int.toNat_natCast]; and_intros
    all_goals first
     | exact True.intro
     | exact decide_eq_true c1
     | (rw [decide_eq_true c2]; rfl)
     | (with_reducible assumption)
     | (rw [decide_eq_true_eq]; omega)
     | (rw [decide_eq_false_iff_not]; omega)
     | with_reducible rfl
     | (intro _ _; exact True.intro)
     | (intro _ _; with_reducible rfl)
     | (intro _ _; rfl)
     | (simp only [IntKind.min, IntKind.max, IntKind.signed, IntKind.bits, if_true]; omega)
     | omega
     | (intro h; exact h)
     | (intro h; cases h; done)
     | exact .inl rfl
     | exact .inl True.intro
     | exact .inr rfl
     | (simp; done)
   ·cases hs : sgsM n l (f i).epoch (f i).d nd with
    | true =>
     have hs2 := one_only hh c2 hs
     have h1 := T_sgYA hn hs (m := 0) (q := 1) (a := 1539) (by decide)
     have h2 := T_sgNA hn hs2 (m := 0) (q := 1) (by decide)
     rw [c1] at h2
     rw [sgsM, Bool.and_eq_true, decide_eq_true_eq, decide_eq_true_eq] at hs
     obtain ⟨g1, g2⟩ := hs
     refine R_alongPc NG MO _ (pcMy_p11110 n m f nd l i j (selS l (f i).epoch (f i).d nd n)) ?_ (Nat.zero_le _)
     simp only [All, All_append, bdMz_c, Int.toNat_natCast]; and_intros
     all_goals first
      | exact True.intro
      | exact h1
      | exact h2
      | exact decide_eq_true c1
      | (rw [decide_eq_false c2]; rfl)
      | (with_reducible assumption)
      | (rw [decide_eq_true_eq]; omega)
      | (rw [decide_eq_false_iff_not]; omega)
      | with_reducible rfl
      | (intro _ _; exact True.intro)
      | (intro _ _; with_reducible rfl)
      | (intro _ _; rfl)
      | (simp only [IntKind.min, IntKind.max, IntKind.signed, IntKind.bits, if_true]; omega)
      | omega
      | (intro h; exact h)
      | (intro h; cases h; done)
      | exact .inl rfl
      | exact .inl True.intro
      | exact .inr rfl
      | (simp; done)
    | false =>
     have h1 := T_sgNA hn hs (m := 0) (q := 1) (by decide)
     refine R_alongPc NG MO _ (pcMk_p11100 n m f nd l i j) ?_ (Nat.zero_le _)
     simp only [All, All_append, bdMz_c, Int.toNat_natCast]; and_intros
     all_goals first
      | exact True.intro
      | exact h1
      | exact decide_eq_true c1
      | (rw [decide_eq_false c2]; rfl)
      | (with_reducible assumption)
      | (rw [decide_eq_true_eq]; omega)
      | (rw [decide_eq_false_iff_not]; omega)
      | with_reducible rfl
      | (intro _ _; exact True.intro)
      | (intro _ _; with_reducible rfl)
      | (intro _ _; rfl)
      | (simp only [IntKind.min, IntKind.max, IntKind.signed, IntKind.bits, if_true]; omega)
      | omega
      | (intro h; exact h)
      | (intro h; cases h; done)
      | exact .inl rfl
      | exact .inl True.intro
      | exact .inr rfl
      | (simp; done)
  ·refine R_alongPc NG MO _ (pcMk_p10000 n m f nd l i j) ?_ (Nat.zero_le _)
   simp only [All, All_append, bdMz_c, Int.toNat_natCast]; and_intros
   all_goals first
    | exact True.intro
    | exact decide_eq_false c1
    | (with_reducible assumption)
    | (rw [decide_eq_true_eq]; omega)
    | (rw [decide_eq_false_iff_not]; omega)
    | with_reducible rfl
    | (intro _ _; exact True.intro)
    | (intro _ _; with_reducible rfl)
    | (intro _ _; rfl)
    | (simp only [IntKind.min, IntKind.max, IntKind.signed, IntKind.bits, if_true]; omega)
    | omega
    | (intro h; exact h)
    | (intro h; cases h; done)
    | exact .inl rfl
    | exact .inl True.intro
    | exact .inr rfl
    | (simp; done)
 have hend : R Try.prog none 0 moD (moK n m f nd l i m) (.exit 4) (moK n m f nd l i m) := by
  refine R_alongPc NG MO _ (pcMk_p0 n m f nd l i m) ?_ (Nat.zero_le _)
  simp only [All, All_append, bdMz_c]; and_intros
  all_goals first
   | exact True.intro
   | (with_reducible assumption)
   | (rw [decide_eq_true_eq]; omega)
   | (rw [decide_eq_false_iff_not]; omega)
   | with_reducible rfl
   | (intro _ _; exact True.intro)
   | (intro _ _; with_reducible rfl)
   | (intro _ _; rfl)
   | (simp only [IntKind.min, IntKind.max, IntKind.signed, IntKind.bits, if_true]; omega)
   | omega
   | (intro h; exact h)
   | (intro h; cases h; done)
   | exact .inl rfl
   | exact .inl True.intro
   | exact .inr rfl
   | (simp; done)
 exact RLoop.inv (fun j => moK n m f nd l i j) m hstep hend (by simp)
theorem moJL (n m : Nat) (f : Nat → SAct) (nd : Int) (hn : n ≤ 64) (hm : m ≤ 200) (hh : (n : Int) < 2 * nd) (l : List (Int × MK)) :
  RLoop Try.prog none 0 moC (m + 1) (moJ n m f nd l 0) (.exit 2) (moJ n m f nd l m) := by
 have hstep : ∀ i, i < m → R Try.prog none 0 moC (moJ n m f nd l i) .normal (moJ n m f nd l (i + 1)) := by
  intro i hi
  have hK := moKL n m f nd hn hm hh l i
  refine R_alongPc NG MO _ (pcMj_p1 n m f nd l i) ?_ (Nat.zero_le _)
  simp only [All, All_append, bdMz_c, Int.toNat_natCast]; and_intros
  all_goals first
   | exact True.intro
   | exact hK
   | (with_reducible assumption)
   | (rw [decide_eq_true_eq]; omega)
   | (rw [decide_eq_false_iff_not]; omega)
   | with_reducible rfl
   | (intro _ _; exact True.intro)
   | (intro _ _; with_reducible rfl)
   | (intro _ _; rfl)
   | (simp only [IntKind.min, IntKind.max, IntKind.signed, IntKind.bits, if_true]; omega)
   | omega
   | (intro h; exact h)
   | (intro h; cases h; done)
   | exact .inl rfl
   | exact .inl True.intro
   | exact .inr rfl
   | (simp; done)
 have hend : R Try.prog none 0 moC (moJ n m f nd l m) (.exit 2) (moJ n m f nd l m) := by
  refine R_alongPc NG MO _ (pcMj_p0 n m f nd l m) ?_ (Nat.zero_le _)
  simp only [All, All_append, bdMz_c]; and_intros
  all_goals first
   | exact True.intro
   | (with_reducible assumption)
   | (rw [decide_eq_true_eq]; omega)
   | (rw [decide_eq_false_iff_not]; omega)
   | with_reducible rfl
   | (intro _ _; exact True.intro)
   | (intro _ _; with_reducible rfl)
   | (intro _ _; rfl)
   | (simp only [IntKind.min, IntKind.max, IntKind.signed, IntKind.bits, if_true]; omega)
   | omega
   | (intro h; exact h)
   | (intro h; cases h; done)
   | exact .inl rfl
   | exact .inl True.intro
   | exact .inr rfl
   | (simp; done)
 exact RLoop.inv (fun i => moJ n m f nd l i) m hstep hend (by simp)
noncomputable def moB : Code := cB (cB (cR (cL (cR (cR (cR (cR (cR (bodyOf Try.f7)))))))))
theorem moIL (n m : Nat) (f : Nat → SAct) (nd : Int) (hm : m ≤ 200) :
  RLoop Try.prog none 0 moB (m + 1) (moI n m f nd [] 0) (.exit 0) (moI n m f nd (accA n f m) m) := by
 have hstep : ∀ k, k < m → R Try.prog none 0 moB (moI n m f nd (accA n f k) k) .normal (moI n m f nd (accA n f (k + 1)) (k + 1)) := by
  intro k hk
  have h1 := T_amA n (accA n f k) (f k).node (f k).epoch (f k).d (f k).tag (m := 0) (q := 1) (by decide)
  refine R_alongPc NG MO _ (pcMi_p1 n m f nd (accA n f k) (accA n f (k + 1)) k (addM n (accA n f k) (f k).node (f k).epoch (f k).d (f k).tag).1) ?_ (Nat.zero_le _)
  simp only [All, All_append, bdMz_c, Int.toNat_natCast]; and_intros
  all_goals first
   | exact True.intro
   | exact h1
   | (with_reducible assumption)
   | (rw [decide_eq_true_eq]; omega)
   | (rw [decide_eq_false_iff_not]; omega)
   | with_reducible rfl
   | (intro _ _; exact True.intro)
   | (intro _ _; with_reducible rfl)
   | (intro _ _; rfl)
   | (simp only [IntKind.min, IntKind.max, IntKind.signed, IntKind.bits, if_true]; omega)
   | omega
   | (intro h; exact h)
   | (intro h; cases h; done)
   | exact .inl rfl
   | exact .inl True.intro
   | exact .inr rfl
   | (simp; done)
 have hend : R Try.prog none 0 moB (moI n m f nd (accA n f m) m) (.exit 0) (moI n m f nd (accA n f m) m) := by
  refine R_alongPc NG MO _ (pcMi_p0 n m f nd (accA n f m) [] m 0) ?_ (Nat.zero_le _)
  simp only [All, All_append, bdMz_c]; and_intros
  all_goals first
   | exact True.intro
   | (with_reducible assumption)
   | (rw [decide_eq_true_eq]; omega)
   | (rw [decide_eq_false_iff_not]; omega)
   | with_reducible rfl
   | (intro _ _; exact True.intro)
   | (intro _ _; with_reducible rfl)
   | (intro _ _; rfl)
   | (simp only [IntKind.min, IntKind.max, IntKind.signed, IntKind.bits, if_true]; omega)
   | omega
   | (intro h; exact h)
   | (intro h; cases h; done)
   | exact .inl rfl
   | exact .inl True.intro
   | exact .inr rfl
   | (simp; done)
 exact RLoop.inv (fun k => moI n m f nd (accA n f k) k) m hstep hend (by simp)
theorem wrapU (x : Int) : 0 ≤ IntKind.wrap .u64 x := by
 show 0 ≤ Int.emod x (2 ^ 64)
 exact Int.emod_nonneg _ (by decide)
theorem nU_at (f : Int) : ∃ N : Nat, nU f = N ∧ 4 ≤ N ∧ N ≤ 64 ∧ N % 3 = 1 := by
 have h1 := wrapU f
 refine ⟨(nU f).toNat, ?_, ?_, ?_, ?_⟩ <;> unfold nU <;> omega
theorem wrap_small {x : Int} (h0 : 0 ≤ x) (h : x ≤ 1000) : IntKind.wrap .u64 x = x := by
 show Int.emod x (2 ^ 64) = x
 exact Int.emod_eq_of_lt h0 (by omega)
theorem T_mo1 (f : Int) (m : Nat) (a : Nat → SAct) (more : Int) : T Try.prog 7 [.int .i64 f, ac m a, .int .i64 more] [] (.bool true) [] := by
 have h9 := T_lv3
 obtain ⟨N, hq, h4, h64, h3⟩ := nU_at f
 have hg : goodN (nU f) = true := by
  rw [goodN, hq, decide_eq_true (by omega), decide_eq_true (by omega), Int.tmod_eq_emod_of_nonneg (by omega), decide_eq_true (by omega)]; rfl
 have h1 : T Try.prog 29 [.int .i64 (nU f)] [] (mP 1344) (mH 1344 1345 (nU f) []) := T_nwA hg (by decide)
 have hf := wrapU f
 have hm2 := wrapU more
 have hq2 : 4 + 3 * (IntKind.wrap .u64 f % 21) = (N : Int) := hq
 have hw : IntKind.wrap .u64 ((4 + 3 * (IntKind.wrap .u64 f % 21)) / 2) = (N : Int) / 2 := by rw [hq2]; exact wrap_small (by omega) (by omega)
 have hx1 : 0 ≤ IntKind.wrap .u64 more % ((N : Int) / 2) := Int.emod_nonneg _ (by omega)
 have hx2 : IntKind.wrap .u64 more % ((N : Int) / 2) < (N : Int) / 2 := Int.emod_lt_of_pos _ (by omega)
 generalize hx : IntKind.wrap .u64 more % ((N : Int) / 2) = x at hx1 hx2
 by_cases hm : 200 < m
 ·refine T_al (bdMz_p011 f more N m a 0 [] []) Try.func7 ?_
  simp only [All, All_append, bdMz_c, hw, hx]; and_intros
  all_goals first
   | exact True.intro
   | exact h1
   | exact h9
   | (with_reducible assumption)
   | (rw [decide_eq_true_eq]; omega)
   | (rw [decide_eq_false_iff_not]; omega)
   | with_reducible rfl
   | (intro _ _; exact True.intro)
   | (intro _ _; with_reducible rfl)
   | (intro _ _; rfl)
   | (simp only [IntKind.min, IntKind.max, IntKind.signed, IntKind.bits, if_true]; omega)
   | omega
   | (intro h; exact h)
   | (intro h; cases h; done)
   | exact .inl rfl
   | exact .inl True.intro
   | exact .inr rfl
   | (simp; done)
 ·have hL := moIL N m a ((N : Int) / 2 + 1 + x) (by omega)
  have hJ := moJL N m a ((N : Int) / 2 + 1 + x) (by omega) (by omega) (by omega) (accA N a m)
  refine T_al (bdMz_p00 f more N m a ((N : Int) / 2 + 1 + x) [] (accA N a m)) Try.func7 ?_
  simp only [All, All_append, bdMz_c, hw, hx]; and_intros
  all_goals first
   | exact True.intro
   | exact h1
   | exact h9
   | exact hL
   | exact hJ
   | exact hq
   | exact hq2
   | (rw [hq2]; done)
   | (with_reducible assumption)
   | (rw [decide_eq_true_eq]; omega)
   | (rw [decide_eq_false_iff_not]; omega)
   | with_reducible rfl
   | (intro _ _; exact True.intro)
   | (intro _ _; with_reducible rfl)
   | (intro _ _; rfl)
   | (simp only [IntKind.min, IntKind.max, IntKind.signed, IntKind.bits, if_true]; omega)
   | omega
   | (intro h; exact h)
   | (intro h; cases h; done)
   | exact .inl rfl
   | exact .inl True.intro
   | exact .inr rfl
   | (simp; done)
end Go.Proofs.Ytpallipnhmoipaa
namespace Go.Proofs.Ytpallipnhmoipaa
open Go Sy Go.Proofs
theorem cellsAct : Try.prog.cellsOf 48 = 50 := by kernel_rfl
theorem sg_act {d : Nat} {cs : List V} (h : ShC Try.prog d 48 cs) : ∃ s : SAct, cs = s.c ∧ (s.d.length = 32 ∧ s.tag.length = 16) := by
 obtain ⟨d, a, _, rfl, ha, b, _, rfl, hb, x, _, rfl, hx, y, _, rfl, hy, rfl⟩ := sh_struct h Try.underlying48
 obtain ⟨n, rfl, _⟩ := sh_int ha Try.underlying3
 obtain ⟨e, rfl, _⟩ := sh_int hb Try.underlying3
 obtain ⟨xs, rfl, h1, h2⟩ := sh_arr hx Try.underlying46 Try.underlying5
 obtain ⟨ys, rfl, h3, h4⟩ := sh_arr hy Try.underlying35 Try.underlying5
 exact ⟨⟨n, e, xs, ys⟩, rfl, h1, h3⟩
end Go.Proofs.Ytpallipnhmoipaa
namespace Go.Proofs.Ytpallipnhmoipaa
open Go Sy Go.Proofs
instance : Inhabited SAct := ⟨{}⟩
theorem sg_acts (U : Imm) {d : Nat} {cs : List V} (h : ShC Try.prog d 42 cs) : ∃ n f, CsLe U cs [ac n f] ∧ (n ≤ 9223372036854775807 ∧ ∀ i, i < n → (f i).d.length = 32 ∧ (f i).tag.length = 16) := by
 obtain ⟨d, len, g, rfl, hl, hf⟩ := sh_slice h Try.underlying42
 obtain ⟨s, hs⟩ := choose_fn fun i hi => sg_act (hf i hi)
 refine ⟨len, s, ?_, hl, fun i hi => (hs i hi).2⟩
 rw [cellsAct]
 exact CsLe.ros fun i hi => by rw [(hs i hi).1]; exact CsLe.refl _ _
end Go.Proofs.Ytpallipnhmoipaa
