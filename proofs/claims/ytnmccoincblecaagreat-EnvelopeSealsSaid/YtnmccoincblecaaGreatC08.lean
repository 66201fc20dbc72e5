/-
  Contracts and laws that the claim's theorem leans on, joined out of the texts Ka2D Ka2 Ka3D Ka3 Ka4D Ka4 Ka5D Ka5 Ka6D Ka6 Ka7D Ka7 Ka8D Ka8 Va0D (own work of this seat): Contract: one block of the digest; Contract: one block of the digest; Contracts: a stream of the digest; Contracts: a stream of the digest; Contracts: the digest's end, and the digest of parts; Contracts: the digest's end, and the digest of parts; Contracts: the digest of one part, of two parts; Contracts: the digest of one part, of two parts; Contracts: the digest by the document: padding, one block; Contracts: the digest by the document: padding, one block; Contracts: the digest by the document; Contracts: the digest by the document; Contracts: the digest of parts that can't be turned; a digest's bytes by the document; Contracts: the digest of parts that can't be turned; a digest's bytes by the document; Contracts: numbers and texts as bytes, as the document's answer has them.
-/
import Derived.Test.YtnmccoincblecaaGreatC04
import Derived.Test.YtnmccoincblecaaGreatC07
set_option linter.unusedVariables false
set_option linter.unusedSimpArgs false
set_option maxHeartbeats 1000000
namespace Go.Proofs.YtnmccoincblecaaGreat
open Go Sy Go.Proofs
def stB (H W : List Int) (n : Int) : B := .flat [.seg .u32 8 H, .seg .u8 64 W, .int .i64 n]
def rb (l : List Int) : V := .ros 1 l.length (ib l) false
def p8 : List Int := List.replicate 32 0
def p0K (m : Nat) : V := .ptr (.o m) 0 0 0 0
def tuDb : List V → c5 → Nat → List Cl := fun l _ _ => match l with
 | [.int _ x, .int _ a, .int _ b, .int _ c] => [{ val := .int .u32 (s32 x a b c) }]
 | _ => []
def bW9 : List V → c5 → Nat → List Cl := fun l _ _ => match l with
 | [.int _ t] => [{ val := .int .u32 (kN t.toNat) }]
 | _ => []
def bkI (H W : List Int) (n : Int) (w : List Int) (s : S8) (t : Nat) : St := ⟨mkT 136 [(0, p0K 0), (2, p0K 1), (3, .int .u32 s.a), (4, .int .u32 s.b), (5, .int .u32 s.c), (6, .int .u32 s.d), (7, .int .u32 s.e), (8, .int .u32 s.f), (9, .int .u32 s.g), (10, .int .u32 s.h), (61, .int .i64 (t : Nat))], [(.o 0, stB H W n), (.o 1, .flat [.seg .u32 64 w])], 2, []⟩
def bkJ (H W : List Int) (n : Int) (l : List Int) (i : Nat) : St := ⟨mkT 136 [(0, p0K 0), (119, .agg [.seg .u32 8 l]), (120, .int .i64 (i : Nat))], [(.o 0, stB H W n)], 2, []⟩
noncomputable def aN6 (H W : List Int) (n : Int) (w : List Int) (s : S8) (H2 : List Int) : Bd := { f := Tryz.f138, args := [p0K 0], pre := [(.o 0, stB H W n)], base := 1, kb := { db := dbQ [(148, D8 (.agg [.seg .u32 64 w]))], lp := fun id t => bif Nat.beq id 0 then [(True, .loop (64 + 1) (w6 [(.o 1, nmV (m6 t.tmps 2))] (bkI H W n w (S8.of H) 0)) (.exit 0) (bkI H W n w s 64))] else [(True, .loop (8 + 1) (wTo (bkJ H W n s.l 0)) (.exit 2) (bkJ H2 W n s.l 8))] }, names := fun _ => [.o 0] }
noncomputable def bX4 (H W : List Int) (n : Int) (w : List Int) (s : S8) (t : Nat) (s2 : S8) : Pc := { c := cB (cB (cR (cL (cR (cR (f1 Tryz.f138)))))), st := bkI H W n w s t, p := 1, kb := { db := dbQ [(149, tuDb), (150, bW9)] }, k := fun x_ _ => match x_ with
 | .normal => some (wTo (bkI H W n w s2 (t + 1)))
 | _ => some (wTo (bkI H W n w s 64)) }
noncomputable def bX5 (H W : List Int) (n : Int) (l : List Int) (i : Nat) (H2 : List Int) : Pc := { c := cB (cB (cR (cR (cR (cR (f1 Tryz.f138)))))), st := bkJ H W n l i, p := 1, kb := kb0, k := fun x_ _ => match x_ with
 | .normal => some (wTo (bkJ H2 W n l (i + 1)))
 | _ => some (wTo (bkJ H W n l 8)) }
theorem bA7 (H : List Int) (W : List Int) (n : Int) (w : List Int) (s : S8) (H2 : List Int) :
  e9 zp (aN6 H W n w s H2) [] = (some (.tup [], [(.o 0, .flat [.seg .u32 8 H2, .seg .u8 64 W, .int .i64 n])], [T zp 148 [.agg [.seg .u8 64 W]] [] (.agg [.seg .u32 64 w]) [], (0 : Int) ≤ (0 : Int) ∧ (0 : Int) < (8 : Int), 0 < (8 : Nat), (0 : Int) ≤ (1 : Int) ∧ (1 : Int) < (8 : Int), 1 < (8 : Nat), (0 : Int) ≤ (2 : Int) ∧ (2 : Int) < (8 : Int), 2 < (8 : Nat), (0 : Int) ≤ (3 : Int) ∧ (3 : Int) < (8 : Int), 3 < (8 : Nat), (0 : Int) ≤ (4 : Int) ∧ (4 : Int) < (8 : Int), 4 < (8 : Nat), (0 : Int) ≤ (5 : Int) ∧ (5 : Int) < (8 : Int), 5 < (8 : Nat), (0 : Int) ≤ (6 : Int) ∧ (6 : Int) < (8 : Int), 6 < (8 : Nat), (0 : Int) ≤ (7 : Int) ∧ (7 : Int) < (8 : Int), 7 < (8 : Nat), f9 zp none 1 (cB (cB (cR (cL (cR (cR (f1 (Bd.f (aN6 H W n w s H2))))))))) 65 (St.mk (mkT 136 [(0, .ptr (.o 0) 0 0 0 0), (2, .ptr (.o 1) 0 0 0 0), (3, .int .u32 (List.getD H 0 (0 : Int))), (4, .int .u32 (List.getD H 1 (0 : Int))), (5, .int .u32 (List.getD H 2 (0 : Int))), (6, .int .u32 (List.getD H 3 (0 : Int))), (7, .int .u32 (List.getD H 4 (0 : Int))), (8, .int .u32 (List.getD H 5 (0 : Int))), (9, .int .u32 (List.getD H 6 (0 : Int))), (10, .int .u32 (List.getD H 7 (0 : Int))), (61, .int .i64 0)]) [(.o 0, .flat [.seg .u32 8 H, .seg .u8 64 W, .int .i64 n]), (.o 1, .flat [.seg .u32 64 w])] 2 []) (.exit 0) (St.mk (mkT 136 [(0, .ptr (.o 0) 0 0 0 0), (2, .ptr (.o 1) 0 0 0 0), (3, .int .u32 (S8.a s)), (4, .int .u32 (S8.b s)), (5, .int .u32 (S8.c s)), (6, .int .u32 (S8.d s)), (7, .int .u32 (S8.e s)), (8, .int .u32 (S8.f s)), (9, .int .u32 (S8.g s)), (10, .int .u32 (S8.h s)), (61, .int .i64 64)]) [(.o 0, .flat [.seg .u32 8 H, .seg .u8 64 W, .int .i64 n]), (.o 1, .flat [.seg .u32 64 w])] 2 []), q (8 : Nat), q H, q (64 : Nat), q W, q n, q (64 : Nat), q w, q0, q0, q0, q0, q0, q0, List.getD H 0 (0 : Int) = List.getD H (0 : Nat) (0 : Int), List.getD H 1 (0 : Int) = List.getD H (1 : Nat) (0 : Int), List.getD H 2 (0 : Int) = List.getD H (2 : Nat) (0 : Int), List.getD H 3 (0 : Int) = List.getD H (3 : Nat) (0 : Int), List.getD H 4 (0 : Int) = List.getD H (4 : Nat) (0 : Int), List.getD H 5 (0 : Int) = List.getD H (5 : Nat) (0 : Int), List.getD H 6 (0 : Int) = List.getD H (6 : Nat) (0 : Int), List.getD H 7 (0 : Int) = List.getD H (7 : Nat) (0 : Int), q1, f9 zp none 1 (cB (cB (cR (cR (cR (cR (f1 (Bd.f (aN6 H W n w s H2))))))))) 9 (St.mk (mkT 136 [(0, .ptr (.o 0) 0 0 0 0), (119, .agg [.seg .u32 8 [S8.a s, S8.b s, S8.c s, S8.d s, S8.e s, S8.f s, S8.g s, S8.h s]]), (120, .int .i64 0)]) [(.o 0, .flat [.seg .u32 8 H, .seg .u8 64 W, .int .i64 n])] 2 []) (.exit 2) (St.mk (mkT 136 [(0, .ptr (.o 0) 0 0 0 0), (119, .agg [.seg .u32 8 [S8.a s, S8.b s, S8.c s, S8.d s, S8.e s, S8.f s, S8.g s, S8.h s]]), (120, .int .i64 8)]) [(.o 0, .flat [.seg .u32 8 H2, .seg .u8 64 W, .int .i64 n])] 2 []), q (8 : Nat), q H, q (64 : Nat), q W, q n, q0, q0, q0, q (8 : Nat), q ([S8.a s, S8.b s, S8.c s, S8.d s, S8.e s, S8.f s, S8.g s, S8.h s]), q1]) : Option (V × c5 × List Prop)) := by kernel_rfl
theorem bF6 (H : List Int) (W : List Int) (n : Int) (w : List Int) (s : S8) (t : Nat) (s2 : S8) :
  i5 zp (bX4 H W n w s t s2) [true] = (some (.normal, St.mk (mkT 136 [(0, .ptr (.o 0) 0 0 0 0), (2, .ptr (.o 1) 0 0 0 0), (3, .int .u32 (S8.a s2)), (4, .int .u32 (S8.b s2)), (5, .int .u32 (S8.c s2)), (6, .int .u32 (S8.d s2)), (7, .int .u32 (S8.e s2)), (8, .int .u32 (S8.f s2)), (9, .int .u32 (S8.g s2)), (10, .int .u32 (S8.h s2)), (61, .int .i64 (↑(t + 1) : Int))]) [(.o 0, .flat [.seg .u32 8 H, .seg .u8 64 W, .int .i64 n]), (.o 1, .flat [.seg .u32 64 w])] 2 [], [decide ((↑t : Int) < (64 : Int)) = true, T zp 149 [.int .u32 (S8.e s), .int .i64 6, .int .i64 11, .int .i64 25] [] (.int .u32 (s32 (S8.e s) (6 : Int) (11 : Int) (25 : Int))) [], T zp 150 [.int .i64 ↑t] [] (.int .u32 (kN (Int.toNat (↑t : Int)))) [], (0 : Int) ≤ (↑t : Int) ∧ (↑t : Int) < (64 : Int), (0 : Nat) + Int.toNat (↑t : Int) < (64 : Nat), T zp 149 [.int .u32 (S8.a s), .int .i64 2, .int .i64 13, .int .i64 22] [] (.int .u32 (s32 (S8.a s) (2 : Int) (13 : Int) (22 : Int))) [], InR .i64 ((↑t : Int) + (1 : Int)), q (8 : Nat), q H, q (64 : Nat), q W, q n, q (64 : Nat), q w, q0, q0, q0, q0, q0, q0, IntKind.wrap .u32 (IntKind.wrap .u32 (IntKind.wrap .u32 (IntKind.wrap .u32 (IntKind.wrap .u32 (S8.h s + s32 (S8.e s) (6 : Int) (11 : Int) (25 : Int)) + j8 (fun x x_1 y => x_1 ^^^ y) .u32 (j8 (fun x x_1 y => x_1 &&& y) .u32 (S8.e s) (S8.f s)) (j8 (fun x x_1 y => x_1 &&& y) .u32 (j8 (fun x x_1 y => x_1 ^^^ y) .u32 (4294967295 : Int) (S8.e s)) (S8.g s))) + kN (Int.toNat (↑t : Int))) + List.getD w ((0 : Nat) + Int.toNat (↑t : Int)) (0 : Int)) + IntKind.wrap .u32 (s32 (S8.a s) (2 : Int) (13 : Int) (22 : Int) + j8 (fun x x_1 y => x_1 ^^^ y) .u32 (j8 (fun x x_1 y => x_1 ^^^ y) .u32 (j8 (fun x x_1 y => x_1 &&& y) .u32 (S8.a s) (S8.b s)) (j8 (fun x x_1 y => x_1 &&& y) .u32 (S8.a s) (S8.c s))) (j8 (fun x x_1 y => x_1 &&& y) .u32 (S8.b s) (S8.c s)))) = S8.a s2, S8.a s = S8.b s2, S8.b s = S8.c s2, S8.c s = S8.d s2, IntKind.wrap .u32 (S8.d s + IntKind.wrap .u32 (IntKind.wrap .u32 (IntKind.wrap .u32 (IntKind.wrap .u32 (S8.h s + s32 (S8.e s) (6 : Int) (11 : Int) (25 : Int)) + j8 (fun x x_1 y => x_1 ^^^ y) .u32 (j8 (fun x x_1 y => x_1 &&& y) .u32 (S8.e s) (S8.f s)) (j8 (fun x x_1 y => x_1 &&& y) .u32 (j8 (fun x x_1 y => x_1 ^^^ y) .u32 (4294967295 : Int) (S8.e s)) (S8.g s))) + kN (Int.toNat (↑t : Int))) + List.getD w ((0 : Nat) + Int.toNat (↑t : Int)) (0 : Int))) = S8.e s2, S8.e s = S8.f s2, S8.f s = S8.g s2, S8.g s = S8.h s2, (↑t : Int) + (1 : Int) = (↑(t + (1 : Nat)) : Int)]) : Option (Exit × St × List Prop)) := by kernel_rfl
theorem bF5 (H : List Int) (W : List Int) (n : Int) (w : List Int) (s : S8) (t : Nat) (s2 : S8) :
  i5 zp (bX4 H W n w s t s2) [false] = (some (.exit 0, St.mk (mkT 136 [(0, .ptr (.o 0) 0 0 0 0), (2, .ptr (.o 1) 0 0 0 0), (3, .int .u32 (S8.a s)), (4, .int .u32 (S8.b s)), (5, .int .u32 (S8.c s)), (6, .int .u32 (S8.d s)), (7, .int .u32 (S8.e s)), (8, .int .u32 (S8.f s)), (9, .int .u32 (S8.g s)), (10, .int .u32 (S8.h s)), (61, .int .i64 64)]) [(.o 0, .flat [.seg .u32 8 H, .seg .u8 64 W, .int .i64 n]), (.o 1, .flat [.seg .u32 64 w])] 2 [], [decide ((↑t : Int) < (64 : Int)) = false, q (8 : Nat), q H, q (64 : Nat), q W, q n, q (64 : Nat), q w, q0, q0, q0, q0, q0, q0, q (S8.a s), q (S8.b s), q (S8.c s), q (S8.d s), q (S8.e s), q (S8.f s), q (S8.g s), q (S8.h s), (↑t : Int) = (64 : Int)]) : Option (Exit × St × List Prop)) := by kernel_rfl
theorem bF8 (H : List Int) (W : List Int) (n : Int) (l : List Int) (i : Nat) (H2 : List Int) :
  i5 zp (bX5 H W n l i H2) [true] = (some (.normal, St.mk (mkT 136 [(0, .ptr (.o 0) 0 0 0 0), (119, .agg [.seg .u32 8 l]), (120, .int .i64 (↑(i + 1) : Int))]) [(.o 0, .flat [.seg .u32 8 H2, .seg .u8 64 W, .int .i64 n])] 2 [], [decide ((↑i : Int) < (8 : Int)) = true, (0 : Int) ≤ (↑i : Int) ∧ (↑i : Int) < (8 : Int) ∧ (↑i : Int) < (8 : Int), (0 : Int) ≤ (↑i : Int) ∧ (↑i : Int) < (8 : Int), (0 : Nat) + Int.toNat (↑i : Int) < (8 : Nat), (0 : Int) ≤ (↑i : Int) ∧ (↑i : Int) < (8 : Int), (0 : Nat) + Int.toNat (↑i : Int) < (8 : Nat), InR .i64 ((↑i : Int) + (1 : Int)), q (8 : Nat), List.set H ((0 : Nat) + Int.toNat (↑i : Int)) (IntKind.wrap .u32 (List.getD H ((0 : Nat) + Int.toNat (↑i : Int)) (0 : Int) + List.getD l (Int.toNat (↑i : Int)) (0 : Int))) = H2, q (64 : Nat), q W, q n, q0, q0, q0, q (8 : Nat), q l, (↑i : Int) + (1 : Int) = (↑(i + (1 : Nat)) : Int)]) : Option (Exit × St × List Prop)) := by kernel_rfl
theorem bF7 (H : List Int) (W : List Int) (n : Int) (l : List Int) (i : Nat) (H2 : List Int) :
  i5 zp (bX5 H W n l i H2) [false] = (some (.exit 2, St.mk (mkT 136 [(0, .ptr (.o 0) 0 0 0 0), (119, .agg [.seg .u32 8 l]), (120, .int .i64 8)]) [(.o 0, .flat [.seg .u32 8 H, .seg .u8 64 W, .int .i64 n])] 2 [], [decide ((↑i : Int) < (8 : Int)) = false, q (8 : Nat), q H, q (64 : Nat), q W, q n, q0, q0, q0, q (8 : Nat), q l, (↑i : Int) = (8 : Int)]) : Option (Exit × St × List Prop)) := by kernel_rfl
theorem T_bk (H W : List Int) (n : Int) : T Tryz.prog 138 [p0K 0] [(.o 0, stB H W n)] (.tup []) [(.o 0, stB (blk H W) W n)] := by
 have hA : ∀ w, f9 Tryz.prog none 1 (cB (cB (cR (cL (cR (cR (f1 Tryz.f138))))))) (64 + 1) (bkI H W n w (rnd w (S8.of H) 0) 0) (.exit 0) (bkI H W n w (rnd w (S8.of H) 64) 64) := by
  intro w
  have hstep : ∀ t, t < 64 → R Tryz.prog none 1 (cB (cB (cR (cL (cR (cR (f1 Tryz.f138))))))) (bkI H W n w (rnd w (S8.of H) t) t) .normal (bkI H W n w (rnd w (S8.of H) (t + 1)) (t + 1)) := by
   intro t ht
   have h1 := bP0 (rnd w (S8.of H) t).e (a := 6) (b := 11) (c := 25) (by decide) (by decide) (by decide)
   have h2 := bP0 (rnd w (S8.of H) t).a (a := 2) (b := 13) (c := 22) (by decide) (by decide) (by decide)
   have h3 := T_kr ht
   refine f4 NG MO _ (bF6 H W n w (rnd w (S8.of H) t) t (rnd w (S8.of H) (t + 1))) ?_ (by show 1 ≤ 2; decide)
   simp only [All, Nat.zero_add, Int.toNat_natCast]; and_intros
   all_goals first | exact True.intro | exact h1 | exact h2 | exact h3 | rfl | (with_reducible assumption) | (rw [decide_eq_true_eq]; omega) | (simp only [IntKind.min, IntKind.max, IntKind.signed, IntKind.bits, if_true]; omega) | omega
  have hend : R Tryz.prog none 1 (cB (cB (cR (cL (cR (cR (f1 Tryz.f138))))))) (bkI H W n w (rnd w (S8.of H) 64) 64) (.exit 0) (bkI H W n w (rnd w (S8.of H) 64) 64) := by
   refine f4 NG MO _ (bF5 H W n w (rnd w (S8.of H) 64) 64 ⟨0, 0, 0, 0, 0, 0, 0, 0⟩) ?_ (by show 1 ≤ 2; decide)
   simp only [All]; and_intros
   all_goals first | exact True.intro | (rw [decide_eq_false_iff_not]; omega) | omega
  exact f9.inv (fun t => bkI H W n w (rnd w (S8.of H) t) t) 64 hstep hend (by simp)
 have hB : ∀ l, f9 Tryz.prog none 1 (cB (cB (cR (cR (cR (cR (f1 Tryz.f138))))))) (8 + 1) (bkJ (hF H l 0) W n l 0) (.exit 2) (bkJ (hF H l 8) W n l 8) := by
  intro l
  have hstep : ∀ i, i < 8 → R Tryz.prog none 1 (cB (cB (cR (cR (cR (cR (f1 Tryz.f138))))))) (bkJ (hF H l i) W n l i) .normal (bkJ (hF H l (i + 1)) W n l (i + 1)) := by
   intro i hi
   refine f4 NG MO _ (bF8 (hF H l i) W n l i (hF H l (i + 1))) ?_ (by show 1 ≤ 2; decide)
   simp only [All, Nat.zero_add, Int.toNat_natCast]; and_intros
   all_goals first | exact True.intro | rfl | (with_reducible assumption) | (rw [decide_eq_true_eq]; omega) | (simp only [IntKind.min, IntKind.max, IntKind.signed, IntKind.bits, if_true]; omega) | omega
  have hend : R Tryz.prog none 1 (cB (cB (cR (cR (cR (cR (f1 Tryz.f138))))))) (bkJ (hF H l 8) W n l 8) (.exit 2) (bkJ (hF H l 8) W n l 8) := by
   refine f4 NG MO _ (bF7 (hF H l 8) W n l 8 []) ?_ (by show 1 ≤ 2; decide)
   simp only [All]; and_intros
   all_goals first | exact True.intro | (rw [decide_eq_false_iff_not]; omega) | omega
  exact f9.inv (fun i => bkJ (hF H l i) W n l i) 8 hstep hend (by simp)
 have h1 := cd4 W
 have hA1 := hA (wB W 48)
 have hB1 := hB (rnd (wB W 48) (S8.of H) 64).l
 generalize hw : wB W 48 = w at h1 hA1 hB1
 generalize hs : rnd w (S8.of H) 64 = s at hA1 hB1
 have hb : hF H s.l 8 = blk H W := by rw [blk, hw, hs]
 rw [hb] at hB1
 refine f3 (bA7 H W n w s (blk H W)) Tryz.func138 ?_
 simp only [All]; and_intros
 all_goals first | exact True.intro | exact h1 | exact hA1 | exact hB1 | omega
noncomputable def bdBe : Bd := { f := Tryz.f103, args := [], kb := kb0, names := fun t => [nmV (m6 t.tmps 0)] }
def wrI (H W : List Int) (n : Nat) (l : List Int) : St := ⟨mkT 38 [(0, p0K 0), (1, rb l)], [(.o 0, stB H W (n : Nat))], 1, []⟩
noncomputable def bV1 (H W : List Int) (n : Nat) (l H2 W2 : List Int) (n2 : Nat) : Bd := { f := Tryz.f104, args := [p0K 0, rb l], pre := [(.o 0, stB H W (n : Nat))], base := 1, kb := { db := fun _ _ _ _ => [], lp := fun _ _ => [(True, .loop (l.length + 1) (wTo (wrI H W n l)) (.exit 0) (wrI H2 W2 n2 []))] }, names := fun _ => [.o 0] }
def bkDb (H2 : List Int) : List V → c5 → Nat → List Cl := fun _ h _ => match A4 (.o 0) h with
 | some (.flat [_, .seg _ _ W, .int _ n], _) => [{ pre := [.o 0], val := .tup [], post := [(.o 0, .flat [.seg .u32 8 H2, .seg .u8 64 W, .int .i64 n])] }]
 | _ => []
noncomputable def bs0 (H W : List Int) (n : Nat) (l H2 W2 : List Int) (n2 : Nat) (l2 : List Int) : Pc := { c := cB (cB (f1 Tryz.f104)), st := wrI H W n l, p := 1, kb := { db := dbQ [(138, bkDb H2)] }, k := fun x_ _ => match x_ with
 | .normal => some (wTo (wrI H2 W2 n2 l2))
 | _ => some (wTo (wrI H W n [])) }
theorem bQ8 :
  e9 zp (bdBe) [] = (some (.ptr (.o 192) 0 0 0 0, [(.o 192, .flat [.seg .u32 8 [(1779033703 : Int), (3144134277 : Int), (1013904242 : Int), (2773480762 : Int), (1359893119 : Int), (2600822924 : Int), (528734635 : Int), (1541459225 : Int)], .seg .u8 64 (List.replicate 64 (0 : Int)), .int .i64 0])], []) : Option (V × c5 × List Prop)) := by kernel_rfl
theorem bV2 (H : List Int) (W : List Int) (n : Nat) (l : List Int) (H2 : List Int) (W2 : List Int) (n2 : Nat) :
  e9 zp (bV1 H W n l H2 W2 n2) [] = (some (.tup [], [(.o 0, .flat [.seg .u32 8 H2, .seg .u8 64 W2, .int .i64 ↑n2])], [f9 zp none 1 (cB (cB (f1 (Bd.f (bV1 H W n l H2 W2 n2))))) (List.length l + 1) (St.mk (mkT 38 [(0, .ptr (.o 0) 0 0 0 0), (1, .ros 1 (List.length l) (ib l) false)]) [(.o 0, .flat [.seg .u32 8 H, .seg .u8 64 W, .int .i64 ↑n])] 1 []) (.exit 0) (St.mk (mkT 38 [(0, .ptr (.o 0) 0 0 0 0), (1, .ros 1 0 (ib []) false)]) [(.o 0, .flat [.seg .u32 8 H2, .seg .u8 64 W2, .int .i64 ↑n2])] 1 []), q (8 : Nat), q H, q (64 : Nat), q W, q (↑n : Int), q0, q0, q0, q (List.length l), ∀ (k : Nat), k < List.length l → [V.int .u8 (List.getD l k (0 : Int))] = [V.int .u8 (List.getD l k (0 : Int))], false = true → false = true]) : Option (V × c5 × List Prop)) := by kernel_rfl
noncomputable def aa9 (H : List Int) (W : List Int) (n : Nat) (l : List Int) (H2 : List Int) (W2 : List Int) (n2 : Nat) (l2 : List Int) : Nat → List Prop
 | 0 => [decide ((0 : Int) < (↑(List.length l) : Int)) = true, (0 : Int) ≤ (↑n : Int) ∧ (0 : Int) < (64 : Int), (0 : Int) ≤ (↑n : Int) % (64 : Int) ∧ (↑n : Int) % (64 : Int) ≤ (64 : Int), Int.toNat ((↑n : Int) % (64 : Int)) = (0 : Nat) ∨ Int.toNat ((↑n : Int) % (64 : Int)) < 64, K5 (0 : Nat) (some ((↑n : Int) % (64 : Int))) + (64 - f2 (some ((↑n : Int) % (64 : Int))) (0 : Nat)) ≤ (64 : Nat), ∀ (q : Nat), q < List.length l → true = true, InR .i64 ((↑n : Int) + (↑(Nat.min (List.length l) (64 - f2 (some ((↑n : Int) % (64 : Int))) (0 : Nat))) : Int)), (0 : Int) ≤ (↑(Nat.min (List.length l) (64 - f2 (some ((↑n : Int) % (64 : Int))) (0 : Nat))) : Int) ∧ (↑(Nat.min (List.length l) (64 - f2 (some ((↑n : Int) % (64 : Int))) (0 : Nat))) : Int) ≤ (↑(f2 none (List.length l)) : Int), (0 : Int) ≤ (↑n : Int) + (↑(Nat.min (List.length l) (64 - f2 (some ((↑n : Int) % (64 : Int))) (0 : Nat))) : Int) ∧ (0 : Int) < (64 : Int)]
 | _ => []
theorem bs2 (H : List Int) (W : List Int) (n : Nat) (l : List Int) (H2 : List Int) (W2 : List Int) (n2 : Nat) (l2 : List Int) :
 i5 zp (bs0 H W n l H2 W2 n2 l2) [true, true] = (some (.normal, St.mk (mkT 38 [(0, .ptr (.o 0) 0 0 0 0), (1, .ros 1 (List.length l2) (ib l2) false)]) [(.o 0, .flat [.seg .u32 8 H2, .seg .u8 64 W2, .int .i64 ↑n2])] 1 [], aa9 H W n l H2 W2 n2 l2 0 ++ [decide (((↑n : Int) + (↑(Nat.min (List.length l) (64 - f2 (some ((↑n : Int) % (64 : Int))) (0 : Nat))) : Int)) % (64 : Int) = (0 : Int)) = true, T zp 138 [.ptr (.o 0) 0 0 0 0] [(.o 0, .flat [.seg .u32 8 H, .seg .u8 64 (r7 64 W (K5 0 (some ((↑n : Int) % (64 : Int)))) (Nat.min (List.length l) (64 - f2 (some ((↑n : Int) % (64 : Int))) 0)) (ib l)), .int .i64 ((↑n : Int) + (↑(Nat.min (List.length l) (64 - f2 (some ((↑n : Int) % (64 : Int))) 0)) : Int))])] (.tup []) [(.o 0, .flat [.seg .u32 8 H2, .seg .u8 64 (r7 64 W (K5 0 (some ((↑n : Int) % (64 : Int)))) (Nat.min (List.length l) (64 - f2 (some ((↑n : Int) % (64 : Int))) 0)) (ib l)), .int .i64 ((↑n : Int) + (↑(Nat.min (List.length l) (64 - f2 (some ((↑n : Int) % (64 : Int))) 0)) : Int))])], q (8 : Nat), q H2, q (64 : Nat), r7 (64 : Nat) W (K5 (0 : Nat) (some ((↑n : Int) % (64 : Int)))) (Nat.min (List.length l) (64 - f2 (some ((↑n : Int) % (64 : Int))) (0 : Nat))) (ib l) = W2, (↑n : Int) + (↑(Nat.min (List.length l) (64 - f2 (some ((↑n : Int) % (64 : Int))) (0 : Nat))) : Int) = (↑n2 : Int), q0, q0, q0, f2 none (List.length l) - f2 (some (↑(Nat.min (List.length l) (64 - f2 (some ((↑n : Int) % (64 : Int))) (0 : Nat))) : Int)) (0 : Nat) = List.length l2, ∀ (k : Nat), k < f2 none (List.length l) - f2 (some (↑(Nat.min (List.length l) (64 - f2 (some ((↑n : Int) % (64 : Int))) (0 : Nat))) : Int)) (0 : Nat) → [V.int .u8 (List.getD l (Int.toNat (↑(Nat.min (List.length l) (64 - f2 (some ((↑n : Int) % (64 : Int))) (0 : Nat))) : Int) + k) (0 : Int))] = [V.int .u8 (List.getD l2 k (0 : Int))], false = true → false = true]) : Option (Exit × St × List Prop)) := by kernel_rfl
theorem bs1 (H : List Int) (W : List Int) (n : Nat) (l : List Int) (H2 : List Int) (W2 : List Int) (n2 : Nat) (l2 : List Int) :
 i5 zp (bs0 H W n l H2 W2 n2 l2) [true, false] = (some (.normal, St.mk (mkT 38 [(0, .ptr (.o 0) 0 0 0 0), (1, .ros 1 (List.length l2) (ib l2) false)]) [(.o 0, .flat [.seg .u32 8 H2, .seg .u8 64 W2, .int .i64 ↑n2])] 1 [], aa9 H W n l H2 W2 n2 l2 0 ++ [decide (((↑n : Int) + (↑(Nat.min (List.length l) (64 - f2 (some ((↑n : Int) % (64 : Int))) (0 : Nat))) : Int)) % (64 : Int) = (0 : Int)) = false, q (8 : Nat), H = H2, q (64 : Nat), r7 (64 : Nat) W (K5 (0 : Nat) (some ((↑n : Int) % (64 : Int)))) (Nat.min (List.length l) (64 - f2 (some ((↑n : Int) % (64 : Int))) (0 : Nat))) (ib l) = W2, (↑n : Int) + (↑(Nat.min (List.length l) (64 - f2 (some ((↑n : Int) % (64 : Int))) (0 : Nat))) : Int) = (↑n2 : Int), q0, q0, q0, f2 none (List.length l) - f2 (some (↑(Nat.min (List.length l) (64 - f2 (some ((↑n : Int) % (64 : Int))) (0 : Nat))) : Int)) (0 : Nat) = List.length l2, ∀ (k : Nat), k < f2 none (List.length l) - f2 (some (↑(Nat.min (List.length l) (64 - f2 (some ((↑n : Int) % (64 : Int))) (0 : Nat))) : Int)) (0 : Nat) → [V.int .u8 (List.getD l (Int.toNat (↑(Nat.min (List.length l) (64 - f2 (some ((↑n : Int) % (64 : Int))) (0 : Nat))) : Int) + k) (0 : Int))] = [V.int .u8 (List.getD l2 k (0 : Int))], false = true → false = true]) : Option (Exit × St × List Prop)) := by kernel_rfl
theorem aL_ (H : List Int) (W : List Int) (n : Nat) (l : List Int) (H2 : List Int) (W2 : List Int) (n2 : Nat) (l2 : List Int) :
 i5 zp (bs0 H W n l H2 W2 n2 l2) [false] = (some (.exit 0, St.mk (mkT 38 [(0, .ptr (.o 0) 0 0 0 0), (1, .ros 1 0 (ib []) false)]) [(.o 0, .flat [.seg .u32 8 H, .seg .u8 64 W, .int .i64 ↑n])] 1 [], [decide ((0 : Int) < (↑(List.length l) : Int)) = false, q (8 : Nat), q H, q (64 : Nat), q W, q (↑n : Int), q0, q0, q0, List.length l = 0, ∀ (k : Nat), k < List.length l → [V.int .u8 (List.getD l k (0 : Int))] = [V.int .u8 (0 : Int)], false = true → false = true]) : Option (Exit × St × List Prop)) := by kernel_rfl
def wrC (n : Nat) (l : List Int) : Nat := Nat.min l.length (64 - f2 (some ((n : Int) % 64)) 0)
def wrW (W : List Int) (n : Nat) (l : List Int) : List Int := r7 64 W (K5 0 (some ((n : Int) % 64))) (wrC n l) (ib l)
theorem b_7 (n : Nat) (l : List Int) : wrC n l = min l.length (64 - n % 64) := by
 have : f2 (some ((n : Int) % 64)) 0 = n % 64 := by show ((n : Int) % 64).toNat = _; omega
 rw [wrC, this]
theorem b_8 (W : List Int) (n : Nat) (l : List Int) : wrW W n l = r7 64 W (n % 64) (wrC n l) (ib l) := by
 have : K5 0 (some ((n : Int) % 64)) = n % 64 := by show 0 + ((n : Int) % 64).toNat = _; omega
 rw [wrW, this]
theorem b_9 : ∀ (N : Nat) (l : List Int), l.length ≤ N → ∀ B H W, Inv B H W → B.length + l.length ≤ 1000000000000 → ∃ H2 W2, Inv (B ++ l) H2 W2 ∧ ∀ m, l.length < m →
  f9 Tryz.prog none 1 (cB (cB (f1 Tryz.f104))) m (wrI H W B.length l) (.exit 0) (wrI H2 W2 (B.length + l.length) []) := by
 intro N
 induction N with
 | zero =>
  intro l hl B H W hI hb
  obtain rfl : l = [] := List.eq_nil_of_length_eq_zero (by omega)
  refine ⟨H, W, by rw [List.append_nil]; exact hI, fun m hm => ?_⟩
  obtain ⟨m, rfl⟩ : ∃ k, m = k + 1 := ⟨m - 1, by simp at hm; omega⟩
  refine f9.out ?_ (by simp)
  refine f4 NG MO _ (aL_ H W B.length [] [] [] 0 []) ?_ (by show 1 ≤ 1; decide)
  simp only [All, f6, aa9]; and_intros
  all_goals first | exact True.intro | (rw [decide_eq_false_iff_not]; omega) | (intro _ _; rfl) | omega | (intro h; exact h)
 | succ N ih =>
  intro l hl B H W hI hb
  by_cases h0 : l.length = 0
  ·obtain rfl : l = [] := List.eq_nil_of_length_eq_zero h0
   refine ⟨H, W, by rw [List.append_nil]; exact hI, fun m hm => ?_⟩
   obtain ⟨m, rfl⟩ : ∃ k, m = k + 1 := ⟨m - 1, by simp at hm; omega⟩
   refine f9.out ?_ (by simp)
   refine f4 NG MO _ (aL_ H W B.length [] [] [] 0 []) ?_ (by show 1 ≤ 1; decide)
   simp only [All, f6, aa9]; and_intros
   all_goals first | exact True.intro | (with_reducible assumption) | (rw [decide_eq_false_iff_not]; omega) | (intro _ _; rfl) | (intro h; exact h)
  have hc := b_7 B.length l
  have hc1 : wrC B.length l ≤ l.length := by omega
  have hc2 : wrC B.length l ≤ 64 - B.length % 64 := by omega
  have hc3 : 0 < wrC B.length l := by omega
  have hS := bn8 hI hc1 hc2
  simp only [← b_8] at hS
  have e1 : f2 (none : Option Int) l.length = l.length := rfl
  have e2 : f2 (some ((wrC B.length l : Nat) : Int)) 0 = wrC B.length l := Int.toNat_natCast _
  have e3 : f2 (some ((B.length : Int) % 64)) 0 = B.length % 64 := by show ((B.length : Int) % 64).toNat = _; omega
  have e4 : K5 0 (some ((B.length : Int) % 64)) = B.length % 64 := by show 0 + ((B.length : Int) % 64).toNat = _; omega
  have e5 : Nat.min l.length (64 - f2 (some ((B.length : Int) % 64)) 0) = wrC B.length l := rfl
  have hd : (l.drop (wrC B.length l)).length = l.length - wrC B.length l := List.length_drop
  have ht : (B ++ l.take (wrC B.length l)).length = B.length + wrC B.length l := by rw [List.length_append, List.length_take, Nat.min_eq_left hc1]
  have hdg : ∀ k, (l.drop (wrC B.length l)).getD k 0 = l.getD (wrC B.length l + k) 0 := fun k => by rw [List.getD_eq_getElem?_getD, List.getD_eq_getElem?_getD, List.getElem?_drop]
  have key : ∃ H1, Inv (B ++ l.take (wrC B.length l)) H1 (wrW W B.length l) ∧ R Tryz.prog none 1 (cB (cB (f1 Tryz.f104))) (wrI H W B.length l) .normal (wrI H1 (wrW W B.length l) (B.length + wrC B.length l) (l.drop (wrC B.length l))) := by
   by_cases hz : (B.length + wrC B.length l) % 64 = 0
   ·have hB := T_bk H (wrW W B.length l) ((B.length : Int) + (wrC B.length l : Nat))
    refine ⟨blk H (wrW W B.length l), hS.1 hz hc3, ?_⟩
    refine f4 NG MO _ (bs2 H W B.length l (blk H (wrW W B.length l)) (wrW W B.length l) (B.length + wrC B.length l) (l.drop (wrC B.length l))) ?_ (by show 1 ≤ 1; decide)
    simp only [All, f6, aa9, e5, e1, e2, hd, hdg, Int.toNat_natCast]; and_intros
    all_goals first | exact True.intro | (rw [e3]; omega) | (rw [decide_eq_true_eq]; omega) | (intro _ _; exact True.intro) | (simp only [IntKind.min, IntKind.max, IntKind.signed, IntKind.bits, if_true]; omega) | omega | (intro h; exact h) | kernel_rfl | (refine Eq.mp ?_ hB; kernel_rfl)
   ·refine ⟨H, hS.2 hz, ?_⟩
    refine f4 NG MO _ (bs1 H W B.length l H (wrW W B.length l) (B.length + wrC B.length l) (l.drop (wrC B.length l))) ?_ (by show 1 ≤ 1; decide)
    simp only [All, f6, aa9, e5, e1, e2, hd, hdg, Int.toNat_natCast]; and_intros
    all_goals first | exact True.intro | (rw [e3]; omega) | (rw [decide_eq_true_eq]; omega) | (rw [decide_eq_false_iff_not]; omega) | (intro _ _; exact True.intro) | (simp only [IntKind.min, IntKind.max, IntKind.signed, IntKind.bits, if_true]; omega) | omega | (intro h; exact h) | kernel_rfl
  obtain ⟨H1, hI1, hR⟩ := key
  obtain ⟨H2, W2, hI2, hL⟩ := ih (l.drop (wrC B.length l)) (by omega) _ _ _ hI1 (by omega)
  refine ⟨H2, W2, by rw [List.append_assoc, List.take_append_drop] at hI2; exact hI2, fun m hm => ?_⟩
  obtain ⟨m, rfl⟩ : ∃ k, m = k + 1 := ⟨m - 1, by omega⟩
  have := hL m (by omega)
  rw [ht, hd, show B.length + wrC B.length l + (l.length - wrC B.length l) = B.length + l.length by omega] at this
  exact f9.step hR this
theorem bP2 {B H W : List Int} (hI : Inv B H W) (l : List Int) (hb : B.length + l.length ≤ 1000000000000) : ∃ H2 W2, Inv (B ++ l) H2 W2 ∧ T Tryz.prog 104 [p0K 0, rb l] [(.o 0, stB H W (B.length : Nat))] (.tup []) [(.o 0, stB H2 W2 ((B.length + l.length : Nat) : Int))] := by
 obtain ⟨H2, W2, h1, h2⟩ := b_9 l.length l (Nat.le_refl _) B H W hI hb
 have hL := h2 (l.length + 1) (Nat.lt_succ_self _)
 refine ⟨H2, W2, h1, ?_⟩
 refine f3 (bV2 H W B.length l H2 W2 (B.length + l.length)) Tryz.func104 ?_
 simp only [All]; and_intros
 all_goals first | exact True.intro | exact hL | (intro _ _; exact True.intro) | (intro h; exact h)
def bu2 (H W : List Int) (n : Nat) : List V → List Cl
 | [_, .sl x _ _ _ _ _ _] => [{ pre := [.o 0], rd := [x], val := .tup [], post := [(.o 0, stB H W (n : Nat))] }]
 | _ => []
def enI (H W : List Int) (n N : Nat) : St := ⟨mkT 63 [(0, p0K 0), (2, p0K 1), (3, .int .i64 (8 * (N : Int)))], [(.o 0, stB H W (n : Nat)), (.o 1, .flat [.seg .u8 32 p8])], 2, []⟩
def enJ (H W : List Int) (n : Nat) (d : List Int) (k : Nat) : St := ⟨mkT 63 [(0, p0K 0), (2, p0K 1), (43, .int .i64 (k : Nat))], [(.o 0, stB H W (n : Nat)), (.o 1, .flat [.seg .u8 32 d])], 2, []⟩
def enR (N j : Nat) : Nat → List V := fun q => [.int .u8 (if q < j then S6 (8 * (N : Int)) q else 0)]
def enL (H W : List Int) (n N j : Nat) : St := ⟨mkT 63 [(0, p0K 0), (2, p0K 1), (3, .int .i64 (8 * (N : Int))), (4, .sl (.o 2) 1 0 0 0 8 none), (26, .int .i64 8), (27, .int .i64 (j : Nat))], [(.o 0, stB H W (n : Nat)), (.o 1, .flat [.seg .u8 32 p8]), (.o 2, .rows 1 8 (enR N j) false)], 3, []⟩
def enDb (H1 W1 H3 W3 : List Int) (N z : Nat) (a : List V) : List Cl := match a with
 | [_, .sl _ _ _ _ _ 1 _] => bu2 H1 W1 (N + 1) a
 | _ => bu2 H3 W3 (N + 1 + z + 8) a
noncomputable def aO1 (H W : List Int) (N : Nat) (H1 W1 : List Int) (z : Nat) (H2 W2 H3 W3 d : List Int) : Bd := { f := Tryz.f105, args := [p0K 0], pre := [(.o 0, stB H W (N : Nat))], base := 1, kb := { db := dbQ [(104, fun a _ _ => enDb H1 W1 H3 W3 N z a)], lp := fun id t => bif Nat.beq id 0 then [(True, .loop (z + 1) (w6 [(.o 1, nmV (m6 t.tmps 2))] (enI H1 W1 (N + 1) N)) (.exit 0) (enI H2 W2 (N + 1 + z) N))] else bif Nat.beq id 2 then [(True, .loop (8 + 1) (w6 [(.o 2, nmV (m6 t.tmps 4))] (enL H2 W2 (N + 1 + z) N 0)) (.exit 2) (enL H2 W2 (N + 1 + z) N 8))] else [(True, .loop (32 + 1) (wTo (enJ H3 W3 (N + 1 + z + 8) p8 0)) (.exit 4) (enJ H3 W3 (N + 1 + z + 8) d 32))] }, names := fun _ => [.o 0] }
noncomputable def bY5 (H W : List Int) (n N : Nat) (H2 W2 : List Int) : Pc := { c := cB (cB (cL (cR (cR (cR (f1 Tryz.f105)))))), st := enI H W n N, p := 1, kb := { db := dbQ [(104, fun a _ _ => bu2 H2 W2 (n + 1) a)] }, k := fun x_ _ => match x_ with
 | .normal => some (wTo (enI H2 W2 (n + 1) N))
 | _ => some (wTo (enI H W n N)) }
noncomputable def bY4 (H W : List Int) (n N j : Nat) : Pc := { c := cB (cB (cR (cL (cR (cR (cR (cR (cR (f1 Tryz.f105))))))))), st := enL H W n N j, p := 1, kb := kb0, k := fun x_ _ => match x_ with
 | .normal => some (wTo (enL H W n N (j + 1)))
 | _ => some (wTo (enL H W n N 8)) }
noncomputable def bY3 (H W : List Int) (n : Nat) (d : List Int) (k : Nat) (d2 : List Int) : Pc := { c := cB (cB (cR (cL (cR (cR (cR (cR (cR (cR (cR (f1 Tryz.f105))))))))))), st := enJ H W n d k, p := 1, kb := kb0, k := fun x_ _ => match x_ with
 | .normal => some (wTo (enJ H W n d2 (k + 1)))
 | _ => some (wTo (enJ H W n d 32)) }
theorem bR5 (H : List Int) (W : List Int) (N : Nat) (H1 : List Int) (W1 : List Int) (z : Nat) (H2 : List Int) (W2 : List Int) (H3 : List Int) (W3 : List Int) (d : List Int) :
  e9 zp (aO1 H W N H1 W1 z H2 W2 H3 W3 d) [] = some (V.agg [V.seg .u8 (32 : Nat) d], [(Nm.o (0 : Nat), B.flat [V.seg .u32 (8 : Nat) H3, V.seg .u8 (64 : Nat) W3, V.int .i64 (↑(N + (1 : Nat) + z + (8 : Nat)) : Int)])], [InR .i64 ((8 : Int) * (↑N : Int)), T zp (104 : Nat) [V.ptr (Nm.o (0 : Nat)) (0 : Nat) (0 : Nat) (0 : Nat) (0 : Nat), V.sl (Nm.o 513) (1 : Nat) (0 : Nat) (0 : Nat) (0 : Nat) (1 : Nat) (some (1 : Nat))] [(Nm.o (0 : Nat), B.flat [V.seg .u32 (8 : Nat) H, V.seg .u8 (64 : Nat) W, V.int .i64 (↑N : Int)]), (Nm.o 513, B.rows (1 : Nat) (1 : Nat) (j3 [[V.int .u8 (128 : Int)]]) false)] (V.tup []) [(Nm.o (0 : Nat), B.flat [V.seg .u32 (8 : Nat) H1, V.seg .u8 (64 : Nat) W1, V.int .i64 (↑(N + (1 : Nat)) : Int)]), (Nm.o 513, B.rows (1 : Nat) (1 : Nat) (j3 [[V.int .u8 (128 : Int)]]) false)], f9 zp none (1 : Nat) (cB (cB (cL (cR (cR (cR (f1 (Bd.f (aO1 H W N H1 W1 z H2 W2 H3 W3 d))))))))) (z + (1 : Nat)) (St.mk (mkT 63 [(0, V.ptr (Nm.o (0 : Nat)) (0 : Nat) (0 : Nat) (0 : Nat) (0 : Nat)), (2, V.ptr (Nm.o (1 : Nat)) (0 : Nat) (0 : Nat) (0 : Nat) (0 : Nat)), (3, V.int .i64 ((8 : Int) * (↑N : Int)))]) [(Nm.o (0 : Nat), B.flat [V.seg .u32 (8 : Nat) H1, V.seg .u8 (64 : Nat) W1, V.int .i64 (↑(N + (1 : Nat)) : Int)]), (Nm.o (1 : Nat), B.flat [V.seg .u8 (32 : Nat) p8])] (2 : Nat) []) (Exit.exit (0 : Nat)) (St.mk (mkT 63 [(0, V.ptr (Nm.o (0 : Nat)) (0 : Nat) (0 : Nat) (0 : Nat) (0 : Nat)), (2, V.ptr (Nm.o (1 : Nat)) (0 : Nat) (0 : Nat) (0 : Nat) (0 : Nat)), (3, V.int .i64 ((8 : Int) * (↑N : Int)))]) [(Nm.o (0 : Nat), B.flat [V.seg .u32 (8 : Nat) H2, V.seg .u8 (64 : Nat) W2, V.int .i64 (↑(N + (1 : Nat) + z) : Int)]), (Nm.o (1 : Nat), B.flat [V.seg .u8 (32 : Nat) p8])] (2 : Nat) []), (8 : Nat) = (8 : Nat), H1 = H1, (64 : Nat) = (64 : Nat), W1 = W1, (↑(N + (1 : Nat)) : Int) = (↑(N + (1 : Nat)) : Int), (32 : Nat) = (32 : Nat), (List.replicate 32 (0 : Int)) = p8, (0 : Nat) = (0 : Nat), (0 : Nat) = (0 : Nat), (0 : Nat) = (0 : Nat), (0 : Nat) = (0 : Nat), (0 : Nat) = (0 : Nat), (0 : Nat) = (0 : Nat), (8 : Int) * (↑N : Int) = (8 : Int) * (↑N : Int), (0 : Int) ≤ (8 : Int) ∧ (8 : Int) ≤ (8 : Int), (8 : Int) ≤ (281474976710656 : Int), (8 : Int) ≤ (281474976710656 : Int), f9 zp none (1 : Nat) (cB (cB (cR (cL (cR (cR (cR (cR (cR (f1 (Bd.f (aO1 H W N H1 W1 z H2 W2 H3 W3 d)))))))))))) 9 (St.mk (mkT 63 [(0, V.ptr (Nm.o (0 : Nat)) (0 : Nat) (0 : Nat) (0 : Nat) (0 : Nat)), (2, V.ptr (Nm.o (1 : Nat)) (0 : Nat) (0 : Nat) (0 : Nat) (0 : Nat)), (3, V.int .i64 ((8 : Int) * (↑N : Int))), (4, V.sl (Nm.o (2 : Nat)) (1 : Nat) (0 : Nat) (0 : Nat) (0 : Nat) (8 : Nat) none), (26, V.int .i64 (8 : Int)), (27, V.int .i64 (0 : Int))]) [(Nm.o (0 : Nat), B.flat [V.seg .u32 (8 : Nat) H2, V.seg .u8 (64 : Nat) W2, V.int .i64 (↑(N + (1 : Nat) + z) : Int)]), (Nm.o (1 : Nat), B.flat [V.seg .u8 (32 : Nat) p8]), (Nm.o (2 : Nat), B.rows (1 : Nat) (8 : Nat) (enR N (0 : Nat)) false)] (3 : Nat) []) (Exit.exit (2 : Nat)) (St.mk (mkT 63 [(0, V.ptr (Nm.o (0 : Nat)) (0 : Nat) (0 : Nat) (0 : Nat) (0 : Nat)), (2, V.ptr (Nm.o (1 : Nat)) (0 : Nat) (0 : Nat) (0 : Nat) (0 : Nat)), (3, V.int .i64 ((8 : Int) * (↑N : Int))), (4, V.sl (Nm.o (2 : Nat)) (1 : Nat) (0 : Nat) (0 : Nat) (0 : Nat) (8 : Nat) none), (26, V.int .i64 (8 : Int)), (27, V.int .i64 (8 : Int))]) [(Nm.o (0 : Nat), B.flat [V.seg .u32 (8 : Nat) H2, V.seg .u8 (64 : Nat) W2, V.int .i64 (↑(N + (1 : Nat) + z) : Int)]), (Nm.o (1 : Nat), B.flat [V.seg .u8 (32 : Nat) p8]), (Nm.o (2 : Nat), B.rows (1 : Nat) (8 : Nat) (enR N (8 : Nat)) false)] (3 : Nat) []), (8 : Nat) = (8 : Nat), H2 = H2, (64 : Nat) = (64 : Nat), W2 = W2, (↑(N + (1 : Nat) + z) : Int) = (↑(N + (1 : Nat) + z) : Int), (32 : Nat) = (32 : Nat), p8 = p8, 8 = (8 : Nat), ∀ (k : Nat), k < 8 → [V.int .u8 (0 : Int)] = [V.int .u8 (0 : Int)], false = false → false = false, (0 : Nat) = (0 : Nat), (0 : Nat) = (0 : Nat), (0 : Nat) = (0 : Nat), (0 : Nat) = (0 : Nat), (0 : Nat) = (0 : Nat), (0 : Nat) = (0 : Nat), (8 : Int) * (↑N : Int) = (8 : Int) * (↑N : Int), (0 : Nat) = (0 : Nat), (0 : Nat) = (0 : Nat), (0 : Nat) = (0 : Nat), 8 = (8 : Nat), (none : Option Nat) = none ∨ none = some 8, (8 : Int) = (8 : Int), (0 : Int) = (0 : Int), T zp (104 : Nat) [V.ptr (Nm.o (0 : Nat)) (0 : Nat) (0 : Nat) (0 : Nat) (0 : Nat), V.sl (Nm.o (2 : Nat)) (1 : Nat) (0 : Nat) (0 : Nat) (0 : Nat) (8 : Nat) none] [(Nm.o (0 : Nat), B.flat [V.seg .u32 (8 : Nat) H2, V.seg .u8 (64 : Nat) W2, V.int .i64 (↑(N + (1 : Nat) + z) : Int)]), (Nm.o (2 : Nat), B.rows (1 : Nat) (8 : Nat) (enR N (8 : Nat)) false)] (V.tup []) [(Nm.o (0 : Nat), B.flat [V.seg .u32 (8 : Nat) H3, V.seg .u8 (64 : Nat) W3, V.int .i64 (↑(N + (1 : Nat) + z + (8 : Nat)) : Int)]), (Nm.o (2 : Nat), B.rows (1 : Nat) (8 : Nat) (enR N (8 : Nat)) false)], f9 zp none (1 : Nat) (cB (cB (cR (cL (cR (cR (cR (cR (cR (cR (cR (f1 (Bd.f (aO1 H W N H1 W1 z H2 W2 H3 W3 d)))))))))))))) 33 (St.mk (mkT 63 [(0, V.ptr (Nm.o (0 : Nat)) (0 : Nat) (0 : Nat) (0 : Nat) (0 : Nat)), (2, V.ptr (Nm.o (1 : Nat)) (0 : Nat) (0 : Nat) (0 : Nat) (0 : Nat)), (43, V.int .i64 (0 : Int))]) [(Nm.o (0 : Nat), B.flat [V.seg .u32 (8 : Nat) H3, V.seg .u8 (64 : Nat) W3, V.int .i64 (↑(N + (1 : Nat) + z + (8 : Nat)) : Int)]), (Nm.o (1 : Nat), B.flat [V.seg .u8 (32 : Nat) p8])] (2 : Nat) []) (Exit.exit (4 : Nat)) (St.mk (mkT 63 [(0, V.ptr (Nm.o (0 : Nat)) (0 : Nat) (0 : Nat) (0 : Nat) (0 : Nat)), (2, V.ptr (Nm.o (1 : Nat)) (0 : Nat) (0 : Nat) (0 : Nat) (0 : Nat)), (43, V.int .i64 (32 : Int))]) [(Nm.o (0 : Nat), B.flat [V.seg .u32 (8 : Nat) H3, V.seg .u8 (64 : Nat) W3, V.int .i64 (↑(N + (1 : Nat) + z + (8 : Nat)) : Int)]), (Nm.o (1 : Nat), B.flat [V.seg .u8 (32 : Nat) d])] (2 : Nat) []), (8 : Nat) = (8 : Nat), H3 = H3, (64 : Nat) = (64 : Nat), W3 = W3, (↑(N + (1 : Nat) + z + (8 : Nat)) : Int) = (↑(N + (1 : Nat) + z + (8 : Nat)) : Int), (32 : Nat) = (32 : Nat), p8 = p8, (0 : Nat) = (0 : Nat), (0 : Nat) = (0 : Nat), (0 : Nat) = (0 : Nat), (0 : Nat) = (0 : Nat), (0 : Nat) = (0 : Nat), (0 : Nat) = (0 : Nat), (0 : Int) = (0 : Int)]) := by kernel_rfl
theorem bG9 (H : List Int) (W : List Int) (n : Nat) (N : Nat) (H2 : List Int) (W2 : List Int) :
  i5 zp (bY5 H W n N H2 W2) [true] = (some (.normal, St.mk (mkT 63 [(0, .ptr (.o 0) 0 0 0 0), (2, .ptr (.o 1) 0 0 0 0), (3, .int .i64 ((8 : Int) * (↑N : Int)))]) [(.o 0, .flat [.seg .u32 8 H2, .seg .u8 64 W2, .int .i64 (↑(n + 1) : Int)]), (.o 1, .flat [.seg .u8 32 p8])] 2 [], [(0 : Int) ≤ (↑n : Int) ∧ (0 : Int) < (64 : Int), (!decide ((↑n : Int) % (64 : Int) = (56 : Int))) = true, T zp 104 [.ptr (.o 0) 0 0 0 0, .sl (.o 450) 1 0 0 0 1 (some 1)] [(.o 0, .flat [.seg .u32 8 H, .seg .u8 64 W, .int .i64 ↑n]), (.o 450, .rows 1 1 (j3 [[.int .u8 0]]) false)] (.tup []) [(.o 0, .flat [.seg .u32 8 H2, .seg .u8 64 W2, .int .i64 (↑(n + 1) : Int)]), (.o 450, .rows 1 1 (j3 [[.int .u8 0]]) false)], q (8 : Nat), q H2, q (64 : Nat), q W2, q (↑(n + (1 : Nat)) : Int), q (32 : Nat), q p8, q0, q0, q0, q0, q0, q0, q ((8 : Int) * (↑N : Int))]) : Option (Exit × St × List Prop)) := by kernel_rfl
theorem bG8 (H : List Int) (W : List Int) (n : Nat) (N : Nat) (H2 : List Int) (W2 : List Int) :
  i5 zp (bY5 H W n N H2 W2) [false] = (some (.exit 0, St.mk (mkT 63 [(0, .ptr (.o 0) 0 0 0 0), (2, .ptr (.o 1) 0 0 0 0), (3, .int .i64 ((8 : Int) * (↑N : Int)))]) [(.o 0, .flat [.seg .u32 8 H, .seg .u8 64 W, .int .i64 ↑n]), (.o 1, .flat [.seg .u8 32 p8])] 2 [], [(0 : Int) ≤ (↑n : Int) ∧ (0 : Int) < (64 : Int), (!decide ((↑n : Int) % (64 : Int) = (56 : Int))) = false, q (8 : Nat), q H, q (64 : Nat), q W, q (↑n : Int), q (32 : Nat), q p8, q0, q0, q0, q0, q0, q0, q ((8 : Int) * (↑N : Int))]) : Option (Exit × St × List Prop)) := by kernel_rfl
theorem bG7 (H : List Int) (W : List Int) (n : Nat) (N : Nat) (j : Nat) :
  i5 zp (bY4 H W n N j) [true] = (some (.normal, St.mk (mkT 63 [(0, .ptr (.o 0) 0 0 0 0), (2, .ptr (.o 1) 0 0 0 0), (3, .int .i64 ((8 : Int) * (↑N : Int))), (4, .sl (.o 2) 1 0 0 0 8 none), (26, .int .i64 8), (27, .int .i64 (↑(j + 1) : Int))]) [(.o 0, .flat [.seg .u32 8 H, .seg .u8 64 W, .int .i64 ↑n]), (.o 1, .flat [.seg .u8 32 p8]), (.o 2, .rows 1 8 (enR N (j + 1)) false)] 3 [], [decide ((↑j : Int) < (8 : Int)) = true, InR .i64 ((8 : Int) * (↑j : Int)), InR .i64 ((56 : Int) - (8 : Int) * (↑j : Int)), (0 : Int) ≤ (56 : Int) - (8 : Int) * (↑j : Int) ∧ (56 : Int) - (8 : Int) * (↑j : Int) ≤ (64 : Int), (0 : Int) ≤ (↑j : Int) ∧ (↑j : Int) < (8 : Int), (0 : Nat) + Int.toNat (↑j : Int) < (8 : Nat), InR .i64 ((↑j : Int) + (1 : Int)), q (8 : Nat), q H, q (64 : Nat), q W, q (↑n : Int), q (32 : Nat), q p8, q (8 : Nat), ∀ (k : Nat), k < (8 : Nat) → Bool.rec [V.int .u8 (if k < j then S6 ((8 : Int) * (↑N : Int)) k else (0 : Int))] [V.int .u8 (IntKind.wrap .u8 ((8 : Int) * (↑N : Int) / (2 : Int) ^ Int.toNat ((56 : Int) - (8 : Int) * (↑j : Int))))] (Nat.beq k ((0 : Nat) + Int.toNat (↑j : Int))) = [V.int .u8 (if k < j + (1 : Nat) then S6 ((8 : Int) * (↑N : Int)) k else (0 : Int))], false = false → false = false, q0, q0, q0, q0, q0, q0, q ((8 : Int) * (↑N : Int)), q0, q0, q0, q (8 : Nat), (none : Option Nat) = none ∨ (none : Option Nat) = none, q (8 : Int), (↑j : Int) + (1 : Int) = (↑(j + (1 : Nat)) : Int)]) : Option (Exit × St × List Prop)) := by kernel_rfl
theorem bG6 (H : List Int) (W : List Int) (n : Nat) (N : Nat) (j : Nat) :
  i5 zp (bY4 H W n N j) [false] = (some (.exit 2, St.mk (mkT 63 [(0, .ptr (.o 0) 0 0 0 0), (2, .ptr (.o 1) 0 0 0 0), (3, .int .i64 ((8 : Int) * (↑N : Int))), (4, .sl (.o 2) 1 0 0 0 8 none), (26, .int .i64 8), (27, .int .i64 8)]) [(.o 0, .flat [.seg .u32 8 H, .seg .u8 64 W, .int .i64 ↑n]), (.o 1, .flat [.seg .u8 32 p8]), (.o 2, .rows 1 8 (enR N 8) false)] 3 [], [decide ((↑j : Int) < (8 : Int)) = false, q (8 : Nat), q H, q (64 : Nat), q W, q (↑n : Int), q (32 : Nat), q p8, q (8 : Nat), ∀ (k : Nat), k < (8 : Nat) → [V.int .u8 (if k < j then S6 ((8 : Int) * (↑N : Int)) k else (0 : Int))] = [V.int .u8 (if k < (8 : Nat) then S6 ((8 : Int) * (↑N : Int)) k else (0 : Int))], false = false → false = false, q0, q0, q0, q0, q0, q0, q ((8 : Int) * (↑N : Int)), q0, q0, q0, q (8 : Nat), (none : Option Nat) = none ∨ (none : Option Nat) = none, q (8 : Int), (↑j : Int) = (8 : Int)]) : Option (Exit × St × List Prop)) := by kernel_rfl
theorem bG5 (H : List Int) (W : List Int) (n : Nat) (d : List Int) (k : Nat) (d2 : List Int) :
  i5 zp (bY3 H W n d k d2) [true] = (some (.normal, St.mk (mkT 63 [(0, .ptr (.o 0) 0 0 0 0), (2, .ptr (.o 1) 0 0 0 0), (43, .int .i64 (↑(k + 1) : Int))]) [(.o 0, .flat [.seg .u32 8 H, .seg .u8 64 W, .int .i64 ↑n]), (.o 1, .flat [.seg .u8 32 d2])] 2 [], [decide ((↑k : Int) < (32 : Int)) = true, (0 : Int) ≤ (↑k : Int) ∧ (0 : Int) < (4 : Int) ∧ InR .i64 ((↑k : Int) / (4 : Int)), (0 : Int) ≤ (↑k : Int) / (4 : Int) ∧ (↑k : Int) / (4 : Int) < (8 : Int), (0 : Nat) + Int.toNat ((↑k : Int) / (4 : Int)) < (8 : Nat), (0 : Int) ≤ (↑k : Int) ∧ (0 : Int) < (4 : Int), InR .i64 ((8 : Int) * ((↑k : Int) % (4 : Int))), InR .i64 ((24 : Int) - (8 : Int) * ((↑k : Int) % (4 : Int))), (0 : Int) ≤ (24 : Int) - (8 : Int) * ((↑k : Int) % (4 : Int)) ∧ (24 : Int) - (8 : Int) * ((↑k : Int) % (4 : Int)) ≤ (32 : Int), (0 : Int) ≤ (↑k : Int) ∧ (↑k : Int) < (32 : Int), (0 : Nat) + Int.toNat (↑k : Int) < (32 : Nat), InR .i64 ((↑k : Int) + (1 : Int)), q (8 : Nat), q H, q (64 : Nat), q W, q (↑n : Int), q (32 : Nat), List.set d ((0 : Nat) + Int.toNat (↑k : Int)) (IntKind.wrap .u8 (List.getD H ((0 : Nat) + Int.toNat ((↑k : Int) / (4 : Int))) (0 : Int) / (2 : Int) ^ Int.toNat ((24 : Int) - (8 : Int) * ((↑k : Int) % (4 : Int))))) = d2, q0, q0, q0, q0, q0, q0, (↑k : Int) + (1 : Int) = (↑(k + (1 : Nat)) : Int)]) : Option (Exit × St × List Prop)) := by kernel_rfl
theorem bG4 (H : List Int) (W : List Int) (n : Nat) (d : List Int) (k : Nat) (d2 : List Int) :
  i5 zp (bY3 H W n d k d2) [false] = (some (.exit 4, St.mk (mkT 63 [(0, .ptr (.o 0) 0 0 0 0), (2, .ptr (.o 1) 0 0 0 0), (43, .int .i64 32)]) [(.o 0, .flat [.seg .u32 8 H, .seg .u8 64 W, .int .i64 ↑n]), (.o 1, .flat [.seg .u8 32 d])] 2 [], [decide ((↑k : Int) < (32 : Int)) = false, q (8 : Nat), q H, q (64 : Nat), q W, q (↑n : Int), q (32 : Nat), q d, q0, q0, q0, q0, q0, q0, (↑k : Int) = (32 : Int)]) : Option (Exit × St × List Prop)) := by kernel_rfl
theorem g1 (v : Int) : ∀ k, k < [v].length → j3 [[V.int .u8 v]] k = [.int .u8 ([v].getD k 0)] := by
 intro k hk
 have : k = 0 := by simp at hk; omega
 subst this
 rfl
theorem bW6 (H W : List Int) (n : Int) : T0 (stB H W n) := T0.flat rfl
theorem cd3 {B H W : List Int} (hI : Inv B H W) (l : List Int) (hb : B.length + l.length ≤ 1000000000000) (f : Nat → List V) (hf : ∀ k, k < l.length → f k = [.int .u8 (l.getD k 0)]) (cap : Option Nat) (g : Bool) :
  ∃ H2 W2, Inv (B ++ l) H2 W2 ∧ T Tryz.prog 104 [p0K 0, .sl (.o 5) 1 0 0 0 l.length cap] [(.o 0, stB H W (B.length : Nat)), (.o 5, .rows 1 l.length f g)] (.tup []) [(.o 0, stB H2 W2 ((B.length + l.length : Nat) : Int)), (.o 5, .rows 1 l.length f g)] := by
 obtain ⟨H2, W2, h1, h2⟩ := bP2 hI l hb
 refine ⟨H2, W2, h1, ?_⟩
 refine T.lendH (pre0' := [(.o 0, stB H W (B.length : Nat))]) (pre1 := [(.o 5, .rows 1 l.length f g)]) h2 rfl ?_ rfl ?_ C9.tup0 ?_ ?_
 ·simp only [All]; and_intros
  all_goals first | exact True.intro | (intro k hk; rw [Nat.zero_add]; exact hf k hk) | omega | (intro h; cases h; done)
 ·simp only [All]; and_intros
  all_goals first | exact True.intro
 ·intro q hq
  obtain rfl := List.mem_singleton.1 hq
  exact bW6 _ _ _
 ·rintro n ⟨b, hb1⟩ ⟨b', hb2⟩
  cases List.mem_singleton.1 hb1
  cases List.mem_singleton.1 hb2
theorem aM9 {B H W : List Int} (hI : Inv B H W) (l : List Int) (hb : B.length + l.length ≤ 1000000000000) (f : Nat → List V) (hf : ∀ k, k < l.length → f k = [.int .u8 (l.getD k 0)]) (cap : Option Nat) (g : Bool) {x : Nat} (hx : [Nm.o 0, Nm.o x].Nodup) :
  ∃ H2 W2, Inv (B ++ l) H2 W2 ∧ T Tryz.prog 104 [p0K 0, .sl (.o x) 1 0 0 0 l.length cap] [(.o 0, stB H W (B.length : Nat)), (.o x, .rows 1 l.length f g)] (.tup []) [(.o 0, stB H2 W2 ((B.length + l.length : Nat) : Int)), (.o x, .rows 1 l.length f g)] := by
 obtain ⟨H2, W2, h1, h2⟩ := cd3 hI l hb f hf cap g
 obtain ⟨σ, hσ, h3⟩ := T.at h2 [.o 0, .o 5] [.o 0, .o x] (by decide) hx rfl
 simp only [List.map_cons, List.map_nil, List.cons.injEq, and_true] at hσ
 exact ⟨H2, W2, h1, by simpa [V.rens, V.ren, c5.ren, Sy.B.ren, p0K, stB, hσ.1, hσ.2] using h3⟩
theorem en0 (N : Nat) : ∀ (r : Nat) (B H W : List Int), Inv B H W → (B.length + r) % 64 = 56 → (∀ i, i < r → (B.length + i) % 64 ≠ 56) → B.length + r ≤ 100000000000 → ∃ H2 W2, Inv (B ++ List.replicate r 0) H2 W2 ∧
  f9 Tryz.prog none 1 (cB (cB (cL (cR (cR (cR (f1 Tryz.f105))))))) (r + 1) (enI H W B.length N) (.exit 0) (enI H2 W2 (B.length + r) N) := by
 intro r
 induction r with
 | zero =>
  intro B H W hI h1 h2 h3
  refine ⟨H, W, by rw [List.replicate_zero, List.append_nil]; exact hI, ?_⟩
  refine f9.out ?_ (by simp)
  refine f4 NG MO _ (bG8 H W B.length N [] []) ?_ (by show 1 ≤ 2; decide)
  have e : (!decide ((B.length : Int) % 64 = 56)) = false := by rw [decide_eq_true (by omega)]; rfl
  simp only [All]; and_intros
  all_goals first | exact True.intro | exact e | omega
 | succ r ih =>
  intro B H W hI h1 h2 h3
  have h0 := h2 0 (Nat.succ_pos _)
  have e : (!decide ((B.length : Int) % 64 = 56)) = true := by rw [decide_eq_false (by omega)]; rfl
  obtain ⟨H1, W1, hI1, hT⟩ := aM9 hI [0] (by simp; omega) (j3 [[V.int IntKind.u8 0]]) (g1 _) (some 1) false (x := 450) (by decide)
  have hl : (B ++ [0]).length = B.length + 1 := by simp
  obtain ⟨H2, W2, hI2, hL⟩ := ih (B ++ [0]) H1 W1 hI1 (by rw [hl]; omega) (fun i hi => by rw [hl]; have := h2 (i + 1) (by omega); rwa [show B.length + 1 + i = B.length + (i + 1) by omega]) (by rw [hl]; omega)
  rw [hl] at hL
  rw [List.append_assoc, show [0] ++ List.replicate r 0 = List.replicate (r + 1) (0 : Int) from rfl] at hI2
  rw [show B.length + 1 + r = B.length + (r + 1) by omega] at hL
  refine ⟨H2, W2, hI2, f9.step ?_ hL⟩
  refine f4 NG MO _ (bG9 H W B.length N H1 W1) ?_ (by show 1 ≤ 2; decide)
  simp only [All]; and_intros
  all_goals first | exact True.intro | exact e | exact hT | omega
theorem enLL (H W : List Int) (n N : Nat) (hN : N ≤ 100000000000) : f9 Tryz.prog none 1 (cB (cB (cR (cL (cR (cR (cR (cR (cR (f1 Tryz.f105)))))))))) (8 + 1) (enL H W n N 0) (.exit 2) (enL H W n N 8) := by
 have hstep : ∀ j, j < 8 → R Tryz.prog none 1 (cB (cB (cR (cL (cR (cR (cR (cR (cR (f1 Tryz.f105)))))))))) (enL H W n N j) .normal (enL H W n N (j + 1)) := by
  intro j hj
  have e1 : Int.toNat (56 - 8 * (j : Int)) = 56 - 8 * j := by omega
  have key : ∀ k, k < 8 → (Bool.rec [V.int IntKind.u8 (if k < j then S6 (8 * (N : Int)) k else 0)] [V.int IntKind.u8 (IntKind.wrap IntKind.u8 (8 * (N : Int) / 2 ^ (56 - 8 * j)))] (Nat.beq k j) : List V) = [V.int IntKind.u8 (if k < j + 1 then S6 (8 * (N : Int)) k else 0)] := by
   intro k hk
   cases hb : Nat.beq k j with
   | true =>
    have := Nat.eq_of_beq_eq_true hb; subst this
    rw [show (if k < k + 1 then S6 (8 * (N : Int)) k else 0) = S6 (8 * (N : Int)) k from if_pos (Nat.lt_succ_self k)]; rfl
   | false =>
    have hne : k ≠ j := fun e => by rw [e, Nat.beq_refl] at hb; cases hb
    by_cases h : k < j
    ·rw [if_pos h, if_pos (by omega)]
    ·rw [if_neg h, if_neg (by omega)]
  refine f4 NG MO _ (bG7 H W n N j) ?_ (by show 1 ≤ 3; decide)
  simp only [All, e1, Int.toNat_natCast, Nat.zero_add]; and_intros
  all_goals first | exact True.intro | exact key | (with_reducible assumption) | (rw [decide_eq_true_eq]; omega) | (simp only [IntKind.min, IntKind.max, IntKind.signed, IntKind.bits, if_true]; omega) | omega | (intro h; exact h) | exact .inl True.intro
 have hend : R Tryz.prog none 1 (cB (cB (cR (cL (cR (cR (cR (cR (cR (f1 Tryz.f105)))))))))) (enL H W n N 8) (.exit 2) (enL H W n N 8) := by
  refine f4 NG MO _ (bG6 H W n N 8) ?_ (by show 1 ≤ 3; decide)
  simp only [All]; and_intros
  all_goals first | exact True.intro | (rw [decide_eq_false_iff_not]; omega) | (intro _ _; exact True.intro) | omega | (intro h; exact h) | exact .inl True.intro
 exact f9.inv (fun j => enL H W n N j) 8 hstep hend (by simp)
theorem enJL (H W : List Int) (n : Nat) : f9 Tryz.prog none 1 (cB (cB (cR (cL (cR (cR (cR (cR (cR (cR (cR (f1 Tryz.f105)))))))))))) (32 + 1) (enJ H W n (dA H 0) 0) (.exit 4) (enJ H W n (dA H 32) 32) := by
 have hstep : ∀ k, k < 32 → R Tryz.prog none 1 (cB (cB (cR (cL (cR (cR (cR (cR (cR (cR (cR (f1 Tryz.f105)))))))))))) (enJ H W n (dA H k) k) .normal (enJ H W n (dA H (k + 1)) (k + 1)) := by
  intro k hk
  have e1 : Int.toNat (24 - 8 * ((k : Int) % 4)) = 24 - 8 * (k % 4) := by omega
  have e2 : Int.toNat ((k : Int) / 4) = k / 4 := by omega
  refine f4 NG MO _ (bG5 H W n (dA H k) k (dA H (k + 1))) ?_ (by show 1 ≤ 2; decide)
  simp only [All, e1, e2, Int.toNat_natCast, Nat.zero_add]; and_intros
  all_goals first | exact True.intro | rfl | (with_reducible assumption) | (rw [decide_eq_true_eq]; omega) | (simp only [IntKind.min, IntKind.max, IntKind.signed, IntKind.bits, if_true]; omega) | omega
 have hend : R Tryz.prog none 1 (cB (cB (cR (cL (cR (cR (cR (cR (cR (cR (cR (f1 Tryz.f105)))))))))))) (enJ H W n (dA H 32) 32) (.exit 4) (enJ H W n (dA H 32) 32) := by
  refine f4 NG MO _ (bG4 H W n (dA H 32) 32 []) ?_ (by show 1 ≤ 2; decide)
  simp only [All]; and_intros
  all_goals first | exact True.intro | (rw [decide_eq_false_iff_not]; omega) | omega
 exact f9.inv (fun k => enJ H W n (dA H k) k) 32 hstep hend (by simp)
theorem T_en {B H W : List Int} (hI : Inv B H W) (hb : B.length ≤ 10000000000) : ∃ H3 W3 n3, T Tryz.prog 105 [p0K 0] [(.o 0, stB H W (B.length : Nat))] (.agg [.seg .u8 32 (A8 B)]) [(.o 0, stB H3 W3 n3)] := by
 obtain ⟨H1, W1, hI1, hT1⟩ := aM9 hI [128] (by simp; omega) (j3 [[V.int IntKind.u8 128]]) (g1 _) (some 1) false (x := 513) (by decide)
 have hl1 : (B ++ [128]).length = B.length + 1 := by simp
 have hz : B3 (B.length + 1) < 64 := by unfold B3; omega
 obtain ⟨H2, W2, hI2, hL2⟩ := en0 B.length (B3 (B.length + 1)) (B ++ [128]) H1 W1 hI1 (by rw [hl1]; exact au4 _) (fun i hi => by rw [hl1]; exact aL9 hi) (by rw [hl1]; omega)
 have hl2 : (B ++ [128] ++ List.replicate (B3 (B.length + 1)) 0).length = B.length + 1 + B3 (B.length + 1) := by rw [List.length_append, hl1, List.length_replicate]
 rw [hl1] at hL2
 have h8 := al8 (8 * (B.length : Int))
 obtain ⟨H3, W3, hI3, hT3⟩ := aM9 hI2 (at9 (8 * (B.length : Int))) (by rw [hl2, h8]; omega) (enR B.length 8) (fun k hk => by rw [h8] at hk; rw [bo3 hk, enR, if_pos hk]) none false (x := 2) (by decide)
 rw [hl2, h8] at hT3
 have hLL := enLL H2 W2 (B.length + 1 + B3 (B.length + 1)) B.length (by omega)
 have hJ := enJL H3 W3 (B.length + 1 + B3 (B.length + 1) + 8)
 have hH3 : dA H3 32 = A8 B := by rw [A8, M2, ← hI3.h]
 rw [hH3] at hJ
 refine ⟨H3, W3, ((B.length + 1 + B3 (B.length + 1) + 8 : Nat) : Int), ?_⟩
 refine f3 (bR5 H W B.length H1 W1 (B3 (B.length + 1)) H2 W2 H3 W3 (A8 B)) Tryz.func105 ?_
 simp only [All]; and_intros
 all_goals first | exact True.intro | exact hT1 | exact hL2 | exact hLL | exact hT3 | exact hJ | rfl | (intro _ _; exact True.intro) | (simp only [IntKind.min, IntKind.max, IntKind.signed, IntKind.bits, if_true]; omega) | omega | (intro h; exact h) | exact .inl True.intro
def an6 : List Int := List.replicate 64 0
def suW (H W : List Int) (n : Int) : List V → List Cl
 | .ptr s _ _ _ _ :: _ => [{ pre := [s], val := .tup [], post := [(s, stB H W n)] }]
 | _ => []
def suE (d H W : List Int) (n : Int) : List V → List Cl
 | .ptr s _ _ _ _ :: _ => [{ pre := [s], val := .agg [.seg .u8 32 d], post := [(s, stB H W n)] }]
 | _ => []
noncomputable def suDb (H1 W1 : List Int) (n1 : Int) (H2 W2 : List Int) (n2 : Int) (d H3 W3 : List Int) (n3 : Int) : Nat → List V → c5 → Nat → List Cl := dbQ [
 (103, fun _ _ lo => [{ val := .ptr (.o lo) 0 0 0 0, post := [(.o lo, stB iv an6 0)] }]),
 (104, fun a _ lo => bif Nat.ble lo 1000 then suW H1 W1 n1 a else suW H2 W2 n2 a),
 (105, fun a _ _ => suE d H3 W3 n3 a)]
theorem T_be : T Tryz.prog 103 [] [] (p0K 65) [(.o 65, stB iv an6 0)] := by
 have h : T Tryz.prog 103 [] [] (p0K 192) [(.o 192, stB iv an6 0)] := T9 NG MO _ bQ8 Tryz.func103 (by kernel_rfl) True.intro (N3 (by kernel_rfl)) (by kernel_rfl)
 obtain ⟨σ, hσ, h3⟩ := T.at h [.o 192] [.o 65] (by decide) (by decide) rfl
 simp only [List.map_cons, List.map_nil, List.cons.injEq, and_true] at hσ
 simpa [V.rens, V.ren, c5.ren, Sy.B.ren, p0K, stB, hσ] using h3
theorem bv5 {B H W : List Int} (hI : Inv B H W) (l : List Int) (hb : B.length + l.length ≤ 1000000000000) (s : Nat) : ∃ H2 W2, Inv (B ++ l) H2 W2 ∧ T Tryz.prog 104 [p0K s, rb l] [(.o s, stB H W (B.length : Nat))] (.tup []) [(.o s, stB H2 W2 ((B.length + l.length : Nat) : Int))] := by
 obtain ⟨H2, W2, h1, h2⟩ := bP2 hI l hb
 obtain ⟨σ, hσ, h3⟩ := T.at h2 [.o 0] [.o s] (by decide) (by simp) rfl
 simp only [List.map_cons, List.map_nil, List.cons.injEq, and_true] at hσ
 exact ⟨H2, W2, h1, by simpa [V.rens, V.ren, c5.ren, Sy.B.ren, p0K, stB, rb, hσ] using h3⟩
theorem ca8 {B H W : List Int} (hI : Inv B H W) (hb : B.length ≤ 10000000000) (s : Nat) : ∃ H3 W3 n3, T Tryz.prog 105 [p0K s] [(.o s, stB H W (B.length : Nat))] (.agg [.seg .u8 32 (A8 B)]) [(.o s, stB H3 W3 n3)] := by
 obtain ⟨H3, W3, n3, h2⟩ := T_en hI hb
 obtain ⟨σ, hσ, h3⟩ := T.at h2 [.o 0] [.o s] (by decide) (by simp) rfl
 simp only [List.map_cons, List.map_nil, List.cons.injEq, and_true] at hσ
 exact ⟨H3, W3, n3, by simpa [V.rens, V.ren, c5.ren, Sy.B.ren, p0K, stB, hσ] using h3⟩
def obS (a : Nat) (l : List Int) : V := .sl (.o a) 1 0 0 0 l.length none
def obB (l : List Int) : B := .rows 1 l.length (ib l) true
def paI (l L : List Int) : St := ⟨mkT 34 [(0, rb l), (3, obS 0 L)], [(.o 0, obB L)], 1, []⟩
def paJ (l L : List Int) (j : Nat) : St := ⟨mkT 34 [(0, rb l), (3, obS 0 L), (4, .int .i64 (8 * (l.length : Int))), (5, .int .i64 (7 - (j : Nat)))], [(.o 0, obB L)], 1, []⟩
noncomputable def bi_ (l L0 : List Int) (z : Nat) (L1 L2 : List Int) : Bd := { f := Tryz.f136, args := [rb l], kb := { db := fun _ _ _ _ => [], lp := fun id t => bif Nat.beq id 0 then [(True, .loop (z + 1) (w6 [(.o 0, nmV (m6 t.tmps 3))] (paI l L0)) (.exit 0) (paI l L1))] else [(True, .loop (8 + 1) (wTo (paJ l L1 0)) (.exit 2) (paJ l L2 8))] }, names := fun _ => [.o 0] }
noncomputable def bY7 (l L L2 : List Int) : Pc := { c := cB (cB (cL (cR (cR (f1 Tryz.f136))))), st := paI l L, kb := kb0, k := fun x_ t => match x_ with
 | .normal => some (w6 [(.o 0, nmV (m6 t.tmps 3))] (paI l L2))
 | _ => some (wTo (paI l L)) }
noncomputable def bY8 (l L : List Int) (j : Nat) (L2 : List Int) : Pc := { c := cB (cB (cR (cL (cR (cR (cR (cR (f1 Tryz.f136)))))))), st := paJ l L j, kb := kb0, k := fun x_ t => match x_ with
 | .normal => some (w6 [(.o 0, nmV (m6 t.tmps 3))] (paJ l L2 (j + 1)))
 | _ => some (wTo (paJ l L 8)) }
def z8L : List Int := List.replicate 8 0
def btI (h b w : List Int) (i : Nat) : St := ⟨mkT 191 [(1, rb b), (2, p0K 0), (4, p0K 2), (5, p0K 1), (6, .int .i64 (i : Nat))], [(.o 0, .flat [.seg .u32 8 h]), (.o 1, .flat [.seg .u32 64 w]), (.o 2, .flat [.seg .u32 8 z8L])], 3, []⟩
def btJ (h w : List Int) (k : Nat) : St := ⟨mkT 191 [(2, p0K 0), (4, p0K 2), (5, p0K 1), (7, .int .i64 ((16 + k : Nat) : Int))], [(.o 0, .flat [.seg .u32 8 h]), (.o 1, .flat [.seg .u32 64 w]), (.o 2, .flat [.seg .u32 8 z8L])], 3, []⟩
def btK (h w : List Int) (s : S8) (t : Nat) : St := ⟨mkT 191 [(2, p0K 0), (4, p0K 2), (5, p0K 1), (10, p0K 3), (11, .int .i64 (t : Nat))], [(.o 0, .flat [.seg .u32 8 h]), (.o 1, .flat [.seg .u32 64 w]), (.o 2, .flat [.seg .u32 8 z8L]), (.o 3, .flat [.seg .u32 8 [s.a, s.b, s.c, s.d, s.e, s.f, s.g, s.h]])], 4, []⟩
def btL (h l : List Int) (i : Nat) : St := ⟨mkT 191 [(2, p0K 0), (4, p0K 2), (10, p0K 3), (16, .int .i64 (i : Nat))], [(.o 0, .flat [.seg .u32 8 h]), (.o 2, .flat [.seg .u32 8 z8L]), (.o 3, .flat [.seg .u32 8 l])], 4, []⟩
noncomputable def aB3 (h b w w2 : List Int) (s0 s : S8) (h2 : List Int) : Bd := { f := Tryz.f137, args := [.agg [.seg .u32 8 h], rb b], kb := { db := fun _ _ _ _ => [], lp := fun id t => bif Nat.beq id 0 then [(True, .loop (16 + 1) (w6 [(.o 0, nmV (m6 t.tmps 2)), (.o 1, nmV (m6 t.tmps 5)), (.o 2, nmV (m6 t.tmps 4))] (btI h b (List.replicate 64 0) 0)) (.exit 0) (btI h b w 16))] else bif Nat.beq id 2 then [(True, .loop (48 + 1) (wTo (btJ h w 0)) (.exit 2) (btJ h w2 48))] else bif Nat.beq id 4 then [(True, .loop (64 + 1) (w6 [(.o 3, nmV (m6 t.tmps 10))] (btK h w2 s0 0)) (.exit 4) (btK h w2 s 64))] else [(True, .loop (8 + 1) (wTo (btL h s.l 0)) (.exit 6) (btL h2 s.l 8))] } }
def b7_ : List V → c5 → Nat → List Cl := fun l _ _ => match l with
 | [.int _ x, .int _ n] => [{ val := .int .u32 (A7 x n) }]
 | _ => []
noncomputable def bZ3 (h b w : List Int) (i : Nat) (w2 : List Int) : Pc := { c := cB (cB (cR (cL (cR (cR (f1 Tryz.f137)))))), st := btI h b w i, kb := kb0, k := fun x_ _ => match x_ with
 | .normal => some (wTo (btI h b w2 (i + 1)))
 | _ => some (wTo (btI h b w 16)) }
noncomputable def bZ4 (h w : List Int) (k : Nat) (w2 : List Int) : Pc := { c := cB (cB (cR (cL (cR (cR (cR (f1 Tryz.f137))))))), st := btJ h w k, kb := { db := dbQ [(146, b7_)] }, k := fun x_ _ => match x_ with
 | .normal => some (wTo (btJ h w2 (k + 1)))
 | _ => some (wTo (btJ h w 48)) }
noncomputable def bZ5 (h w : List Int) (s : S8) (t : Nat) (s2 : S8) : Pc := { c := cB (cB (cR (cL (cR (cR (cR (cR (cR (f1 Tryz.f137))))))))), st := btK h w s t, kb := { db := dbQ [(146, b7_), (147, bW9)] }, k := fun x_ _ => match x_ with
 | .normal => some (wTo (btK h w s2 (t + 1)))
 | _ => some (wTo (btK h w s 64)) }
noncomputable def bZ6 (h l : List Int) (i : Nat) (h2 : List Int) : Pc := { c := cB (cB (cR (cL (cR (cR (cR (cR (cR (cR (f1 Tryz.f137)))))))))), st := btL h l i, kb := kb0, k := fun x_ _ => match x_ with
 | .normal => some (wTo (btL h2 l (i + 1)))
 | _ => some (wTo (btL h l 8)) }
theorem bT3 (l : List Int) (L0 : List Int) (z : Nat) (L1 : List Int) (L2 : List Int) :
  e9 zp (bi_ l L0 z L1 L2) [] = (some (.sl (.o 0) 1 0 0 0 (List.length L2) none, [(.o 0, .rows 1 (List.length L2) (ib L2) true)], [q0, ∀ (k : Nat), k < List.length l → true = true, ((0 : Nat) + List.length l) * (1 : Nat) ≤ (140737488355328 : Nat), q ((0 : Nat) + List.length l), 1 ≤ (1 : Nat), ∀ (k : Nat), k < (1 : Nat) → m8 (j3 [[V.int .u8 (128 : Int)]] ((0 : Nat) + k)) = true, ((0 : Nat) + List.length l + (1 : Nat)) * (1 : Nat) ≤ (140737488355328 : Nat), f9 zp none 0 (cB (cB (cL (cR (cR (f1 (Bd.f (bi_ l L0 z L1 L2)))))))) (z + 1) (St.mk (mkT 34 [(0, .ros 1 (List.length l) (ib l) false), (3, .sl (.o 0) 1 0 0 0 (List.length L0) none)]) [(.o 0, .rows 1 (List.length L0) (ib L0) true)] 1 []) (.exit 0) (St.mk (mkT 34 [(0, .ros 1 (List.length l) (ib l) false), (3, .sl (.o 0) 1 0 0 0 (List.length L1) none)]) [(.o 0, .rows 1 (List.length L1) (ib L1) true)] 1 []), (0 : Nat) + List.length l + (1 : Nat) = List.length L0, ∀ (k : Nat), k < (0 : Nat) + List.length l + (1 : Nat) → m5 ((0 : Nat) + List.length l) (m5 (0 : Nat) (j3 []) (ib l)) (fun k => j3 [[V.int .u8 (128 : Int)]] ((0 : Nat) + k)) k = [V.int .u8 (List.getD L0 k (0 : Int))], true = false → true = false, q (List.length l), ∀ (k : Nat), k < List.length l → [V.int .u8 (List.getD l k (0 : Int))] = [V.int .u8 (List.getD l k (0 : Int))], false = true → false = true, q0, q0, q0, (0 : Nat) + List.length l + (1 : Nat) = List.length L0, (none : Option Nat) = none ∨ (none : Option Nat) = none, InR .i64 ((8 : Int) * (↑(List.length l) : Int)), f9 zp none 0 (cB (cB (cR (cL (cR (cR (cR (cR (f1 (Bd.f (bi_ l L0 z L1 L2))))))))))) 9 (St.mk (mkT 34 [(0, .ros 1 (List.length l) (ib l) false), (3, .sl (.o 0) 1 0 0 0 (List.length L1) none), (4, .int .i64 ((8 : Int) * (↑(List.length l) : Int))), (5, .int .i64 7)]) [(.o 0, .rows 1 (List.length L1) (ib L1) true)] 1 []) (.exit 2) (St.mk (mkT 34 [(0, .ros 1 (List.length l) (ib l) false), (3, .sl (.o 0) 1 0 0 0 (List.length L2) none), (4, .int .i64 ((8 : Int) * (↑(List.length l) : Int))), (5, .int .i64 ((7 : Int) - (8 : Int)))]) [(.o 0, .rows 1 (List.length L2) (ib L2) true)] 1 []), q (List.length L1), ∀ (k : Nat), k < List.length L1 → [V.int .u8 (List.getD L1 k (0 : Int))] = [V.int .u8 (List.getD L1 k (0 : Int))], true = false → true = false, q (List.length l), ∀ (k : Nat), k < List.length l → [V.int .u8 (List.getD l k (0 : Int))] = [V.int .u8 (List.getD l k (0 : Int))], false = true → false = true, q0, q0, q0, q (List.length L1), (none : Option Nat) = none ∨ (none : Option Nat) = none, q ((8 : Int) * (↑(List.length l) : Int)), q (7 : Int)]) : Option (V × c5 × List Prop)) := by kernel_rfl
theorem bH3 (l : List Int) (L : List Int) (L2 : List Int) :
  i5 zp (bY7 l L L2) [true] = (some (.normal, St.mk (mkT 34 [(0, .ros 1 (List.length l) (ib l) false), (3, .sl (.o 0) 1 0 0 0 (List.length L2) none)]) [(.o 0, .rows 1 (List.length L2) (ib L2) true)] 1 [], [(0 : Int) ≤ (↑(List.length L) : Int) ∧ (0 : Int) < (64 : Int), (!decide ((↑(List.length L) : Int) % (64 : Int) = (56 : Int))) = true, q (List.length L), 1 ≤ (1 : Nat), ∀ (k : Nat), k < (1 : Nat) → m8 (j3 [[V.int .u8 (0 : Int)]] ((0 : Nat) + k)) = true, (List.length L + (1 : Nat)) * (1 : Nat) ≤ (140737488355328 : Nat), List.length L + (1 : Nat) = List.length L2, ∀ (k : Nat), k < List.length L + (1 : Nat) → m5 (List.length L) (ib L) (fun k => j3 [[V.int .u8 (0 : Int)]] ((0 : Nat) + k)) k = [V.int .u8 (List.getD L2 k (0 : Int))], true = false → true = false, q (List.length l), ∀ (k : Nat), k < List.length l → [V.int .u8 (List.getD l k (0 : Int))] = [V.int .u8 (List.getD l k (0 : Int))], false = true → false = true, q0, q0, q0, List.length L + (1 : Nat) = List.length L2, (none : Option Nat) = none ∨ (none : Option Nat) = none]) : Option (Exit × St × List Prop)) := by kernel_rfl
theorem bH2 (l : List Int) (L : List Int) (L2 : List Int) :
  i5 zp (bY7 l L L2) [false] = (some (.exit 0, St.mk (mkT 34 [(0, .ros 1 (List.length l) (ib l) false), (3, .sl (.o 0) 1 0 0 0 (List.length L) none)]) [(.o 0, .rows 1 (List.length L) (ib L) true)] 1 [], [(0 : Int) ≤ (↑(List.length L) : Int) ∧ (0 : Int) < (64 : Int), (!decide ((↑(List.length L) : Int) % (64 : Int) = (56 : Int))) = false, q (List.length L), ∀ (k : Nat), k < List.length L → [V.int .u8 (List.getD L k (0 : Int))] = [V.int .u8 (List.getD L k (0 : Int))], true = false → true = false, q (List.length l), ∀ (k : Nat), k < List.length l → [V.int .u8 (List.getD l k (0 : Int))] = [V.int .u8 (List.getD l k (0 : Int))], false = true → false = true, q0, q0, q0, q (List.length L), (none : Option Nat) = none ∨ (none : Option Nat) = none]) : Option (Exit × St × List Prop)) := by kernel_rfl
theorem bH5 (l : List Int) (L : List Int) (j : Nat) (L2 : List Int) :
  i5 zp (bY8 l L j L2) [true] = (some (.normal, St.mk (mkT 34 [(0, .ros 1 (List.length l) (ib l) false), (3, .sl (.o 0) 1 0 0 0 (List.length L2) none), (4, .int .i64 ((8 : Int) * (↑(List.length l) : Int))), (5, .int .i64 ((7 : Int) - (↑(j + 1) : Int)))]) [(.o 0, .rows 1 (List.length L2) (ib L2) true)] 1 [], [decide ((0 : Int) ≤ (7 : Int) - (↑j : Int)) = true, InR .i64 ((8 : Int) * ((7 : Int) - (↑j : Int))), (0 : Int) ≤ (8 : Int) * ((7 : Int) - (↑j : Int)) ∧ (8 : Int) * ((7 : Int) - (↑j : Int)) ≤ (64 : Int), q (List.length L), 1 ≤ (1 : Nat), ∀ (k : Nat), k < (1 : Nat) → m8 (j3 [[V.int .u8 (IntKind.wrap .u8 ((8 : Int) * (↑(List.length l) : Int) / (2 : Int) ^ Int.toNat ((8 : Int) * ((7 : Int) - (↑j : Int)))))]] ((0 : Nat) + k)) = true, (List.length L + (1 : Nat)) * (1 : Nat) ≤ (140737488355328 : Nat), InR .i64 ((7 : Int) - (↑j : Int) - (1 : Int)), List.length L + (1 : Nat) = List.length L2, ∀ (k : Nat), k < List.length L + (1 : Nat) → m5 (List.length L) (ib L) (fun k => j3 [[V.int .u8 (IntKind.wrap .u8 ((8 : Int) * (↑(List.length l) : Int) / (2 : Int) ^ Int.toNat ((8 : Int) * ((7 : Int) - (↑j : Int)))))]] ((0 : Nat) + k)) k = [V.int .u8 (List.getD L2 k (0 : Int))], true = false → true = false, q (List.length l), ∀ (k : Nat), k < List.length l → [V.int .u8 (List.getD l k (0 : Int))] = [V.int .u8 (List.getD l k (0 : Int))], false = true → false = true, q0, q0, q0, List.length L + (1 : Nat) = List.length L2, (none : Option Nat) = none ∨ (none : Option Nat) = none, q ((8 : Int) * (↑(List.length l) : Int)), (7 : Int) - (↑j : Int) - (1 : Int) = (7 : Int) - (↑(j + (1 : Nat)) : Int)]) : Option (Exit × St × List Prop)) := by kernel_rfl
theorem bH4 (l : List Int) (L : List Int) (j : Nat) (L2 : List Int) :
  i5 zp (bY8 l L j L2) [false] = (some (.exit 2, St.mk (mkT 34 [(0, .ros 1 (List.length l) (ib l) false), (3, .sl (.o 0) 1 0 0 0 (List.length L) none), (4, .int .i64 ((8 : Int) * (↑(List.length l) : Int))), (5, .int .i64 ((7 : Int) - (8 : Int)))]) [(.o 0, .rows 1 (List.length L) (ib L) true)] 1 [], [decide ((0 : Int) ≤ (7 : Int) - (↑j : Int)) = false, q (List.length L), ∀ (k : Nat), k < List.length L → [V.int .u8 (List.getD L k (0 : Int))] = [V.int .u8 (List.getD L k (0 : Int))], true = false → true = false, q (List.length l), ∀ (k : Nat), k < List.length l → [V.int .u8 (List.getD l k (0 : Int))] = [V.int .u8 (List.getD l k (0 : Int))], false = true → false = true, q0, q0, q0, q (List.length L), (none : Option Nat) = none ∨ (none : Option Nat) = none, q ((8 : Int) * (↑(List.length l) : Int)), (7 : Int) - (↑j : Int) = (7 : Int) - (8 : Int)]) : Option (Exit × St × List Prop)) := by kernel_rfl
theorem bQ9 (h : List Int) (b : List Int) (w : List Int) (w2 : List Int) (s0 : S8) (s : S8) (h2 : List Int) :
  e9 zp (aB3 h b w w2 s0 s h2) [] = (some (.agg [.seg .u32 8 h2], [], [f9 zp none 0 (cB (cB (cR (cL (cR (cR (f1 (Bd.f (aB3 h b w w2 s0 s h2))))))))) 17 (St.mk (mkT 191 [(1, .ros 1 (List.length b) (ib b) false), (2, .ptr (.o 0) 0 0 0 0), (4, .ptr (.o 2) 0 0 0 0), (5, .ptr (.o 1) 0 0 0 0), (6, .int .i64 0)]) [(.o 0, .flat [.seg .u32 8 h]), (.o 1, .flat [.seg .u32 64 (List.replicate 64 (0 : Int))]), (.o 2, .flat [.seg .u32 8 (List.replicate 8 (0 : Int))])] 3 []) (.exit 0) (St.mk (mkT 191 [(1, .ros 1 (List.length b) (ib b) false), (2, .ptr (.o 0) 0 0 0 0), (4, .ptr (.o 2) 0 0 0 0), (5, .ptr (.o 1) 0 0 0 0), (6, .int .i64 16)]) [(.o 0, .flat [.seg .u32 8 h]), (.o 1, .flat [.seg .u32 64 w]), (.o 2, .flat [.seg .u32 8 (List.replicate 8 (0 : Int))])] 3 []), q (8 : Nat), q h, q (64 : Nat), q ((List.replicate 64 (0 : Int))), q (8 : Nat), q ((List.replicate 8 (0 : Int))), q (List.length b), ∀ (k : Nat), k < List.length b → [V.int .u8 (List.getD b k (0 : Int))] = [V.int .u8 (List.getD b k (0 : Int))], false = true → false = true, q0, q0, q0, q0, q0, q0, q0, q0, q0, q1, f9 zp none 0 (cB (cB (cR (cL (cR (cR (cR (f1 (Bd.f (aB3 h b w w2 s0 s h2)))))))))) 49 (St.mk (mkT 191 [(2, .ptr (.o 0) 0 0 0 0), (4, .ptr (.o 2) 0 0 0 0), (5, .ptr (.o 1) 0 0 0 0), (7, .int .i64 16)]) [(.o 0, .flat [.seg .u32 8 h]), (.o 1, .flat [.seg .u32 64 w]), (.o 2, .flat [.seg .u32 8 (List.replicate 8 (0 : Int))])] 3 []) (.exit 2) (St.mk (mkT 191 [(2, .ptr (.o 0) 0 0 0 0), (4, .ptr (.o 2) 0 0 0 0), (5, .ptr (.o 1) 0 0 0 0), (7, .int .i64 64)]) [(.o 0, .flat [.seg .u32 8 h]), (.o 1, .flat [.seg .u32 64 w2]), (.o 2, .flat [.seg .u32 8 (List.replicate 8 (0 : Int))])] 3 []), q (8 : Nat), q h, q (64 : Nat), q w, q (8 : Nat), q ((List.replicate 8 (0 : Int))), q0, q0, q0, q0, q0, q0, q0, q0, q0, q (16 : Int), f9 zp none 0 (cB (cB (cR (cL (cR (cR (cR (cR (cR (f1 (Bd.f (aB3 h b w w2 s0 s h2)))))))))))) 65 (St.mk (mkT 191 [(2, .ptr (.o 0) 0 0 0 0), (4, .ptr (.o 2) 0 0 0 0), (5, .ptr (.o 1) 0 0 0 0), (10, .ptr (.o 3) 0 0 0 0), (11, .int .i64 0)]) [(.o 0, .flat [.seg .u32 8 h]), (.o 1, .flat [.seg .u32 64 w2]), (.o 2, .flat [.seg .u32 8 (List.replicate 8 (0 : Int))]), (.o 3, .flat [.seg .u32 8 [S8.a s0, S8.b s0, S8.c s0, S8.d s0, S8.e s0, S8.f s0, S8.g s0, S8.h s0]])] 4 []) (.exit 4) (St.mk (mkT 191 [(2, .ptr (.o 0) 0 0 0 0), (4, .ptr (.o 2) 0 0 0 0), (5, .ptr (.o 1) 0 0 0 0), (10, .ptr (.o 3) 0 0 0 0), (11, .int .i64 64)]) [(.o 0, .flat [.seg .u32 8 h]), (.o 1, .flat [.seg .u32 64 w2]), (.o 2, .flat [.seg .u32 8 (List.replicate 8 (0 : Int))]), (.o 3, .flat [.seg .u32 8 [S8.a s, S8.b s, S8.c s, S8.d s, S8.e s, S8.f s, S8.g s, S8.h s]])] 4 []), q (8 : Nat), q h, q (64 : Nat), q w2, q (8 : Nat), q ((List.replicate 8 (0 : Int))), q (8 : Nat), h = [S8.a s0, S8.b s0, S8.c s0, S8.d s0, S8.e s0, S8.f s0, S8.g s0, S8.h s0], q0, q0, q0, q0, q0, q0, q0, q0, q0, q0, q0, q0, q1, f9 zp none 0 (cB (cB (cR (cL (cR (cR (cR (cR (cR (cR (f1 (Bd.f (aB3 h b w w2 s0 s h2))))))))))))) 9 (St.mk (mkT 191 [(2, .ptr (.o 0) 0 0 0 0), (4, .ptr (.o 2) 0 0 0 0), (10, .ptr (.o 3) 0 0 0 0), (16, .int .i64 0)]) [(.o 0, .flat [.seg .u32 8 h]), (.o 2, .flat [.seg .u32 8 (List.replicate 8 (0 : Int))]), (.o 3, .flat [.seg .u32 8 [S8.a s, S8.b s, S8.c s, S8.d s, S8.e s, S8.f s, S8.g s, S8.h s]])] 4 []) (.exit 6) (St.mk (mkT 191 [(2, .ptr (.o 0) 0 0 0 0), (4, .ptr (.o 2) 0 0 0 0), (10, .ptr (.o 3) 0 0 0 0), (16, .int .i64 8)]) [(.o 0, .flat [.seg .u32 8 h2]), (.o 2, .flat [.seg .u32 8 (List.replicate 8 (0 : Int))]), (.o 3, .flat [.seg .u32 8 [S8.a s, S8.b s, S8.c s, S8.d s, S8.e s, S8.f s, S8.g s, S8.h s]])] 4 []), q (8 : Nat), q h, q (8 : Nat), q ((List.replicate 8 (0 : Int))), q (8 : Nat), q ([S8.a s, S8.b s, S8.c s, S8.d s, S8.e s, S8.f s, S8.g s, S8.h s]), q0, q0, q0, q0, q0, q0, q0, q0, q0, q1]) : Option (V × c5 × List Prop)) := by kernel_rfl
theorem bI3 (h : List Int) (b : List Int) (w : List Int) (i : Nat) (w2 : List Int) :
  i5 zp (bZ3 h b w i w2) [true] = (some (.normal, St.mk (mkT 191 [(1, .ros 1 (List.length b) (ib b) false), (2, .ptr (.o 0) 0 0 0 0), (4, .ptr (.o 2) 0 0 0 0), (5, .ptr (.o 1) 0 0 0 0), (6, .int .i64 (↑(i + 1) : Int))]) [(.o 0, .flat [.seg .u32 8 h]), (.o 1, .flat [.seg .u32 64 w2]), (.o 2, .flat [.seg .u32 8 (List.replicate 8 (0 : Int))])] 3 [], [decide ((↑i : Int) < (16 : Int)) = true, InR .i64 ((4 : Int) * (↑i : Int)), (0 : Int) ≤ (4 : Int) * (↑i : Int) ∧ (4 : Int) * (↑i : Int) < (↑(List.length b) : Int), (0 : Int) ≤ (24 : Int) ∧ (24 : Int) ≤ (32 : Int), InR .i64 ((4 : Int) * (↑i : Int)), InR .i64 ((4 : Int) * (↑i : Int) + (1 : Int)), (0 : Int) ≤ (4 : Int) * (↑i : Int) + (1 : Int) ∧ (4 : Int) * (↑i : Int) + (1 : Int) < (↑(List.length b) : Int), (0 : Int) ≤ (16 : Int) ∧ (16 : Int) ≤ (32 : Int), InR .i64 ((4 : Int) * (↑i : Int)), InR .i64 ((4 : Int) * (↑i : Int) + (2 : Int)), (0 : Int) ≤ (4 : Int) * (↑i : Int) + (2 : Int) ∧ (4 : Int) * (↑i : Int) + (2 : Int) < (↑(List.length b) : Int), (0 : Int) ≤ (8 : Int) ∧ (8 : Int) ≤ (32 : Int), InR .i64 ((4 : Int) * (↑i : Int)), InR .i64 ((4 : Int) * (↑i : Int) + (3 : Int)), (0 : Int) ≤ (4 : Int) * (↑i : Int) + (3 : Int) ∧ (4 : Int) * (↑i : Int) + (3 : Int) < (↑(List.length b) : Int), (0 : Int) ≤ (↑i : Int) ∧ (↑i : Int) < (64 : Int), (0 : Nat) + Int.toNat (↑i : Int) < (64 : Nat), InR .i64 ((↑i : Int) + (1 : Int)), q (8 : Nat), q h, q (64 : Nat), List.set w ((0 : Nat) + Int.toNat (↑i : Int)) (j8 (fun x x_1 y => x_1 ||| y) .u32 (j8 (fun x x_1 y => x_1 ||| y) .u32 (j8 (fun x x_1 y => x_1 ||| y) .u32 (IntKind.wrap .u32 (IntKind.wrap .u32 (List.getD b (Int.toNat ((4 : Int) * (↑i : Int))) (0 : Int)) * (16777216 : Int))) (IntKind.wrap .u32 (IntKind.wrap .u32 (List.getD b (Int.toNat ((4 : Int) * (↑i : Int) + (1 : Int))) (0 : Int)) * (65536 : Int)))) (IntKind.wrap .u32 (IntKind.wrap .u32 (List.getD b (Int.toNat ((4 : Int) * (↑i : Int) + (2 : Int))) (0 : Int)) * (256 : Int)))) (IntKind.wrap .u32 (List.getD b (Int.toNat ((4 : Int) * (↑i : Int) + (3 : Int))) (0 : Int)))) = w2, q (8 : Nat), q ((List.replicate 8 (0 : Int))), q (List.length b), ∀ (k : Nat), k < List.length b → [V.int .u8 (List.getD b k (0 : Int))] = [V.int .u8 (List.getD b k (0 : Int))], false = true → false = true, q0, q0, q0, q0, q0, q0, q0, q0, q0, (↑i : Int) + (1 : Int) = (↑(i + (1 : Nat)) : Int)]) : Option (Exit × St × List Prop)) := by kernel_rfl
theorem bI2 (h : List Int) (b : List Int) (w : List Int) (i : Nat) (w2 : List Int) :
  i5 zp (bZ3 h b w i w2) [false] = (some (.exit 0, St.mk (mkT 191 [(1, .ros 1 (List.length b) (ib b) false), (2, .ptr (.o 0) 0 0 0 0), (4, .ptr (.o 2) 0 0 0 0), (5, .ptr (.o 1) 0 0 0 0), (6, .int .i64 16)]) [(.o 0, .flat [.seg .u32 8 h]), (.o 1, .flat [.seg .u32 64 w]), (.o 2, .flat [.seg .u32 8 (List.replicate 8 (0 : Int))])] 3 [], [decide ((↑i : Int) < (16 : Int)) = false, q (8 : Nat), q h, q (64 : Nat), q w, q (8 : Nat), q ((List.replicate 8 (0 : Int))), q (List.length b), ∀ (k : Nat), k < List.length b → [V.int .u8 (List.getD b k (0 : Int))] = [V.int .u8 (List.getD b k (0 : Int))], false = true → false = true, q0, q0, q0, q0, q0, q0, q0, q0, q0, (↑i : Int) = (16 : Int)]) : Option (Exit × St × List Prop)) := by kernel_rfl
theorem bI5 (h : List Int) (w : List Int) (k : Nat) (w2 : List Int) :
  i5 zp (bZ4 h w k w2) [true] = (some (.normal, St.mk (mkT 191 [(2, .ptr (.o 0) 0 0 0 0), (4, .ptr (.o 2) 0 0 0 0), (5, .ptr (.o 1) 0 0 0 0), (7, .int .i64 (↑(16 + (k + 1)) : Int))]) [(.o 0, .flat [.seg .u32 8 h]), (.o 1, .flat [.seg .u32 64 w2]), (.o 2, .flat [.seg .u32 8 (List.replicate 8 (0 : Int))])] 3 [], [decide ((↑((16 : Nat) + k) : Int) < (64 : Int)) = true, InR .i64 ((↑((16 : Nat) + k) : Int) - (15 : Int)), (0 : Int) ≤ (↑((16 : Nat) + k) : Int) - (15 : Int) ∧ (↑((16 : Nat) + k) : Int) - (15 : Int) < (64 : Int), (0 : Nat) + Int.toNat ((↑((16 : Nat) + k) : Int) - (15 : Int)) < (64 : Nat), InR .i64 ((↑((16 : Nat) + k) : Int) - (2 : Int)), (0 : Int) ≤ (↑((16 : Nat) + k) : Int) - (2 : Int) ∧ (↑((16 : Nat) + k) : Int) - (2 : Int) < (64 : Int), (0 : Nat) + Int.toNat ((↑((16 : Nat) + k) : Int) - (2 : Int)) < (64 : Nat), InR .i64 ((↑((16 : Nat) + k) : Int) - (16 : Int)), (0 : Int) ≤ (↑((16 : Nat) + k) : Int) - (16 : Int) ∧ (↑((16 : Nat) + k) : Int) - (16 : Int) < (64 : Int), (0 : Nat) + Int.toNat ((↑((16 : Nat) + k) : Int) - (16 : Int)) < (64 : Nat), T zp 146 [.int .u32 (List.getD w (0 + Int.toNat ((↑(16 + k) : Int) - (15 : Int))) (0 : Int)), .int .i64 7] [] (.int .u32 (A7 (List.getD w (0 + Int.toNat ((↑(16 + k) : Int) - (15 : Int))) (0 : Int)) (7 : Int))) [], T zp 146 [.int .u32 (List.getD w (0 + Int.toNat ((↑(16 + k) : Int) - (15 : Int))) (0 : Int)), .int .i64 18] [] (.int .u32 (A7 (List.getD w (0 + Int.toNat ((↑(16 + k) : Int) - (15 : Int))) (0 : Int)) (18 : Int))) [], (0 : Int) ≤ (3 : Int) ∧ (3 : Int) ≤ (32 : Int), InR .i64 ((↑((16 : Nat) + k) : Int) - (7 : Int)), (0 : Int) ≤ (↑((16 : Nat) + k) : Int) - (7 : Int) ∧ (↑((16 : Nat) + k) : Int) - (7 : Int) < (64 : Int), (0 : Nat) + Int.toNat ((↑((16 : Nat) + k) : Int) - (7 : Int)) < (64 : Nat), T zp 146 [.int .u32 (List.getD w (0 + Int.toNat ((↑(16 + k) : Int) - (2 : Int))) (0 : Int)), .int .i64 17] [] (.int .u32 (A7 (List.getD w (0 + Int.toNat ((↑(16 + k) : Int) - (2 : Int))) (0 : Int)) (17 : Int))) [], T zp 146 [.int .u32 (List.getD w (0 + Int.toNat ((↑(16 + k) : Int) - (2 : Int))) (0 : Int)), .int .i64 19] [] (.int .u32 (A7 (List.getD w (0 + Int.toNat ((↑(16 + k) : Int) - (2 : Int))) (0 : Int)) (19 : Int))) [], (0 : Int) ≤ (10 : Int) ∧ (10 : Int) ≤ (32 : Int), (0 : Int) ≤ (↑((16 : Nat) + k) : Int) ∧ (↑((16 : Nat) + k) : Int) < (64 : Int), (0 : Nat) + Int.toNat (↑((16 : Nat) + k) : Int) < (64 : Nat), InR .i64 ((↑((16 : Nat) + k) : Int) + (1 : Int)), q (8 : Nat), q h, q (64 : Nat), List.set w ((0 : Nat) + Int.toNat (↑((16 : Nat) + k) : Int)) (IntKind.wrap .u32 (IntKind.wrap .u32 (IntKind.wrap .u32 (List.getD w ((0 : Nat) + Int.toNat ((↑((16 : Nat) + k) : Int) - (16 : Int))) (0 : Int) + j8 (fun x x_1 y => x_1 ^^^ y) .u32 (j8 (fun x x_1 y => x_1 ^^^ y) .u32 (A7 (List.getD w ((0 : Nat) + Int.toNat ((↑((16 : Nat) + k) : Int) - (15 : Int))) (0 : Int)) (7 : Int)) (A7 (List.getD w ((0 : Nat) + Int.toNat ((↑((16 : Nat) + k) : Int) - (15 : Int))) (0 : Int)) (18 : Int))) (List.getD w ((0 : Nat) + Int.toNat ((↑((16 : Nat) + k) : Int) - (15 : Int))) (0 : Int) / (8 : Int))) + List.getD w ((0 : Nat) + Int.toNat ((↑((16 : Nat) + k) : Int) - (7 : Int))) (0 : Int)) + j8 (fun x x_1 y => x_1 ^^^ y) .u32 (j8 (fun x x_1 y => x_1 ^^^ y) .u32 (A7 (List.getD w ((0 : Nat) + Int.toNat ((↑((16 : Nat) + k) : Int) - (2 : Int))) (0 : Int)) (17 : Int)) (A7 (List.getD w ((0 : Nat) + Int.toNat ((↑((16 : Nat) + k) : Int) - (2 : Int))) (0 : Int)) (19 : Int))) (List.getD w ((0 : Nat) + Int.toNat ((↑((16 : Nat) + k) : Int) - (2 : Int))) (0 : Int) / (1024 : Int)))) = w2, q (8 : Nat), q ((List.replicate 8 (0 : Int))), q0, q0, q0, q0, q0, q0, q0, q0, q0, (↑((16 : Nat) + k) : Int) + (1 : Int) = (↑((16 : Nat) + (k + (1 : Nat))) : Int)]) : Option (Exit × St × List Prop)) := by kernel_rfl
theorem bI4 (h : List Int) (w : List Int) (k : Nat) (w2 : List Int) :
  i5 zp (bZ4 h w k w2) [false] = (some (.exit 2, St.mk (mkT 191 [(2, .ptr (.o 0) 0 0 0 0), (4, .ptr (.o 2) 0 0 0 0), (5, .ptr (.o 1) 0 0 0 0), (7, .int .i64 64)]) [(.o 0, .flat [.seg .u32 8 h]), (.o 1, .flat [.seg .u32 64 w]), (.o 2, .flat [.seg .u32 8 (List.replicate 8 (0 : Int))])] 3 [], [decide ((↑((16 : Nat) + k) : Int) < (64 : Int)) = false, q (8 : Nat), q h, q (64 : Nat), q w, q (8 : Nat), q ((List.replicate 8 (0 : Int))), q0, q0, q0, q0, q0, q0, q0, q0, q0, (↑((16 : Nat) + k) : Int) = (64 : Int)]) : Option (Exit × St × List Prop)) := by kernel_rfl
theorem bI7 (h : List Int) (w : List Int) (s : S8) (t : Nat) (s2 : S8) :
  i5 zp (bZ5 h w s t s2) [true] = (some (.normal, St.mk (mkT 191 [(2, .ptr (.o 0) 0 0 0 0), (4, .ptr (.o 2) 0 0 0 0), (5, .ptr (.o 1) 0 0 0 0), (10, .ptr (.o 3) 0 0 0 0), (11, .int .i64 (↑(t + 1) : Int))]) [(.o 0, .flat [.seg .u32 8 h]), (.o 1, .flat [.seg .u32 64 w]), (.o 2, .flat [.seg .u32 8 (List.replicate 8 (0 : Int))]), (.o 3, .flat [.seg .u32 8 [S8.a s2, S8.b s2, S8.c s2, S8.d s2, S8.e s2, S8.f s2, S8.g s2, S8.h s2]])] 4 [], [decide ((↑t : Int) < (64 : Int)) = true, (0 : Int) ≤ (0 : Int) ∧ (0 : Int) < (8 : Int), 0 < (8 : Nat), (0 : Int) ≤ (4 : Int) ∧ (4 : Int) < (8 : Int), 4 < (8 : Nat), (0 : Int) ≤ (7 : Int) ∧ (7 : Int) < (8 : Int), 7 < (8 : Nat), T zp 146 [.int .u32 (List.getD [S8.a s, S8.b s, S8.c s, S8.d s, S8.e s, S8.f s, S8.g s, S8.h s] 4 (0 : Int)), .int .i64 6] [] (.int .u32 (A7 (List.getD [S8.a s, S8.b s, S8.c s, S8.d s, S8.e s, S8.f s, S8.g s, S8.h s] 4 (0 : Int)) (6 : Int))) [], T zp 146 [.int .u32 (List.getD [S8.a s, S8.b s, S8.c s, S8.d s, S8.e s, S8.f s, S8.g s, S8.h s] 4 (0 : Int)), .int .i64 11] [] (.int .u32 (A7 (List.getD [S8.a s, S8.b s, S8.c s, S8.d s, S8.e s, S8.f s, S8.g s, S8.h s] 4 (0 : Int)) (11 : Int))) [], T zp 146 [.int .u32 (List.getD [S8.a s, S8.b s, S8.c s, S8.d s, S8.e s, S8.f s, S8.g s, S8.h s] 4 (0 : Int)), .int .i64 25] [] (.int .u32 (A7 (List.getD [S8.a s, S8.b s, S8.c s, S8.d s, S8.e s, S8.f s, S8.g s, S8.h s] 4 (0 : Int)) (25 : Int))) [], (0 : Int) ≤ (5 : Int) ∧ (5 : Int) < (8 : Int), 5 < (8 : Nat), (0 : Int) ≤ (6 : Int) ∧ (6 : Int) < (8 : Int), 6 < (8 : Nat), T zp 147 [.int .i64 ↑t] [] (.int .u32 (kN (Int.toNat (↑t : Int)))) [], (0 : Int) ≤ (↑t : Int) ∧ (↑t : Int) < (64 : Int), (0 : Nat) + Int.toNat (↑t : Int) < (64 : Nat), T zp 146 [.int .u32 (List.getD [S8.a s, S8.b s, S8.c s, S8.d s, S8.e s, S8.f s, S8.g s, S8.h s] 0 (0 : Int)), .int .i64 2] [] (.int .u32 (A7 (List.getD [S8.a s, S8.b s, S8.c s, S8.d s, S8.e s, S8.f s, S8.g s, S8.h s] 0 (0 : Int)) (2 : Int))) [], T zp 146 [.int .u32 (List.getD [S8.a s, S8.b s, S8.c s, S8.d s, S8.e s, S8.f s, S8.g s, S8.h s] 0 (0 : Int)), .int .i64 13] [] (.int .u32 (A7 (List.getD [S8.a s, S8.b s, S8.c s, S8.d s, S8.e s, S8.f s, S8.g s, S8.h s] 0 (0 : Int)) (13 : Int))) [], T zp 146 [.int .u32 (List.getD [S8.a s, S8.b s, S8.c s, S8.d s, S8.e s, S8.f s, S8.g s, S8.h s] 0 (0 : Int)), .int .i64 22] [] (.int .u32 (A7 (List.getD [S8.a s, S8.b s, S8.c s, S8.d s, S8.e s, S8.f s, S8.g s, S8.h s] 0 (0 : Int)) (22 : Int))) [], (0 : Int) ≤ (1 : Int) ∧ (1 : Int) < (8 : Int), 1 < (8 : Nat), (0 : Int) ≤ (2 : Int) ∧ (2 : Int) < (8 : Int), 2 < (8 : Nat), (0 : Int) ≤ (1 : Int) ∧ (1 : Int) < (8 : Int), 1 < (8 : Nat), (0 : Int) ≤ (2 : Int) ∧ (2 : Int) < (8 : Int), 2 < (8 : Nat), (0 : Int) ≤ (1 : Int) ∧ (1 : Int) < (8 : Int), 1 < (8 : Nat), (0 : Int) ≤ (2 : Int) ∧ (2 : Int) < (8 : Int), 2 < (8 : Nat), (0 : Int) ≤ (3 : Int) ∧ (3 : Int) < (8 : Int), 3 < (8 : Nat), (0 : Int) ≤ (5 : Int) ∧ (5 : Int) < (8 : Int), 5 < (8 : Nat), (0 : Int) ≤ (6 : Int) ∧ (6 : Int) < (8 : Int), 6 < (8 : Nat), InR .i64 ((↑t : Int) + (1 : Int)), q (8 : Nat), q h, q (64 : Nat), q w, q (8 : Nat), q ((List.replicate 8 (0 : Int))), q (8 : Nat), [IntKind.wrap .u32 (IntKind.wrap .u32 (IntKind.wrap .u32 (IntKind.wrap .u32 (IntKind.wrap .u32 (List.getD [S8.a s, S8.b s, S8.c s, S8.d s, S8.e s, S8.f s, S8.g s, S8.h s] 7 (0 : Int) + j8 (fun x x_1 y => x_1 ^^^ y) .u32 (j8 (fun x x_1 y => x_1 ^^^ y) .u32 (A7 (List.getD [S8.a s, S8.b s, S8.c s, S8.d s, S8.e s, S8.f s, S8.g s, S8.h s] 4 (0 : Int)) (6 : Int)) (A7 (List.getD [S8.a s, S8.b s, S8.c s, S8.d s, S8.e s, S8.f s, S8.g s, S8.h s] 4 (0 : Int)) (11 : Int))) (A7 (List.getD [S8.a s, S8.b s, S8.c s, S8.d s, S8.e s, S8.f s, S8.g s, S8.h s] 4 (0 : Int)) (25 : Int))) + j8 (fun x x_1 y => x_1 ^^^ y) .u32 (j8 (fun x x_1 y => x_1 &&& y) .u32 (List.getD [S8.a s, S8.b s, S8.c s, S8.d s, S8.e s, S8.f s, S8.g s, S8.h s] 4 (0 : Int)) (List.getD [S8.a s, S8.b s, S8.c s, S8.d s, S8.e s, S8.f s, S8.g s, S8.h s] 5 (0 : Int))) (j8 (fun x x_1 y => x_1 &&& y) .u32 (j8 (fun x x_1 y => x_1 ^^^ y) .u32 (4294967295 : Int) (List.getD [S8.a s, S8.b s, S8.c s, S8.d s, S8.e s, S8.f s, S8.g s, S8.h s] 4 (0 : Int))) (List.getD [S8.a s, S8.b s, S8.c s, S8.d s, S8.e s, S8.f s, S8.g s, S8.h s] 6 (0 : Int)))) + kN (Int.toNat (↑t : Int))) + List.getD w ((0 : Nat) + Int.toNat (↑t : Int)) (0 : Int)) + IntKind.wrap .u32 (j8 (fun x x_1 y => x_1 ^^^ y) .u32 (j8 (fun x x_1 y => x_1 ^^^ y) .u32 (A7 (List.getD [S8.a s, S8.b s, S8.c s, S8.d s, S8.e s, S8.f s, S8.g s, S8.h s] 0 (0 : Int)) (2 : Int)) (A7 (List.getD [S8.a s, S8.b s, S8.c s, S8.d s, S8.e s, S8.f s, S8.g s, S8.h s] 0 (0 : Int)) (13 : Int))) (A7 (List.getD [S8.a s, S8.b s, S8.c s, S8.d s, S8.e s, S8.f s, S8.g s, S8.h s] 0 (0 : Int)) (22 : Int)) + j8 (fun x x_1 y => x_1 ^^^ y) .u32 (j8 (fun x x_1 y => x_1 ^^^ y) .u32 (j8 (fun x x_1 y => x_1 &&& y) .u32 (List.getD [S8.a s, S8.b s, S8.c s, S8.d s, S8.e s, S8.f s, S8.g s, S8.h s] 0 (0 : Int)) (List.getD [S8.a s, S8.b s, S8.c s, S8.d s, S8.e s, S8.f s, S8.g s, S8.h s] 1 (0 : Int))) (j8 (fun x x_1 y => x_1 &&& y) .u32 (List.getD [S8.a s, S8.b s, S8.c s, S8.d s, S8.e s, S8.f s, S8.g s, S8.h s] 0 (0 : Int)) (List.getD [S8.a s, S8.b s, S8.c s, S8.d s, S8.e s, S8.f s, S8.g s, S8.h s] 2 (0 : Int)))) (j8 (fun x x_1 y => x_1 &&& y) .u32 (List.getD [S8.a s, S8.b s, S8.c s, S8.d s, S8.e s, S8.f s, S8.g s, S8.h s] 1 (0 : Int)) (List.getD [S8.a s, S8.b s, S8.c s, S8.d s, S8.e s, S8.f s, S8.g s, S8.h s] 2 (0 : Int))))), List.getD [S8.a s, S8.b s, S8.c s, S8.d s, S8.e s, S8.f s, S8.g s, S8.h s] 0 (0 : Int), List.getD [S8.a s, S8.b s, S8.c s, S8.d s, S8.e s, S8.f s, S8.g s, S8.h s] 1 (0 : Int), List.getD [S8.a s, S8.b s, S8.c s, S8.d s, S8.e s, S8.f s, S8.g s, S8.h s] 2 (0 : Int), IntKind.wrap .u32 (List.getD [S8.a s, S8.b s, S8.c s, S8.d s, S8.e s, S8.f s, S8.g s, S8.h s] 3 (0 : Int) + IntKind.wrap .u32 (IntKind.wrap .u32 (IntKind.wrap .u32 (IntKind.wrap .u32 (List.getD [S8.a s, S8.b s, S8.c s, S8.d s, S8.e s, S8.f s, S8.g s, S8.h s] 7 (0 : Int) + j8 (fun x x_1 y => x_1 ^^^ y) .u32 (j8 (fun x x_1 y => x_1 ^^^ y) .u32 (A7 (List.getD [S8.a s, S8.b s, S8.c s, S8.d s, S8.e s, S8.f s, S8.g s, S8.h s] 4 (0 : Int)) (6 : Int)) (A7 (List.getD [S8.a s, S8.b s, S8.c s, S8.d s, S8.e s, S8.f s, S8.g s, S8.h s] 4 (0 : Int)) (11 : Int))) (A7 (List.getD [S8.a s, S8.b s, S8.c s, S8.d s, S8.e s, S8.f s, S8.g s, S8.h s] 4 (0 : Int)) (25 : Int))) + j8 (fun x x_1 y => x_1 ^^^ y) .u32 (j8 (fun x x_1 y => x_1 &&& y) .u32 (List.getD [S8.a s, S8.b s, S8.c s, S8.d s, S8.e s, S8.f s, S8.g s, S8.h s] 4 (0 : Int)) (List.getD [S8.a s, S8.b s, S8.c s, S8.d s, S8.e s, S8.f s, S8.g s, S8.h s] 5 (0 : Int))) (j8 (fun x x_1 y => x_1 &&& y) .u32 (j8 (fun x x_1 y => x_1 ^^^ y) .u32 (4294967295 : Int) (List.getD [S8.a s, S8.b s, S8.c s, S8.d s, S8.e s, S8.f s, S8.g s, S8.h s] 4 (0 : Int))) (List.getD [S8.a s, S8.b s, S8.c s, S8.d s, S8.e s, S8.f s, S8.g s, S8.h s] 6 (0 : Int)))) + kN (Int.toNat (↑t : Int))) + List.getD w ((0 : Nat) + Int.toNat (↑t : Int)) (0 : Int))), List.getD [S8.a s, S8.b s, S8.c s, S8.d s, S8.e s, S8.f s, S8.g s, S8.h s] 4 (0 : Int), List.getD [S8.a s, S8.b s, S8.c s, S8.d s, S8.e s, S8.f s, S8.g s, S8.h s] 5 (0 : Int), List.getD [S8.a s, S8.b s, S8.c s, S8.d s, S8.e s, S8.f s, S8.g s, S8.h s] 6 (0 : Int)] = [S8.a s2, S8.b s2, S8.c s2, S8.d s2, S8.e s2, S8.f s2, S8.g s2, S8.h s2], q0, q0, q0, q0, q0, q0, q0, q0, q0, q0, q0, q0, (↑t : Int) + (1 : Int) = (↑(t + (1 : Nat)) : Int)]) : Option (Exit × St × List Prop)) := by kernel_rfl
theorem bI6 (h : List Int) (w : List Int) (s : S8) (t : Nat) (s2 : S8) :
  i5 zp (bZ5 h w s t s2) [false] = (some (.exit 4, St.mk (mkT 191 [(2, .ptr (.o 0) 0 0 0 0), (4, .ptr (.o 2) 0 0 0 0), (5, .ptr (.o 1) 0 0 0 0), (10, .ptr (.o 3) 0 0 0 0), (11, .int .i64 64)]) [(.o 0, .flat [.seg .u32 8 h]), (.o 1, .flat [.seg .u32 64 w]), (.o 2, .flat [.seg .u32 8 (List.replicate 8 (0 : Int))]), (.o 3, .flat [.seg .u32 8 [S8.a s, S8.b s, S8.c s, S8.d s, S8.e s, S8.f s, S8.g s, S8.h s]])] 4 [], [decide ((↑t : Int) < (64 : Int)) = false, q (8 : Nat), q h, q (64 : Nat), q w, q (8 : Nat), q ((List.replicate 8 (0 : Int))), q (8 : Nat), q ([S8.a s, S8.b s, S8.c s, S8.d s, S8.e s, S8.f s, S8.g s, S8.h s]), q0, q0, q0, q0, q0, q0, q0, q0, q0, q0, q0, q0, (↑t : Int) = (64 : Int)]) : Option (Exit × St × List Prop)) := by kernel_rfl
theorem bI9 (h : List Int) (l : List Int) (i : Nat) (h2 : List Int) :
  i5 zp (bZ6 h l i h2) [true] = (some (.normal, St.mk (mkT 191 [(2, .ptr (.o 0) 0 0 0 0), (4, .ptr (.o 2) 0 0 0 0), (10, .ptr (.o 3) 0 0 0 0), (16, .int .i64 (↑(i + 1) : Int))]) [(.o 0, .flat [.seg .u32 8 h2]), (.o 2, .flat [.seg .u32 8 (List.replicate 8 (0 : Int))]), (.o 3, .flat [.seg .u32 8 l])] 4 [], [decide ((↑i : Int) < (8 : Int)) = true, (0 : Int) ≤ (↑i : Int) ∧ (↑i : Int) < (8 : Int), (0 : Nat) + Int.toNat (↑i : Int) < (8 : Nat), (0 : Int) ≤ (↑i : Int) ∧ (↑i : Int) < (8 : Int), (0 : Nat) + Int.toNat (↑i : Int) < (8 : Nat), (0 : Int) ≤ (↑i : Int) ∧ (↑i : Int) < (8 : Int), (0 : Nat) + Int.toNat (↑i : Int) < (8 : Nat), InR .i64 ((↑i : Int) + (1 : Int)), q (8 : Nat), List.set h ((0 : Nat) + Int.toNat (↑i : Int)) (IntKind.wrap .u32 (List.getD h ((0 : Nat) + Int.toNat (↑i : Int)) (0 : Int) + List.getD l ((0 : Nat) + Int.toNat (↑i : Int)) (0 : Int))) = h2, q (8 : Nat), q ((List.replicate 8 (0 : Int))), q (8 : Nat), q l, q0, q0, q0, q0, q0, q0, q0, q0, q0, (↑i : Int) + (1 : Int) = (↑(i + (1 : Nat)) : Int)]) : Option (Exit × St × List Prop)) := by kernel_rfl
theorem bI8 (h : List Int) (l : List Int) (i : Nat) (h2 : List Int) :
  i5 zp (bZ6 h l i h2) [false] = (some (.exit 6, St.mk (mkT 191 [(2, .ptr (.o 0) 0 0 0 0), (4, .ptr (.o 2) 0 0 0 0), (10, .ptr (.o 3) 0 0 0 0), (16, .int .i64 8)]) [(.o 0, .flat [.seg .u32 8 h]), (.o 2, .flat [.seg .u32 8 (List.replicate 8 (0 : Int))]), (.o 3, .flat [.seg .u32 8 l])] 4 [], [decide ((↑i : Int) < (8 : Int)) = false, q (8 : Nat), q h, q (8 : Nat), q ((List.replicate 8 (0 : Int))), q (8 : Nat), q l, q0, q0, q0, q0, q0, q0, q0, q0, q0, (↑i : Int) = (8 : Int)]) : Option (Exit × St × List Prop)) := by kernel_rfl
theorem au6 (v : Int) (k : Nat) (hk : k < 1) : m8 (j3 [[V.int .u8 v]] k) = true := by
 have : k = 0 := by omega
 subst this; rfl
theorem T_pa (l : List Int) (hb : l.length ≤ 10000000000) : T Tryz.prog 136 [rb l] [] (obS 0 (M2 l)) [(.o 0, obB (M2 l))] := by
 have hz : B3 (l.length + 1) < 64 := by unfold B3; omega
 have hA : f9 Tryz.prog none 0 (cB (cB (cL (cR (cR (f1 Tryz.f136)))))) (B3 (l.length + 1) + 1) (paI l (l ++ [128] ++ List.replicate 0 0)) (.exit 0) (paI l (l ++ [128] ++ List.replicate (B3 (l.length + 1)) 0)) := by
  have hl : ∀ k, (l ++ [128] ++ List.replicate k (0 : Int)).length = l.length + 1 + k := fun k => by simp; omega
  have hstep : ∀ k, k < B3 (l.length + 1) → R Tryz.prog none 0 (cB (cB (cL (cR (cR (f1 Tryz.f136)))))) (paI l (l ++ [128] ++ List.replicate k 0)) .normal (paI l (l ++ [128] ++ List.replicate (k + 1) 0)) := by
   intro k hk
   have h1 := aL9 hk
   have hlk := hl k
   have hlk1 := hl (k + 1)
   have e : (!decide (((l ++ [128] ++ List.replicate k (0 : Int)).length : Int) % 64 = 56)) = true := by rw [hlk, decide_eq_false (by omega)]; rfl
   have hc := ctb (l ++ [128] ++ List.replicate k 0) 0
   rw [show l ++ [128] ++ List.replicate k (0 : Int) ++ [0] = l ++ [128] ++ List.replicate (k + 1) 0 by rw [List.append_assoc (l ++ [128]), ← List.replicate_succ']] at hc
   refine f4 NG MO _ (bH3 l (l ++ [128] ++ List.replicate k 0) (l ++ [128] ++ List.replicate (k + 1) 0)) ?_ (Nat.zero_le _)
   simp only [All]; and_intros
   all_goals first | exact True.intro | exact e | exact hc | (intro j hj; rw [Nat.zero_add]; exact au6 0 j hj) | (intro _ _; exact True.intro) | omega | (intro h; exact h) | exact .inl True.intro
  have hend : R Tryz.prog none 0 (cB (cB (cL (cR (cR (f1 Tryz.f136)))))) (paI l (l ++ [128] ++ List.replicate (B3 (l.length + 1)) 0)) (.exit 0) (paI l (l ++ [128] ++ List.replicate (B3 (l.length + 1)) 0)) := by
   have h1 := au4 (l.length + 1)
   have hlk := hl (B3 (l.length + 1))
   have e : (!decide (((l ++ [128] ++ List.replicate (B3 (l.length + 1)) (0 : Int)).length : Int) % 64 = 56)) = false := by rw [hlk, decide_eq_true (by omega)]; rfl
   refine f4 NG MO _ (bH2 l (l ++ [128] ++ List.replicate (B3 (l.length + 1)) 0) []) ?_ (Nat.zero_le _)
   simp only [All]; and_intros
   all_goals first | exact True.intro | exact e | (intro _ _; exact True.intro) | omega | (intro h; exact h) | exact .inl True.intro
  exact f9.inv (fun k => paI l (l ++ [128] ++ List.replicate k 0)) (B3 (l.length + 1)) hstep hend (by simp)
 have hB : ∀ L : List Int, L.length ≤ 20000000000 → f9 Tryz.prog none 0 (cB (cB (cR (cL (cR (cR (cR (cR (f1 Tryz.f136))))))))) (8 + 1) (paJ l (L ++ F0 (8 * (l.length : Int)) 0) 0) (.exit 2) (paJ l (L ++ F0 (8 * (l.length : Int)) 8) 8) := by
  intro L hL
  have hl : ∀ j, (L ++ F0 (8 * (l.length : Int)) j).length = L.length + j := fun j => by simp [F0]
  have hstep : ∀ j, j < 8 → R Tryz.prog none 0 (cB (cB (cR (cL (cR (cR (cR (cR (f1 Tryz.f136))))))))) (paJ l (L ++ F0 (8 * (l.length : Int)) j) j) .normal (paJ l (L ++ F0 (8 * (l.length : Int)) (j + 1)) (j + 1)) := by
   intro j hj
   have hlj := hl j
   have hlj1 := hl (j + 1)
   have e1 : Int.toNat (8 * (7 - (j : Int))) = 56 - 8 * j := by omega
   have hc := ctb (L ++ F0 (8 * (l.length : Int)) j) (IntKind.wrap .u8 (8 * (l.length : Int) / 2 ^ (56 - 8 * j)))
   rw [show L ++ F0 (8 * (l.length : Int)) j ++ [IntKind.wrap .u8 (8 * (l.length : Int) / 2 ^ (56 - 8 * j))] = L ++ F0 (8 * (l.length : Int)) (j + 1) by rw [bb8, List.append_assoc]; rfl] at hc
   refine f4 NG MO _ (bH5 l (L ++ F0 (8 * (l.length : Int)) j) j (L ++ F0 (8 * (l.length : Int)) (j + 1))) ?_ (Nat.zero_le _)
   simp only [All, e1]; and_intros
   all_goals first | exact True.intro | exact hc | (intro j hj; rw [Nat.zero_add]; exact au6 _ j hj) | (rw [decide_eq_true_eq]; omega) | (intro _ _; exact True.intro) | (simp only [IntKind.min, IntKind.max, IntKind.signed, IntKind.bits, if_true]; omega) | omega | (intro h; exact h) | exact .inl True.intro
  have hend : R Tryz.prog none 0 (cB (cB (cR (cL (cR (cR (cR (cR (f1 Tryz.f136))))))))) (paJ l (L ++ F0 (8 * (l.length : Int)) 8) 8) (.exit 2) (paJ l (L ++ F0 (8 * (l.length : Int)) 8) 8) := by
   refine f4 NG MO _ (bH4 l (L ++ F0 (8 * (l.length : Int)) 8) 8 []) ?_ (Nat.zero_le _)
   simp only [All]; and_intros
   all_goals first | exact True.intro | (rw [decide_eq_false_iff_not]; omega) | (intro _ _; exact True.intro) | omega | (intro h; exact h) | exact .inl True.intro
  exact f9.inv (fun j => paJ l (L ++ F0 (8 * (l.length : Int)) j) j) 8 hstep hend (by simp)
 have hB1 := hB (l ++ [128] ++ List.replicate (B3 (l.length + 1)) 0) (by simp; omega)
 rw [List.replicate_zero, List.append_nil] at hA
 rw [show F0 (8 * (l.length : Int)) 0 = [] from rfl, List.append_nil] at hB1
 have hl0 : (l ++ [(128 : Int)]).length = l.length + 1 := by simp
 have hc0 := ctb l 128
 refine f3 (bT3 l (l ++ [128]) (B3 (l.length + 1)) (l ++ [128] ++ List.replicate (B3 (l.length + 1)) 0) (M2 l)) Tryz.func136 ?_
 simp only [All, cat0, Nat.zero_add]; and_intros
 all_goals first | exact True.intro | exact hA | exact hB1 | (intro k hk; have := hc0 k hk; simp only [Nat.zero_add] at this; exact this) | (intro j hj; exact au6 128 j hj) | (intro _ _; exact True.intro) | (simp only [IntKind.min, IntKind.max, IntKind.signed, IntKind.bits, if_true]; omega) | omega | (intro h; exact h) | exact .inl True.intro
theorem T_bt {h b : List Int} (hh : h.length = 8) (hb : b.length = 64) : T Tryz.prog 137 [.agg [.seg .u32 8 h], rb b] [] (.agg [.seg .u32 8 (blk h b)]) [] := by
 have hA : f9 Tryz.prog none 0 (cB (cB (cR (cL (cR (cR (f1 Tryz.f137))))))) (16 + 1) (btI h b (wA b 0) 0) (.exit 0) (btI h b (wA b 16) 16) := by
  have hstep : ∀ i, i < 16 → R Tryz.prog none 0 (cB (cB (cR (cL (cR (cR (f1 Tryz.f137))))))) (btI h b (wA b i) i) .normal (btI h b (wA b (i + 1)) (i + 1)) := by
   intro i hi
   obtain ⟨e0, e1, e2, e3⟩ := tn4 i
   refine f4 NG MO _ (bI3 h b (wA b i) i (wA b (i + 1))) ?_ (Nat.zero_le _)
   simp only [All, e0, e1, e2, e3, hb, Nat.zero_add, Int.toNat_natCast]; and_intros
   all_goals first | exact True.intro | rfl | (rw [decide_eq_true_eq]; omega) | (intro _ _; exact True.intro) | (simp only [IntKind.min, IntKind.max, IntKind.signed, IntKind.bits, if_true]; omega) | omega | (intro h; exact h)
  have hend : R Tryz.prog none 0 (cB (cB (cR (cL (cR (cR (f1 Tryz.f137))))))) (btI h b (wA b 16) 16) (.exit 0) (btI h b (wA b 16) 16) := by
   refine f4 NG MO _ (bI2 h b (wA b 16) 16 []) ?_ (Nat.zero_le _)
   simp only [All]; and_intros
   all_goals first | exact True.intro | (rw [decide_eq_false_iff_not]; omega) | (intro _ _; exact True.intro) | omega | (intro h; exact h)
  exact f9.inv (fun i => btI h b (wA b i) i) 16 hstep hend (by simp)
 have hB : f9 Tryz.prog none 0 (cB (cB (cR (cL (cR (cR (cR (f1 Tryz.f137)))))))) (48 + 1) (btJ h (wB b 0) 0) (.exit 2) (btJ h (wB b 48) 48) := by
  have hstep : ∀ k, k < 48 → R Tryz.prog none 0 (cB (cB (cR (cL (cR (cR (cR (f1 Tryz.f137)))))))) (btJ h (wB b k) k) .normal (btJ h (wB b (k + 1)) (k + 1)) := by
   intro k hk
   obtain ⟨e0, e1, e2, e3⟩ := b_2 k
   have h1 := Z2 ((wB b k).getD (k + 1) 0) (n := 7) (by decide)
   have h2 := Z2 ((wB b k).getD (k + 1) 0) (n := 18) (by decide)
   have h3 := Z2 ((wB b k).getD (k + 14) 0) (n := 17) (by decide)
   have h4 := Z2 ((wB b k).getD (k + 14) 0) (n := 19) (by decide)
   refine f4 NG MO _ (bI5 h (wB b k) k (wB b (k + 1))) ?_ (Nat.zero_le _)
   simp only [All, e0, e1, e2, e3, Nat.zero_add, Int.toNat_natCast]; and_intros
   all_goals first | exact True.intro | exact h1 | exact h2 | exact h3 | exact h4 | rfl | (rw [decide_eq_true_eq]; omega) | (simp only [IntKind.min, IntKind.max, IntKind.signed, IntKind.bits, if_true]; omega) | omega
  have hend : R Tryz.prog none 0 (cB (cB (cR (cL (cR (cR (cR (f1 Tryz.f137)))))))) (btJ h (wB b 48) 48) (.exit 2) (btJ h (wB b 48) 48) := by
   refine f4 NG MO _ (bI4 h (wB b 48) 48 []) ?_ (Nat.zero_le _)
   simp only [All]; and_intros
   all_goals first | exact True.intro | (rw [decide_eq_false_iff_not]; omega) | omega
  exact f9.inv (fun k => btJ h (wB b k) k) 48 hstep hend (by simp)
 have hC : ∀ w, f9 Tryz.prog none 0 (cB (cB (cR (cL (cR (cR (cR (cR (cR (f1 Tryz.f137)))))))))) (64 + 1) (btK h w (rnd w (S8.of h) 0) 0) (.exit 4) (btK h w (rnd w (S8.of h) 64) 64) := by
  intro w
  have hstep : ∀ t, t < 64 → R Tryz.prog none 0 (cB (cB (cR (cL (cR (cR (cR (cR (cR (f1 Tryz.f137)))))))))) (btK h w (rnd w (S8.of h) t) t) .normal (btK h w (rnd w (S8.of h) (t + 1)) (t + 1)) := by
   intro t ht
   have h1 := Z2 (rnd w (S8.of h) t).e (n := 6) (by decide)
   have h2 := Z2 (rnd w (S8.of h) t).e (n := 11) (by decide)
   have h3 := Z2 (rnd w (S8.of h) t).e (n := 25) (by decide)
   have h4 := Z2 (rnd w (S8.of h) t).a (n := 2) (by decide)
   have h5 := Z2 (rnd w (S8.of h) t).a (n := 13) (by decide)
   have h6 := Z2 (rnd w (S8.of h) t).a (n := 22) (by decide)
   have h7 := T_kc ht
   refine f4 NG MO _ (bI7 h w (rnd w (S8.of h) t) t (rnd w (S8.of h) (t + 1))) ?_ (Nat.zero_le _)
   simp only [All, Nat.zero_add, Int.toNat_natCast]; and_intros
   all_goals first | exact True.intro | exact h1 | exact h2 | exact h3 | exact h4 | exact h5 | exact h6 | exact h7 | rfl | (with_reducible assumption) | (rw [decide_eq_true_eq]; omega) | (simp only [IntKind.min, IntKind.max, IntKind.signed, IntKind.bits, if_true]; omega) | omega
  have hend : R Tryz.prog none 0 (cB (cB (cR (cL (cR (cR (cR (cR (cR (f1 Tryz.f137)))))))))) (btK h w (rnd w (S8.of h) 64) 64) (.exit 4) (btK h w (rnd w (S8.of h) 64) 64) := by
   refine f4 NG MO _ (bI6 h w (rnd w (S8.of h) 64) 64 ⟨0, 0, 0, 0, 0, 0, 0, 0⟩) ?_ (Nat.zero_le _)
   simp only [All]; and_intros
   all_goals first | exact True.intro | (rw [decide_eq_false_iff_not]; omega) | omega
  exact f9.inv (fun t => btK h w (rnd w (S8.of h) t) t) 64 hstep hend (by simp)
 have hD : ∀ l, f9 Tryz.prog none 0 (cB (cB (cR (cL (cR (cR (cR (cR (cR (cR (f1 Tryz.f137))))))))))) (8 + 1) (btL (hF h l 0) l 0) (.exit 6) (btL (hF h l 8) l 8) := by
  intro l
  have hstep : ∀ i, i < 8 → R Tryz.prog none 0 (cB (cB (cR (cL (cR (cR (cR (cR (cR (cR (f1 Tryz.f137))))))))))) (btL (hF h l i) l i) .normal (btL (hF h l (i + 1)) l (i + 1)) := by
   intro i hi
   refine f4 NG MO _ (bI9 (hF h l i) l i (hF h l (i + 1))) ?_ (Nat.zero_le _)
   simp only [All, Nat.zero_add, Int.toNat_natCast]; and_intros
   all_goals first | exact True.intro | rfl | (with_reducible assumption) | (rw [decide_eq_true_eq]; omega) | (simp only [IntKind.min, IntKind.max, IntKind.signed, IntKind.bits, if_true]; omega) | omega
  have hend : R Tryz.prog none 0 (cB (cB (cR (cL (cR (cR (cR (cR (cR (cR (f1 Tryz.f137))))))))))) (btL (hF h l 8) l 8) (.exit 6) (btL (hF h l 8) l 8) := by
   refine f4 NG MO _ (bI8 (hF h l 8) l 8 []) ?_ (Nat.zero_le _)
   simp only [All]; and_intros
   all_goals first | exact True.intro | (rw [decide_eq_false_iff_not]; omega) | omega
  exact f9.inv (fun i => btL (hF h l i) l i) 8 hstep hend (by simp)
 have hC1 := hC (wB b 48)
 have hD1 := hD (rnd (wB b 48) (S8.of h) 64).l
 have hbk : hF h (rnd (wB b 48) (S8.of h) 64).l 8 = blk h b := rfl
 rw [hbk] at hD1
 have h8 : h = [(S8.of h).a, (S8.of h).b, (S8.of h).c, (S8.of h).d, (S8.of h).e, (S8.of h).f, (S8.of h).g, (S8.of h).h] := of8 hh
 generalize hw : wB b 48 = w at hB hC1 hD1
 generalize hs : rnd w (S8.of h) 64 = s at hC1 hD1
 generalize hwA : wA b 16 = w16 at hA
 generalize hs0 : S8.of h = s0 at hC1 h8
 have hB1 : f9 Tryz.prog none 0 (cB (cB (cR (cL (cR (cR (cR (f1 Tryz.f137)))))))) (48 + 1) (btJ h w16 0) (.exit 2) (btJ h w 48) := by rw [← hwA]; exact hB
 refine f3 (bQ9 h b w16 w s0 s (blk h b)) Tryz.func137 ?_
 simp only [All]; and_intros
 all_goals first | exact True.intro | exact hA | exact hB1 | exact hC1 | exact hD1 | exact h8 | (intro _ _; exact True.intro) | (intro h; exact h)
def duI (p h : List Int) (i : Nat) : St := ⟨mkT 47 [(2, p0K 2), (3, p0K 0), (4, obS 1 p), (5, .int .i64 (64 * (i : Nat)))], [(.o 0, .flat [.seg .u32 8 h]), (.o 1, obB p), (.o 2, .flat [.seg .u8 32 p8])], 3, []⟩
def duJ (h d : List Int) (i : Nat) : St := ⟨mkT 47 [(2, p0K 2), (3, p0K 0), (6, p0K 3), (7, .int .i64 (i : Nat))], [(.o 0, .flat [.seg .u32 8 h]), (.o 2, .flat [.seg .u8 32 p8]), (.o 3, .flat [.seg .u8 32 d])], 4, []⟩
def duK (h d : List Int) (i k : Nat) : St := ⟨mkT 47 [(2, p0K 2), (3, p0K 0), (6, p0K 3), (7, .int .i64 (i : Nat)), (8, .int .i64 (k : Nat))], [(.o 0, .flat [.seg .u32 8 h]), (.o 2, .flat [.seg .u8 32 p8]), (.o 3, .flat [.seg .u8 32 d])], 4, []⟩
noncomputable def bh1 (l p h : List Int) (n : Nat) (d : List Int) : Bd := { f := Tryz.f99, args := [rb l], kb := { db := dbQ [(136, fun _ _ lo => [{ val := obS lo p, post := [(.o lo, obB p)] }])], lp := fun id t => bif Nat.beq id 0 then [(True, .loop (n + 1) (w6 [(.o 0, nmV (m6 t.tmps 3)), (.o 1, nmV (m6 t.tmps 4)), (.o 2, nmV (m6 t.tmps 2))] (duI p iv 0)) (.exit 0) (duI p h n))] else [(True, .loop (8 + 1) (w6 [(.o 3, nmV (m6 t.tmps 6))] (duJ h p8 0)) (.exit 2) (duJ h d 8))] } }
noncomputable def bZ7 (p h : List Int) (i : Nat) (h2 : List Int) (n : Nat) : Pc := { c := cB (cB (cR (cL (cR (cR (cR (f1 Tryz.f99))))))), st := duI p h i, kb := { db := dbQ [(137, fun _ _ _ => [{ rd := [.o 1], val := .agg [.seg .u32 8 h2] }])] }, k := fun x_ _ => match x_ with
 | .normal => some (wTo (duI p h2 (i + 1)))
 | _ => some (wTo (duI p h n)) }
noncomputable def duC : Code := cB (cB (cR (cL (cR (cR (cR (cR (cR (f1 Tryz.f99)))))))))
noncomputable def br_ (h d : List Int) (i : Nat) (d2 : List Int) : Pc := { c := duC, st := duJ h d i, kb := { db := fun _ _ _ _ => [], lp := fun _ _ => [(True, .loop (4 + 1) (wTo (duK h d i 0)) (.exit 4) (duK h d2 i 4))] }, k := fun x_ _ => match x_ with
 | .normal => some (wTo (duJ h d2 (i + 1)))
 | _ => some (wTo (duJ h d 8)) }
noncomputable def bZ8 (h d : List Int) (i k : Nat) (d2 : List Int) : Pc := { c := cB (cB (cR (cB (cL (cR duC))))), st := duK h d i k, kb := kb0, k := fun x_ _ => match x_ with
 | .normal => some (wTo (duK h d2 i (k + 1)))
 | _ => some (wTo (duK h d i 4)) }
theorem bR4 (l : List Int) (p : List Int) (h : List Int) (n : Nat) (d : List Int) :
  e9 zp (bh1 l p h n d) [] = (some (.agg [.seg .u8 32 d], [], [T zp 136 [.ros 1 (List.length l) (ib l) false] [] (.sl (.o 320) 1 0 0 0 (List.length p) none) [(.o 320, .rows 1 (List.length p) (ib p) true)], f9 zp none 0 (cB (cB (cR (cL (cR (cR (cR (f1 (Bd.f (bh1 l p h n d)))))))))) (n + 1) (St.mk (mkT 47 [(2, .ptr (.o 2) 0 0 0 0), (3, .ptr (.o 0) 0 0 0 0), (4, .sl (.o 1) 1 0 0 0 (List.length p) none), (5, .int .i64 0)]) [(.o 0, .flat [.seg .u32 8 [(1779033703 : Int), (3144134277 : Int), (1013904242 : Int), (2773480762 : Int), (1359893119 : Int), (2600822924 : Int), (528734635 : Int), (1541459225 : Int)]]), (.o 1, .rows 1 (List.length p) (ib p) true), (.o 2, .flat [.seg .u8 32 p8])] 3 []) (.exit 0) (St.mk (mkT 47 [(2, .ptr (.o 2) 0 0 0 0), (3, .ptr (.o 0) 0 0 0 0), (4, .sl (.o 1) 1 0 0 0 (List.length p) none), (5, .int .i64 ((64 : Int) * (↑n : Int)))]) [(.o 0, .flat [.seg .u32 8 h]), (.o 1, .rows 1 (List.length p) (ib p) true), (.o 2, .flat [.seg .u8 32 p8])] 3 []), q (8 : Nat), q ([(1779033703 : Int), (3144134277 : Int), (1013904242 : Int), (2773480762 : Int), (1359893119 : Int), (2600822924 : Int), (528734635 : Int), (1541459225 : Int)]), q (List.length p), ∀ (k : Nat), k < List.length p → [V.int .u8 (List.getD p k (0 : Int))] = [V.int .u8 (List.getD p k (0 : Int))], true = false → true = false, q (32 : Nat), z32 = p8, q0, q0, q0, q0, q0, q0, q0, q0, q0, q (List.length p), (none : Option Nat) = none ∨ (none : Option Nat) = none, q1, f9 zp none 0 (cB (cB (cR (cL (cR (cR (cR (cR (cR (f1 (Bd.f (bh1 l p h n d)))))))))))) 9 (St.mk (mkT 47 [(2, .ptr (.o 2) 0 0 0 0), (3, .ptr (.o 0) 0 0 0 0), (6, .ptr (.o 3) 0 0 0 0), (7, .int .i64 0)]) [(.o 0, .flat [.seg .u32 8 h]), (.o 2, .flat [.seg .u8 32 p8]), (.o 3, .flat [.seg .u8 32 p8])] 4 []) (.exit 2) (St.mk (mkT 47 [(2, .ptr (.o 2) 0 0 0 0), (3, .ptr (.o 0) 0 0 0 0), (6, .ptr (.o 3) 0 0 0 0), (7, .int .i64 8)]) [(.o 0, .flat [.seg .u32 8 h]), (.o 2, .flat [.seg .u8 32 p8]), (.o 3, .flat [.seg .u8 32 d])] 4 []), q (8 : Nat), q h, q (32 : Nat), q p8, q (32 : Nat), z32 = p8, q0, q0, q0, q0, q0, q0, q0, q0, q0, q1]) : Option (V × c5 × List Prop)) := by kernel_rfl
theorem bJ0 (p : List Int) (h : List Int) (i : Nat) (h2 : List Int) (n : Nat) :
  i5 zp (bZ7 p h i h2 n) [true] = (some (.normal, St.mk (mkT 47 [(2, .ptr (.o 2) 0 0 0 0), (3, .ptr (.o 0) 0 0 0 0), (4, .sl (.o 1) 1 0 0 0 (List.length p) none), (5, .int .i64 ((64 : Int) * (↑(i + 1) : Int)))]) [(.o 0, .flat [.seg .u32 8 h2]), (.o 1, .rows 1 (List.length p) (ib p) true), (.o 2, .flat [.seg .u8 32 p8])] 3 [], [decide ((64 : Int) * (↑i : Int) < (↑(List.length p) : Int)) = true, InR .i64 ((64 : Int) * (↑i : Int) + (64 : Int)), (0 : Int) ≤ (64 : Int) * (↑i : Int) + (64 : Int) ∧ (64 : Int) * (↑i : Int) + (64 : Int) ≤ (↑(f2 none (List.length p)) : Int), (0 : Int) ≤ (64 : Int) * (↑i : Int) ∧ (64 : Int) * (↑i : Int) ≤ (↑(f2 (some ((64 : Int) * (↑i : Int) + (64 : Int))) (List.length p)) : Int), Int.toNat ((64 : Int) * (↑i : Int)) = (0 : Nat) ∨ Int.toNat ((64 : Int) * (↑i : Int)) < f2 none (List.length p), T zp 137 [.agg [.seg .u32 8 h], .sl (.o 1) 1 (K5 0 (some ((64 : Int) * (↑i : Int)))) 0 0 (f2 (some ((64 : Int) * (↑i : Int) + (64 : Int))) (List.length p) - f2 (some ((64 : Int) * (↑i : Int))) 0) none] [(.o 1, .rows 1 (List.length p) (ib p) true)] (.agg [.seg .u32 8 h2]) [(.o 1, .rows 1 (List.length p) (ib p) true)], InR .i64 ((64 : Int) * (↑i : Int) + (64 : Int)), q (8 : Nat), q h2, q (List.length p), ∀ (k : Nat), k < List.length p → [V.int .u8 (List.getD p k (0 : Int))] = [V.int .u8 (List.getD p k (0 : Int))], true = false → true = false, q (32 : Nat), q p8, q0, q0, q0, q0, q0, q0, q0, q0, q0, q (List.length p), (none : Option Nat) = none ∨ (none : Option Nat) = none, (64 : Int) * (↑i : Int) + (64 : Int) = (64 : Int) * (↑(i + (1 : Nat)) : Int)]) : Option (Exit × St × List Prop)) := by kernel_rfl
theorem bI_ (p : List Int) (h : List Int) (i : Nat) (h2 : List Int) (n : Nat) :
  i5 zp (bZ7 p h i h2 n) [false] = (some (.exit 0, St.mk (mkT 47 [(2, .ptr (.o 2) 0 0 0 0), (3, .ptr (.o 0) 0 0 0 0), (4, .sl (.o 1) 1 0 0 0 (List.length p) none), (5, .int .i64 ((64 : Int) * (↑n : Int)))]) [(.o 0, .flat [.seg .u32 8 h]), (.o 1, .rows 1 (List.length p) (ib p) true), (.o 2, .flat [.seg .u8 32 p8])] 3 [], [decide ((64 : Int) * (↑i : Int) < (↑(List.length p) : Int)) = false, q (8 : Nat), q h, q (List.length p), ∀ (k : Nat), k < List.length p → [V.int .u8 (List.getD p k (0 : Int))] = [V.int .u8 (List.getD p k (0 : Int))], true = false → true = false, q (32 : Nat), q p8, q0, q0, q0, q0, q0, q0, q0, q0, q0, q (List.length p), (none : Option Nat) = none ∨ (none : Option Nat) = none, (64 : Int) * (↑i : Int) = (64 : Int) * (↑n : Int)]) : Option (Exit × St × List Prop)) := by kernel_rfl
theorem bJ2 (h : List Int) (d : List Int) (i : Nat) (d2 : List Int) :
  i5 zp (br_ h d i d2) [true] = (some (.normal, St.mk (mkT 47 [(2, .ptr (.o 2) 0 0 0 0), (3, .ptr (.o 0) 0 0 0 0), (6, .ptr (.o 3) 0 0 0 0), (7, .int .i64 (↑(i + 1) : Int))]) [(.o 0, .flat [.seg .u32 8 h]), (.o 2, .flat [.seg .u8 32 p8]), (.o 3, .flat [.seg .u8 32 d2])] 4 [], [decide ((↑i : Int) < (8 : Int)) = true, f9 zp none 0 (cB (cB (cR (cB (cL (cR (Pc.c (br_ h d i d2)))))))) 5 (St.mk (mkT 47 [(2, .ptr (.o 2) 0 0 0 0), (3, .ptr (.o 0) 0 0 0 0), (6, .ptr (.o 3) 0 0 0 0), (7, .int .i64 ↑i), (8, .int .i64 0)]) [(.o 0, .flat [.seg .u32 8 h]), (.o 2, .flat [.seg .u8 32 p8]), (.o 3, .flat [.seg .u8 32 d])] 4 []) (.exit 4) (St.mk (mkT 47 [(2, .ptr (.o 2) 0 0 0 0), (3, .ptr (.o 0) 0 0 0 0), (6, .ptr (.o 3) 0 0 0 0), (7, .int .i64 ↑i), (8, .int .i64 4)]) [(.o 0, .flat [.seg .u32 8 h]), (.o 2, .flat [.seg .u8 32 p8]), (.o 3, .flat [.seg .u8 32 d2])] 4 []), q (8 : Nat), q h, q (32 : Nat), q p8, q (32 : Nat), q d, q0, q0, q0, q0, q0, q0, q0, q0, q0, q (↑i : Int), q1, InR .i64 ((↑i : Int) + (1 : Int)), q (8 : Nat), q h, q (32 : Nat), q p8, q (32 : Nat), q d2, q0, q0, q0, q0, q0, q0, q0, q0, q0, (↑i : Int) + (1 : Int) = (↑(i + (1 : Nat)) : Int)]) : Option (Exit × St × List Prop)) := by kernel_rfl
theorem bJ1 (h : List Int) (d : List Int) (i : Nat) (d2 : List Int) :
  i5 zp (br_ h d i d2) [false] = (some (.exit 2, St.mk (mkT 47 [(2, .ptr (.o 2) 0 0 0 0), (3, .ptr (.o 0) 0 0 0 0), (6, .ptr (.o 3) 0 0 0 0), (7, .int .i64 8)]) [(.o 0, .flat [.seg .u32 8 h]), (.o 2, .flat [.seg .u8 32 p8]), (.o 3, .flat [.seg .u8 32 d])] 4 [], [decide ((↑i : Int) < (8 : Int)) = false, q (8 : Nat), q h, q (32 : Nat), q p8, q (32 : Nat), q d, q0, q0, q0, q0, q0, q0, q0, q0, q0, (↑i : Int) = (8 : Int)]) : Option (Exit × St × List Prop)) := by kernel_rfl
theorem bJ4 (h : List Int) (d : List Int) (i : Nat) (k : Nat) (d2 : List Int) :
  i5 zp (bZ8 h d i k d2) [true] = (some (.normal, St.mk (mkT 47 [(2, .ptr (.o 2) 0 0 0 0), (3, .ptr (.o 0) 0 0 0 0), (6, .ptr (.o 3) 0 0 0 0), (7, .int .i64 ↑i), (8, .int .i64 (↑(k + 1) : Int))]) [(.o 0, .flat [.seg .u32 8 h]), (.o 2, .flat [.seg .u8 32 p8]), (.o 3, .flat [.seg .u8 32 d2])] 4 [], [decide ((↑k : Int) < (4 : Int)) = true, InR .i64 ((4 : Int) * (↑i : Int)), InR .i64 ((4 : Int) * (↑i : Int) + (↑k : Int)), (0 : Int) ≤ (↑i : Int) ∧ (↑i : Int) < (8 : Int), (0 : Nat) + Int.toNat (↑i : Int) < (8 : Nat), InR .i64 ((8 : Int) * (↑k : Int)), InR .i64 ((24 : Int) - (8 : Int) * (↑k : Int)), (0 : Int) ≤ (24 : Int) - (8 : Int) * (↑k : Int) ∧ (24 : Int) - (8 : Int) * (↑k : Int) ≤ (32 : Int), (0 : Int) ≤ (4 : Int) * (↑i : Int) + (↑k : Int) ∧ (4 : Int) * (↑i : Int) + (↑k : Int) < (32 : Int), (0 : Nat) + Int.toNat ((4 : Int) * (↑i : Int) + (↑k : Int)) < (32 : Nat), InR .i64 ((↑k : Int) + (1 : Int)), q (8 : Nat), q h, q (32 : Nat), q p8, q (32 : Nat), List.set d ((0 : Nat) + Int.toNat ((4 : Int) * (↑i : Int) + (↑k : Int))) (IntKind.wrap .u8 (List.getD h ((0 : Nat) + Int.toNat (↑i : Int)) (0 : Int) / (2 : Int) ^ Int.toNat ((24 : Int) - (8 : Int) * (↑k : Int)))) = d2, q0, q0, q0, q0, q0, q0, q0, q0, q0, q (↑i : Int), (↑k : Int) + (1 : Int) = (↑(k + (1 : Nat)) : Int)]) : Option (Exit × St × List Prop)) := by kernel_rfl
theorem bJ3 (h : List Int) (d : List Int) (i : Nat) (k : Nat) (d2 : List Int) :
  i5 zp (bZ8 h d i k d2) [false] = (some (.exit 4, St.mk (mkT 47 [(2, .ptr (.o 2) 0 0 0 0), (3, .ptr (.o 0) 0 0 0 0), (6, .ptr (.o 3) 0 0 0 0), (7, .int .i64 ↑i), (8, .int .i64 4)]) [(.o 0, .flat [.seg .u32 8 h]), (.o 2, .flat [.seg .u8 32 p8]), (.o 3, .flat [.seg .u8 32 d])] 4 [], [decide ((↑k : Int) < (4 : Int)) = false, q (8 : Nat), q h, q (32 : Nat), q p8, q (32 : Nat), q d, q0, q0, q0, q0, q0, q0, q0, q0, q0, q (↑i : Int), (↑k : Int) = (4 : Int)]) : Option (Exit × St × List Prop)) := by kernel_rfl
theorem ca4 {p h : List Int} (hh : h.length = 8) {i X Y : Nat} (hX : X = 64 * i) (hY : Y = 64) (hp : 64 * i + 64 ≤ p.length) : T Tryz.prog 137 [.agg [.seg .u32 8 h], .sl (.o 1) 1 X 0 0 Y none] [(.o 1, obB p)] (.agg [.seg .u32 8 (blk h (N8 p i))]) [(.o 1, obB p)] := by
 have hl := bm7 p i
 refine T.lendG (T_bt hh hl) rfl ?_ (C9.agg rfl) (by simp) (by rintro n ⟨b, hb⟩; cases hb)
 simp only [All, hl]; and_intros
 all_goals first | exact True.intro | (intro k hk; show [V.int .u8 (p.getD (X + k) 0)] = [V.int .u8 ((N8 p i).getD k 0)]; rw [bm6 (by omega), hX]) | (with_reducible assumption) | omega | (intro h; cases h; done)
theorem duKL (h d : List Int) (i : Nat) (hi : i < 8) : f9 Tryz.prog none 0 (cB (cB (cR (cB (cL (cR duC)))))) (4 + 1) (duK h (dA h (4 * i + 0)) i 0) (.exit 4) (duK h (dA h (4 * i + 4)) i 4) := by
 have hstep : ∀ k, k < 4 → R Tryz.prog none 0 (cB (cB (cR (cB (cL (cR duC)))))) (duK h (dA h (4 * i + k)) i k) .normal (duK h (dA h (4 * i + (k + 1))) i (k + 1)) := by
  intro k hk
  have e1 : Int.toNat (4 * (i : Int) + (k : Int)) = 4 * i + k := by omega
  have e2 : Int.toNat (24 - 8 * (k : Int)) = 24 - 8 * k := by omega
  have e3 : dA h (4 * i + (k + 1)) = (dA h (4 * i + k)).set (4 * i + k) (IntKind.wrap .u8 (h.getD i 0 / 2 ^ (24 - 8 * k))) := by
   show (dA h (4 * i + k)).set (4 * i + k) (w8 (h.getD ((4 * i + k) / 4) 0 / 2 ^ (24 - 8 * ((4 * i + k) % 4)))) = _
   rw [show (4 * i + k) / 4 = i by omega, show (4 * i + k) % 4 = k by omega]; rfl
  refine f4 NG MO _ (bJ4 h (dA h (4 * i + k)) i k (dA h (4 * i + (k + 1)))) ?_ (Nat.zero_le _)
  simp only [All, e1, e2, Int.toNat_natCast, Nat.zero_add]; and_intros
  all_goals first | exact True.intro | exact e3.symm | (with_reducible assumption) | (rw [decide_eq_true_eq]; omega) | (simp only [IntKind.min, IntKind.max, IntKind.signed, IntKind.bits, if_true]; omega) | omega
 have hend : R Tryz.prog none 0 (cB (cB (cR (cB (cL (cR duC)))))) (duK h (dA h (4 * i + 4)) i 4) (.exit 4) (duK h (dA h (4 * i + 4)) i 4) := by
  refine f4 NG MO _ (bJ3 h (dA h (4 * i + 4)) i 4 []) ?_ (Nat.zero_le _)
  simp only [All]; and_intros
  all_goals first | exact True.intro | (rw [decide_eq_false_iff_not]; omega) | omega
 exact f9.inv (fun k => duK h (dA h (4 * i + k)) i k) 4 hstep hend (by simp)
theorem duJL (h : List Int) : f9 Tryz.prog none 0 duC (8 + 1) (duJ h (dA h (4 * 0)) 0) (.exit 2) (duJ h (dA h (4 * 8)) 8) := by
 have hstep : ∀ i, i < 8 → R Tryz.prog none 0 duC (duJ h (dA h (4 * i)) i) .normal (duJ h (dA h (4 * (i + 1))) (i + 1)) := by
  intro i hi
  have hK := duKL h [] i hi
  refine f4 NG MO _ (bJ2 h (dA h (4 * i)) i (dA h (4 * (i + 1)))) ?_ (Nat.zero_le _)
  simp only [All]; and_intros
  all_goals first | exact True.intro | exact hK | (rw [decide_eq_true_eq]; omega) | (simp only [IntKind.min, IntKind.max, IntKind.signed, IntKind.bits, if_true]; omega) | omega
 have hend : R Tryz.prog none 0 duC (duJ h (dA h (4 * 8)) 8) (.exit 2) (duJ h (dA h (4 * 8)) 8) := by
  refine f4 NG MO _ (bJ1 h (dA h (4 * 8)) 8 []) ?_ (Nat.zero_le _)
  simp only [All]; and_intros
  all_goals first | exact True.intro | (rw [decide_eq_false_iff_not]; omega) | omega
 exact f9.inv (fun i => duJ h (dA h (4 * i)) i) 8 hstep hend (by simp)
theorem T_du (l : List Int) (hb : l.length ≤ 10000000000) : T Tryz.prog 99 [rb l] [] (.agg [.seg .u8 32 (A8 l)]) [] := by
 have hP : T Tryz.prog 136 [rb l] [] (obS 320 (M2 l)) [(.o 320, obB (M2 l))] := by
  obtain ⟨σ, hσ, h3⟩ := T.at (T_pa l hb) [.o 0] [.o 320] (by decide) (by decide) rfl
  simp only [List.map_cons, List.map_nil, List.cons.injEq, and_true] at hσ
  simpa [V.rens, V.ren, c5.ren, Sy.B.ren, obS, obB, rb, hσ] using h3
 have hlen := bp5 l
 have hpl : (M2 l).length ≤ 20000000000 := by
  have : B3 (l.length + 1) < 64 := by unfold B3; omega
  simp only [M2, List.length_append, List.length_replicate, List.length_cons, List.length_nil, al8]
  omega
 have hs : A8 l = dA (hK (M2 l) ((M2 l).length / 64)) (4 * 8) := rfl
 generalize M2 l = p at hP hlen hpl hs
 have hA : f9 Tryz.prog none 0 (cB (cB (cR (cL (cR (cR (cR (f1 Tryz.f99)))))))) (p.length / 64 + 1) (duI p (hK p 0) 0) (.exit 0) (duI p (hK p (p.length / 64)) (p.length / 64)) := by
  have hstep : ∀ i, i < p.length / 64 → R Tryz.prog none 0 (cB (cB (cR (cL (cR (cR (cR (f1 Tryz.f99)))))))) (duI p (hK p i) i) .normal (duI p (hK p (i + 1)) (i + 1)) := by
   intro i hi
   have e1 : K5 0 (some (64 * (i : Int))) = 64 * i := by show 0 + (64 * (i : Int)).toNat = _; omega
   have e2 : f2 (some (64 * (i : Int) + 64)) p.length = 64 * i + 64 := by show (64 * (i : Int) + 64).toNat = _; omega
   have e3 : f2 (some (64 * (i : Int))) 0 = 64 * i := by show (64 * (i : Int)).toNat = _; omega
   have e4 : f2 (none : Option Int) p.length = p.length := rfl
   have hB := ca4 (p := p) (ba8 p i) (i := i) (X := 64 * i) (Y := 64 * i + 64 - 64 * i) rfl (by omega) (by omega)
   refine f4 NG MO _ (bJ0 p (hK p i) i (hK p (i + 1)) 0) ?_ (Nat.zero_le _)
   simp only [All, e1, e2, e3, e4]; and_intros
   all_goals first | exact True.intro | exact hB | (rw [decide_eq_true_eq]; omega) | (intro _ _; exact True.intro) | (simp only [IntKind.min, IntKind.max, IntKind.signed, IntKind.bits, if_true]; omega) | omega | (intro h; exact h) | exact .inl True.intro
  have hend : R Tryz.prog none 0 (cB (cB (cR (cL (cR (cR (cR (f1 Tryz.f99)))))))) (duI p (hK p (p.length / 64)) (p.length / 64)) (.exit 0) (duI p (hK p (p.length / 64)) (p.length / 64)) := by
   refine f4 NG MO _ (bI_ p (hK p (p.length / 64)) (p.length / 64) [] (p.length / 64)) ?_ (Nat.zero_le _)
   simp only [All]; and_intros
   all_goals first | exact True.intro | (rw [decide_eq_false_iff_not]; omega) | (intro _ _; exact True.intro) | (intro h; exact h) | exact .inl True.intro
  exact f9.inv (fun i => duI p (hK p i) i) (p.length / 64) hstep hend (by simp)
 have hJ := duJL (hK p (p.length / 64))
 rw [← hs] at hJ
 generalize hK p (p.length / 64) = h at hA hJ
 generalize p.length / 64 = n at hA
 generalize A8 l = d at hJ
 refine f3 (bR4 l p h n d) Tryz.func99 ?_
 simp only [All]; and_intros
 all_goals first | exact True.intro | exact hP | exact hA | exact hJ | rfl | (intro _ _; exact True.intro) | (intro h; exact h) | exact .inl True.intro
def rbs (n : Nat) (ls : Nat → List Int) : V := .ros 1 n (fun k => [rb (ls k)]) false
noncomputable def bdR2 (ls : Nat → List Int) (H1 W1 : List Int) (n1 : Int) (H2 W2 : List Int) (n2 : Int) (d H3 W3 : List Int) (n3 : Int) : Bd := { f := Tryz.f82, args := [rbs 2 ls], base := 1, kb := { db := suDb H1 W1 n1 H2 W2 n2 d H3 W3 n3, lp := fun _ _ => [(True, .rounds 3)], lit := true } }
def byI (d L : List Int) (k : Nat) : St := ⟨mkT 16 [(1, p0K 0), (3, obS 1 L), (4, .int .i64 (k : Nat))], [(.o 0, .flat [.seg .u8 32 d]), (.o 1, obB L)], 2, []⟩
noncomputable def bQ_ (d : List Int) : Bd := { f := Tryz.f101, args := [.agg [.seg .u8 32 d]], kb := { db := fun _ _ _ _ => [], fx := fun id _ => bif Nat.beq id 2 then [.virt 3 1] else [], lp := fun _ t => [(True, .loop (32 + 1) (w6 [(.o 0, nmV (m6 t.tmps 1)), (.o 1, nmV (m6 t.tmps 3))] (byI d [] 0)) (.exit 0) (byI d d 32))] }, names := fun _ => [.o 1] }
noncomputable def bX7 (d L : List Int) (k : Nat) (L2 : List Int) : Pc := { c := cB (cB (cR (cL (cR (cR (f1 Tryz.f101)))))), st := byI d L k, kb := kb0, k := fun x_ t => match x_ with
 | .normal => some (w6 [(.o 1, nmV (m6 t.tmps 3))] (byI d L2 (k + 1)))
 | _ => some (wTo (byI d L 32)) }
theorem bT5 (ls : Nat → List Int) (H1 : List Int) (W1 : List Int) (n1 : Int) (H2 : List Int) (W2 : List Int) (n2 : Int) (d : List Int) (H3 : List Int) (W3 : List Int) (n3 : Int) :
  e9 zp (bdR2 ls H1 W1 n1 H2 W2 n2 d H3 W3 n3) [] = (some (.agg [.seg .u8 32 d], [], [T zp 103 [] [] (.ptr (.o 65) 0 0 0 0) [(.o 65, .flat [.seg .u32 8 [(1779033703 : Int), (3144134277 : Int), (1013904242 : Int), (2773480762 : Int), (1359893119 : Int), (2600822924 : Int), (528734635 : Int), (1541459225 : Int)], .seg .u8 64 an6, .int .i64 0])], q2, (0 : Int) ≤ (0 : Int) ∧ (0 : Int) < (2 : Int), T zp 104 [.ptr (.o 65) 0 0 0 0, .ros 1 (List.length (ls 0)) (ib (ls 0)) false] [(.o 65, .flat [.seg .u32 8 [(1779033703 : Int), (3144134277 : Int), (1013904242 : Int), (2773480762 : Int), (1359893119 : Int), (2600822924 : Int), (528734635 : Int), (1541459225 : Int)], .seg .u8 64 an6, .int .i64 0])] (.tup []) [(.o 65, .flat [.seg .u32 8 H1, .seg .u8 64 W1, .int .i64 n1])], InR .i64 (1 : Int), q2, (0 : Int) ≤ (1 : Int) ∧ (1 : Int) < (2 : Int), T zp 104 [.ptr (.o 65) 0 0 0 0, .ros 1 (List.length (ls 1)) (ib (ls 1)) false] [(.o 65, .flat [.seg .u32 8 H1, .seg .u8 64 W1, .int .i64 n1])] (.tup []) [(.o 65, .flat [.seg .u32 8 H2, .seg .u8 64 W2, .int .i64 n2])], InR .i64 (2 : Int), q false, T zp 105 [.ptr (.o 65) 0 0 0 0] [(.o 65, .flat [.seg .u32 8 H2, .seg .u8 64 W2, .int .i64 n2])] (.agg [.seg .u8 32 d]) [(.o 65, .flat [.seg .u32 8 H3, .seg .u8 64 W3, .int .i64 n3])]]) : Option (V × c5 × List Prop)) := by kernel_rfl
theorem bR0 (d : List Int) :
  e9 zp (bQ_ d) [] = (some (.sl (.o 1) 1 0 0 0 (List.length d) none, [(.o 1, .rows 1 (List.length d) (ib d) true)], [f9 zp none 0 (cB (cB (cR (cL (cR (cR (f1 (Bd.f (bQ_ d))))))))) 33 (St.mk (mkT 16 [(1, .ptr (.o 0) 0 0 0 0), (3, .sl (.o 1) 1 0 0 0 0 none), (4, .int .i64 0)]) [(.o 0, .flat [.seg .u8 32 d]), (.o 1, .rows 1 0 (ib []) true)] 2 []) (.exit 0) (St.mk (mkT 16 [(1, .ptr (.o 0) 0 0 0 0), (3, .sl (.o 1) 1 0 0 0 (List.length d) none), (4, .int .i64 32)]) [(.o 0, .flat [.seg .u8 32 d]), (.o 1, .rows 1 (List.length d) (ib d) true)] 2 []), q (32 : Nat), q d, (0 : Nat) = 0, ∀ (k : Nat), k < (0 : Nat) → [] = [V.int .u8 (0 : Int)], true = false → true = false, q0, q0, q0, q0, q0, q0, (0 : Nat) = 0, (none : Option Nat) = none ∨ (none : Option Nat) = none, q1]) : Option (V × c5 × List Prop)) := by kernel_rfl
theorem bG1 (d : List Int) (L : List Int) (k : Nat) (L2 : List Int) :
  i5 zp (bX7 d L k L2) [true] = (some (.normal, St.mk (mkT 16 [(1, .ptr (.o 0) 0 0 0 0), (3, .sl (.o 1) 1 0 0 0 (List.length L2) none), (4, .int .i64 (↑(k + 1) : Int))]) [(.o 0, .flat [.seg .u8 32 d]), (.o 1, .rows 1 (List.length L2) (ib L2) true)] 2 [], [decide ((↑k : Int) < (32 : Int)) = true, (0 : Int) ≤ (↑k : Int) ∧ (↑k : Int) < (32 : Int), (0 : Nat) + Int.toNat (↑k : Int) < (32 : Nat), q (List.length L), 1 ≤ (1 : Nat), ∀ (k_1 : Nat), k_1 < (1 : Nat) → m8 (j3 [[V.int .u8 (List.getD d ((0 : Nat) + Int.toNat (↑k : Int)) (0 : Int))]] ((0 : Nat) + k_1)) = true, (List.length L + (1 : Nat)) * (1 : Nat) ≤ (140737488355328 : Nat), InR .i64 ((↑k : Int) + (1 : Int)), q (32 : Nat), q d, List.length L + (1 : Nat) = List.length L2, ∀ (k_1 : Nat), k_1 < List.length L + (1 : Nat) → m5 (List.length L) (ib L) (fun k_2 => j3 [[V.int .u8 (List.getD d ((0 : Nat) + Int.toNat (↑k : Int)) (0 : Int))]] ((0 : Nat) + k_2)) k_1 = [V.int .u8 (List.getD L2 k_1 (0 : Int))], true = false → true = false, q0, q0, q0, q0, q0, q0, List.length L + (1 : Nat) = List.length L2, (none : Option Nat) = none ∨ (none : Option Nat) = none, (↑k : Int) + (1 : Int) = (↑(k + (1 : Nat)) : Int)]) : Option (Exit × St × List Prop)) := by kernel_rfl
theorem bG0 (d : List Int) (L : List Int) (k : Nat) (L2 : List Int) :
  i5 zp (bX7 d L k L2) [false] = (some (.exit 0, St.mk (mkT 16 [(1, .ptr (.o 0) 0 0 0 0), (3, .sl (.o 1) 1 0 0 0 (List.length L) none), (4, .int .i64 32)]) [(.o 0, .flat [.seg .u8 32 d]), (.o 1, .rows 1 (List.length L) (ib L) true)] 2 [], [decide ((↑k : Int) < (32 : Int)) = false, q (32 : Nat), q d, q (List.length L), ∀ (k : Nat), k < List.length L → [V.int .u8 (List.getD L k (0 : Int))] = [V.int .u8 (List.getD L k (0 : Int))], true = false → true = false, q0, q0, q0, q0, q0, q0, q (List.length L), (none : Option Nat) = none ∨ (none : Option Nat) = none, (↑k : Int) = (32 : Int)]) : Option (Exit × St × List Prop)) := by kernel_rfl
theorem bv4 (ls : Nat → List Int) (hb : (ls 0).length + (ls 1).length ≤ 10000000000) : T Tryz.prog 82 [rbs 2 ls] [] (.agg [.seg .u8 32 (A8 (ls 0 ++ ls 1))]) [] := by
 have hB := T_be
 obtain ⟨H1, W1, hI1, hT1⟩ := bv5 (bF0 (W := an6) (by simp [an6])) (ls 0) (by simp; omega) 65
 rw [List.nil_append] at hI1
 rw [List.length_nil, Nat.zero_add] at hT1
 obtain ⟨H2, W2, hI2, hT2⟩ := bv5 hI1 (ls 1) (by omega) 65
 obtain ⟨H3, W3, n3, hT3⟩ := ca8 hI2 (by rw [List.length_append]; omega) 65
 rw [List.length_append] at hT3
 refine f3 (bT5 ls H1 W1 ((ls 0).length : Nat) H2 W2 (((ls 0).length + (ls 1).length : Nat) : Int) (A8 (ls 0 ++ ls 1)) H3 W3 n3) Tryz.func82 ?_
 simp only [All]; and_intros
 all_goals first | exact True.intro | exact hB | exact hT1 | exact hT2 | exact hT3 | (simp only [IntKind.min, IntKind.max, IntKind.signed, IntKind.bits, if_true]; omega) | omega
theorem T_by {d : List Int} (hd : d.length = 32) : T Tryz.prog 101 [.agg [.seg .u8 32 d]] [] (obS 1 d) [(.o 1, obB d)] := by
 have hl : ∀ k, k ≤ 32 → (d.take k).length = k := fun k hk => by rw [List.length_take]; omega
 have hL : f9 Tryz.prog none 0 (cB (cB (cR (cL (cR (cR (f1 Tryz.f101))))))) (32 + 1) (byI d (d.take 0) 0) (.exit 0) (byI d (d.take 32) 32) := by
  have hstep : ∀ k, k < 32 → R Tryz.prog none 0 (cB (cB (cR (cL (cR (cR (f1 Tryz.f101))))))) (byI d (d.take k) k) .normal (byI d (d.take (k + 1)) (k + 1)) := by
   intro k hk
   have e1 := hl k (by omega)
   have e2 := hl (k + 1) (by omega)
   have hc := ctb (d.take k) (d.getD k 0)
   rw [show d.take k ++ [d.getD k 0] = d.take (k + 1) by rw [List.getD_eq_getElem?_getD, List.getElem?_eq_getElem (by omega), Option.getD_some, List.take_append_getElem]] at hc
   simp only [Nat.zero_add] at hc
   refine f4 NG MO _ (bG1 d (d.take k) k (d.take (k + 1))) ?_ (Nat.zero_le _)
   simp only [All, Int.toNat_natCast, Nat.zero_add]; and_intros
   all_goals first | exact True.intro | (intro j hj; exact hc j hj) | (intro j hj; exact au6 _ j hj) | (with_reducible assumption) | (rw [decide_eq_true_eq]; omega) | (simp only [IntKind.min, IntKind.max, IntKind.signed, IntKind.bits, if_true]; omega) | omega | (intro h; exact h) | exact .inl True.intro
  have hend : R Tryz.prog none 0 (cB (cB (cR (cL (cR (cR (f1 Tryz.f101))))))) (byI d (d.take 32) 32) (.exit 0) (byI d (d.take 32) 32) := by
   refine f4 NG MO _ (bG0 d (d.take 32) 32 []) ?_ (Nat.zero_le _)
   simp only [All]; and_intros
   all_goals first | exact True.intro | (rw [decide_eq_false_iff_not]; omega) | (intro _ _; exact True.intro) | omega | (intro h; exact h) | exact .inl True.intro
  exact f9.inv (fun k => byI d (d.take k) k) 32 hstep hend (by simp)
 rw [List.take_zero, show d.take 32 = d from List.take_of_length_le (by omega)] at hL
 refine f3 (bR0 d) Tryz.func101 ?_
 simp only [All]; and_intros
 all_goals first | exact True.intro | exact hL | omega | (intro h; exact h) | exact .inl True.intro
def p9 (n k : Nat) : List UInt8 := (i4 8 n).drop ((i4 8 n).length - k)
def dgI (n k : Nat) : St := ⟨mkT 15 [(0, .int .i64 (n / 256 ^ k : Nat)), (3, sb (.o 1) (p9 n k))], [(.o 1, bs (p9 n k))], 2, []⟩
def dgS (n : Nat) (b : Bool) : St := ⟨mkT 15 ((0, .int .i64 (n : Nat)) :: (if b then [(3, .snil)] else [])), [], 1, []⟩
noncomputable def pcDa (n : Nat) : Pc := { c := cL (f1 Tryz.f81), st := ⟨[.int .i64 (n : Nat)] ++ List.replicate 14 (.tup []), [], 1, []⟩, p := 1, kb := kb0, k := fun _ _ => some (wTo (dgS n false)) }
noncomputable def pcDb (n : Nat) : Pc := { c := cL (cR (f1 Tryz.f81)), st := dgS n false, p := 1, kb := kb0, k := fun _ _ => some (wTo (dgS n true)) }
noncomputable def bY0 (n : Nat) : Pc := { c := cR (cR (f1 Tryz.f81)), st := dgS n true, p := 1, kb := { db := fun _ _ _ _ => [], lp := fun _ t => match m6 t.tmps 3 with | .sl a _ _ _ _ _ _ => [(True, .loop ((i4 8 n).length + 1) (w6 [(.o 1, a)] (dgI n 0)) (.exit 0) (dgI n (i4 8 n).length))] | _ => [], fx := fun id _ => bif Nat.beq id 2 then [.virt 3 1] else [] }, k := kSb 2 63 (i4 8 n) }
noncomputable def bY2 (n k : Nat) : Pc := { c := cB (cB (cL (cR (cR (f1 Tryz.f81))))), st := dgI n k, p := 1, kb := kb0, k := fun e t => match e with
 | .normal => match m6 t.tmps 3 with
  | .sl a _ _ _ _ _ _ => some (w6 [(.o 1, a)] (dgI n (k + 1)))
  | _ => none
 | _ => some (wTo (dgI n k)) }
noncomputable def bdRp (n : Nat) (l : List UInt8) : Bd := { f := Tryz.f37, args := [sb (.o 0) l, .int .i64 n], pre := [(.o 0, bs l)], base := 1, kb := { db := fun k _ _ lo => bif Nat.beq k 81 then [{ val := sb (.o lo) (i4 8 n), post := [(.o lo, bs (i4 8 n))] }] else [] }, names := fun _ => [.o 63], k := kSb 4 63 (l ++ j4 n) }
noncomputable def ce_ (n : Nat) : Bd := { f := Tryz.f37, args := [.snil, .int .i64 n], base := 1, kb := { db := fun k _ _ lo => bif Nat.beq k 81 then [{ val := sb (.o lo) (i4 8 n), post := [(.o lo, bs (i4 8 n))] }] else [] }, names := fun _ => [.o 63], k := kSb 4 63 (j4 n) }
end Go.Proofs.YtnmccoincblecaaGreat
