/-
  Contracts and laws that the claim's theorem leans on, joined out of the texts Tf0 Tg0 (own work of this seat): The laws of messages that come back, and of beginnings: the walk; The shapes of messages and records that are handed in.
-/
import Derived.Test.YthifjamdfpjilaaC11
import Derived.Test.YthifjamdfpjilaaC12
set_option linter.unusedVariables false
set_option linter.unusedSimpArgs false
namespace Go.Proofs.Ythifjamdfpjilaa
open Go Sy Go.Proofs
theorem bdBkL_p11 (m : SMsg) (s : ByteArray) (l : Bool) :
  along Try.prog (bdBkL m s l) [true, true] = (some (.bool true, [], [T Try.prog 19 [.agg (SMsg.c m)] [] (.bool l) [], (!l) = true, q2, T Try.prog 20 [] [] (.bool true) []]) : Option (V × Heap × List Prop)) := by kernel_rfl

theorem bdBkA_p01 (m : SMsg) (s : ByteArray) (t : ByteArray) (x : SMsg) (y : SMsg) (d : Int) :
  along Try.prog (bdBkA m s t x y d) [false, true] = (some (.bool true, [], [T Try.prog 19 [.agg (SMsg.c m)] [] (.bool true) [], q false, decide ((20000 : Int) < (↑(ByteArray.size s) : Int)) = true, T Try.prog 20 [] [] (.bool true) []]) : Option (V × Heap × List Prop)) := by kernel_rfl

theorem bdBkA_p001001000 (m : SMsg) (s : ByteArray) (t : ByteArray) (x : SMsg) (y : SMsg) (d : Int) :
  along Try.prog (bdBkA m s t x y d) [false, false, true, false, false, true, false, false, false] = (some (.bool true, [], [T Try.prog 19 [.agg (SMsg.c m)] [] (.bool true) [], q false, decide ((20000 : Int) < (↑(ByteArray.size s) : Int)) = false, T Try.prog 21 [.agg (SMsg.c m)] [] (.tup [.str t, .int .i64 0]) [], q2, T Try.prog 22 [.str t] [] (.tup [.agg (SMsg.c x), .int .i64 0]) [], q false, T Try.prog 23 [.agg (SMsg.c x), .agg (SMsg.c m)] [] (.bool true) [], q false, T Try.prog 22 [.str s] [] (.tup [.agg (SMsg.c y), .int .i64 d]) [], decide (d = (0 : Int)) = true, T Try.prog 21 [.agg (SMsg.c y)] [] (.tup [.str s, .int .i64 0]) [], q false, (!decide (s = s)) = false, T Try.prog 24 [.agg (SMsg.c y)] [] (.bool true) [], q false, T Try.prog 20 [] [] (.bool true) []]) : Option (V × Heap × List Prop)) := by kernel_rfl

theorem bdBkA_p001000 (m : SMsg) (s : ByteArray) (t : ByteArray) (x : SMsg) (y : SMsg) (d : Int) :
  along Try.prog (bdBkA m s t x y d) [false, false, true, false, false, false] = (some (.bool true, [], [T Try.prog 19 [.agg (SMsg.c m)] [] (.bool true) [], q false, decide ((20000 : Int) < (↑(ByteArray.size s) : Int)) = false, T Try.prog 21 [.agg (SMsg.c m)] [] (.tup [.str t, .int .i64 0]) [], q2, T Try.prog 22 [.str t] [] (.tup [.agg (SMsg.c x), .int .i64 0]) [], q false, T Try.prog 23 [.agg (SMsg.c x), .agg (SMsg.c m)] [] (.bool true) [], q false, T Try.prog 22 [.str s] [] (.tup [.agg (SMsg.c y), .int .i64 d]) [], decide (d = (0 : Int)) = false, T Try.prog 20 [] [] (.bool true) []]) : Option (V × Heap × List Prop)) := by kernel_rfl

theorem bdBkB_p0001000 (m : SMsg) (s : ByteArray) (t : ByteArray) (e : Int) (y : SMsg) (d : Int) :
  along Try.prog (bdBkB m s t e y d) [false, false, false, true, false, false, false] = (some (.bool true, [], [T Try.prog 19 [.agg (SMsg.c m)] [] (.bool true) [], q false, decide ((20000 : Int) < (↑(ByteArray.size s) : Int)) = false, T Try.prog 21 [.agg (SMsg.c m)] [] (.tup [.str t, .int .i64 e]) [], decide (e = (0 : Int)) = false, T Try.prog 22 [.str s] [] (.tup [.agg (SMsg.c y), .int .i64 d]) [], decide (d = (0 : Int)) = true, T Try.prog 21 [.agg (SMsg.c y)] [] (.tup [.str s, .int .i64 0]) [], q false, (!decide (s = s)) = false, T Try.prog 24 [.agg (SMsg.c y)] [] (.bool true) [], q false, T Try.prog 20 [] [] (.bool true) []]) : Option (V × Heap × List Prop)) := by kernel_rfl

theorem bdBkB_p0000 (m : SMsg) (s : ByteArray) (t : ByteArray) (e : Int) (y : SMsg) (d : Int) :
  along Try.prog (bdBkB m s t e y d) [false, false, false, false] = (some (.bool true, [], [T Try.prog 19 [.agg (SMsg.c m)] [] (.bool true) [], q false, decide ((20000 : Int) < (↑(ByteArray.size s) : Int)) = false, T Try.prog 21 [.agg (SMsg.c m)] [] (.tup [.str t, .int .i64 e]) [], decide (e = (0 : Int)) = false, T Try.prog 22 [.str s] [] (.tup [.agg (SMsg.c y), .int .i64 d]) [], decide (d = (0 : Int)) = false, T Try.prog 20 [] [] (.bool true) []]) : Option (V × Heap × List Prop)) := by kernel_rfl

theorem bdBgL_p11 (m : SMsg) (cut : Int) (more : ByteArray) (l : Bool) :
  along Try.prog (bdBgL m cut more l) [true, true] = (some (.bool true, [], [T Try.prog 19 [.agg (SMsg.c m)] [] (.bool l) [], (!l) = true, q2, T Try.prog 20 [] [] (.bool true) []]) : Option (V × Heap × List Prop)) := by kernel_rfl

theorem bdBgL_p01 (m : SMsg) (cut : Int) (more : ByteArray) (l : Bool) :
  along Try.prog (bdBgL m cut more l) [false, true] = (some (.bool true, [], [T Try.prog 19 [.agg (SMsg.c m)] [] (.bool l) [], (!l) = false, decide ((2000 : Int) < (↑(ByteArray.size more) : Int)) = true, T Try.prog 20 [] [] (.bool true) []]) : Option (V × Heap × List Prop)) := by kernel_rfl

theorem bdBgA_p001111 (m : SMsg) (cut : Int) (more : ByteArray) (t : ByteArray) (e : Int) (x : SMsg) (y : SMsg) (f : Int) (g : Int) :
  along Try.prog (bdBgA m cut more t e x y f g) [false, false, true, true, true, true] = (some (.bool true, [], [T Try.prog 19 [.agg (SMsg.c m)] [] (.bool true) [], q false, decide ((2000 : Int) < (↑(ByteArray.size more) : Int)) = false, T Try.prog 21 [.agg (SMsg.c m)] [] (.tup [.str t, .int .i64 e]) [], (!decide (e = (0 : Int))) = true, q2, (!decide (e = (0 : Int))) = true, decide (t = ByteArray.mk (Array.mk [])) = true, T Try.prog 20 [] [] (.bool true) []]) : Option (V × Heap × List Prop)) := by kernel_rfl

theorem bdBgA_p000011 (m : SMsg) (cut : Int) (more : ByteArray) (t : ByteArray) (e : Int) (x : SMsg) (y : SMsg) (f : Int) (g : Int) :
  along Try.prog (bdBgA m cut more t e x y f g) [false, false, false, false, true, true] = (some (.bool true, [], [T Try.prog 19 [.agg (SMsg.c m)] [] (.bool true) [], q false, decide ((2000 : Int) < (↑(ByteArray.size more) : Int)) = false, T Try.prog 21 [.agg (SMsg.c m)] [] (.tup [.str t, .int .i64 e]) [], (!decide (e = (0 : Int))) = false, decide (t = ByteArray.mk (Array.mk [])) = false, (0 : Int) ≤ IntKind.wrap IntKind.u64 cut ∧ (0 : Int) < IntKind.wrap IntKind.u64 (↑(ByteArray.size t) : Int), InR IntKind.i64 (IntKind.wrap IntKind.u64 cut % IntKind.wrap IntKind.u64 (↑(ByteArray.size t) : Int)), (0 : Int) ≤ IntKind.wrap IntKind.u64 cut % IntKind.wrap IntKind.u64 (↑(ByteArray.size t) : Int) ∧ IntKind.wrap IntKind.u64 cut % IntKind.wrap IntKind.u64 (↑(ByteArray.size t) : Int) ≤ (↑(ByteArray.size t) : Int), T Try.prog 22 [.str (ByteArray.extract t (natO none 0) (natO (some (IntKind.wrap .u64 cut % IntKind.wrap .u64 (↑(ByteArray.size t) : Int))) (ByteArray.size t)))] [] (.tup [.agg (SMsg.c x), .int .i64 f]) [], ByteArray.size t + ByteArray.size more ≤ (9223372036854775807 : Nat), T Try.prog 22 [.str (t ++ more)] [] (.tup [.agg (SMsg.c y), .int .i64 g]) [], (!decide (f = (0 : Int))) = true, (decide (g = (0 : Int)) == decide (more = ByteArray.mk (Array.mk []))) = true, T Try.prog 20 [] [] (.bool true) []]) : Option (V × Heap × List Prop)) := by kernel_rfl

theorem fitM_light {m : SMsg} (h : lightMS m = true) : FitM m := by
 simp only [lightMS, Bool.and_eq_true, decide_eq_true_eq] at h
 obtain ⟨h1, h2, h3, h4, h5, h6, h7, h8⟩ := h
 refine ⟨by have := lightB_n h1; omega, by omega, fun k hk => ?_, by omega, by omega, by omega⟩
 have := okHd1 (h7 k hk)
 have hb := lightB_n this.1
 omega
theorem T_livesM : T Try.prog 20 [] [] (.bool true) [] := by
 refine T_livesE ?_
 have hg : goodS livM = true := by kernel_rfl
 have ht : segMsg livM := ⟨fun i hi => absurd hi (Nat.not_lt_zero i), seg32, fun i hi => absurd hi (Nat.not_lt_zero i), fun i hi => absurd hi (Nat.not_lt_zero i), seg32, ⟨seg32, fun i hi => absurd hi (Nat.not_lt_zero i)⟩, fun i hi => absurd hi (Nat.not_lt_zero i)⟩
 have h := T_encG (fitM_good hg) ht
 have e1 : encE livM = 0 := by kernel_rfl
 have e2 : encT livM = livB := by kernel_rfl
 rw [e1, e2] at h; exact h
theorem T_back {m : SMsg} {s : ByteArray} (hf : FitMsg m) (ht : segMsg m) : T Try.prog 7 [.agg m.c, .str s] [] (.bool true) [] := by
 have hL := T_lightM m hf
 have hlv := T_livesM
 by_cases h0 : lightMS m = true
 ·have hM := fitM_light h0
  rw [h0] at hL
  have hE := T_encG hM ht
  have hD := T_dec s
  by_cases h1 : 20000 < s.size
  ·refine T_along NG MO _ (bdBkA_p01 m s s m m 0) Try.func7 (by kernel_rfl) ?_ (pinH_ok (by kernel_rfl)) (by kernel_rfl)
   simp only [All]; and_intros
   all_goals first
    | exact hL
    | exact hlv
    | (rw [decide_eq_true_eq]; omega)
    | trivial
    | rfl
  have h1' : decide ((20000 : Int) < (s.size : Nat)) = false := by rw [decide_eq_false_iff_not]; omega
  by_cases h2 : encE m = 0
  ·obtain ⟨g1, g2, g3⟩ := encE_zero h2
   rw [h2, g3] at hE
   have hD2 := T_dec (baL (encB m))
   rw [strB_baL] at hD2
   obtain ⟨d1, d2⟩ := dec_enc g1 ht g2
   rw [d1] at hD2
   have hx := enc_dec (l := encB m) (x := (decR (encB m)).1) (by rw [← d1])
   have hS := T_rm (decR (encB m)).1 m (fitM_good hx.1)
   rw [d2] at hS
   by_cases h3 : (decR (strB s)).2 = 0
   ·have hy := enc_dec (l := strB s) (x := (decR (strB s)).1) (by rw [← h3])
    have hE2 := T_encG (fitM_good hy.1) hy.2.1
    have hG2 := T_good (fitM_good hy.1)
    rw [hy.1] at hG2
    have e2 : encE (decR (strB s)).1 = 0 := by
     unfold encE; rw [if_pos hy.1, if_neg (by rw [hy.2.2.1]; have := hy.2.2.2; omega)]
    rw [e2, (encE_zero e2).2.2, hy.2.2.1, baL_strB] at hE2
    rw [h3] at hD
    refine T_along NG MO _ (bdBkA_p001001000 m s (baL (encB m)) (decR (encB m)).1 (decR (strB s)).1 0) Try.func7 (by kernel_rfl) ?_ (pinH_ok (by kernel_rfl)) (by kernel_rfl)
    simp only [All]; and_intros
    all_goals first
     | exact hL
     | exact hlv
     | exact hE
     | exact hD2
     | exact hS
     | exact hD
     | exact hE2
     | exact hG2
     | exact h1'
     | trivial
     | rfl
     | (simp; done)
   ·refine T_along NG MO _ (bdBkA_p001000 m s (baL (encB m)) (decR (encB m)).1 (decR (strB s)).1 (decR (strB s)).2) Try.func7 (by kernel_rfl) ?_ (pinH_ok (by kernel_rfl)) (by kernel_rfl)
    simp only [All]; and_intros
    all_goals first
     | exact hL
     | exact hlv
     | exact hE
     | exact hD2
     | exact hS
     | exact hD
     | exact h1'
     | (rw [decide_eq_false_iff_not]; exact h3)
     | trivial
     | rfl
     | (simp; done)
  ·by_cases h3 : (decR (strB s)).2 = 0
   ·have hy := enc_dec (l := strB s) (x := (decR (strB s)).1) (by rw [← h3])
    have hE2 := T_encG (fitM_good hy.1) hy.2.1
    have hG2 := T_good (fitM_good hy.1)
    rw [hy.1] at hG2
    have e2 : encE (decR (strB s)).1 = 0 := by
     unfold encE; rw [if_pos hy.1, if_neg (by rw [hy.2.2.1]; have := hy.2.2.2; omega)]
    rw [e2, (encE_zero e2).2.2, hy.2.2.1, baL_strB] at hE2
    rw [h3] at hD
    refine T_along NG MO _ (bdBkB_p0001000 m s (encT m) (encE m) (decR (strB s)).1 0) Try.func7 (by kernel_rfl) ?_ (pinH_ok (by kernel_rfl)) (by kernel_rfl)
    simp only [All]; and_intros
    all_goals first
     | exact hL
     | exact hlv
     | exact hE
     | exact hD
     | exact hE2
     | exact hG2
     | exact h1'
     | (rw [decide_eq_false_iff_not]; exact h2)
     | trivial
     | rfl
     | (simp; done)
   ·refine T_along NG MO _ (bdBkB_p0000 m s (encT m) (encE m) (decR (strB s)).1 (decR (strB s)).2) Try.func7 (by kernel_rfl) ?_ (pinH_ok (by kernel_rfl)) (by kernel_rfl)
    simp only [All]; and_intros
    all_goals first
     | exact hL
     | exact hlv
     | exact hE
     | exact hD
     | exact h1'
     | (rw [decide_eq_false_iff_not]; exact h2)
     | (rw [decide_eq_false_iff_not]; exact h3)
     | trivial
     | rfl
     | (simp; done)
 ·have h0 : lightMS m = false := Bool.eq_false_iff.mpr h0
  rw [h0] at hL
  refine T_along NG MO _ (bdBkL_p11 m s false) Try.func7 (by kernel_rfl) ?_ (pinH_ok (by kernel_rfl)) (by kernel_rfl)
  simp only [All]; and_intros
  all_goals first
   | exact hL
   | exact hlv
   | trivial
   | rfl
theorem strB_append (a b : ByteArray) : strB (a ++ b) = strB a ++ strB b := by
 simp [strB]
theorem strB_extract (t : ByteArray) (k : Nat) : strB (t.extract 0 k) = (strB t).take k := by
 simp [strB]
theorem baL_ext {a b : ByteArray} (h : strB a = strB b) : a = b := by
 rw [← baL_strB a, h, baL_strB]
theorem strB_nil {a : ByteArray} : a = ByteArray.mk (Array.mk []) ↔ strB a = [] := by
 constructor
 ·rintro rfl; rfl
 ·intro h; exact baL_ext h
theorem T_begins {m : SMsg} {cut : Int} {more : ByteArray} (hf : FitMsg m) (ht : segMsg m) : T Try.prog 8 [.agg m.c, .int .i64 cut, .str more] [] (.bool true) [] := by
 have hL := T_lightM m hf
 have hlv := T_livesM
 by_cases h0 : lightMS m = true
 ·have hM := fitM_light h0
  rw [h0] at hL
  have hE := T_encG hM ht
  by_cases h1 : 2000 < more.size
  ·refine T_along NG MO _ (bdBgL_p01 m cut more true) Try.func8 (by kernel_rfl) ?_ (pinH_ok (by kernel_rfl)) (by kernel_rfl)
   simp only [All]; and_intros
   all_goals first
    | exact hL
    | exact hlv
    | (rw [decide_eq_true_eq]; omega)
    | trivial
    | rfl
  have h1' : decide ((2000 : Int) < (more.size : Nat)) = false := by rw [decide_eq_false_iff_not]; omega
  by_cases h2 : encE m = 0
  ·obtain ⟨g1, g2, g3⟩ := encE_zero h2
   rw [h2, g3] at hE
   have hpos : 0 < (encB m).length := by
    rw [encB, List.length_append]; simp [putZ, putN]; omega
   have hsz : (baL (encB m)).size = (encB m).length := by rw [← strB_len, strB_baL]
   have hmod : 0 ≤ IntKind.wrap IntKind.u64 cut % ((encB m).length : Int) ∧ IntKind.wrap IntKind.u64 cut % ((encB m).length : Int) < ((encB m).length : Int) := ⟨Int.emod_nonneg _ (by omega), Int.emod_lt_of_pos _ (by omega)⟩
   have hw : IntKind.wrap IntKind.u64 ((encB m).length : Int) = ((encB m).length : Int) := by
    show ((encB m).length : Int) % 18446744073709551616 = _
    omega
   have hw0 : 0 ≤ IntKind.wrap IntKind.u64 cut := by
    show 0 ≤ cut % 18446744073709551616
    omega
   have hD1 := T_dec (ByteArray.extract (baL (encB m)) (natO none 0) (natO (some (IntKind.wrap IntKind.u64 cut % IntKind.wrap IntKind.u64 ((baL (encB m)).size : Int))) (baL (encB m)).size))
   have hD2 := T_dec (baL (encB m) ++ more)
   have e1 : strB (ByteArray.extract (baL (encB m)) (natO none 0) (natO (some (IntKind.wrap IntKind.u64 cut % IntKind.wrap IntKind.u64 ((baL (encB m)).size : Int))) (baL (encB m)).size)) = (encB m).take (IntKind.wrap IntKind.u64 cut % ((encB m).length : Int)).toNat := by
    show strB (ByteArray.extract (baL (encB m)) 0 _) = _
    rw [strB_extract, strB_baL, hsz, hw]; rfl
   rw [e1] at hD1
   rw [strB_append, strB_baL] at hD2
   have hb := dec_begin g1 ht (k := (IntKind.wrap IntKind.u64 cut % ((encB m).length : Int)).toNat) (by omega)
   have hm : (decide ((decR (encB m ++ strB more)).2 = 0) == decide (more = ByteArray.mk (Array.mk []))) = true := by
    by_cases hmo : strB more = []
    ·rw [hmo, List.append_nil, (dec_enc g1 ht g2).1, strB_nil.2 hmo]
     simp
    ·have h5 := dec_more g1 ht hmo
     have h6 : ¬ more = ByteArray.mk (Array.mk []) := fun h => hmo (strB_nil.1 h)
     simp only [h5, h6, decide_false]; rfl
   have hne : ¬ baL (encB m) = ByteArray.mk (Array.mk []) := fun h => by
    have := strB_nil.1 h
    rw [strB_baL] at this
    rw [this] at hpos; exact absurd hpos (by simp)
   refine T_along NG MO _ (bdBgA_p000011 m cut more (baL (encB m)) 0 (decR ((encB m).take (IntKind.wrap IntKind.u64 cut % ((encB m).length : Int)).toNat)).1 (decR (encB m ++ strB more)).1 (decR ((encB m).take (IntKind.wrap IntKind.u64 cut % ((encB m).length : Int)).toNat)).2 (decR (encB m ++ strB more)).2) Try.func8 (by kernel_rfl) ?_ (pinH_ok (by kernel_rfl)) (by kernel_rfl)
   simp only [All]; and_intros
   all_goals first
    | exact hL
    | exact hlv
    | exact hE
    | exact hD1
    | exact hD2
    | exact h1'
    | exact hm
    | exact decide_eq_false hne
    | exact neg_f' (decide_eq_false hb)
    | exact hw0
    | (rw [hsz, hw]; first | omega | exact inR1 (by omega) (by omega) | exact inR2 (by omega) (by omega))
    | (rw [hsz]; omega)
    | trivial
    | rfl
    | (simp; done)
  ·have hemp : encT m = ByteArray.mk (Array.mk []) := by rw [encT, if_neg h2]
   refine T_along NG MO _ (bdBgA_p001111 m cut more (encT m) (encE m) m m 0 0) Try.func8 (by kernel_rfl) ?_ (pinH_ok (by kernel_rfl)) (by kernel_rfl)
   simp only [All]; and_intros
   all_goals first
    | exact hL
    | exact hlv
    | exact hE
    | exact h1'
    | exact neg_f' (decide_eq_false h2)
    | exact decide_eq_true hemp
    | trivial
    | rfl
 ·have h0 : lightMS m = false := Bool.eq_false_iff.mpr h0
  rw [h0] at hL
  refine T_along NG MO _ (bdBgL_p11 m cut more false) Try.func8 (by kernel_rfl) ?_ (pinH_ok (by kernel_rfl)) (by kernel_rfl)
  simp only [All]; and_intros
  all_goals first
   | exact hL
   | exact hlv
   | trivial
   | rfl
end Go.Proofs.Ythifjamdfpjilaa
namespace Go.Proofs.Ythifjamdfpjilaa
open Go Sy Go.Proofs
theorem cellsSign : Try.prog.cellsOf 114 = 17 := by kernel_rfl
theorem cellsReq : Try.prog.cellsOf 158 = 19 := by kernel_rfl
theorem cellsHeld : Try.prog.cellsOf 93 = 39 := by kernel_rfl
theorem cellsEnv : Try.prog.cellsOf 97 = 18 := by kernel_rfl
theorem seg_of {n : Nat} {xs : List Int} (h : xs.length = n) (h2 : ∀ x ∈ xs, InR .u8 x) : SegOk n xs := ⟨h, fun x hx => InR8.1 (h2 x hx)⟩
theorem sg_sign {d : Nat} {cs : List V} (h : ShC Try.prog d 114 cs) : ∃ s : SSign, cs = s.c ∧ SegOk 16 s.tag := by
 obtain ⟨d, a, _, rfl, ha, b, _, rfl, hb, rfl⟩ := sh_struct h Try.underlying114
 obtain ⟨n, rfl, _⟩ := sh_int ha Try.underlying3
 obtain ⟨xs, rfl, h1, h2⟩ := sh_arr hb Try.underlying95 Try.underlying5
 exact ⟨⟨n, xs⟩, rfl, seg_of h1 h2⟩
theorem sg_req {d : Nat} {cs : List V} (h : ShC Try.prog d 158 cs) : ∃ s : SReq, cs = s.c ∧ s.data.size ≤ 9223372036854775807 ∧ SegOk 16 s.tag := by
 obtain ⟨d, a, _, rfl, ha, b, _, rfl, hb, c, _, rfl, hc, e, _, rfl, he, rfl⟩ := sh_struct h Try.underlying158
 obtain ⟨n, rfl, _⟩ := sh_int ha Try.underlying3
 obtain ⟨m, rfl, _⟩ := sh_int hb Try.underlying3
 obtain ⟨s, rfl, hs⟩ := sh_str hc Try.underlying9
 obtain ⟨xs, rfl, h1, h2⟩ := sh_arr he Try.underlying95 Try.underlying5
 exact ⟨⟨n, m, s, xs⟩, rfl, hs, seg_of h1 h2⟩
theorem sg_env {d : Nat} {cs : List V} (h : ShC Try.prog d 97 cs) : ∃ s : SEnv, cs = s.c ∧ s.body.size ≤ 9223372036854775807 ∧ SegOk 16 s.tag := by
 obtain ⟨d, a, _, rfl, ha, c, _, rfl, hc, e, _, rfl, he, rfl⟩ := sh_struct h Try.underlying97
 obtain ⟨n, rfl, _⟩ := sh_int ha Try.underlying3
 obtain ⟨s, rfl, hs⟩ := sh_str hc Try.underlying9
 obtain ⟨xs, rfl, h1, h2⟩ := sh_arr he Try.underlying95 Try.underlying5
 exact ⟨⟨n, s, xs⟩, rfl, hs, seg_of h1 h2⟩
theorem sg_dig {d : Nat} {cs : List V} (h : ShC Try.prog d 43 cs) : ∃ xs : List Int, cs = [.seg .u8 32 xs] ∧ SegOk 32 xs := by
 obtain ⟨xs, rfl, h1, h2⟩ := sh_arr h Try.underlying43 Try.underlying5
 exact ⟨xs, rfl, seg_of h1 h2⟩
theorem sg_vote {d : Nat} {cs : List V} (h : ShC Try.prog d 45 cs) : ∃ s : SVote, cs = s.c ∧ SegOk 32 s.digest := by
 obtain ⟨d, a, _, rfl, ha, b, _, rfl, hb, c, _, rfl, hc, e, _, rfl, he, f, _, rfl, hf, rfl⟩ := sh_struct h Try.underlying45
 obtain ⟨n, rfl, _⟩ := sh_int ha Try.underlying3
 obtain ⟨m, rfl, _⟩ := sh_int hb Try.underlying3
 obtain ⟨o, rfl, _⟩ := sh_int hc Try.underlying3
 obtain ⟨p, rfl, _⟩ := sh_int he Try.underlying3
 obtain ⟨xs, rfl, h1⟩ := sg_dig hf
 exact ⟨⟨n, m, o, p, xs⟩, rfl, h1⟩
theorem sg_signs (U : Imm) {d : Nat} {cs : List V} (h : ShC Try.prog d 50 cs) : ∃ n s, CsLe U cs [sg n s] ∧ n ≤ 9223372036854775807 ∧ ∀ i, i < n → SegOk 16 (s i).tag := by
 obtain ⟨d, len, f, rfl, hl, hf⟩ := sh_slice h Try.underlying50
 obtain ⟨s, hs⟩ := choose_fn fun i hi => sg_sign (hf i hi)
 refine ⟨len, s, ?_, hl, fun i hi => (hs i hi).2⟩
 rw [cellsSign]
 exact CsLe.ros fun i hi => by rw [(hs i hi).1]; exact CsLe.refl _ _
theorem sg_batch (U : Imm) {d : Nat} {cs : List V} (h : ShC Try.prog d 41 cs) : ∃ b : SBatch, CsLe U cs b.c ∧ FitB b ∧ segBatch b := by
 obtain ⟨d, a, _, rfl, ha, b, _, rfl, hb, rfl⟩ := sh_struct h Try.underlying41
 obtain ⟨n, rfl⟩ := sh_bool ha Try.underlying4
 obtain ⟨d, len, f, rfl, hl, hf⟩ := sh_slice hb Try.underlying39
 obtain ⟨s, hs⟩ := choose_fn fun i hi => sg_req (hf i hi)
 refine ⟨⟨n, len, s⟩, ?_, ⟨hl, fun k hk => (hs k hk).2.1⟩, fun k hk => (hs k hk).2.2⟩
 rw [cellsReq]
 refine CsLe.app (CsLe.refl U [.bool n]) ?_
 exact CsLe.ros fun i hi => by rw [(hs i hi).1]; exact CsLe.refl _ _
theorem sg_cert (U : Imm) {d : Nat} {cs : List V} (h : ShC Try.prog d 52 cs) : ∃ c : SCert, CsLe U cs c.c ∧ c.n ≤ 9223372036854775807 ∧ segCert c := by
 obtain ⟨d, a, _, rfl, ha, b, _, rfl, hb, rfl⟩ := sh_struct h Try.underlying52
 obtain ⟨v, rfl, hv⟩ := sg_vote ha
 obtain ⟨n, s, hs, hn, ht⟩ := sg_signs U hb
 refine ⟨⟨v, n, s⟩, ?_, hn, ⟨hv, ht⟩⟩
 refine CsLe.app (CsLe.refl U v.c) ?_
 rw [List.append_nil]; exact hs
theorem sg_held (U : Imm) {d : Nat} {cs : List V} (h : ShC Try.prog d 93 cs) : ∃ c : SHeld, CsLe U cs c.c ∧ FitB c.batch ∧ segHeld c := by
 obtain ⟨d, a, _, rfl, ha, b, _, rfl, hb, rfl⟩ := sh_struct h Try.underlying93
 obtain ⟨b, hb1, hb2, hb3⟩ := sg_batch U ha
 obtain ⟨c, hc1, hc2, hc3⟩ := sg_cert U hb
 refine ⟨⟨b, c⟩, ?_, hb2, ⟨hb3, hc3⟩⟩
 refine CsLe.app hb1 ?_
 rw [List.append_nil]; exact hc1
instance : Inhabited SHeld := ⟨{}⟩
theorem sg_helds (U : Imm) {d : Nat} {cs : List V} (h : ShC Try.prog d 46 cs) : ∃ n s, CsLe U cs [Sy.hl n s] ∧ n ≤ 9223372036854775807 ∧ ∀ i, i < n → FitB (s i).batch ∧ segHeld (s i) := by
 obtain ⟨d, len, f, rfl, hl, hf⟩ := sh_slice h Try.underlying46
 obtain ⟨s, hs⟩ := choose_fn fun i hi => sg_held U (hf i hi)
 refine ⟨len, s, ?_, hl, fun i hi => (hs i hi).2⟩
 rw [cellsHeld]
 exact CsLe.ros fun i hi => (hs i hi).1
theorem sg_envs (U : Imm) {d : Nat} {cs : List V} (h : ShC Try.prog d 49 cs) : ∃ n s, CsLe U cs [nw n s] ∧ n ≤ 9223372036854775807 ∧ ∀ i, i < n → (s i).body.size ≤ 9223372036854775807 ∧ SegOk 16 (s i).tag := by
 obtain ⟨d, len, f, rfl, hl, hf⟩ := sh_slice h Try.underlying49
 obtain ⟨s, hs⟩ := choose_fn fun i hi => sg_env (hf i hi)
 refine ⟨len, s, ?_, hl, fun i hi => (hs i hi).2⟩
 rw [cellsEnv]
 exact CsLe.ros fun i hi => by rw [(hs i hi).1]; exact CsLe.refl _ _
theorem sg_msg (U : Imm) {d : Nat} {cs : List V} (h : ShC Try.prog d 54 cs) : ∃ m : SMsg, CsLe U cs m.c ∧ FitMsg m ∧ segMsg m := by
 obtain ⟨d, a1, _, rfl, h1, a2, _, rfl, h2, a3, _, rfl, h3, a4, _, rfl, h4, a5, _, rfl, h5, a6, _, rfl, h6, a7, _, rfl, h7, a8, _, rfl, h8, a9, _, rfl, h9, a10, _, rfl, h10, a11, _, rfl, h11, a12, _, rfl, h12, a13, _, rfl, h13, rfl⟩ := sh_struct h Try.underlying54
 obtain ⟨n1, rfl, _⟩ := sh_int h1 Try.underlying3
 obtain ⟨n2, rfl, _⟩ := sh_int h2 Try.underlying3
 obtain ⟨n3, rfl, _⟩ := sh_int h3 Try.underlying3
 obtain ⟨n4, rfl, _⟩ := sh_int h4 Try.underlying3
 obtain ⟨n5, rfl, _⟩ := sh_int h5 Try.underlying3
 obtain ⟨b, hb1, hb2, hb3⟩ := sg_batch U h6
 obtain ⟨v, rfl, hv⟩ := sg_vote h7
 obtain ⟨d', c1, _, rfl, k1, c2, _, rfl, k2, c3, _, rfl, k3, c4, _, rfl, k4, rfl⟩ := sh_struct h8 Try.underlying48
 obtain ⟨e1, rfl, _⟩ := sh_int k1 Try.underlying3
 obtain ⟨e2, rfl, _⟩ := sh_int k2 Try.underlying3
 obtain ⟨e3, rfl, _⟩ := sh_int k3 Try.underlying3
 obtain ⟨nh, hd, hh1, hh2, hh3⟩ := sg_helds U k4
 obtain ⟨nn, nws, hn1, hn2, hn3⟩ := sg_envs U h9
 obtain ⟨dg, rfl, hdg⟩ := sg_dig h10
 obtain ⟨c, hc1, hc2, hc3⟩ := sg_cert U h11
 obtain ⟨s, rfl, _⟩ := sh_str h12 Try.underlying9
 obtain ⟨n, sgs, hs1, hs2, hs3⟩ := sg_signs U h13
 refine ⟨{ kind := n1, epoch := n2, leader := n3, view := n4, slot := n5, batch := b, vote := v, cepoch := e1, cleader := e2, cview := e3, nheld := nh, held := hd, nnews := nn, news := nws, digest := dg, cert := c, state := s, n := n, sig := sgs }, ?_, ⟨hb2, fun k hk => (hh3 k hk).1, fun k hk => (hn3 k hk).1, hh2, hn2⟩, ⟨hb3, hv, fun k hk => (hh3 k hk).2, fun k hk => (hn3 k hk).2, hdg, hc3, hs3⟩⟩
 show CsLe U _ ([V.int .i64 n1] ++ ([V.int .i64 n2] ++ ([V.int .i64 n3] ++ ([V.int .i64 n4] ++ ([V.int .i64 n5] ++ (b.c ++ (v.c ++ (([V.int .i64 e1] ++ ([V.int .i64 e2] ++ ([V.int .i64 e3] ++ ([Sy.hl nh hd] ++ [])))) ++ ([nw nn nws] ++ ([V.seg .u8 32 dg] ++ (c.c ++ ([V.str s] ++ [Sy.sg n sgs]))))))))))))
 refine CsLe.app (CsLe.refl U [_]) (CsLe.app (CsLe.refl U [_]) (CsLe.app (CsLe.refl U [_]) (CsLe.app (CsLe.refl U [_]) (CsLe.app (CsLe.refl U [_]) (CsLe.app hb1 (CsLe.app (CsLe.refl U v.c) (CsLe.app (CsLe.app (CsLe.refl U [_]) (CsLe.app (CsLe.refl U [_]) (CsLe.app (CsLe.refl U [_]) (CsLe.app hh1 (CsLe.refl U []))))) (CsLe.app hn1 (CsLe.app (CsLe.refl U [_]) (CsLe.app hc1 (CsLe.app (CsLe.refl U [_]) ?_)))))))))))
 rw [List.append_nil]; exact hs1
end Go.Proofs.Ythifjamdfpjilaa
