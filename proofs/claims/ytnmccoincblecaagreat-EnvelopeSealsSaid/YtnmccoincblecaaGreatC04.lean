/-
  Contracts and laws that the claim's theorem leans on, joined out of the texts SyOpen SyRng SyData SyShape SyMore SyLend Lz Rs0 Ta1D Ta1 Ta2D Ta2 Ta3D Ta3 Ta4D Ta4 Ta6D (own work of this seat): A call's arguments, as they are handed in, as abstract values; a law's contract as its row wants it; Ranges over a function: a round of a loop as what a call of its yield does; the statement, out of the iterator's contract; The values that the laws are told, as plain data, and their cells; The shapes of handed values, unfolded; what is known of their cells; Loops that look at each one of many; more glue; Blocks lent to a call that only looks at them; Small contracts; Small contracts; Contracts: numbers as bytes; Contracts: numbers as bytes; Contracts: text, requests, batches as bytes; Contracts: text, requests, batches as bytes; Contracts: batches, the writer's methods; Contracts: batches, the writer's methods; Contracts: the writer's methods, continued; Contracts: the writer's methods, continued; Contracts: what may be told.
-/
import Derived.OpenShut
import Derived.JoinedCond
import Derived.WalkKit
import Derived.ProofKit
import Derived.RangeFuncIn
import Derived.RangeFuncRecord
import Derived.Test.YtnmccoincblecaaGreatProg
import Derived.Test.YtnmccoincblecaaGreatC03
set_option linter.unusedVariables false
set_option linter.unusedSimpArgs false
set_option maxHeartbeats 1000000
namespace Sy
open Go
variable {P : Program}
def Uof (w : World) : Imm := fun b => match w.heap[b]? with
 | some (.cells c _ _) => some c
 | _ => none
theorem bg1 {w : World} {b : Nat} {c : Array Value} (h : Uof w b = some c) : ∃ el fr, w.heap[b]? = some (.cells c el fr) := by
 unfold Uof at h
 split at h
 ·rename_i c' el fr e; cases h; exact ⟨el, fr, e⟩
 ·cases h
theorem aM4 (w : World) : HRel (Uof w) Env.none [] w :=
 ⟨fun n b h => absurd h List.not_mem_nil, fun n b n' b' l l' h => absurd h List.not_mem_nil, List.nodup_nil, fun b c h => bg1 h⟩
def P7 (P : Program) (op : TypeId → Bool) (top : Nat) : Nat → List Field → Bool
 | pos, [] => Nat.beq pos top
 | pos, f :: fs => Nat.beq f.offset pos && (op f.type && P7 P op top (pos + P.cellsOf f.type) fs)
def K2 (P : Program) : Nat → TypeId → Bool
 | 0, _ => false
 | d + 1, t => match P.underlying t with
  | some .bool => true
  | some (.int _) => true
  | some .string => true
  | some (.slice e) => K2 P d e && Nat.blt 0 (P.cellsOf e)
  | some (.struct fs) => P7 P (K2 P d) (P.cellsOf t) 0 fs.toList
  | some (.array n e) => (match P.underlying e with
   | some (.int _) => true
   | _ => false) && (Nat.beq (P.cellsOf e) 1 && Nat.beq (P.cellsOf t) n)
  | _ => false
def aM5 (sh : TypeId → List V → Prop) : List Field → List V → Prop
 | [], vs => vs = []
 | f :: fs, vs => ∃ a b, vs = a ++ b ∧ sh f.type a ∧ aM5 sh fs b
def ShC (P : Program) : Nat → TypeId → List V → Prop
 | 0, _, _ => False
 | d + 1, t, vs => match P.underlying t with
  | some .bool => ∃ b, vs = [.bool b]
  | some (.int k) => ∃ n, vs = [.int k n] ∧ InR k n
  | some .string => ∃ s : ByteArray, vs = [.str s] ∧ s.size ≤ maxLen
  | some (.slice e) => ∃ len f, vs = [.ros (P.cellsOf e) len f false] ∧ len ≤ maxLen ∧ ∀ i, i < len → ShC P d e (f i)
  | some (.struct fs) => aM5 (ShC P d) fs.toList vs
  | some (.array n e) => ∃ k xs, P.underlying e = some (.int k) ∧ vs = [.seg k n xs] ∧ xs.length = n ∧ ∀ x ∈ xs, InR k x
  | _ => False
theorem ai2 {α β : Type} {f : α → Option β} : ∀ {l : List α} {r : List β}, l.mapM f = some r → r.length = l.length ∧ ∀ (i : Nat) (a : α), l[i]? = some a → ∃ y, r[i]? = some y ∧ f a = some y
 | [], r, h => by simp at h; subst h; simp
 | a :: l, r, h => by
  rw [List.mapM_cons] at h
  cases hf : f a with
  | none => simp [hf] at h
  | some y =>
   cases hr : l.mapM f with
   | none => simp [hf, hr] at h
   | some ys =>
    simp only [hf, hr, Option.bind_eq_bind, Option.bind_some, Option.pure_def, Option.some.injEq] at h
    subst h
    obtain ⟨h1, h2⟩ := ai2 hr
    refine ⟨by simp [h1], fun i b hi => ?_⟩
    cases i with
    | zero => simp only [List.getElem?_cons_zero, Option.some.injEq] at hi; subst hi; exact ⟨y, by simp, hf⟩
    | succ i => simp only [List.getElem?_cons_succ] at hi ⊢; exact h2 i b hi
theorem bf2 {k : IntKind} {n : Int} (h : (Lit.int k n).wf = true) : InR k n := by
 simp only [Lit.wf, Bool.and_eq_true, decide_eq_true_eq] at h; exact h
theorem ae3 {w : World} {a : Addr} {v : Value} (h : w.cell? a = some v) : a.spot = none ∧ ∃ c el fr, w.heap[a.block]? = some (.cells c el fr) ∧ c[a.off]? = some v := by
 unfold World.cell? at h
 split at h
 ·rename_i c el fr e
  cases hs : a.spot with
  | none => simp only [hs, Option.isSome_none, Bool.false_eq_true, if_false] at h; exact ⟨rfl, c, el, fr, e, h⟩
  | some s => simp [hs] at h
 ·cases h
theorem aq3 {H : Type} {w : World} {tr : TypeId → List Value → Option (DataW H × List MemPlace)} {sh : TypeId → List V → Prop} {op : TypeId → Bool} {top : Nat}
  (hk : ∀ t cs x, tr t cs = some x → op t = true → ∃ vs, i6 (Uof w) Env.none vs cs ∧ sh t vs) {cs : List Value} (hlen : cs.length = top) :
  ∀ (fs : List Field) (pos : Nat), P7 P op top pos fs = true → (∀ f ∈ fs, ∃ y, tr f.type ((cs.drop f.offset).take (P.cellsOf f.type)) = some y) →
   ∃ vs, i6 (Uof w) Env.none vs (cs.drop pos) ∧ aM5 sh fs vs
 | [], pos, ho, _ => by
  rw [P7] at ho
  have := Nat.eq_of_beq_eq_true ho
  refine ⟨[], ?_, rfl⟩
  rw [i6, List.drop_eq_nil_of_le (by omega)]
 | f :: fs, pos, ho, h => by
  rw [P7, Bool.and_eq_true, Bool.and_eq_true] at ho
  obtain ⟨h1, h2, h3⟩ := ho
  have e1 := Nat.eq_of_beq_eq_true h1
  obtain ⟨y, hf⟩ := h f (List.mem_cons_self ..)
  obtain ⟨a, ha, hsa⟩ := hk _ _ _ hf h2
  obtain ⟨b, hb, hsb⟩ := aq3 hk hlen fs _ h3 fun g hg => h g (List.mem_cons_of_mem _ hg)
  refine ⟨a ++ b, m4.2 ⟨_, _, ?_, ha, hb⟩, a, b, rfl, hsa, hsb⟩
  rw [e1, ← List.drop_drop, List.take_append_drop]
theorem bm4 {w : World} {base : Nat} {a : Addr} {n : Nat} {cs : List Value} (h : w.cells? base a n = some cs) : cs.length = n ∧ ∀ k, k < n → ∃ v, cs[k]? = some v ∧ w.cell? (a.add k) = some v := by
 unfold World.cells? at h
 split at h
 ·obtain ⟨h1, h2⟩ := ai2 h
  refine ⟨by simpa using h1, fun k hk => ?_⟩
  exact h2 k k (by simp [hk])
 ·cases h
def bx2 : Option Value → Int
 | some (.int _ z) => z
 | _ => 0
theorem N6 {H : Type} {enc : TypeId × Value → H} {w : World} {sp : Nat → Bool} : ∀ (fuel : Nat) (t : TypeId) (cs : List Value) (x : DataW H × List MemPlace), DataW.trod enc P w 0 sp true fuel t cs = some x → ∀ d, K2 P d t = true →
  ∃ vs, i6 (Uof w) Env.none vs cs ∧ ShC P fuel t vs
 | 0, t, cs, x, h, _, _ => by simp [DataW.trod] at h
 | fuel + 1, t, cs, x, h, 0, ho => by simp [K2] at ho
 | fuel + 1, t, cs, x, h, d + 1, ho => by
  unfold K2 at ho
  have one : ∀ (v : V) (y : Value), v.cell = true → c9 (Uof w) Env.none v y → i6 (Uof w) Env.none [v] [y] := fun v y hv hy => (v7 hv).2 ⟨y, [], rfl, hy, by rw [i6]⟩
  split at ho
  ·rename_i hu
   obtain ⟨b, rfl, _⟩ := DataW.trod_bool hu h
   exact ⟨[.bool b], one _ _ rfl (by rw [c9]), by rw [ShC, hu]; exact ⟨b, rfl⟩⟩
  ·rename_i k hu
   obtain ⟨n, rfl, _, hw⟩ := DataW.trod_int hu h
   exact ⟨[.int k n], one _ _ rfl (by rw [c9]), by rw [ShC, hu]; exact ⟨n, rfl, bf2 hw⟩⟩
  ·rename_i hu
   obtain ⟨s, rfl, _, hs⟩ := DataW.trod_string hu h
   exact ⟨[.str s], one _ _ rfl (by rw [c9]), by rw [ShC, hu]; exact ⟨s, rfl, hs⟩⟩
  ·rename_i e hu
   rw [Bool.and_eq_true] at ho
   obtain ⟨ho1, ho2⟩ := ho
   have hes : 0 < P.cellsOf e := by rwa [Nat.blt_eq] at ho2
   rcases DataW.trod_slice hu h with ⟨rfl, _⟩ | ⟨a, len, cap, elems, rest, n, hn, rfl, _, _, hlc, hcm, hel, helem, _⟩
   ·refine ⟨[.ros (P.cellsOf e) 0 (fun _ => []) false], one _ _ rfl ?_, ?_⟩
    ·rw [c9]; exact ⟨none, 0, rfl, Nat.le_refl _, fun _ => rfl, fun i hi => by omega⟩
    ·rw [ShC, hu]; exact ⟨0, _, rfl, Nat.zero_le _, fun i hi => by omega⟩
   ·cases hn
    have hat : ∀ i, i < len → ∃ vs l, i6 (Uof w) Env.none vs l ∧ ShC P fuel e vs ∧ l.length = P.cellsOf e ∧ ∀ k, k < P.cellsOf e → ∃ v, l[k]? = some v ∧ w.cell? ((a.add (i * P.cellsOf e)).add k) = some v := by
     intro i hi
     have h1 := helem i hi
     rw [List.getElem?_eq_getElem (by omega)] at h1
     cases hc : w.cells? 0 (a.add (i * P.cellsOf e)) (P.cellsOf e) with
     | none => simp [hc] at h1
     | some l =>
      simp only [hc, Option.bind_some] at h1
      obtain ⟨vs, h2, h3⟩ := N6 fuel e l _ h1 d ho1
      obtain ⟨h4, h5⟩ := bm4 hc
      exact ⟨vs, l, h2, h3, h4, h5⟩
    refine ⟨[.ros (P.cellsOf e) len (fun i => if hi : i < len then Classical.choose (hat i hi) else []) false], one _ _ rfl ?_, ?_⟩
    ·rw [c9]
     refine ⟨some a, cap, rfl, hlc, fun hh => absurd hh (by simp), fun i hi => ?_⟩
     rw [dif_pos hi]
     obtain ⟨l, h1, h2, h3, h4⟩ := Classical.choose_spec (hat i hi)
     obtain ⟨_, l0, _, _, _, h04⟩ := hat 0 (by omega)
     obtain ⟨v0, _, h05⟩ := h04 0 hes
     have hsp : a.spot = none := by
      have : (a.add (0 * P.cellsOf e)).add 0 = a := by simp [Addr.add]
      rw [this] at h05
      exact (ae3 h05).1
     obtain ⟨ab, ao, aS⟩ := a
     simp only at hsp; subst hsp
     obtain ⟨v1, _, h15⟩ := h4 0 hes
     rw [Addr.add_lit, Addr.add_lit] at h15
     obtain ⟨_, c, el, fr, hc, _⟩ := ae3 h15
     refine ⟨ab, ao, c, rfl, by unfold Uof; simp only at hc; rw [hc], l, h1, h3, fun k hk => ?_⟩
     obtain ⟨v, h6, h7⟩ := h4 k (by omega)
     rw [Addr.add_lit, Addr.add_lit] at h7
     obtain ⟨_, c', el', fr', hc', hv⟩ := ae3 h7
     simp only at hc hc'
     rw [hc] at hc'; cases hc'
     rw [h6, ← hv]
    ·rw [ShC, hu]
     refine ⟨len, _, rfl, by omega, fun i hi => ?_⟩
     rw [dif_pos hi]
     obtain ⟨l, _, h2, _⟩ := Classical.choose_spec (hat i hi)
     exact h2
  ·rename_i fs hu
   obtain ⟨xs, n, hn, _, hlen, hxl, hf⟩ := DataW.trod_struct hu h
   cases hn
   obtain ⟨vs, h1, h2⟩ := aq3 (P := P) (tr := DataW.trod enc P w 0 sp true fuel) (sh := ShC P fuel) (op := K2 P d) (fun t cs x hh ho => N6 fuel t cs x hh d ho) hlen fs.toList 0 ho fun f hfm => by
    obtain ⟨i, hi, e⟩ := List.mem_iff_getElem.1 hfm
    have hi' : i < fs.size := by simpa using hi
    have := hf i f (by rw [← Array.getElem?_toList, List.getElem?_eq_getElem hi, e])
    exact ⟨xs[i], by rw [this, List.getElem?_eq_getElem (by omega)]⟩
   rw [List.drop_zero] at h1
   exact ⟨vs, h1, by rw [ShC, hu]; exact h2⟩
  ·rename_i n e hu
   rw [Bool.and_eq_true, Bool.and_eq_true] at ho
   obtain ⟨ho1, ho2, ho3⟩ := ho
   have e2 := Nat.eq_of_beq_eq_true ho2
   have e3 := Nat.eq_of_beq_eq_true ho3
   split at ho1
   ·rename_i k hk
    obtain ⟨xs, m, hm, _, hlen, hxl, hx⟩ := DataW.trod_array hu h
    cases hm
    have hget : ∀ i, i < n → ∃ z, cs[i]? = some (.int k z) ∧ InR k z := by
     intro i hi
     have h1 := hx i hi
     rw [e2, Nat.mul_one, List.getElem?_eq_getElem (by omega)] at h1
     obtain ⟨z, h2, _, h3⟩ := DataW.trod_int hk h1
     refine ⟨z, ?_, bf2 h3⟩
     have := congrArg (fun l => l[0]?) h2
     simpa [List.getElem?_take, List.getElem?_drop] using this
    have hval : ∀ i, i < n → cs[i]? = some (.int k (bx2 cs[i]?)) := by
     intro i hi
     obtain ⟨z, h1, _⟩ := hget i hi
     rw [h1]; rfl
    refine ⟨[.seg k n ((List.range n).map fun i => bx2 cs[i]?)], ?_, ?_⟩
    ·rw [i6]
     refine ⟨cs, [], by simp, .inl ⟨k, n, _, rfl, by simp, ?_⟩, by rw [i6]⟩
     apply List.ext_getElem?
     intro i
     rcases Nat.lt_or_ge i n with hi | hi
     ·rw [hval i hi]; simp [hi]
     ·rw [List.getElem?_eq_none (by omega), List.getElem?_eq_none (by simpa using hi)]
    ·rw [ShC, hu]
     refine ⟨k, _, hk, rfl, by simp, fun z hz => ?_⟩
     obtain ⟨i, hi, rfl⟩ := List.mem_map.1 hz
     obtain ⟨z, h1, h2⟩ := hget i (List.mem_range.1 hi)
     rw [h1]; exact h2
   ·cases ho1
  ·cases ho
theorem ac4 {α β : Type} {g : α → Option β} : ∀ {l : List α} {xs : List β}, xs.length = l.length → (∀ (i : Nat) (a : α), l[i]? = some a → g a = xs[i]?) → l.mapM g = some xs
 | [], xs, hl, _ => by
  cases xs with
  | nil => rfl
  | cons x xs => simp at hl
 | a :: l, xs, hl, h => by
  cases xs with
  | nil => simp at hl
  | cons x xs =>
   have h0 := h 0 a (by simp)
   simp only [List.getElem?_cons_zero] at h0
   have hr := ac4 (g := g) (l := l) (xs := xs) (by simpa using hl) fun i b hb => by
    have := h (i + 1) b (by simpa using hb)
    simpa using this
   rw [List.mapM_cons, h0, hr]; rfl
open ChangeShapes in
theorem ad6 {H : Type} {enc : TypeId × Value → H} {w : World} {sp : Nat → Bool} : ∀ (fuel : Nat) (t : TypeId) (cs : List Value) (x : DataW H × List MemPlace), DataW.trod enc P w 0 (fun _ => true) true fuel t cs = some x → ∀ d, K2 P d t = true →
  (∀ p ∈ x.2, sp p.block = true) → DataW.trod enc P w 0 sp true fuel t cs = some x
 | 0, t, cs, x, h, _, _, _ => by simp [DataW.trod] at h
 | fuel + 1, t, cs, x, h, 0, ho, _ => by simp [K2] at ho
 | fuel + 1, t, cs, x, h, d + 1, ho, hs => by
  unfold K2 at ho
  split at ho
  ·rename_i hu
   obtain ⟨b, rfl, rfl⟩ := DataW.trod_bool hu h
   unfold DataW.trod; rw [hu]
  ·rename_i k hu
   obtain ⟨n, rfl, rfl, hw⟩ := DataW.trod_int hu h
   unfold DataW.trod; rw [hu]; simp [hw]
  ·rename_i hu
   obtain ⟨s, rfl, rfl, hl⟩ := DataW.trod_string hu h
   unfold DataW.trod; rw [hu]; simp [hl]
  ·rename_i e hu
   rw [Bool.and_eq_true] at ho
   obtain ⟨ho1, ho2⟩ := ho
   have hes : 0 < P.cellsOf e := by rwa [Nat.blt_eq] at ho2
   have h0 := h
   rcases DataW.trod_slice hu h0 with ⟨rfl, rfl⟩ | ⟨a, len, cap, elems, rest, n, hn, rfl, hx, _⟩
   ·simp [DataW.trod, hu]
   ·unfold DataW.trod at h ⊢
    rw [hu] at h ⊢
    simp only [if_true] at h ⊢
    split at h
    ·rename_i hc
     rw [if_pos hc]
     obtain ⟨es, h1, h2⟩ := Option.bind_eq_some_iff.1 h
     obtain ⟨rs, h3, h4⟩ := Option.map_eq_some_iff.1 h2
     subst h4
     have hat : ∀ (i : Nat) (y : DataW H × List MemPlace), (∀ p ∈ y.2, sp p.block = true) → (w.cells? 0 (a.add (i * P.cellsOf e)) (P.cellsOf e)).bind (DataW.trod enc P w 0 (fun _ => true) true fuel e) = some y → (w.cells? 0 (a.add (i * P.cellsOf e)) (P.cellsOf e)).bind (DataW.trod enc P w 0 sp true fuel e) = some y := by
      intro i y hy hh
      obtain ⟨l, k1, k2⟩ := Option.bind_eq_some_iff.1 hh
      rw [k1, Option.bind_some]
      exact ad6 fuel e l y k2 d ho1 hy
     have hmem : ∀ y ∈ es ++ rs, ∀ p ∈ y.2, sp p.block = true := fun y hy p hp => hs p (List.mem_append_right _ (List.mem_flatMap.2 ⟨y, hy, hp⟩))
     rw [mapM_carry h1 fun i y _ hy hh => hat i y (hmem y (List.mem_append_left _ hy)) hh, Option.bind_some]
     have hlr := (ai2 h3).1
     have hle := (ai2 h1).1
     simp only [List.length_range] at hlr hle
     have hrest : (if sp a.block = true then (List.range (cap - len)).mapM fun j => (w.cells? 0 (a.add ((len + j) * P.cellsOf e)) (P.cellsOf e)).bind (DataW.trod enc P w 0 sp true fuel e) else some []) = some rs := by
      split
      ·exact mapM_carry h3 fun i y _ hy hh => hat (len + i) y (hmem y (List.mem_append_right _ hy)) hh
      ·rename_i hsp
       have hz : (es.length + rs.length) * P.cellsOf e = 0 := by
        rcases Nat.eq_zero_or_pos ((es.length + rs.length) * P.cellsOf e) with hz | hz
        ·exact hz
        ·exact absurd (hs (.cell a.block (a.off + 0)) (List.mem_append_left _ (MemPlace.mem_row.2 ⟨0, hz, rfl⟩))) hsp
       have : es.length + rs.length = 0 := by
        rcases Nat.mul_eq_zero.1 hz with h | h
        ·exact h
        ·omega
       rw [List.eq_nil_of_length_eq_zero (show rs.length = 0 by omega)]
     rw [hrest, Option.map_some]
    ·simp at h
  ·rename_i fs hu
   obtain ⟨xs, n, hn, rfl, hlen, hxl, hx⟩ := DataW.trod_struct hu h
   cases hn
   have hop : ∀ f ∈ fs.toList, K2 P d f.type = true := by
    have : ∀ (fs : List Field) (pos : Nat), P7 P (K2 P d) (P.cellsOf t) pos fs = true → ∀ f ∈ fs, K2 P d f.type = true := by
     intro fs
     induction fs with
     | nil => intro _ _ f hf; cases hf
     | cons g fs ih =>
      intro pos hh f hf
      rw [P7, Bool.and_eq_true, Bool.and_eq_true] at hh
      rcases List.mem_cons.1 hf with rfl | hf
      ·exact hh.2.1
      ·exact ih _ hh.2.2 f hf
    exact this _ _ ho
   refine trod_struct_mk hu hlen (ac4 (by simpa using hxl) fun i f hf => ?_)
   have hi : i < xs.length := by
    have := (List.getElem?_eq_some_iff.1 hf).1
    rw [hxl]; simpa using this
   have h1 := hx i f (by rw [← Array.getElem?_toList]; exact hf)
   rw [List.getElem?_eq_getElem hi] at h1 ⊢
   exact ad6 fuel f.type _ _ h1 d (hop f (List.mem_of_getElem? hf)) fun p hp => hs p (List.mem_flatMap.2 ⟨xs[i], List.getElem_mem hi, hp⟩)
  ·rename_i n e hu
   rw [Bool.and_eq_true] at ho
   obtain ⟨ho1, _⟩ := ho
   obtain ⟨xs, m, hm, rfl, hlen, hxl, hx⟩ := DataW.trod_array hu h
   cases hm
   split at ho1
   ·rename_i k hk
    have hb : ((List.range n).mapM fun i => DataW.trod enc P w 0 sp true fuel e ((cs.drop (i * P.cellsOf e)).take (P.cellsOf e))) = some xs := by
     refine ac4 (by simpa using hxl) fun i a ha => ?_
     have hi : i < n := by simpa using (List.getElem?_eq_some_iff.1 ha).1
     rw [List.getElem?_range hi] at ha
     cases ha
     have h1 := hx i hi
     rw [List.getElem?_eq_getElem (by omega)] at h1 ⊢
     obtain ⟨z, h2, h3, h4⟩ := DataW.trod_int hk h1
     rw [h2, h3]
     cases fuel with
     | zero => rw [h2] at h1; simp [DataW.trod] at h1
     | succ q => exact trod_int_mk q hk h4
    unfold DataW.trod
    rw [hu]
    split <;> simp_all
   ·cases ho1
  ·cases ho
structure KeptW (W W' : World) : Prop where
 size : W.heap.size ≤ W'.heap.size
 block : ∀ k, k < W.heap.size → W'.heap[k]? = W.heap[k]?
 out : W'.os = W.os ∧ W'.output = W.output
theorem KeptW.frame {W W' : World} (h : KeptW W W') (may : MemPlace → Prop) : W.keptBut W' may := by
 refine ⟨h.out.1, h.out.2, fun i hi => ?_⟩
 rw [h.block i hi]
 cases W.heap[i]? with
 | none => trivial
 | some o => cases o <;> simp
theorem KeptW.same {W W' : World} (h : KeptW W W') {p : MemPlace} (hp : p.block < W.heap.size) : W.sameAt W' p := by
 cases p with
 | cell b off => exact World.cell?_of_block (w := W) (h.block b hp)
 | map b => 
  show W'.heap[b]? = W.heap[b]?
  exact h.block b hp
theorem bb6 {f : FuncId} {vs : List V} {args : Array Value} {W : World} (hT : T P f vs [] (.bool true) []) (hv : i8 (Uof W) Env.none vs args.toList) :
  Calls P f args W fun e W' => e = .returned (.bool true) ∧ KeptW W W' := by
 refine Calls.mono (hT (Uof W) Env.none W args (aM4 W) hv fun n ⟨b, hb⟩ => absurd hb List.not_mem_nil) ?_
 rintro e W' ⟨x, U', ρ', rfl, L⟩
 have := L.val
 rw [c9] at this
 subst this
 exact ⟨rfl, L.ext.size, fun k hk => L.ext.frame k hk fun n l ⟨b, hb⟩ => absurd hb List.not_mem_nil, L.ext.out⟩
section
open ChangeShapes WideShapes ChangeAt RowKit
variable {H : Type} {enc : TypeId × Value → H}
def ac6 (P : Program) : List TypeId → Bool
 | [] => true
 | t :: ts => K2 P 12 t && ac6 P ts
theorem W8 {W W' : World} (hK : KeptW W W') {sp : Nat → Bool} : ∀ {ts : List TypeId} {vs : List Value} {ds : List (DataW H)} {ps : List MemPlace}, ac6 P ts = true → DataW.TrodAll enc P W 0 (fun _ => true) true ts vs ds ps → (∀ p ∈ ps, sp p.block = true) →
  DataW.TrodAll enc P W' 0 sp true ts vs ds ps
 | [], [], [], _, _, h, _ => h
 | t :: ts, v :: vs, d :: ds, ps, ho, h, hs => by
  obtain ⟨p, q, ⟨fuel, h1⟩, h2, rfl⟩ := h
  rw [ac6, Bool.and_eq_true] at ho
  refine ⟨p, q, ⟨fuel, ?_⟩, W8 hK ho.2 h2 fun x hx => hs x (List.mem_append_right _ hx), rfl⟩
  have h3 := ad6 fuel t _ _ h1 12 ho.1 (sp := sp) fun x hx => hs x (List.mem_append_left _ hx)
  exact DataW.trod_carry fuel t _ _ h3 fun x hx => hK.same (DataW.trod_lt fuel t _ _ h1 x hx)
theorem bo1 {f : Func} {s : ChangeSpec} {apart fresh handsOn again : Bool} {W W' : World} {args : Array Value} {ds gs : List (DataW H)} {before : List MemPlace} {tb : TypeId}
  (hW : DataW.Whole enc P f.params.toList s.vars apart W args.toList ds gs before) (hvars : s.vars = []) (hfn : s.fn H (ds ++ gs) = { results := [.lit (.bool true)], args := ds }) (hres : f.resultTypes = #[tb]) (hb : P.underlying tb = some .bool)
  (ho : ac6 P f.params.toList = true) (hK : KeptW W W') : s.post enc P f apart fresh handsOn again W args (.bool true) W' := by
 have hW0 := hW
 obtain ⟨pa, pv, hA, hV, rfl, hz, hn⟩ := hW
 rw [hvars] at hV
 obtain ⟨rfl, rfl⟩ := trodVars_none hV
 have hlt : ∀ p ∈ pa ++ [], p.block < W.heap.size := fun p hp => hW0.lt p hp
 have hold : ∀ p ∈ pa, (fun b => decide (b < W.heap.size)) p.block = true := fun p hp => by simpa using hlt p (by simpa using hp)
 have hR : ∀ (b : Nat) (sp : Nat → Bool) (hd : Bool), DataW.TrodAll enc P W' b sp hd f.resultTypes.toList ((Value.bool true).resultList f.resultTypes.size) [DataW.lit (.bool true)] [] := by
  intro b sp hd
  rw [hres]
  exact trodAll_cons_mk (shut_bool hb true) trodAll_mk0
 refine ⟨ds, [], pa ++ [], [], pa, [], hW0, by rw [hfn]; exact hR _ _ _, by rw [hfn]; exact W8 hK ho hA hold, by rw [hfn, hvars]; exact rfl, World.keptBut_mono (fun p hp => hp.elim) (hK.frame (fun _ => False)), fun _ => ?_⟩
 refine ⟨ok_one hres rfl (okWide_bool_mk hb true), _, _, ([] ++ pa) ++ [], ⟨[] ++ pa, [], by simpa using trodAll_append (W8 hK ho hA fun _ _ => rfl) (hR _ _ _), (show DataW.TrodVars enc P W' (fun _ => true) s.vars [] [] by rw [hvars]; exact rfl), rfl, ?_, ?_⟩, ?_⟩
 ·intro b off hp
  have hp' : MemPlace.cell b off ∈ pa ++ [] := by simpa using hp
  have := hz b off hp'
  rw [← this]
  exact World.frozen?_of_block (w := W) (hK.block b (hlt _ hp'))
 ·intro ha
  have := hn ha
  simpa using this
 ·intro p hp _
  simpa using hp
end
theorem bo2 {P : Program} {f : FuncId} {vs : List V} {args : Array Value} {W : World} {Q : Ending → World → Prop} (hT : T P f vs [] (.bool true) []) (hv : i8 (Uof W) Env.none vs args.toList) (hQ : ∀ W', KeptW W W' → Q (.returned (.bool true)) W') : Calls P f args W Q :=
 Calls.mono (bb6 hT hv) fun e W' h => by obtain ⟨rfl, hK⟩ := h; exact hQ W' hK
end Sy
namespace Sy
open Go
variable {P : Program}
variable {X : List Deferred}
theorem StRel.perm {U ρ} {st : St} {a : Act} {w : World} {h : c5} (s : StRel X U ρ st a w) (hp : st.heap.Perm h) : StRel X U ρ ⟨st.tmps, h, st.next, st.dfs⟩ a w :=
 ⟨s.tmps, s.dfs, s.heap.perm hp, s.fresh⟩
theorem StRel.drop {p : Nat} {U ρ} {st : St} {a : Act} {w : World} {b rest : c5} (s : StRel X U ρ st a w) (hp : st.heap.Perm (b ++ rest)) :
  StRel X U ρ ⟨st.tmps, rest, st.next, st.dfs⟩ a w ∧ Turn p U ρ st.heap w U ρ rest w :=
 ⟨⟨s.tmps, s.dfs, (s.heap.perm hp).right, s.fresh⟩, ⟨Nat.le_refl _, Imm.le_refl _, fun _ _ _ => rfl, fun n l hd e hr => .inr ⟨n, l, (E6 hp n).2 (j7.2 (.inr hd)), e, hr, rfl⟩, fun _ _ e => .inl e, rfl, rfl⟩,
  fun n _ => ⟨rfl, fun hd => (E6 hp n).2 (j7.2 (.inr hd))⟩⟩
inductive RoundEnd : Exit → V → LoopState → Option Code → Prop where
 | on : RoundEnd .normal (.bool true) .ready none
 | ret : RoundEnd .ret (.bool false) .done (some .ret)
 | exit (id : Nat) : RoundEnd (.exit id) (.bool false) .done (some (.exit id))
inductive LoopEnd : Option Code → Exit → Prop where
 | on : LoopEnd none .normal
 | ret : LoopEnd (some .ret) .ret
 | exit (id : Nat) : LoopEnd (some (.exit id)) (.exit id)
end Sy
namespace Sy
open Go
structure SReq where
 client : Int := 0
 num : Int := 0
 data : ByteArray := .empty
 tag : List Int := []
structure SSign where
 node : Int := 0
 tag : List Int := []
structure SVote where
 kind : Int := 0
 epoch : Int := 0
 view : Int := 0
 slot : Int := 0
 digest : List Int := []
structure SBatch where
 noop : Bool := false
 n : Nat := 0
 req : Nat → SReq := fun _ => {}
structure SCert where
 vote : SVote := {}
 n : Nat := 0
 sig : Nat → SSign := fun _ => {}
structure SRec where
 kind : Int := 0
 leader : Int := 0
 view : Int := 0
 slot : Int := 0
 batch : SBatch := {}
 cert : SCert := {}
 state : ByteArray := .empty
 n : Nat := 0
 sig : Nat → SSign := fun _ => {}
structure SHeld where
 batch : SBatch := {}
 cert : SCert := {}
structure SEnv where
 src : Int := 0
 body : ByteArray := .empty
 tag : List Int := []
structure SMsg where
 kind : Int := 0
 epoch : Int := 0
 leader : Int := 0
 view : Int := 0
 slot : Int := 0
 batch : SBatch := {}
 vote : SVote := {}
 cepoch : Int := 0
 cleader : Int := 0
 cview : Int := 0
 nheld : Nat := 0
 held : Nat → SHeld := fun _ => {}
 nnews : Nat := 0
 news : Nat → SEnv := fun _ => {}
 digest : List Int := []
 cert : SCert := {}
 state : ByteArray := .empty
 n : Nat := 0
 sig : Nat → SSign := fun _ => {}
def SReq.c (r : SReq) : List V := [.int .i64 r.client, .int .i64 r.num, .str r.data, .seg .u8 16 r.tag]
def SSign.c (s : SSign) : List V := [.int .i64 s.node, .seg .u8 16 s.tag]
def SVote.c (v : SVote) : List V := [.int .i64 v.kind, .int .i64 v.epoch, .int .i64 v.view, .int .i64 v.slot, .seg .u8 32 v.digest]
def rq (n : Nat) (r : Nat → SReq) : V := .ros 19 n (fun i => (r i).c) false
def sg (n : Nat) (s : Nat → SSign) : V := .ros 17 n (fun i => (s i).c) false
def SBatch.c (b : SBatch) : List V := [.bool b.noop, rq b.n b.req]
def SCert.c (c : SCert) : List V := c.vote.c ++ [sg c.n c.sig]
def SRec.c (r : SRec) : List V := [.int .i64 r.kind, .int .i64 r.leader, .int .i64 r.view, .int .i64 r.slot] ++ (r.batch.c ++ (r.cert.c ++ [.str r.state, sg r.n r.sig]))
def SHeld.c (h : SHeld) : List V := h.batch.c ++ h.cert.c
def SEnv.c (e : SEnv) : List V := [.int .i64 e.src, .str e.body, .seg .u8 16 e.tag]
def hl (n : Nat) (h : Nat → SHeld) : V := .ros 39 n (fun i => (h i).c) false
def nw (n : Nat) (e : Nat → SEnv) : V := .ros 18 n (fun i => (e i).c) false
def SMsg.c (m : SMsg) : List V := [.int .i64 m.kind, .int .i64 m.epoch, .int .i64 m.leader, .int .i64 m.view, .int .i64 m.slot] ++ (m.batch.c ++ (m.vote.c ++ ([.int .i64 m.cepoch, .int .i64 m.cleader, .int .i64 m.cview, hl m.nheld m.held, nw m.nnews m.news, .seg .u8 32 m.digest] ++ (m.cert.c ++ [.str m.state, sg m.n m.sig]))))
theorem InR64 {n : Int} : InR .i64 n ↔ -9223372036854775808 ≤ n ∧ n ≤ 9223372036854775807 := by
 simp [InR, IntKind.min, IntKind.max, IntKind.signed, IntKind.bits]
theorem InR8 {n : Int} : InR .u8 n ↔ 0 ≤ n ∧ n ≤ 255 := by
 simp [InR, IntKind.min, IntKind.max, IntKind.signed, IntKind.bits]
theorem T.conv {P : Program} {f : FuncId} {args args' : List V} {pre pre' : c5} {val val' : V} {post post' : c5} (h : T P f args pre val post) (ea : args = args') (ep : pre = pre') (ev : val = val') (eq : post = post') : T P f args' pre' val' post' := by
 subst ea; subst ep; subst ev; subst eq; exact h
theorem T.val {P : Program} {f : FuncId} {args : List V} {pre : c5} {val val' : V} {post : c5} (h : T P f args pre val post) (ev : val = val') : T P f args pre val' post := by
 subst ev; exact h
theorem T.le {P : Program} {f : FuncId} {args : List V} {pre : c5} {val val' : V} {post : c5} {cs : List Prop} (h : T P f args pre val post) (hl : leV [] val val' = some cs) (hc : All cs) : T P f args pre val' post := by
 intro U ρ w xs hh ha hf
 refine Calls.mono (h U ρ w xs hh ha hf) ?_
 rintro e w' ⟨x, U', ρ', he, L⟩
 exact ⟨x, U', ρ', he, R5 (Imm.le_refl U') (fun n b hb => absurd hb List.not_mem_nil) _ _ _ _ hl hc L.val, L.heap, L.keep, L.only, L.ext⟩
theorem T.bool {P : Program} {f : FuncId} {args : List V} {pre : c5} {b b' : Bool} {post : c5} (h : T P f args pre (.bool b) post) (ev : b = b') : T P f args pre (.bool b') post := by
 subst ev; exact h
def z32 : List Int := [0, 0, 0, 0, 0, 0, 0, 0, 0, 0, 0, 0, 0, 0, 0, 0, 0, 0, 0, 0, 0, 0, 0, 0, 0, 0, 0, 0, 0, 0, 0, 0]
def z16 : List Int := [0, 0, 0, 0, 0, 0, 0, 0, 0, 0, 0, 0, 0, 0, 0, 0]
abbrev q {α : Type} (a : α) : Prop := a = a
abbrev q0 : Prop := (0 : Nat) = 0
abbrev q1 : Prop := (0 : Int) = 0
abbrev q2 : Prop := true = true
end Sy
namespace Sy
open Go
variable {P : Program}
theorem be7 {d : Nat} {t : TypeId} {vs : List V} {fs : Array Field} (h : ShC P d t vs) (hu : P.underlying t = some (.struct fs)) : ∃ d', aM5 (ShC P d') fs.toList vs := by
 cases d with
 | zero => exact h.elim
 | succ d => rw [ShC, hu] at h; exact ⟨d, h⟩
theorem aH0 {d : Nat} {t : TypeId} {vs : List V} {k : IntKind} (h : ShC P d t vs) (hu : P.underlying t = some (.int k)) : ∃ n, vs = [.int k n] ∧ InR k n := by
 cases d with
 | zero => exact h.elim
 | succ d => rw [ShC, hu] at h; exact h
theorem be6 {d : Nat} {t : TypeId} {vs : List V} (h : ShC P d t vs) (hu : P.underlying t = some .string) : ∃ s : ByteArray, vs = [.str s] ∧ s.size ≤ maxLen := by
 cases d with
 | zero => exact h.elim
 | succ d => rw [ShC, hu] at h; exact h
theorem b9_ {d : Nat} {t e : TypeId} {n : Nat} {k : IntKind} {vs : List V} (h : ShC P d t vs) (hu : P.underlying t = some (.array n e)) (he : P.underlying e = some (.int k)) : ∃ xs, vs = [.seg k n xs] ∧ xs.length = n ∧ ∀ x ∈ xs, InR k x := by
 cases d with
 | zero => exact h.elim
 | succ d =>
  rw [ShC, hu] at h
  obtain ⟨k', xs, h1, h2, h3, h4⟩ := h
  rw [he] at h1; cases h1
  exact ⟨xs, h2, h3, h4⟩
def ar6 (U : Imm) (a b : List V) : Prop := ∀ l, i6 U Env.none a l → i6 U Env.none b l
theorem ar6.refl (U : Imm) (a : List V) : ar6 U a a := fun _ h => h
theorem bg3 {U : Imm} {ρ : Env} {es n : Nat} {f g : Nat → List V} {c : Bool} (h : ∀ i, i < n → ar6 U (f i) (g i)) {x : Value} (hx : c9 U ρ (.ros es n f c) x) : c9 U ρ (.ros es n g c) x := by
 rw [c9] at hx ⊢
 obtain ⟨a, cp, h1, h2, h3, h4⟩ := hx
 refine ⟨a, cp, h1, h2, h3, fun i hi => ?_⟩
 obtain ⟨b, base, c0, g1, g2, l, g3, g4⟩ := h4 i hi
 exact ⟨b, base, c0, g1, g2, l, h i hi l g3, g4⟩
theorem ar6.ros {U : Imm} {es n : Nat} {f g : Nat → List V} {c : Bool} (h : ∀ i, i < n → ar6 U (f i) (g i)) : ar6 U [.ros es n f c] [.ros es n g c] := fun l hl => by
 obtain ⟨x, r, rfl, h1, h2⟩ := (v7 rfl).1 hl
 exact (v7 rfl).2 ⟨x, r, rfl, bg3 h h1, h2⟩
def bp0 (P : Program) (t : TypeId) : Bool := match P.underlying t with
 | some .bool => true
 | some (.int _) => true
 | some .string => true
 | some (.slice _) => true
 | _ => false
theorem bA4 {W : World} {base : Nat} {t : TypeId} {v : Value} (h : Value.okWide P W .any base t v) (ho : bp0 P t = true) : v.cells.toList = [v] := by
 unfold bp0 at ho
 cases v <;> first | rfl | skip
 rename_i cs
 exfalso
 split at ho <;> first | (cases ho; done) | skip
 all_goals
  rename_i hu
  simp [Value.okWide, hu, Cell.okWide, Cell.ok] at h
theorem ak1 {W : World} {base : Nat} {ps : Array TypeId} {args : Array Value} (hval : ∀ (j : Nat) t v, ps[j]? = some t → args[j]? = some v → Value.okWide P W .any base t v) {j : Nat} {t : TypeId} {v : Value} (h1 : ps[j]? = some t) (h2 : args[j]? = some v) (ho : bp0 P t = true) : v.cells.toList = [v] :=
 bA4 (hval j t v h1 h2) ho
theorem aN2 {W : World} {base : Nat} {t : TypeId} {fs : Array Field} {v : Value} (h : Value.okWide P W .any base t v) (hu : P.underlying t = some (.struct fs)) : ∃ cs, v = .agg cs := by
 unfold Value.okWide at h
 rw [hu] at h
 obtain ⟨cs, h1, _⟩ := h
 exact ⟨cs, h1⟩
theorem aH6 {W : World} {base : Nat} {ps : Array TypeId} {args : Array Value} (hval : ∀ (j : Nat) t v, ps[j]? = some t → args[j]? = some v → Value.okWide P W .any base t v) {j : Nat} {t : TypeId} {fs : Array Field} {v : Value} (h1 : ps[j]? = some t) (h2 : args[j]? = some v) (hu : P.underlying t = some (.struct fs)) : ∃ cs, v = .agg cs :=
 aN2 (hval j t v h1 h2) hu
theorem aj9 {U : Imm} {u : V} {v : Value} (hu : u.cell = true) (hv : v.cells.toList = [v]) (h : i6 U Env.none [u] v.cells.toList) : c9 U Env.none u v := by
 rw [hv] at h
 obtain ⟨x, l, h1, h2, h3⟩ := (v7 hu).1 h
 cases h1
 exact h2
theorem bg2 {U : Imm} {vs : List V} {cs : Array Value} (h : i6 U Env.none vs (Value.agg cs).cells.toList) : c9 U Env.none (.agg vs) (.agg cs) := by
 rw [c9]; exact ⟨cs, rfl, h⟩
instance : Inhabited SSign := ⟨{}⟩
instance : Inhabited SReq := ⟨{}⟩
instance : Inhabited SRec := ⟨{}⟩
instance : Inhabited SHeld := ⟨{}⟩
instance : Inhabited SEnv := ⟨{}⟩
end Sy
namespace Sy
open Go
end Sy
namespace Sy
end Sy
namespace Sy
end Sy
namespace Sy
open Go
theorem T.args {P : Program} {f : FuncId} {args args' : List V} {pre : c5} {val : V} {post : c5} {cs : List Prop} (h : T P f args pre val post) (hl : O1 [] args' args = some cs) (hc : All cs) : T P f args' pre val post := by
 intro U ρ w xs hh ha hf
 exact h U ρ w xs hh (N2 (Imm.le_refl U) (fun n b hb => absurd hb List.not_mem_nil) _ _ _ _ hl hc ha) hf
end Sy
namespace Sy
open Go
def C9 (v : V) : Prop := ∀ U U' ρ x, c9 U ρ v x → c9 U' ρ v x
def T0 (b : B) : Prop := ∀ U U' ρ sz o, r8 U ρ sz b o → r8 U' ρ sz b o
theorem C9.int (k : IntKind) (n : Int) : C9 (.int k n) := fun _ _ _ _ h => by rw [c9] at h ⊢; exact h
theorem C9.bool (b : Bool) : C9 (.bool b) := fun _ _ _ _ h => by rw [c9] at h ⊢; exact h
theorem C9.snil : C9 .snil := fun _ _ _ _ h => by rw [c9] at h ⊢; exact h
theorem C9.sl (n : Nm) (es i o j len : Nat) (cap : Option Nat) : C9 (.sl n es i o j len cap) := fun _ _ _ _ h => by rw [c9] at h ⊢; exact h
theorem C9.ptr (n : Nm) (es i o j : Nat) : C9 (.ptr n es i o j) := fun _ _ _ _ h => by rw [c9] at h ⊢; exact h
theorem T.lendG {P : Program} {f : FuncId} {args args' : List V} {pre post : c5} {val : V} {cs : List Prop} (h : T P f args [] val post) (hl : O1 pre args' args = some cs) (hc : All cs)
  (hv : C9 val) (hp : ∀ q ∈ post, T0 q.2) (hd : ∀ n, c5.dom post n → ¬ c5.dom pre n) : T P f args' pre val (post ++ pre) := by
 intro U ρ w xs hh ha hf
 have hfU : ∀ n b l, (n, b) ∈ pre → ρ n = some l → l.real = true → U l.blk = none := fun n b l hm e hr => by
  obtain ⟨_, _, _, h⟩ := hh.real hm e hr; exact h
 have hU : U.le (freeze U ρ pre w) := fun k c e => by
  unfold freeze
  split
  ·rename_i hx
   obtain ⟨n, b, l, h1, h2, h3, rfl⟩ := hx
   rw [hfU n b l h1 h2 h3] at e; cases e
  ·exact e
 have hF : H7 U (freeze U ρ pre w) ρ pre := fun n b hm l e hr => by
  have hex : ∃ n b l', (n, b) ∈ pre ∧ ρ n = some l' ∧ l'.real = true ∧ l'.blk = l.blk := ⟨n, b, l, hm, e, hr, rfl⟩
  obtain ⟨o, h1, h2, h3⟩ := hh.real hm e hr
  constructor
  ·rintro cs rfl
   obtain ⟨c, el, lo, hi, rfl, _, _, h4⟩ := h2
   exact ⟨c, by unfold freeze; rw [if_pos hex, h1], h4⟩
  ·rintro es m f g rfl
   obtain ⟨c, el, lo, hi, rfl, _, _, _, _, h4⟩ := h2
   exact ⟨c, by unfold freeze; rw [if_pos hex, h1], h4⟩
 have h0 : HRel (freeze U ρ pre w) ρ [] w := by
  refine ⟨fun n b hm => absurd hm List.not_mem_nil, fun n b n' b' l l' hm => absurd hm List.not_mem_nil, List.nodup_nil, fun k c hk => ?_⟩
  unfold freeze at hk
  split at hk
  ·split at hk
   ·rename_i c' el fr hx
    simp only [Option.some.injEq] at hk; subst hk
    exact ⟨el, fr, hx⟩
   ·cases hk
  ·exact hh.imm k c hk
 have hnone : ∀ n, c5.dom post n → ρ n = none := fun n hn => (hf n (j7.2 (.inl hn))).resolve_left (hd n hn)
 refine Calls.mono (h _ ρ w xs h0 (N2 hU hF _ _ _ _ hl hc ha) fun n hn => .inr (hnone n hn)) ?_
 rintro e w' ⟨x, U', ρ', he, L⟩
 have hk : ∀ k, k < w.heap.size → w'.heap[k]? = w.heap[k]? := fun k hk => L.ext.frame k hk fun n l ⟨b, hb⟩ => absurd hb List.not_mem_nil
 have hUU : U.le U' := Imm.le_trans hU L.ext.imm
 have hpp : ∀ n, post.dom n → Env.both post ρ' ρ n = ρ' n := fun n h => by simp [Env.both, h]
 have hqq : ∀ n, ¬ post.dom n → Env.both post ρ' ρ n = ρ n := fun n h => by simp [Env.both, h]
 have hle' : ρ'.le (Env.both post ρ' ρ) := fun n l e => by
  by_cases h : post.dom n
  ·rw [hpp n h]; exact e
  ·rw [hqq n h]; exact (L.only n l e).resolve_left h
 have hle : ρ.le (Env.both post ρ' ρ) := fun n l e => by
  by_cases h : post.dom n
  ·rw [hnone n h] at e; cases e
  ·rw [hqq n h]; exact e
 have hnp : ∀ n, c5.dom pre n → ¬ c5.dom post n := fun n h h' => hd n h' h
 have hnew : ∀ n b l, (n, b) ∈ post → ρ' n = some l → l.real = true → w.heap.size ≤ l.blk := fun n b l hm e hr => by
  rcases L.ext.new n l ⟨b, hm⟩ e hr with h | ⟨n0, _, ⟨b0, hb0⟩, _⟩
  ·exact h
  ·exact absurd hb0 List.not_mem_nil
 have hold : ∀ n b l, (n, b) ∈ pre → ρ n = some l → l.real = true → l.blk < w.heap.size := fun n b l hm e hr => by
  obtain ⟨o, h1, _⟩ := hh.real hm e hr; exact A2 h1
 refine ⟨x, U, Env.both post ρ' ρ, he, ⟨c9.mono (Imm.le_refl _) hle' (hv _ _ _ _ L.val), ⟨fun n b hm => ?_, fun n b n' b' l l' m m' e1 e2 r1 r2 e3 => ?_, ?_, fun k c e => ?_⟩, fun n l hn e => ?_, fun n l e => ?_,
  ⟨L.ext.size, Imm.le_refl _, fun k hk' _ => hk k hk', fun n l hn e hr => ?_, fun b c e => .inl e, L.ext.out⟩⟩⟩
 ·rcases List.mem_append.1 hm with hm | hm
  ·obtain ⟨l, g1, g2⟩ := L.heap.blk n b hm
   refine ⟨l, by rw [hpp n ⟨b, hm⟩]; exact g1, ?_⟩
   rcases g2 with ⟨hr, o, g3, g4, g5⟩ | g2
   ·refine .inl ⟨hr, o, g3, r8.mono (Imm.le_refl _) hle' (hp _ hm _ U _ _ _ g4), ?_⟩
    cases hUl : U l.blk with
    | none => rfl
    | some c => rw [hUU _ _ hUl] at g5; cases g5
   ·exact .inr g2
  ·obtain ⟨l, g1, g2⟩ := hh.blk n b hm
   refine ⟨l, by rw [hqq n (hnp n ⟨b, hm⟩)]; exact g1, ?_⟩
   rcases g2 with ⟨hr, o, g3, g4, g5⟩ | g2
   ·exact .inl ⟨hr, o, by rw [hk _ (A2 g3)]; exact g3, r8.mono (Imm.le_refl _) hle g4, g5⟩
   ·exact .inr g2
 ·rcases List.mem_append.1 m with m | m <;> rcases List.mem_append.1 m' with m' | m'
  ·rw [hpp n ⟨b, m⟩] at e1; rw [hpp n' ⟨b', m'⟩] at e2
   exact L.heap.inj n b n' b' l l' m m' e1 e2 r1 r2 e3
  ·rw [hpp n ⟨b, m⟩] at e1; rw [hqq n' (hnp n' ⟨b', m'⟩)] at e2
   have h1 := hnew n b l m e1 r1; have h2 := hold n' b' l' m' e2 r2; omega
  ·rw [hqq n (hnp n ⟨b, m⟩)] at e1; rw [hpp n' ⟨b', m'⟩] at e2
   have h1 := hnew n' b' l' m' e2 r2; have h2 := hold n b l m e1 r1; omega
  ·rw [hqq n (hnp n ⟨b, m⟩)] at e1; rw [hqq n' (hnp n' ⟨b', m'⟩)] at e2
   exact hh.inj n b n' b' l l' m m' e1 e2 r1 r2 e3
 ·rw [List.map_append, List.nodup_append]
  refine ⟨L.heap.nd, hh.nd, fun n hn n' hn' e => ?_⟩
  subst e
  obtain ⟨⟨_, b⟩, hb, rfl⟩ := List.mem_map.1 hn
  obtain ⟨⟨m, b'⟩, hb', e⟩ := List.mem_map.1 hn'
  cases e
  exact hd _ ⟨b, hb⟩ ⟨b', hb'⟩
 ·obtain ⟨el, fr, g⟩ := hh.imm k c e
  exact ⟨el, fr, by rw [hk _ (A2 g)]; exact g⟩
 ·exact hle n l e
 ·by_cases h : post.dom n
  ·exact .inl (j7.2 (.inl h))
  ·rw [hqq n h] at e; exact .inr e
 ·rcases j7.1 hn with ⟨b, hb⟩ | ⟨b, hb⟩
  ·rw [hpp n ⟨b, hb⟩] at e
   exact .inl (hnew n b l hb e hr)
  ·rw [hqq n (hnp n ⟨b, hb⟩)] at e
   exact .inr ⟨n, l, ⟨b, hb⟩, e, hr, rfl⟩
def at8 (dr : c5) : c5 → c5 → Option (List Prop)
 | [], h => match h with
  | [] => some []
  | _ => none
 | p :: r, h => match h with
  | [] => none
  | q :: s => bif p.1.beq q.1 then match leB dr p.2 q.2 with
   | some c1 => match at8 dr r s with
    | some c2 => some (c1 ++ c2)
    | none => none
   | none => none
   else none
theorem aL6 {dr : c5} : ∀ {h h' : c5} {cs : List Prop}, at8 dr h h' = some cs → All cs → (h.map Prod.fst = h'.map Prod.fst) ∧ ∀ n b', (n, b') ∈ h' → ∃ b c, (n, b) ∈ h ∧ leB dr b b' = some c ∧ All c
 | [], h', cs, h, hc => by
  unfold at8 at h
  cases h' with
  | nil => exact ⟨rfl, fun n b' hm => absurd hm List.not_mem_nil⟩
  | cons q s => cases h
 | p :: r, h', cs, h, hc => by
  unfold at8 at h
  cases h' with
  | nil => cases h
  | cons q s =>
   simp only at h
   cases hn : p.1.beq q.1 <;> simp only [hn, cond_true, cond_false, reduceCtorEq] at h
   have e := Nm.beq_iff.1 hn
   cases h1 : leB dr p.2 q.2 with
   | none => simp [h1] at h
   | some c1 =>
    simp only [h1] at h
    cases h2 : at8 dr r s with
    | none => simp [h2] at h
    | some c2 =>
     simp only [h2, Option.some.injEq] at h
     subst h
     obtain ⟨k1, k2⟩ := f6.1 hc
     obtain ⟨g1, g2⟩ := aL6 h2 k2
     refine ⟨by rw [List.map_cons, List.map_cons, e, g1], fun n b' hm => ?_⟩
     rcases List.mem_cons.1 hm with hm | hm
     ·refine ⟨p.2, c1, ?_, by rw [← h1, ← hm], k1⟩
      have : n = p.1 := by rw [e, ← hm]
      rw [this]; exact List.mem_cons_self ..
     ·obtain ⟨b, c, m1, m2, m3⟩ := g2 n b' hm
      exact ⟨b, c, List.mem_cons_of_mem _ m1, m2, m3⟩
theorem N1 {h : c5} {n : Nm} : h.dom n ↔ n ∈ h.map Prod.fst := by
 constructor
 ·rintro ⟨b, hb⟩; exact List.mem_map.2 ⟨_, hb, rfl⟩
 ·intro hm
  obtain ⟨⟨_, b⟩, hb, rfl⟩ := List.mem_map.1 hm
  exact ⟨b, hb⟩
theorem T.lendH {P : Program} {f : FuncId} {args args' : List V} {pre0 pre0' pre1 post : c5} {val : V} {cs cs2 : List Prop} (h : T P f args pre0 val post) (hl : O1 pre1 args' args = some cs) (hc : All cs)
  (hb : at8 pre1 pre0' pre0 = some cs2) (hc2 : All cs2) (hv : C9 val) (hp : ∀ q ∈ post, T0 q.2) (hd : ∀ n, c5.dom post n → ¬ c5.dom pre1 n) : T P f args' (pre0' ++ pre1) val (post ++ pre1) := by
 intro U ρ w xs hh ha hf
 obtain ⟨en, eb⟩ := aL6 hb hc2
 have hdm : ∀ n, c5.dom pre0 n ↔ c5.dom pre0' n := fun n => by rw [N1, N1, en]
 have hhl := hh.left
 have hhr := hh.right
 have hdis : ∀ n, c5.dom pre0' n → ¬ c5.dom pre1 n := fun n h1 h2 => by
  have := hh.nd
  rw [List.map_append, List.nodup_append] at this
  exact this.2.2 n (N1.1 h1) n (N1.1 h2) rfl
 have hfU : ∀ n b l, (n, b) ∈ pre1 → ρ n = some l → l.real = true → U l.blk = none := fun n b l hm e hr => by
  obtain ⟨_, _, _, h⟩ := hhr.real hm e hr; exact h
 have hU : U.le (freeze U ρ pre1 w) := fun k c e => by
  unfold freeze
  split
  ·rename_i hx
   obtain ⟨n, b, l, h1, h2, h3, rfl⟩ := hx
   rw [hfU n b l h1 h2 h3] at e; cases e
  ·exact e
 have hF : H7 U (freeze U ρ pre1 w) ρ pre1 := fun n b hm l e hr => by
  have hex : ∃ n b l', (n, b) ∈ pre1 ∧ ρ n = some l' ∧ l'.real = true ∧ l'.blk = l.blk := ⟨n, b, l, hm, e, hr, rfl⟩
  obtain ⟨o, h1, h2, h3⟩ := hhr.real hm e hr
  constructor
  ·rintro cs rfl
   obtain ⟨c, el, lo, hi, rfl, _, _, h4⟩ := h2
   exact ⟨c, by unfold freeze; rw [if_pos hex, h1], h4⟩
  ·rintro es m f g rfl
   obtain ⟨c, el, lo, hi, rfl, _, _, _, _, h4⟩ := h2
   exact ⟨c, by unfold freeze; rw [if_pos hex, h1], h4⟩
 have h0 : HRel (freeze U ρ pre1 w) ρ pre0 w := by
  refine ⟨fun n b' hm => ?_, fun n b n' b' l l' m m' => ?_, by rw [← en]; exact hhl.nd, fun k c hk => ?_⟩
  ·obtain ⟨b, c, m1, m2, m3⟩ := eb n b' hm
   obtain ⟨l, g1, g2⟩ := hhl.blk n b m1
   refine ⟨l, g1, ?_⟩
   rcases g2 with ⟨hr, o, g3, g4, g5⟩ | ⟨hr, es, f0, rfl⟩
   ·refine .inl ⟨hr, o, g3, bb7 hU hF m2 m3 g4, ?_⟩
    unfold freeze
    rw [if_neg]
    ·exact g5
    ·rintro ⟨n1, b1, l1, k1, k2, k3, k4⟩
     have := hh.inj n b n1 b1 l l1 (List.mem_append_left _ m1) (List.mem_append_right _ k1) g1 k2 hr k3 k4.symm
     subst this
     exact hdis n ⟨b, m1⟩ ⟨b1, k1⟩
   ·refine .inr ⟨hr, ?_⟩
    cases b' <;> simp only [leB, reduceCtorEq] at m2
    rename_i es' n' f' g'
    cases hes : Nat.beq es es' <;> simp only [hes, cond_true, cond_false, reduceCtorEq, Option.some.injEq] at m2
    subst m2
    obtain ⟨q1, _, q3, _⟩ := m3
    subst q1
    cases g' with
    | true => exact ⟨es', f', rfl⟩
    | false => exact absurd (q3 rfl) (by decide)
  ·obtain ⟨b0, c0, m0, _⟩ := eb n b m
   obtain ⟨b1, c1, m1, _⟩ := eb n' b' m'
   exact hhl.inj n b0 n' b1 l l' m0 m1
  ·unfold freeze at hk
   split at hk
   ·split at hk
    ·rename_i c' el fr hx
     simp only [Option.some.injEq] at hk; subst hk
     exact ⟨el, fr, hx⟩
    ·cases hk
   ·exact hh.imm k c hk
 have hnone : ∀ n, c5.dom post n → c5.dom pre0 n ∨ ρ n = none := fun n hn => by
  rcases hf n (j7.2 (.inl hn)) with h1 | h1
  ·rcases j7.1 h1 with h1 | h1
   ·exact .inl ((hdm n).2 h1)
   ·exact absurd h1 (hd n hn)
  ·exact .inr h1
 refine Calls.mono (h _ ρ w xs h0 (N2 hU hF _ _ _ _ hl hc ha) hnone) ?_
 rintro e w' ⟨x, U', ρ', he, L⟩
 have hold : ∀ n b l, (n, b) ∈ pre1 → ρ n = some l → l.real = true → l.blk < w.heap.size := fun n b l hm e hr => by
  obtain ⟨o, h1, _⟩ := hhr.real hm e hr; exact A2 h1
 have hk1 : ∀ n b l, (n, b) ∈ pre1 → ρ n = some l → l.real = true → w'.heap[l.blk]? = w.heap[l.blk]? := fun n b l hm e hr => by
  refine L.ext.frame _ (hold n b l hm e hr) fun n0 l0 hd0 e0 hr0 he0 => ?_
  obtain ⟨b0, hb0⟩ := (hdm n0).1 hd0
  have := hh.inj n0 b0 n b l0 l (List.mem_append_left _ hb0) (List.mem_append_right _ hm) e0 e hr0 hr he0
  subst this
  exact hdis n0 ⟨b0, hb0⟩ ⟨b, hm⟩
 have hUU : U.le U' := Imm.le_trans hU L.ext.imm
 have hpp : ∀ n, post.dom n → Env.both post ρ' ρ n = ρ' n := fun n h => by simp [Env.both, h]
 have hqq : ∀ n, ¬ post.dom n → Env.both post ρ' ρ n = ρ n := fun n h => by simp [Env.both, h]
 have hle' : ρ'.le (Env.both post ρ' ρ) := fun n l e => by
  by_cases h : post.dom n
  ·rw [hpp n h]; exact e
  ·rw [hqq n h]; exact (L.only n l e).resolve_left h
 have hle : ρ.le (Env.both post ρ' ρ) := fun n l e => by
  by_cases h : post.dom n
  ·rw [hpp n h]; exact L.keep n l h e
  ·rw [hqq n h]; exact e
 have hnp : ∀ n, c5.dom pre1 n → ¬ c5.dom post n := fun n h h' => hd n h' h
 have cross : ∀ n b n' b' l l', (n, b) ∈ post → (n', b') ∈ pre1 → ρ' n = some l → ρ n' = some l' → l.real = true → l'.real = true → l.blk = l'.blk → False := fun n b n' b' l l' m m' e1 e2 r1 r2 e3 => by
  rcases L.ext.new n l ⟨b, m⟩ e1 r1 with h | ⟨n0, l0, hd0, e0, hr0, he0⟩
  ·have := hold n' b' l' m' e2 r2; omega
  ·obtain ⟨b0, hb0⟩ := (hdm n0).1 hd0
   have := hh.inj n0 b0 n' b' l0 l' (List.mem_append_left _ hb0) (List.mem_append_right _ m') e0 e2 hr0 r2 (he0.trans e3)
   subst this
   exact hdis n0 ⟨b0, hb0⟩ ⟨b', m'⟩
 refine ⟨x, U, Env.both post ρ' ρ, he, ⟨c9.mono (Imm.le_refl _) hle' (hv _ _ _ _ L.val), ⟨fun n b hm => ?_, fun n b n' b' l l' m m' e1 e2 r1 r2 e3 => ?_, ?_, fun k c e => ?_⟩, fun n l hn e => ?_, fun n l e => ?_,
  ⟨L.ext.size, Imm.le_refl _, fun k hk' hk2 => L.ext.frame k hk' fun n l hd0 e hr => hk2 n l (j7.2 (.inl ((hdm n).1 hd0))) e hr, fun n l hn e hr => ?_, fun b c e => .inl e, L.ext.out⟩⟩⟩
 ·rcases List.mem_append.1 hm with hm | hm
  ·obtain ⟨l, g1, g2⟩ := L.heap.blk n b hm
   refine ⟨l, by rw [hpp n ⟨b, hm⟩]; exact g1, ?_⟩
   rcases g2 with ⟨hr, o, g3, g4, g5⟩ | g2
   ·refine .inl ⟨hr, o, g3, r8.mono (Imm.le_refl _) hle' (hp _ hm _ U _ _ _ g4), ?_⟩
    cases hUl : U l.blk with
    | none => rfl
    | some c => rw [hUU _ _ hUl] at g5; cases g5
   ·exact .inr g2
  ·obtain ⟨l, g1, g2⟩ := hhr.blk n b hm
   refine ⟨l, by rw [hqq n (hnp n ⟨b, hm⟩)]; exact g1, ?_⟩
   rcases g2 with ⟨hr, o, g3, g4, g5⟩ | g2
   ·exact .inl ⟨hr, o, by rw [hk1 n b l hm g1 hr]; exact g3, r8.mono (Imm.le_refl _) hle g4, g5⟩
   ·exact .inr g2
 ·rcases List.mem_append.1 m with m | m <;> rcases List.mem_append.1 m' with m' | m'
  ·rw [hpp n ⟨b, m⟩] at e1; rw [hpp n' ⟨b', m'⟩] at e2
   exact L.heap.inj n b n' b' l l' m m' e1 e2 r1 r2 e3
  ·rw [hpp n ⟨b, m⟩] at e1; rw [hqq n' (hnp n' ⟨b', m'⟩)] at e2
   exact (cross n b n' b' l l' m m' e1 e2 r1 r2 e3).elim
  ·rw [hqq n (hnp n ⟨b, m⟩)] at e1; rw [hpp n' ⟨b', m'⟩] at e2
   exact (cross n' b' n b l' l m' m e2 e1 r2 r1 e3.symm).elim
  ·rw [hqq n (hnp n ⟨b, m⟩)] at e1; rw [hqq n' (hnp n' ⟨b', m'⟩)] at e2
   exact hhr.inj n b n' b' l l' m m' e1 e2 r1 r2 e3
 ·rw [List.map_append, List.nodup_append]
  refine ⟨L.heap.nd, hhr.nd, fun n hn n' hn' e => ?_⟩
  subst e
  exact hd _ (N1.2 hn) (N1.2 hn')
 ·obtain ⟨el, fr, g⟩ := L.heap.imm k c (hUU k c e)
  exact ⟨el, fr, g⟩
 ·exact hle n l e
 ·by_cases h : post.dom n
  ·exact .inl (j7.2 (.inl h))
  ·rw [hqq n h] at e; exact .inr e
 ·rcases j7.1 hn with ⟨b, hb⟩ | ⟨b, hb⟩
  ·rw [hpp n ⟨b, hb⟩] at e
   rcases L.ext.new n l ⟨b, hb⟩ e hr with h | ⟨n0, l0, hd0, h2⟩
   ·exact .inl h
   ·exact .inr ⟨n0, l0, j7.2 (.inl ((hdm n0).1 hd0)), h2⟩
  ·rw [hqq n (hnp n ⟨b, hb⟩)] at e
   exact .inr ⟨n, l, j7.2 (.inr ⟨b, hb⟩), e, hr, rfl⟩
theorem T0.cells {cs : List V} (h : ∀ U U' ρ x, i6 U ρ cs x → i6 U' ρ cs x) : T0 (.flat cs) := fun U U' ρ sz o hb => by
 obtain ⟨c, el, lo, hi, h1, h2, h3, h4⟩ := hb
 exact ⟨c, el, lo, hi, h1, h2, h3, h _ _ _ _ h4⟩
theorem C9.tup0 : C9 (.tup []) := fun U U' ρ x h => by
 rw [c9] at h ⊢
 obtain ⟨l, rfl, h⟩ := h
 exact ⟨l, rfl, by rw [i8] at h ⊢; exact h⟩
def V.fre : V → Bool
 | .seg .. | .int .. | .bool _ | .sl .. | .ptr .. | .str _ | .mp _ | .mpnil | .snil | .pnil => true
 | _ => false
def ap5 : List V → Bool
 | [] => true
 | v :: r => v.fre && ap5 r
theorem al4 : ∀ {cs : List V}, ap5 cs = true → ∀ U U' ρ x, i6 U ρ cs x → i6 U' ρ cs x
 | [], _, U, U', ρ, x, h => by rw [i6] at h ⊢; exact h
 | v :: r, hf, U, U', ρ, x, h => by
  rw [ap5, Bool.and_eq_true] at hf
  rw [i6] at h ⊢
  obtain ⟨l1, l2, rfl, h1, h2⟩ := h
  refine ⟨l1, l2, rfl, ?_, al4 hf.2 _ _ _ _ h2⟩
  rcases h1 with h1 | ⟨hc, y, rfl, hy⟩
  ·exact .inl h1
  ·refine .inr ⟨hc, y, rfl, ?_⟩
   cases v <;> first
    | (rw [c9] at hy ⊢; exact hy)
    | exact absurd hf.1 (by simp [V.fre])
theorem T0.flat {cs : List V} (h : ap5 cs = true) : T0 (.flat cs) := T0.cells (al4 h)
theorem C9.agg {cs : List V} (h : ap5 cs = true) : C9 (.agg cs) := fun U U' ρ x hx => by
 rw [c9] at hx ⊢
 obtain ⟨l, rfl, h1⟩ := hx
 exact ⟨l, rfl, al4 h _ _ _ _ h1⟩
end Sy
namespace Go.Proofs.YtnmccoincblecaaGreat
open Go Sy Go.Proofs
noncomputable abbrev zp : Program := Tryz.prog
theorem MO : Tryz.prog.follows .mixedOrders = true := by kernel_rfl
def ngB (P : Program) : Bool := P.funcs.toList.all fun fn => !fn.body.isSome || !(fn.name == "runtime.NumGoroutine")
theorem ca0 {P : Program} (h : ngB P = true) : L8 P := by
 intro f fn hf hb
 have := List.all_eq_true.1 h fn (by
  rw [← Array.getElem?_toList] at hf
  exact List.mem_of_getElem? hf)
 rw [hb] at this; simpa using this
theorem NG : L8 Tryz.prog := ca0 (by kernel_rfl)
theorem f3 {f : FuncId} {b : Bd} {path : List Bool} {val : V} {post : c5} {cs : List Prop} (h : e9 Tryz.prog b path = some (val, post, cs)) (hf : Tryz.prog.funcs[f]? = some b.f) (hc : All cs) (hb : b.f.body = some (f1 b.f) := by kernel_rfl) (hpin : V1 b.base b.pre := by exact N3 (by kernel_rfl)) (hargs : V.withins (Nm.pin b.base) b.args = true := by kernel_rfl) : T Tryz.prog f b.args b.pre val post :=
 T9 NG MO path h hf hb hc hpin hargs
def kb0 : Kb := { db := fun _ _ _ _ => [] }
def bx4 : List (Nat × (List V → c5 → Nat → List Cl)) → Nat → Option (List V → c5 → Nat → List Cl)
 | [], _ => none
 | p :: r, k => bif Nat.beq p.1 k then some p.2 else bx4 r k
def dbQ (l : List (Nat × (List V → c5 → Nat → List Cl))) : Nat → List V → c5 → Nat → List Cl := fun k args h lo => match bx4 l k with
 | some f => f args h lo
 | none => []
def D8 (v : V) : List V → c5 → Nat → List Cl := fun _ _ _ => [{ val := v }]
theorem aj4 : ∀ (l l' : List Nm), l.Nodup → l'.Nodup → l.length = l'.length → ∃ σ τ : Nm → Nm, (∀ n, σ (τ n) = n) ∧ (∀ n, τ (σ n) = n) ∧ l.map σ = l'
 | [], [], _, _, _ => ⟨id, id, fun _ => rfl, fun _ => rfl, rfl⟩
 | a :: l, a' :: l', h, h', hl => by
  rw [List.nodup_cons] at h h'
  obtain ⟨σ, τ, h1, h2, h3⟩ := aj4 l l' h.2 h'.2 (by simpa using hl)
  refine ⟨fun n => Nm.swap (σ a) a' (σ n), fun n => τ (Nm.swap (σ a) a' n), fun n => by simp only [h1, Nm.swap_swap], fun n => by simp only [Nm.swap_swap, h2], ?_⟩
  rw [List.map_cons]
  congr 1
  ·simp [Nm.swap]
  ·rw [← h3]
   apply List.map_congr_left
   intro x hx
   have e1 : σ x ≠ σ a := fun e => h.1 (by have := congrArg τ e; rw [h2, h2] at this; exact this ▸ hx)
   have e2 : σ x ≠ a' := fun e => h'.1 (by rw [← h3, ← e]; exact List.mem_map_of_mem hx)
   simp [Nm.swap, e1, e2]
theorem T.at {P : Program} {f : FuncId} {args : List V} {pre : c5} {val : V} {post : c5} (H : T P f args pre val post) (l l' : List Nm) (h : l.Nodup) (h' : l'.Nodup) (hl : l.length = l'.length) :
  ∃ σ : Nm → Nm, l.map σ = l' ∧ T P f (V.rens σ args) (pre.ren σ) (V.ren σ val) (post.ren σ) := by
 obtain ⟨σ, τ, h1, h2, h3⟩ := aj4 l l' h h' hl
 exact ⟨σ, h3, T.ren σ τ h1 h2 H⟩
def nmV : V → Nm
 | .ptr n _ _ _ _ => n
 | .sl n _ _ _ _ _ _ => n
 | _ => .g 0
def bl (l : List UInt8) : Nat → List V := fun i => [.int .u8 ((l.getD i 0).toNat : Int)]
def bs (l : List UInt8) : B := .rows 1 l.length (bl l) true
def sb (m : Nm) (l : List UInt8) : V := .sl m 1 0 0 0 l.length none
def i4 : Nat → Nat → List UInt8
 | 0, _ => []
 | f + 1, n => if n = 0 then [] else i4 f (n / 256) ++ [UInt8.ofNat (n % 256)]
def j4 (n : Nat) : List UInt8 := UInt8.ofNat (i4 8 n).length :: i4 8 n
def ai5 (n : Nat) (k : Nat) : St := ⟨mkT 13 [(0, .int .i64 (n / 256 ^ k : Nat)), (3, .int .i64 (k + 1 : Nat))], [], 0, []⟩
noncomputable def aZ5 (n m : Nat) : Bd := { f := Tryz.f80, args := [.int .i64 n], kb := { db := fun _ _ _ _ => [], lp := fun _ _ => [(True, .loop (m + 1) (wTo (ai5 n 0)) (.exit 0) (ai5 n m))] } }
noncomputable def bd9 (n m k : Nat) : Pc := { c := cB (cB (cL (cR (cR (cR (f1 Tryz.f80)))))), st := ai5 n k, kb := kb0, k := fun e _ => match e with
 | .normal => some (wTo (ai5 n (k + 1)))
 | _ => some (wTo (ai5 n m)) }
def aC9 (m : Nat) : Nat → List V → c5 → Nat → List Cl
 | 80, _, _, _ => [{ val := .int .i64 (m + 1 : Nat) }]
 | _, _, _, _ => []
def af6 (n : Nat) (l : List UInt8) (k : Nat) : St := ⟨mkT 41 [(0, sb (.o 1) (l ++ (j4 n).take (k + 1))), (1, .int .i64 n), (5, .int .i64 (i4 8 n).length), (24, .int .i64 (i4 8 n).length), (25, .int .i64 k)], [(.o 1, bs (l ++ (j4 n).take (k + 1)))], 2, []⟩
def aF0 (n : Nat) (l : List UInt8) : Nat → St → List (Prop × Hint) := fun _ st => match m6 st.tmps 0 with
 | .sl a _ _ _ _ _ _ => [(True, .loop ((i4 8 n).length + 1) (w6 [(.o 1, a)] (af6 n l 0)) (.exit 0) (af6 n l (i4 8 n).length))]
 | _ => []
def aR_ (n : Nat) (l : List UInt8) : Exit → St → Option W := fun _ st => some ⟨[], [(4, .set (sb (.o 1) (l ++ j4 n)))], [(.o 1, .set (bs (l ++ j4 n)))], none, st.next⟩
noncomputable def bv_ (n : Nat) (l : List UInt8) : Bd := { f := Tryz.f35, args := [sb (.o 0) l, .int .i64 n], pre := [(.o 0, bs l)], base := 1, kb := { db := aC9 (i4 8 n).length, lp := aF0 n l }, k := aR_ n l, names := fun _ => [.o 1] }
noncomputable def aY2 (n : Nat) : Bd := { f := Tryz.f35, args := [.snil, .int .i64 n], base := 1, kb := { db := aC9 (i4 8 n).length, lp := aF0 n [] }, k := aR_ n [], names := fun _ => [.o 1] }
noncomputable def bd5 (n : Nat) (l : List UInt8) (k : Nat) : Pc := { c := cB (cB (cR (cL (cR (cR (cR (cR (cR (f1 Tryz.f35))))))))), st := af6 n l k, p := 1, kb := kb0, k := fun e st => match e with
 | .normal => match m6 st.tmps 0 with
  | .sl a _ _ _ _ _ _ => some (w6 [(.o 1, a)] (af6 n l (k + 1)))
  | _ => none
 | _ => some (wTo (af6 n l (i4 8 n).length)) }
theorem aZ6 (n : Nat) (m : Nat) :
  e9 zp (aZ5 n m) [false] = (some (.int .i64 (↑(m + 1) : Int), [], [q false, f9 zp none 0 (cB (cB (cL (cR (cR (cR (f1 (Bd.f (aZ5 n m))))))))) (m + 1) (St.mk (mkT 13 [(0, .int .i64 (↑(n / 1) : Int)), (3, .int .i64 1)]) [] 0 []) (.exit 0) (St.mk (mkT 13 [(0, .int .i64 (↑(n / 256 ^ m) : Int)), (3, .int .i64 (↑(m + 1) : Int))]) [] 0 []), (↑n : Int) = (↑(n / 1) : Int), q (1 : Int)]) : Option (V × c5 × List Prop)) := by kernel_rfl
theorem be0 (n : Nat) (m : Nat) (k : Nat) :
  i5 zp (bd9 n m k) [true] = (some (.normal, St.mk (mkT 13 [(0, .int .i64 (↑(n / 256 ^ (k + 1)) : Int)), (3, .int .i64 (↑(k + 1 + 1) : Int))]) [] 0 [], [decide ((0 : Int) < (↑(n / (256 : Nat) ^ k) : Int)) = true, InR .i64 ((↑(k + (1 : Nat)) : Int) + (1 : Int)), (0 : Int) ≤ (8 : Int) ∧ (8 : Int) ≤ (64 : Int), (↑(n / (256 : Nat) ^ k) : Int) / (256 : Int) = (↑(n / (256 : Nat) ^ (k + (1 : Nat))) : Int), (↑(k + (1 : Nat)) : Int) + (1 : Int) = (↑(k + (1 : Nat) + (1 : Nat)) : Int)]) : Option (Exit × St × List Prop)) := by kernel_rfl
theorem bd_ (n : Nat) (m : Nat) (k : Nat) :
  i5 zp (bd9 n m k) [false] = (some (.exit 0, St.mk (mkT 13 [(0, .int .i64 (↑(n / 256 ^ m) : Int)), (3, .int .i64 (↑(m + 1) : Int))]) [] 0 [], [decide ((0 : Int) < (↑(n / (256 : Nat) ^ k) : Int)) = false, (↑(n / (256 : Nat) ^ k) : Int) = (↑(n / (256 : Nat) ^ m) : Int), (↑(k + (1 : Nat)) : Int) = (↑(m + (1 : Nat)) : Int)]) : Option (Exit × St × List Prop)) := by kernel_rfl
theorem aY3 (n : Nat) :
  e9 zp (aY2 n) [false] = (some (.sl (.o 1) 1 0 0 0 (List.length ([] ++ j4 n)) none, [(.o 1, bs ([] ++ j4 n))], [(0 : Int) ≤ (0 : Int) ∧ (0 : Int) ≤ (0 : Int), (0 : Int) ≤ (0 : Int) ∧ (0 : Int) ≤ (0 : Int), q false, T zp 80 [.int .i64 ↑n] [] (.int .i64 (↑(List.length (i4 8 n) + 1) : Int)) [], InR .i64 ((↑(List.length (i4 (8 : Nat) n) + (1 : Nat)) : Int) - (1 : Int)), 1 ≤ (1 : Nat), ∀ (k : Nat), k < (1 : Nat) → m8 (j3 [[V.int .u8 (IntKind.wrap .u8 ((↑(List.length (i4 (8 : Nat) n) + (1 : Nat)) : Int) - (1 : Int)))]] ((0 : Nat) + k)) = true, 1 ≤ (140737488355328 : Nat), f9 zp none 1 (cB (cB (cR (cL (cR (cR (cR (cR (cR (f1 (Bd.f (aY2 n)))))))))))) (List.length (i4 8 n) + 1) (St.mk (mkT 41 [(0, .sl (.o 1) 1 0 0 0 1 none), (1, .int .i64 ↑n), (5, .int .i64 (↑(List.length (i4 8 n)) : Int)), (24, .int .i64 (↑(List.length (i4 8 n)) : Int)), (25, .int .i64 0)]) [(.o 1, bs ([] ++ List.take 1 (j4 n)))] 2 []) (.exit 0) (St.mk (mkT 41 [(0, .sl (.o 1) 1 0 0 0 (List.length ([] ++ List.take (List.length (i4 8 n) + 1) (j4 n))) none), (1, .int .i64 ↑n), (5, .int .i64 (↑(List.length (i4 8 n)) : Int)), (24, .int .i64 (↑(List.length (i4 8 n)) : Int)), (25, .int .i64 (↑(List.length (i4 8 n)) : Int))]) [(.o 1, bs ([] ++ List.take (List.length (i4 8 n) + 1) (j4 n)))] 2 []), q 1, ∀ (k : Nat), k < 1 → m5 (0 : Nat) (fun x => []) (fun k => j3 [[V.int .u8 (IntKind.wrap .u8 ((↑(List.length (i4 (8 : Nat) n) + (1 : Nat)) : Int) - (1 : Int)))]] ((0 : Nat) + k)) k = bl ([] ++ List.take 1 (j4 n)) k, true = false → true = false, q0, q0, q0, q 1, (none : Option Nat) = none ∨ (none : Option Nat) = none, q (↑n : Int), (↑(List.length (i4 (8 : Nat) n) + (1 : Nat)) : Int) - (1 : Int) = (↑(List.length (i4 (8 : Nat) n)) : Int), (↑(List.length (i4 (8 : Nat) n) + (1 : Nat)) : Int) - (1 : Int) = (↑(List.length (i4 (8 : Nat) n)) : Int), q1, List.length ([] ++ List.take (List.length (i4 (8 : Nat) n) + (1 : Nat)) (j4 n)) = List.length ([] ++ j4 n), ∀ (k : Nat), k < List.length ([] ++ List.take (List.length (i4 (8 : Nat) n) + (1 : Nat)) (j4 n)) → bl ([] ++ List.take (List.length (i4 (8 : Nat) n) + (1 : Nat)) (j4 n)) k = bl ([] ++ j4 n) k, true = false → true = false, q0, q0, q0, List.length ([] ++ List.take (List.length (i4 (8 : Nat) n) + (1 : Nat)) (j4 n)) = List.length ([] ++ j4 n), (none : Option Nat) = none ∨ (none : Option Nat) = none]) : Option (V × c5 × List Prop)) := by kernel_rfl
theorem bj0 (n : Nat) (l : List UInt8) :
  e9 zp (bv_ n l) [false] = (some (.sl (.o 1) 1 0 0 0 (List.length (l ++ j4 n)) none, [(.o 1, bs (l ++ j4 n))], [(0 : Int) ≤ (↑(List.length l) : Int) ∧ (↑(List.length l) : Int) ≤ (↑(List.length l) : Int), (0 : Int) ≤ (↑(List.length l) : Int) ∧ (↑(List.length l) : Int) ≤ (↑(f2 (some (↑(List.length l) : Int)) (List.length l)) : Int), q false, T zp 80 [.int .i64 ↑n] [] (.int .i64 (↑(List.length (i4 8 n) + 1) : Int)) [], InR .i64 ((↑(List.length (i4 (8 : Nat) n) + (1 : Nat)) : Int) - (1 : Int)), f2 (some (↑(List.length l) : Int)) (List.length l) - 0 = List.length l, 1 ≤ (1 : Nat), ∀ (k : Nat), k < (1 : Nat) → m8 (j3 [[V.int .u8 (IntKind.wrap .u8 ((↑(List.length (i4 (8 : Nat) n) + (1 : Nat)) : Int) - (1 : Int)))]] ((0 : Nat) + k)) = true, (f2 (some (↑(List.length l) : Int)) (List.length l) - 0 + (1 : Nat)) * (1 : Nat) ≤ (140737488355328 : Nat), f9 zp none 1 (cB (cB (cR (cL (cR (cR (cR (cR (cR (f1 (Bd.f (bv_ n l)))))))))))) (List.length (i4 8 n) + 1) (St.mk (mkT 41 [(0, .sl (.o 1) 1 0 0 0 (List.length (l ++ List.take 1 (j4 n))) none), (1, .int .i64 ↑n), (5, .int .i64 (↑(List.length (i4 8 n)) : Int)), (24, .int .i64 (↑(List.length (i4 8 n)) : Int)), (25, .int .i64 0)]) [(.o 1, bs (l ++ List.take 1 (j4 n)))] 2 []) (.exit 0) (St.mk (mkT 41 [(0, .sl (.o 1) 1 0 0 0 (List.length (l ++ List.take (List.length (i4 8 n) + 1) (j4 n))) none), (1, .int .i64 ↑n), (5, .int .i64 (↑(List.length (i4 8 n)) : Int)), (24, .int .i64 (↑(List.length (i4 8 n)) : Int)), (25, .int .i64 (↑(List.length (i4 8 n)) : Int))]) [(.o 1, bs (l ++ List.take (List.length (i4 8 n) + 1) (j4 n)))] 2 []), f2 (some (↑(List.length l) : Int)) (List.length l) - 0 + (1 : Nat) = List.length (l ++ List.take 1 (j4 n)), ∀ (k : Nat), k < f2 (some (↑(List.length l) : Int)) (List.length l) - 0 + (1 : Nat) → m5 (f2 (some (↑(List.length l) : Int)) (List.length l) - 0) (bl l) (fun k => j3 [[V.int .u8 (IntKind.wrap .u8 ((↑(List.length (i4 (8 : Nat) n) + (1 : Nat)) : Int) - (1 : Int)))]] ((0 : Nat) + k)) k = bl (l ++ List.take 1 (j4 n)) k, true = false → true = false, q0, q0, q0, f2 (some (↑(List.length l) : Int)) (List.length l) - 0 + (1 : Nat) = List.length (l ++ List.take 1 (j4 n)), (none : Option Nat) = none ∨ (none : Option Nat) = none, q (↑n : Int), (↑(List.length (i4 (8 : Nat) n) + (1 : Nat)) : Int) - (1 : Int) = (↑(List.length (i4 (8 : Nat) n)) : Int), (↑(List.length (i4 (8 : Nat) n) + (1 : Nat)) : Int) - (1 : Int) = (↑(List.length (i4 (8 : Nat) n)) : Int), q1, List.length (l ++ List.take (List.length (i4 (8 : Nat) n) + (1 : Nat)) (j4 n)) = List.length (l ++ j4 n), ∀ (k : Nat), k < List.length (l ++ List.take (List.length (i4 (8 : Nat) n) + (1 : Nat)) (j4 n)) → bl (l ++ List.take (List.length (i4 (8 : Nat) n) + (1 : Nat)) (j4 n)) k = bl (l ++ j4 n) k, true = false → true = false, q0, q0, q0, List.length (l ++ List.take (List.length (i4 (8 : Nat) n) + (1 : Nat)) (j4 n)) = List.length (l ++ j4 n), (none : Option Nat) = none ∨ (none : Option Nat) = none]) : Option (V × c5 × List Prop)) := by kernel_rfl
theorem bd7 (n : Nat) (l : List UInt8) (k : Nat) :
  i5 zp (bd5 n l k) [true] = (some (.normal, St.mk (mkT 41 [(0, .sl (.o 1) 1 0 0 0 (List.length (l ++ List.take (k + 1 + 1) (j4 n))) none), (1, .int .i64 ↑n), (5, .int .i64 (↑(List.length (i4 8 n)) : Int)), (24, .int .i64 (↑(List.length (i4 8 n)) : Int)), (25, .int .i64 (↑(k + 1) : Int))]) [(.o 1, bs (l ++ List.take (k + 1 + 1) (j4 n)))] 2 [], [decide ((↑k : Int) < (↑(List.length (i4 (8 : Nat) n)) : Int)) = true, InR .i64 ((↑(List.length (i4 (8 : Nat) n)) : Int) - (1 : Int)), InR .i64 ((↑(List.length (i4 (8 : Nat) n)) : Int) - (1 : Int) - (↑k : Int)), InR .i64 ((8 : Int) * ((↑(List.length (i4 (8 : Nat) n)) : Int) - (1 : Int) - (↑k : Int))), (0 : Int) ≤ (8 : Int) * ((↑(List.length (i4 (8 : Nat) n)) : Int) - (1 : Int) - (↑k : Int)) ∧ (8 : Int) * ((↑(List.length (i4 (8 : Nat) n)) : Int) - (1 : Int) - (↑k : Int)) ≤ (64 : Int), q (List.length (l ++ List.take (k + (1 : Nat)) (j4 n))), 1 ≤ (1 : Nat), ∀ (k_1 : Nat), k_1 < (1 : Nat) → m8 (j3 [[V.int .u8 (IntKind.wrap .u8 ((↑n : Int) / (2 : Int) ^ Int.toNat ((8 : Int) * ((↑(List.length (i4 (8 : Nat) n)) : Int) - (1 : Int) - (↑k : Int)))))]] ((0 : Nat) + k_1)) = true, (List.length (l ++ List.take (k + (1 : Nat)) (j4 n)) + (1 : Nat)) * (1 : Nat) ≤ (140737488355328 : Nat), InR .i64 ((↑k : Int) + (1 : Int)), List.length (l ++ List.take (k + (1 : Nat)) (j4 n)) + (1 : Nat) = List.length (l ++ List.take (k + (1 : Nat) + (1 : Nat)) (j4 n)), ∀ (k_1 : Nat), k_1 < List.length (l ++ List.take (k + (1 : Nat)) (j4 n)) + (1 : Nat) → m5 (List.length (l ++ List.take (k + (1 : Nat)) (j4 n))) (bl (l ++ List.take (k + (1 : Nat)) (j4 n))) (fun k_2 => j3 [[V.int .u8 (IntKind.wrap .u8 ((↑n : Int) / (2 : Int) ^ Int.toNat ((8 : Int) * ((↑(List.length (i4 (8 : Nat) n)) : Int) - (1 : Int) - (↑k : Int)))))]] ((0 : Nat) + k_2)) k_1 = bl (l ++ List.take (k + (1 : Nat) + (1 : Nat)) (j4 n)) k_1, true = false → true = false, q0, q0, q0, List.length (l ++ List.take (k + (1 : Nat)) (j4 n)) + (1 : Nat) = List.length (l ++ List.take (k + (1 : Nat) + (1 : Nat)) (j4 n)), (none : Option Nat) = none ∨ (none : Option Nat) = none, q (↑n : Int), q (↑(List.length (i4 (8 : Nat) n)) : Int), q (↑(List.length (i4 (8 : Nat) n)) : Int), (↑k : Int) + (1 : Int) = (↑(k + (1 : Nat)) : Int)]) : Option (Exit × St × List Prop)) := by kernel_rfl
theorem bd6 (n : Nat) (l : List UInt8) (k : Nat) :
  i5 zp (bd5 n l k) [false] = (some (.exit 0, St.mk (mkT 41 [(0, .sl (.o 1) 1 0 0 0 (List.length (l ++ List.take (List.length (i4 8 n) + 1) (j4 n))) none), (1, .int .i64 ↑n), (5, .int .i64 (↑(List.length (i4 8 n)) : Int)), (24, .int .i64 (↑(List.length (i4 8 n)) : Int)), (25, .int .i64 (↑(List.length (i4 8 n)) : Int))]) [(.o 1, bs (l ++ List.take (List.length (i4 8 n) + 1) (j4 n)))] 2 [], [decide ((↑k : Int) < (↑(List.length (i4 (8 : Nat) n)) : Int)) = false, List.length (l ++ List.take (k + (1 : Nat)) (j4 n)) = List.length (l ++ List.take (List.length (i4 (8 : Nat) n) + (1 : Nat)) (j4 n)), ∀ (k_1 : Nat), k_1 < List.length (l ++ List.take (k + (1 : Nat)) (j4 n)) → bl (l ++ List.take (k + (1 : Nat)) (j4 n)) k_1 = bl (l ++ List.take (List.length (i4 (8 : Nat) n) + (1 : Nat)) (j4 n)) k_1, true = false → true = false, q0, q0, q0, List.length (l ++ List.take (k + (1 : Nat)) (j4 n)) = List.length (l ++ List.take (List.length (i4 (8 : Nat) n) + (1 : Nat)) (j4 n)), (none : Option Nat) = none ∨ (none : Option Nat) = none, q (↑n : Int), q (↑(List.length (i4 (8 : Nat) n)) : Int), q (↑(List.length (i4 (8 : Nat) n)) : Int), (↑k : Int) = (↑(List.length (i4 (8 : Nat) n)) : Int)]) : Option (Exit × St × List Prop)) := by kernel_rfl
theorem F7 : ∀ f n, n < 256 ^ f → (i4 f n).length ≤ f ∧ n / 256 ^ (i4 f n).length = 0 ∧ ∀ k, k < (i4 f n).length → 0 < n / 256 ^ k
 | 0, n, h => by simp at h; subst h; simp [i4]
 | f + 1, n, h => by
  rw [i4]
  split
  ·rename_i h0; subst h0; simp
  ·have ih := F7 f (n / 256) (by rw [Nat.pow_succ] at h; omega)
   simp only [List.length_append, List.length_singleton]
   refine ⟨by omega, ?_, fun k hk => ?_⟩
   ·rw [Nat.pow_succ', ← Nat.div_div_eq_div_mul]; exact ih.2.1
   ·cases k with
    | zero => simp; omega
    | succ k => rw [Nat.pow_succ', ← Nat.div_div_eq_div_mul]; exact ih.2.2 k (by omega)
theorem ak9 : ∀ f n k, n < 256 ^ f → k < (i4 f n).length → (i4 f n)[k]? = some (UInt8.ofNat (n / 256 ^ ((i4 f n).length - 1 - k) % 256))
 | 0, n, k, _, h => by simp [i4] at h
 | f + 1, n, k, hn, h => by
  rw [i4] at h ⊢
  split at h
  ·simp at h
  ·rename_i h0
   rw [if_neg h0]
   have hn' : n / 256 < 256 ^ f := by rw [Nat.pow_succ] at hn; omega
   simp only [List.length_append, List.length_singleton] at h ⊢
   rcases Nat.lt_or_ge k (i4 f (n / 256)).length with h1 | h1
   ·rw [List.getElem?_append_left h1, ak9 f (n / 256) k hn' h1, Nat.div_div_eq_div_mul, ← Nat.pow_succ']
    congr 5; omega
   ·have : k = (i4 f (n / 256)).length := by omega
    subst this
    rw [List.getElem?_append_right (Nat.le_refl _)]; simp
theorem N9 {n : Nat} (h : n < 9223372036854775808) : n < 256 ^ 8 := by omega
theorem aG5 {n : Nat} (h : n < 9223372036854775808) : (j4 n).length ≤ 9 := by
 have := (F7 8 n (N9 h)).1
 simp [j4]; omega
theorem J0 (l r : List UInt8) : bl (l ++ r) = m5 l.length (bl l) (bl r) := by
 funext k
 unfold bl m5
 cases h : Nat.blt k l.length
 ·have h1 : l.length ≤ k := by
   rcases Nat.lt_or_ge k l.length with h2 | h2
   ·rw [← Nat.blt_eq] at h2; rw [h2] at h; cases h
   ·exact h2
  simp [List.getD_eq_getElem?_getD, List.getElem?_append_right h1]
 ·rw [Nat.blt_eq] at h
  simp [List.getD_eq_getElem?_getD, List.getElem?_append_left h]
theorem V8 (l : List UInt8) (v : Int) (x : UInt8) (h : v = (x.toNat : Int)) : ∀ k, k < l.length + 1 → m5 l.length (bl l) (fun k => j3 [[V.int .u8 v]] (0 + k)) k = bl (l ++ [x]) k := by
 intro k hk
 rw [J0]
 unfold m5
 cases hb : Nat.blt k l.length
 ·have h1 : l.length ≤ k := by
   rcases Nat.lt_or_ge k l.length with h2 | h2
   ·rw [← Nat.blt_eq] at h2; rw [h2] at hb; cases hb
   ·exact h2
  have : k - l.length = 0 := by omega
  simp only [cond_false, this]
  subst h
  simp [j3, bl]
 ·rfl
theorem ai8 (m : Nat) : IntKind.wrap IntKind.u8 (m : Int) = ((UInt8.ofNat m).toNat : Int) := by
 simp only [IntKind.wrap, IntKind.signed, IntKind.bits, UInt8.toNat_ofNat']
 simp
theorem bf3 (m : Nat) : IntKind.wrap IntKind.u8 (m : Int) = ((UInt8.ofNat (m % 256)).toNat : Int) := by
 rw [ai8]; simp
theorem aA9 {n : Nat} (h : n < 9223372036854775808) : T Tryz.prog 80 [.int .i64 n] [] (.int .i64 ((i4 8 n).length + 1 : Nat)) [] := by
 obtain ⟨h1, h2, h3⟩ := F7 8 n (N9 h)
 refine f3 (aZ6 n (i4 8 n).length) Tryz.func80 ⟨by simp, f9.inv (ai5 n) (i4 8 n).length (fun k hk => ?_) (f4 NG MO _ (bd_ n _ (i4 8 n).length) ?_ (Nat.zero_le _)) (by simp), by simp, rfl, trivial⟩
 ·refine f4 NG MO _ (be0 n 0 k) ?_ (Nat.zero_le _)
  have h4 := h3 k hk
  have e : n / 256 ^ (k + 1) = n / 256 ^ k / 256 := by rw [Nat.pow_succ, Nat.div_div_eq_div_mul]
  refine ⟨by rw [decide_eq_true_eq]; exact_mod_cast h4, by rw [InR64]; omega, by decide, by rw [e]; omega, by omega, trivial⟩
 ·simp [All, h2]
theorem aj7 {n : Nat} (h : n < 9223372036854775808) {l : List UInt8} (hl : l.length ≤ 70368744177664) :
  f9 Tryz.prog none 1 (cB (cB (cR (cL (cR (cR (cR (cR (cR (f1 Tryz.f35)))))))))) ((i4 8 n).length + 1) (af6 n l 0) (.exit 0) (af6 n l (i4 8 n).length) := by
 have h1 := F7 8 n (N9 h)
 refine f9.inv (af6 n l) (i4 8 n).length (fun k hk => ?_) (f4 NG MO _ (bd6 n l (i4 8 n).length) (by simp [All]) (Nat.le_succ _)) (by simp)
 refine f4 NG MO _ (bd7 n l k) ?_ (Nat.le_succ _)
 have hg := ak9 8 n k (N9 h) hk
 have ht : l ++ List.take (k + 1 + 1) (j4 n) = (l ++ List.take (k + 1) (j4 n)) ++ [UInt8.ofNat (n / 256 ^ ((i4 8 n).length - 1 - k) % 256)] := by
  rw [List.append_assoc]; congr 1
  rw [j4, List.take_succ_cons, List.take_succ_cons, List.cons_append, List.take_add_one, hg]; rfl
 have hlen : (l ++ List.take (k + 1) (j4 n)).length ≤ l.length + 9 := by
  have := aG5 h
  simp only [List.length_append, List.length_take]; omega
 have hpl : (j4 n).length = (i4 8 n).length + 1 := by simp [j4]
 have hv : IntKind.wrap IntKind.u8 ((n : Int) / 2 ^ Int.toNat (8 * (((i4 8 n).length : Int) - 1 - (k : Int)))) = ((UInt8.ofNat (n / 256 ^ ((i4 8 n).length - 1 - k) % 256)).toNat : Int) := by
  have e : Int.toNat (8 * (((i4 8 n).length : Int) - 1 - (k : Int))) = 8 * ((i4 8 n).length - 1 - k) := by omega
  have e2 : ((2 : Int) ^ (8 * ((i4 8 n).length - 1 - k))) = ((256 ^ ((i4 8 n).length - 1 - k) : Nat) : Int) := by
   rw [show (256 : Nat) = 2 ^ 8 from rfl, ← Nat.pow_mul]; norm_cast
  rw [e, e2]
  rw [show (n : Int) / ((256 ^ ((i4 8 n).length - 1 - k) : Nat) : Int) = ((n / 256 ^ ((i4 8 n).length - 1 - k) : Nat) : Int) from rfl, bf3]
 simp only [All]
 and_intros
 all_goals first | omega | (simp only [List.length_append, List.length_take]; omega) | (rw [ht]; exact V8 _ _ _ hv) | (simp [hk, IntKind.min, IntKind.max, IntKind.signed, IntKind.bits] <;> omega) | (intro k hk; rw [show k = 0 by omega]; rfl)
theorem bO2 {n : Nat} (h : n < 9223372036854775808) : T Tryz.prog 35 [.snil, .int .i64 n] [] (sb (.o 1) (j4 n)) [(.o 1, bs (j4 n))] := by
 have h1 := F7 8 n (N9 h)
 have hv : IntKind.wrap IntKind.u8 ((((i4 8 n).length + 1 : Nat) : Int) - 1) = ((UInt8.ofNat (i4 8 n).length).toNat : Int) := by
  rw [show (((i4 8 n).length + 1 : Nat) : Int) - 1 = (((i4 8 n).length : Nat) : Int) by omega, ai8]
 have hc := V8 [] _ _ hv
 refine f3 (aY3 n) Tryz.func35 ?_
 simp only [All]
 and_intros
 all_goals first | exact aA9 h | exact aj7 h (l := []) (by simp) | (intro k hk; rw [show k = 0 by omega]; exact hc 0 (by simp)) | (simp [j4, IntKind.min, IntKind.max, IntKind.signed, IntKind.bits] <;> omega) | (intro k hk; rw [show k = 0 by omega]; rfl)
theorem bO3 {n : Nat} (h : n < 9223372036854775808) {l : List UInt8} (hl : l.length ≤ 70368744177664) : T Tryz.prog 35 [sb (.o 0) l, .int .i64 n] [(.o 0, bs l)] (sb (.o 1) (l ++ j4 n)) [(.o 1, bs (l ++ j4 n))] := by
 have h1 := F7 8 n (N9 h)
 have hv : IntKind.wrap IntKind.u8 ((((i4 8 n).length + 1 : Nat) : Int) - 1) = ((UInt8.ofNat (i4 8 n).length).toNat : Int) := by
  rw [show (((i4 8 n).length + 1 : Nat) : Int) - 1 = (((i4 8 n).length : Nat) : Int) by omega, ai8]
 have hc := V8 l _ _ hv
 refine f3 (bj0 n l) Tryz.func35 ?_
 simp only [All]
 and_intros
 all_goals first | exact aA9 h | exact aj7 h hl | (simp only [f2, Int.toNat_natCast, Nat.sub_zero]; exact hc) | (simp [j4, f2, IntKind.min, IntKind.max, IntKind.signed, IntKind.bits] <;> omega) | (intro k hk; rw [show k = 0 by omega]; rfl)
def f8 (z : Int) : List UInt8 := j4 z.toNat
def r9 (z : Int) : Prop := 0 ≤ z ∧ z < 9223372036854775808
theorem X4 {z : Int} (h : r9 z) {l : List UInt8} (hl : l.length ≤ 70368744177664) {a m : Nat} (hne : a ≠ m) : T Tryz.prog 35 [sb (.o a) l, .int .i64 z] [(.o a, bs l)] (sb (.o m) (l ++ f8 z)) [(.o m, bs (l ++ f8 z))] := by
 have e : ((z.toNat : Nat) : Int) = z := Int.toNat_of_nonneg h.1
 have h0 := bO3 (n := z.toNat) (by have := h.2; omega) hl
 rw [e] at h0
 obtain ⟨σ, hσ, h1⟩ := T.at h0 [.o 0, .o 1] [.o a, .o m] (by simp) (by simp [hne]) rfl
 simp only [List.map_cons, List.map_nil, List.cons.injEq, and_true] at hσ
 simpa [V.rens, V.ren, sb, bs, c5.ren, B.ren, hσ.1, hσ.2, f8] using h1
theorem aj8 {z : Int} (h : r9 z) {m : Nat} : T Tryz.prog 35 [.snil, .int .i64 z] [] (sb (.o m) (f8 z)) [(.o m, bs (f8 z))] := by
 have e : ((z.toNat : Nat) : Int) = z := Int.toNat_of_nonneg h.1
 have h0 := bO2 (n := z.toNat) (by have := h.2; omega)
 rw [e] at h0
 obtain ⟨σ, hσ, h1⟩ := T.at h0 [.o 1] [.o m] (by simp) (by simp) rfl
 simp only [List.map_cons, List.map_nil, List.cons.injEq, and_true] at hσ
 simpa [V.rens, V.ren, sb, bs, c5.ren, B.ren, hσ, f8] using h1
def ai1 {α : Type} : List (Nat × α) → Nat → Option α
 | [], _ => none
 | p :: r, n => bif Nat.beq p.1 n then some p.2 else ai1 r n
def ab8 (base : Nat) (l : List (Nat × (List V → Nat → List Cl))) : Nat → List V → c5 → Nat → List Cl := fun _ args _ lo => match ai1 l ((lo - base) / 64) with
 | some f => f args lo
 | none => []
def J1 (l : List UInt8) : List V → Nat → List Cl := fun args lo => match args with
 | .sl a _ _ _ _ _ _ :: _ => [{ pre := [a], val := sb (.o lo) l, post := [(.o lo, bs l)] }]
 | .snil :: _ => [{ val := sb (.o lo) l, post := [(.o lo, bs l)] }]
 | _ => []
def kSb (t nm : Nat) (l : List UInt8) : Exit → St → Option W := fun _ st => match m6 st.tmps t with
 | .sl a _ _ _ _ _ _ => some ⟨[(.o nm, a)], [(t, .set (sb (.o nm) l))], [(.o nm, .set (bs l))], none, st.next⟩
 | _ => none
def i9 (s : ByteArray) : List UInt8 := s.data.toList
def K9 (xs : List Int) : List UInt8 := xs.map fun x => UInt8.ofNat x.toNat
def l5 (s : ByteArray) : List UInt8 := j4 s.size ++ i9 s
def J6 (r : SReq) : List UInt8 := f8 r.client ++ (f8 r.num ++ (l5 r.data ++ K9 r.tag))
noncomputable def bU8 (l : List UInt8) (s : ByteArray) : Bd := { f := Tryz.f34, args := [sb (.o 0) l, .str s], pre := [(.o 0, bs l)], base := 1, kb := { db := ab8 1 [(4, J1 (l ++ f8 s.size))] }, k := kSb 4 63 (l ++ l5 s), names := fun _ => [.o 63] }
noncomputable def ce9 (l : List UInt8) (r : SReq) : Bd := { f := Tryz.f135, args := [sb (.o 0) l, .agg r.c], pre := [(.o 0, bs l)], base := 1, kb := { db := ab8 1 [(5, J1 (l ++ f8 r.client)), (8, J1 (l ++ f8 r.client ++ f8 r.num)), (11, J1 (l ++ f8 r.client ++ f8 r.num ++ l5 r.data))] }, k := kSb 4 63 (l ++ J6 r), names := fun _ => [.o 63] }
theorem bk9 (l : List UInt8) (s : ByteArray) :
  e9 zp (bU8 l s) [] = (some (.sl (.o 63) 1 0 0 0 (List.length (l ++ l5 s)) none, [(.o 63, bs (l ++ l5 s))], [T zp 35 [.sl (.o 0) 1 0 0 0 (List.length l) none, .int .i64 (↑(ByteArray.size s) : Int)] [(.o 0, bs l)] (sb (.o 257) (l ++ f8 (↑(ByteArray.size s) : Int))) [(.o 257, bs (l ++ f8 (↑(ByteArray.size s) : Int)))], q (List.length (l ++ f8 (↑(ByteArray.size s) : Int))), (List.length (l ++ f8 (↑(ByteArray.size s) : Int)) + ByteArray.size s) * (1 : Nat) ≤ (140737488355328 : Nat), List.length (l ++ f8 (↑(ByteArray.size s) : Int)) + ByteArray.size s = List.length (l ++ l5 s), ∀ (k : Nat), k < List.length (l ++ f8 (↑(ByteArray.size s) : Int)) + ByteArray.size s → m5 (List.length (l ++ f8 (↑(ByteArray.size s) : Int))) (bl (l ++ f8 (↑(ByteArray.size s) : Int))) (fun k => [V.int .u8 (s9 s k)]) k = bl (l ++ l5 s) k, true = false → true = false, q0, q0, q0, List.length (l ++ f8 (↑(ByteArray.size s) : Int)) + ByteArray.size s = List.length (l ++ l5 s), (none : Option Nat) = none ∨ (none : Option Nat) = none]) : Option (V × c5 × List Prop)) := by kernel_rfl
theorem bD2 (l : List UInt8) (r : SReq) :
  e9 zp (ce9 l r) [] = (some (.sl (.o 63) 1 0 0 0 (List.length (l ++ J6 r)) none, [(.o 63, bs (l ++ J6 r))], [T zp 35 [.sl (.o 0) 1 0 0 0 (List.length l) none, .int .i64 (SReq.client r)] [(.o 0, bs l)] (sb (.o 321) (l ++ f8 (SReq.client r))) [(.o 321, bs (l ++ f8 (SReq.client r)))], T zp 35 [.sl (.o 321) 1 0 0 0 (List.length (l ++ f8 (SReq.client r))) none, .int .i64 (SReq.num r)] [(.o 321, bs (l ++ f8 (SReq.client r)))] (sb (.o 513) (l ++ f8 (SReq.client r) ++ f8 (SReq.num r))) [(.o 513, bs (l ++ f8 (SReq.client r) ++ f8 (SReq.num r)))], T zp 34 [.sl (.o 513) 1 0 0 0 (List.length (l ++ f8 (SReq.client r) ++ f8 (SReq.num r))) none, .str (SReq.data r)] [(.o 513, bs (l ++ f8 (SReq.client r) ++ f8 (SReq.num r)))] (sb (.o 705) (l ++ f8 (SReq.client r) ++ f8 (SReq.num r) ++ l5 (SReq.data r))) [(.o 705, bs (l ++ f8 (SReq.client r) ++ f8 (SReq.num r) ++ l5 (SReq.data r)))], q (List.length (l ++ f8 (SReq.client r) ++ f8 (SReq.num r) ++ l5 (SReq.data r))), 16 ≤ (16 : Nat), (List.length (l ++ f8 (SReq.client r) ++ f8 (SReq.num r) ++ l5 (SReq.data r)) + 16) * (1 : Nat) ≤ (140737488355328 : Nat), List.length (l ++ f8 (SReq.client r) ++ f8 (SReq.num r) ++ l5 (SReq.data r)) + 16 = List.length (l ++ J6 r), ∀ (k : Nat), k < List.length (l ++ f8 (SReq.client r) ++ f8 (SReq.num r) ++ l5 (SReq.data r)) + 16 → m5 (List.length (l ++ f8 (SReq.client r) ++ f8 (SReq.num r) ++ l5 (SReq.data r))) (bl (l ++ f8 (SReq.client r) ++ f8 (SReq.num r) ++ l5 (SReq.data r))) (fun q => [V.int .u8 (List.getD (SReq.tag r) (0 + q) (0 : Int))]) k = bl (l ++ J6 r) k, true = false → true = false, q0, q0, q0, List.length (l ++ f8 (SReq.client r) ++ f8 (SReq.num r) ++ l5 (SReq.data r)) + 16 = List.length (l ++ J6 r), (none : Option Nat) = none ∨ (none : Option Nat) = none]) : Option (V × c5 × List Prop)) := by kernel_rfl
structure SegOk (n : Nat) (xs : List Int) : Prop where
 len : xs.length = n
 rng : ∀ x ∈ xs, 0 ≤ x ∧ x ≤ 255
theorem aG9 (xs : List Int) : (K9 xs).length = xs.length := by simp [K9]
theorem bK_ {n : Nat} {xs : List Int} (h : SegOk n xs) : (fun q => [V.int .u8 (xs.getD (0 + q) 0)]) = bl (K9 xs) := by
 funext q
 unfold bl K9
 rw [Nat.zero_add]
 simp only [List.getD_eq_getElem?_getD, List.getElem?_map]
 cases hq : xs[q]? with
 | none => simp
 | some x =>
  have hx := h.rng x (List.mem_of_getElem? hq)
  simp only [Option.map_some, Option.getD_some, UInt8.toNat_ofNat']
  congr 2
  omega
theorem Q3 (s : ByteArray) : (i9 s).length = s.size := rfl
theorem z6 {z : Int} (h : r9 z) : (f8 z).length ≤ 9 := aG5 (by have := h.1; have := h.2; omega)
theorem R7 {n : Nat} (h : n < 9223372036854775808) : r9 (n : Int) := ⟨by omega, by omega⟩
theorem ad5 (s : ByteArray) : l5 s = f8 s.size ++ i9 s := by simp [l5, f8]
theorem Y8 {s : ByteArray} (h : s.size ≤ 1099511627776) : (l5 s).length ≤ 9 + s.size := by
 have := z6 (R7 (n := s.size) (by omega))
 rw [ad5, List.length_append, Q3]; omega
theorem bA3 {l : List UInt8} {s : ByteArray} (hl : l.length ≤ 17592186044416) (hs : s.size ≤ 1099511627776) : T Tryz.prog 34 [sb (.o 0) l, .str s] [(.o 0, bs l)] (sb (.o 63) (l ++ l5 s)) [(.o 63, bs (l ++ l5 s))] := by
 have hz := R7 (n := s.size) (by omega)
 have e : l ++ l5 s = (l ++ f8 s.size) ++ i9 s := by rw [ad5, List.append_assoc]
 have h9 := z6 hz
 have hlen : (l ++ f8 (s.size : Int)).length ≤ l.length + 9 := by rw [List.length_append]; omega
 have hle : (l ++ f8 (s.size : Int)).length + s.size = (l ++ l5 s).length := by rw [e, List.length_append (bs := i9 s), Q3]
 refine f3 (bk9 l s) Tryz.func34 ?_
 simp only [All]
 and_intros
 all_goals first | exact X4 hz (by omega) (by decide) | exact hle | omega | (rw [e, J0 (l ++ f8 (s.size : Int)) (i9 s)]; intro k _; rfl) | simp
theorem aV4 {l : List UInt8} {s : ByteArray} (hl : l.length ≤ 17592186044416) (hs : s.size ≤ 1099511627776) {a m : Nat} (hne : a ≠ m) : T Tryz.prog 34 [sb (.o a) l, .str s] [(.o a, bs l)] (sb (.o m) (l ++ l5 s)) [(.o m, bs (l ++ l5 s))] := by
 obtain ⟨σ, hσ, h1⟩ := T.at (bA3 hl hs) [.o 0, .o 63] [.o a, .o m] (by simp) (by simp [hne]) rfl
 simp only [List.map_cons, List.map_nil, List.cons.injEq, and_true] at hσ
 simpa [V.rens, V.ren, sb, bs, c5.ren, B.ren, hσ.1, hσ.2] using h1
structure ReqOk (r : SReq) : Prop where
 client : r9 r.client
 num : r9 r.num
 data : r.data.size ≤ 1099511627776
 tag : SegOk 16 r.tag
theorem bs_ {r : SReq} (h : ReqOk r) : (J6 r).length ≤ 43 + r.data.size := by
 have h1 := z6 h.client
 have h2 := z6 h.num
 have h3 := Y8 h.data
 have h4 := h.tag.len
 simp only [J6, List.length_append, aG9]; omega
theorem bO6 {l : List UInt8} {r : SReq} (hl : l.length ≤ 8796093022208) (h : ReqOk r) : T Tryz.prog 135 [sb (.o 0) l, .agg r.c] [(.o 0, bs l)] (sb (.o 63) (l ++ J6 r)) [(.o 63, bs (l ++ J6 r))] := by
 have h1 := z6 h.client
 have h2 := z6 h.num
 have h3 := Y8 h.data
 have h4 := h.tag.len
 have h5 := h.data
 have e : l ++ J6 r = (l ++ f8 r.client ++ f8 r.num ++ l5 r.data) ++ K9 r.tag := by simp [J6]
 have l1 : (l ++ f8 r.client).length ≤ l.length + 9 := by rw [List.length_append]; omega
 have l2 : (l ++ f8 r.client ++ f8 r.num).length ≤ l.length + 18 := by rw [List.length_append]; omega
 have l3 : (l ++ f8 r.client ++ f8 r.num ++ l5 r.data).length ≤ l.length + 27 + r.data.size := by rw [List.length_append]; omega
 have l4 : (l ++ f8 r.client ++ f8 r.num ++ l5 r.data).length + 16 = (l ++ J6 r).length := by rw [e, List.length_append (bs := K9 r.tag), aG9, h4]
 refine f3 (bD2 l r) Tryz.func135 ?_
 simp only [All]
 and_intros
 all_goals first | exact X4 h.client (by omega) (by decide) | exact X4 h.num (by omega) (by decide) | exact aV4 (by omega) h.data (by decide) | exact l4 | omega | (rw [e, J0 (l ++ f8 r.client ++ f8 r.num ++ l5 r.data) (K9 r.tag), bK_ h.tag]; intro k _; rfl) | simp
theorem cc3 {l : List UInt8} {r : SReq} (hl : l.length ≤ 8796093022208) (h : ReqOk r) {a m : Nat} (hne : a ≠ m) : T Tryz.prog 135 [sb (.o a) l, .agg r.c] [(.o a, bs l)] (sb (.o m) (l ++ J6 r)) [(.o m, bs (l ++ J6 r))] := by
 obtain ⟨σ, hσ, h1⟩ := T.at (bO6 hl h) [.o 0, .o 63] [.o a, .o m] (by simp) (by simp [hne]) rfl
 simp only [List.map_cons, List.map_nil, List.cons.injEq, and_true] at hσ
 simpa [V.rens, V.ren, SReq.c, sb, bs, c5.ren, B.ren, hσ.1, hσ.2] using h1
def p7 (r : Nat → SReq) : Nat → List UInt8
 | 0 => []
 | k + 1 => p7 r k ++ J6 (r k)
def m7 (b : SBatch) : List UInt8 := if b.noop then f8 0 else f8 ((b.n + 1 : Nat) : Int) ++ p7 b.req b.n
def bpI (l : List UInt8) (b : SBatch) (k : Nat) : St := ⟨mkT 29 [(0, sb (.o 1) (l ++ (f8 ((b.n + 1 : Nat) : Int) ++ p7 b.req k))), (18, rq b.n b.req), (19, .int .i64 b.n), (20, .int .i64 k)], [(.o 1, bs (l ++ (f8 ((b.n + 1 : Nat) : Int) ++ p7 b.req k)))], 2, []⟩
def lpBp (l : List UInt8) (b : SBatch) : Nat → St → List (Prop × Hint) := fun _ st => match m6 st.tmps 0 with
 | .sl a _ _ _ _ _ _ => [(True, .loop (b.n + 1) (w6 [(.o 1, a)] (bpI l b 0)) (.exit 0) (bpI l b b.n))]
 | _ => []
def kBp (l : List UInt8) (b : SBatch) (k : Nat) : Exit → St → Option W := fun e st => match e with
 | .normal => match m6 st.tmps 0 with
  | .sl a _ _ _ _ _ _ => some (w6 [(.o 1, a)] (bpI l b (k + 1)))
  | _ => none
 | _ => some (wTo (bpI l b b.n))
noncomputable def bg8 (l : List UInt8) (b : SBatch) : Bd := { f := Tryz.f97, args := [sb (.o 0) l, .agg b.c], pre := [(.o 0, bs l)], base := 1, kb := { db := ab8 1 [(5, J1 (l ++ f8 0)), (9, J1 (l ++ f8 ((b.n + 1 : Nat) : Int)))], lp := lpBp l b }, k := kSb 4 63 (l ++ m7 b), names := fun _ => [.o 63] }
noncomputable def bX6 (l : List UInt8) (b : SBatch) (k : Nat) : Pc := { c := cB (cB (cR (cL (cR (cR (cR (f1 Tryz.f97))))))), st := bpI l b k, p := 1, kb := { db := ab8 2 [(7, J1 (l ++ (f8 ((b.n + 1 : Nat) : Int) ++ p7 b.req (k + 1))))] }, k := kBp l b k }
def wr (w a : Nat) (l : List UInt8) : c5 := [(.o w, .flat [sb (.o a) l]), (.o a, bs l)]
def cW (l : List UInt8) : List V → c5 → Nat → List Cl := fun args h lo => match args with
 | .ptr w _ _ _ _ :: r => match A4 w h with
  | some (.flat (.sl a _ _ _ _ _ _ :: _), _) => match r with
   | .sl q _ _ _ _ _ _ :: _ => [{ rd := [q], pre := [w, a], val := .tup [], post := [(w, .flat [sb (.o lo) l]), (.o lo, bs l)] }]
   | _ => [{ pre := [w, a], val := .tup [], post := [(w, .flat [sb (.o lo) l]), (.o lo, bs l)] }]
  | some (.flat (.snil :: _), _) => match r with
   | .sl q _ _ _ _ _ _ :: _ => [{ rd := [q], pre := [w], val := .tup [], post := [(w, .flat [sb (.o lo) l]), (.o lo, bs l)] }]
   | _ => []
  | _ => []
 | _ => []
def kWr (l : List UInt8) (others : c5) : Exit → St → Option W := fun _ st => match A4 (.o 0) st.heap with
 | some (.flat (.sl a _ _ _ _ _ _ :: _), _) => some ⟨[(.o 63, a)], [], [(.o 0, .set (.flat [sb (.o 63) l])), (.o 63, .set (bs l))] ++ I2 others, none, st.next⟩
 | _ => none
def nsV (ns : List Int) : List (List V) := ns.map fun n => [V.int .i64 n]
def n5 : List Int → List UInt8
 | [] => []
 | n :: r => f8 n ++ n5 r
def nsH (ns : List Int) : c5 := [(.o 2, .rows 1 ns.length (j3 (nsV ns)) false)]
def nsA (q : Nat) (ns : List Int) : V := .sl (.o q) 1 0 0 0 ns.length (some ns.length)
noncomputable def bdNu (l : List UInt8) (ns : List Int) (steps : List (Nat × (List V → Nat → List Cl))) : Bd := { f := Tryz.f53, args := [.ptr (.o 0) 0 0 0 0, nsA 2 ns], pre := wr 0 1 l ++ nsH ns, base := 3, kb := { db := ab8 3 steps, lp := fun _ _ => [(True, .rounds (ns.length + 1))] }, k := kWr (l ++ n5 ns) (nsH ns), names := fun _ => [.o 0, .o 63, .o 2] }
noncomputable def ce6 (l : List UInt8) (a b : Int) : Bd := bdNu l [a, b] [(13, J1 (l ++ f8 a)), (29, J1 (l ++ f8 a ++ f8 b))]
noncomputable def ce5 (a : Int) : Bd := { f := Tryz.f53, args := [.ptr (.o 0) 0 0 0 0, nsA 2 [a]], pre := [(.o 0, .flat [.snil])] ++ nsH [a], base := 3, kb := { db := ab8 3 [(13, J1 (f8 a))], lp := fun _ _ => [(True, .rounds 2)] }, k := kWr (f8 a) (nsH [a]), names := fun _ => [.o 0, .o 63, .o 2] }
noncomputable def bdWb (l : List UInt8) (b : SBatch) : Bd := { f := Tryz.f54, args := [.ptr (.o 0) 0 0 0 0, .agg b.c], pre := wr 0 1 l, base := 2, kb := { db := ab8 2 [(7, J1 (l ++ m7 b))] }, k := kWr (l ++ m7 b) [], names := fun _ => [.o 0, .o 63] }
theorem bA9 (l : List UInt8) (b : SBatch) :
  e9 zp (bg8 l b) [true] = (some (.sl (.o 63) 1 0 0 0 (List.length (l ++ m7 b)) none, [(.o 63, bs (l ++ m7 b))], [SBatch.noop b = true, T zp 35 [.sl (.o 0) 1 0 0 0 (List.length l) none, .int .i64 0] [(.o 0, bs l)] (sb (.o 321) (l ++ f8 (0 : Int))) [(.o 321, bs (l ++ f8 (0 : Int)))], List.length (l ++ f8 (0 : Int)) = List.length (l ++ m7 b), ∀ (k : Nat), k < List.length (l ++ f8 (0 : Int)) → bl (l ++ f8 (0 : Int)) k = bl (l ++ m7 b) k, true = false → true = false, q0, q0, q0, List.length (l ++ f8 (0 : Int)) = List.length (l ++ m7 b), (none : Option Nat) = none ∨ (none : Option Nat) = none]) : Option (V × c5 × List Prop)) := by kernel_rfl
theorem bA8 (l : List UInt8) (b : SBatch) :
  e9 zp (bg8 l b) [false] = (some (.sl (.o 63) 1 0 0 0 (List.length (l ++ m7 b)) none, [(.o 63, bs (l ++ m7 b))], [SBatch.noop b = false, InR .i64 ((↑(SBatch.n b) : Int) + (1 : Int)), T zp 35 [.sl (.o 0) 1 0 0 0 (List.length l) none, .int .i64 ((↑(SBatch.n b) : Int) + (1 : Int))] [(.o 0, bs l)] (sb (.o 577) (l ++ f8 (↑(SBatch.n b + 1) : Int))) [(.o 577, bs (l ++ f8 (↑(SBatch.n b + 1) : Int)))], f9 zp none 1 (cB (cB (cR (cL (cR (cR (cR (f1 (Bd.f (bg8 l b)))))))))) (SBatch.n b + 1) (St.mk (mkT 29 [(0, .sl (.o 1) 1 0 0 0 (List.length (l ++ (f8 (↑(SBatch.n b + 1) : Int) ++ p7 (SBatch.req b) 0))) none), (18, .ros 19 (SBatch.n b) (fun i => SReq.c (SBatch.req b i)) false), (19, .int .i64 (↑(SBatch.n b) : Int)), (20, .int .i64 0)]) [(.o 1, bs (l ++ (f8 (↑(SBatch.n b + 1) : Int) ++ p7 (SBatch.req b) 0)))] 2 []) (.exit 0) (St.mk (mkT 29 [(0, .sl (.o 1) 1 0 0 0 (List.length (l ++ (f8 (↑(SBatch.n b + 1) : Int) ++ p7 (SBatch.req b) (SBatch.n b)))) none), (18, .ros 19 (SBatch.n b) (fun i => SReq.c (SBatch.req b i)) false), (19, .int .i64 (↑(SBatch.n b) : Int)), (20, .int .i64 (↑(SBatch.n b) : Int))]) [(.o 1, bs (l ++ (f8 (↑(SBatch.n b + 1) : Int) ++ p7 (SBatch.req b) (SBatch.n b))))] 2 []), List.length (l ++ f8 (↑(SBatch.n b + (1 : Nat)) : Int)) = List.length (l ++ (f8 (↑(SBatch.n b + (1 : Nat)) : Int) ++ p7 (SBatch.req b) (0 : Nat))), ∀ (k : Nat), k < List.length (l ++ f8 (↑(SBatch.n b + (1 : Nat)) : Int)) → bl (l ++ f8 (↑(SBatch.n b + (1 : Nat)) : Int)) k = bl (l ++ (f8 (↑(SBatch.n b + (1 : Nat)) : Int) ++ p7 (SBatch.req b) (0 : Nat))) k, true = false → true = false, q0, q0, q0, List.length (l ++ f8 (↑(SBatch.n b + (1 : Nat)) : Int)) = List.length (l ++ (f8 (↑(SBatch.n b + (1 : Nat)) : Int) ++ p7 (SBatch.req b) (0 : Nat))), (none : Option Nat) = none ∨ (none : Option Nat) = none, q (SBatch.n b), ∀ (k : Nat), k < SBatch.n b → SReq.c (SBatch.req b k) = SReq.c (SBatch.req b k), false = true → false = true, q (↑(SBatch.n b) : Int), q1, List.length (l ++ (f8 (↑(SBatch.n b + (1 : Nat)) : Int) ++ p7 (SBatch.req b) (SBatch.n b))) = List.length (l ++ m7 b), ∀ (k : Nat), k < List.length (l ++ (f8 (↑(SBatch.n b + (1 : Nat)) : Int) ++ p7 (SBatch.req b) (SBatch.n b))) → bl (l ++ (f8 (↑(SBatch.n b + (1 : Nat)) : Int) ++ p7 (SBatch.req b) (SBatch.n b))) k = bl (l ++ m7 b) k, true = false → true = false, q0, q0, q0, List.length (l ++ (f8 (↑(SBatch.n b + (1 : Nat)) : Int) ++ p7 (SBatch.req b) (SBatch.n b))) = List.length (l ++ m7 b), (none : Option Nat) = none ∨ (none : Option Nat) = none]) : Option (V × c5 × List Prop)) := by kernel_rfl
theorem bF_ (l : List UInt8) (b : SBatch) (k : Nat) :
  i5 zp (bX6 l b k) [true] = (some (.normal, St.mk (mkT 29 [(0, .sl (.o 1) 1 0 0 0 (List.length (l ++ (f8 (↑(SBatch.n b + 1) : Int) ++ p7 (SBatch.req b) (k + 1)))) none), (18, .ros 19 (SBatch.n b) (fun i => SReq.c (SBatch.req b i)) false), (19, .int .i64 (↑(SBatch.n b) : Int)), (20, .int .i64 (↑(k + 1) : Int))]) [(.o 1, bs (l ++ (f8 (↑(SBatch.n b + 1) : Int) ++ p7 (SBatch.req b) (k + 1))))] 2 [], [decide ((↑k : Int) < (↑(SBatch.n b) : Int)) = true, (0 : Int) ≤ (↑k : Int) ∧ (↑k : Int) < (↑(SBatch.n b) : Int), T zp 135 [.sl (.o 1) 1 0 0 0 (List.length (l ++ (f8 (↑(SBatch.n b + 1) : Int) ++ p7 (SBatch.req b) k))) none, .agg (SReq.c (SBatch.req b (Int.toNat (↑k : Int))))] [(.o 1, bs (l ++ (f8 (↑(SBatch.n b + 1) : Int) ++ p7 (SBatch.req b) k)))] (sb (.o 450) (l ++ (f8 (↑(SBatch.n b + 1) : Int) ++ p7 (SBatch.req b) (k + 1)))) [(.o 450, bs (l ++ (f8 (↑(SBatch.n b + 1) : Int) ++ p7 (SBatch.req b) (k + 1))))], InR .i64 ((↑k : Int) + (1 : Int)), q (List.length (l ++ (f8 (↑(SBatch.n b + (1 : Nat)) : Int) ++ p7 (SBatch.req b) (k + (1 : Nat))))), ∀ (k_1 : Nat), k_1 < List.length (l ++ (f8 (↑(SBatch.n b + (1 : Nat)) : Int) ++ p7 (SBatch.req b) (k + (1 : Nat)))) → bl (l ++ (f8 (↑(SBatch.n b + (1 : Nat)) : Int) ++ p7 (SBatch.req b) (k + (1 : Nat)))) k_1 = bl (l ++ (f8 (↑(SBatch.n b + (1 : Nat)) : Int) ++ p7 (SBatch.req b) (k + (1 : Nat)))) k_1, true = false → true = false, q0, q0, q0, q (List.length (l ++ (f8 (↑(SBatch.n b + (1 : Nat)) : Int) ++ p7 (SBatch.req b) (k + (1 : Nat))))), (none : Option Nat) = none ∨ (none : Option Nat) = none, q (SBatch.n b), ∀ (k : Nat), k < SBatch.n b → SReq.c (SBatch.req b k) = SReq.c (SBatch.req b k), false = true → false = true, q (↑(SBatch.n b) : Int), (↑k : Int) + (1 : Int) = (↑(k + (1 : Nat)) : Int)]) : Option (Exit × St × List Prop)) := by kernel_rfl
theorem bF9 (l : List UInt8) (b : SBatch) (k : Nat) :
  i5 zp (bX6 l b k) [false] = (some (.exit 0, St.mk (mkT 29 [(0, .sl (.o 1) 1 0 0 0 (List.length (l ++ (f8 (↑(SBatch.n b + 1) : Int) ++ p7 (SBatch.req b) (SBatch.n b)))) none), (18, .ros 19 (SBatch.n b) (fun i => SReq.c (SBatch.req b i)) false), (19, .int .i64 (↑(SBatch.n b) : Int)), (20, .int .i64 (↑(SBatch.n b) : Int))]) [(.o 1, bs (l ++ (f8 (↑(SBatch.n b + 1) : Int) ++ p7 (SBatch.req b) (SBatch.n b))))] 2 [], [decide ((↑k : Int) < (↑(SBatch.n b) : Int)) = false, List.length (l ++ (f8 (↑(SBatch.n b + (1 : Nat)) : Int) ++ p7 (SBatch.req b) k)) = List.length (l ++ (f8 (↑(SBatch.n b + (1 : Nat)) : Int) ++ p7 (SBatch.req b) (SBatch.n b))), ∀ (k_1 : Nat), k_1 < List.length (l ++ (f8 (↑(SBatch.n b + (1 : Nat)) : Int) ++ p7 (SBatch.req b) k)) → bl (l ++ (f8 (↑(SBatch.n b + (1 : Nat)) : Int) ++ p7 (SBatch.req b) k)) k_1 = bl (l ++ (f8 (↑(SBatch.n b + (1 : Nat)) : Int) ++ p7 (SBatch.req b) (SBatch.n b))) k_1, true = false → true = false, q0, q0, q0, List.length (l ++ (f8 (↑(SBatch.n b + (1 : Nat)) : Int) ++ p7 (SBatch.req b) k)) = List.length (l ++ (f8 (↑(SBatch.n b + (1 : Nat)) : Int) ++ p7 (SBatch.req b) (SBatch.n b))), (none : Option Nat) = none ∨ (none : Option Nat) = none, q (SBatch.n b), ∀ (k : Nat), k < SBatch.n b → SReq.c (SBatch.req b k) = SReq.c (SBatch.req b k), false = true → false = true, q (↑(SBatch.n b) : Int), (↑k : Int) = (↑(SBatch.n b) : Int)]) : Option (Exit × St × List Prop)) := by kernel_rfl
theorem aP5 (l : List UInt8) (a : Int) (b : Int) :
  e9 zp (ce6 l a b) [true, true, false] = (some (.tup [], [(.o 0, .flat [sb (.o 63) (l ++ n5 [a, b])]), (.o 63, bs (l ++ n5 [a, b])), (.o 2, .rows 1 2 (j3 [[.int .i64 a], [.int .i64 b]]) false)], [q2, (0 : Int) ≤ (0 : Int) ∧ (0 : Int) < (2 : Int), 0 < 2, T zp 35 [.sl (.o 1) 1 0 0 0 (List.length l) none, .int .i64 a] [(.o 1, bs l)] (sb (.o 835) (l ++ f8 a)) [(.o 835, bs (l ++ f8 a))], InR .i64 (1 : Int), q2, (0 : Int) ≤ (1 : Int) ∧ (1 : Int) < (2 : Int), 1 < 2, T zp 35 [.sl (.o 835) 1 0 0 0 (List.length (l ++ f8 a)) none, .int .i64 b] [(.o 835, bs (l ++ f8 a))] (sb (.o 1859) (l ++ f8 a ++ f8 b)) [(.o 1859, bs (l ++ f8 a ++ f8 b))], InR .i64 (2 : Int), q false, q0, q0, q0, List.length (l ++ f8 a ++ f8 b) = List.length (l ++ n5 [a, b]), (none : Option Nat) = none ∨ (none : Option Nat) = none, List.length (l ++ f8 a ++ f8 b) = List.length (l ++ n5 [a, b]), ∀ (k : Nat), k < List.length (l ++ f8 a ++ f8 b) → bl (l ++ f8 a ++ f8 b) k = bl (l ++ n5 [a, b]) k, true = false → true = false, q 2, ∀ (k : Nat), k < 2 → j3 [[V.int .i64 a], [V.int .i64 b]] k = j3 [[V.int .i64 a], [V.int .i64 b]] k, false = false → false = false]) : Option (V × c5 × List Prop)) := by kernel_rfl
theorem aY0 (a : Int) :
  e9 zp (ce5 a) [true, false] = (some (.tup [], [(.o 0, .flat [sb (.o 63) (f8 a)]), (.o 63, bs (f8 a)), (.o 2, .rows 1 1 (j3 [[.int .i64 a]]) false)], [q2, (0 : Int) ≤ (0 : Int) ∧ (0 : Int) < (1 : Int), 0 < 1, T zp 35 [.snil, .int .i64 a] [] (sb (.o 835) (f8 a)) [(.o 835, bs (f8 a))], InR .i64 (1 : Int), q false, q0, q0, q0, q (List.length (f8 a)), (none : Option Nat) = none ∨ (none : Option Nat) = none, q (List.length (f8 a)), ∀ (k : Nat), k < List.length (f8 a) → bl (f8 a) k = bl (f8 a) k, true = false → true = false, q 1, ∀ (k : Nat), k < 1 → j3 [[V.int .i64 a]] k = j3 [[V.int .i64 a]] k, false = false → false = false]) : Option (V × c5 × List Prop)) := by kernel_rfl
theorem bV0 (l : List UInt8) (b : SBatch) :
  e9 zp (bdWb l b) [] = (some (.tup [], [(.o 0, .flat [sb (.o 63) (l ++ m7 b)]), (.o 63, bs (l ++ m7 b))], [T zp 97 [.sl (.o 1) 1 0 0 0 (List.length l) none, .agg (SBatch.c b)] [(.o 1, bs l)] (sb (.o 450) (l ++ m7 b)) [(.o 450, bs (l ++ m7 b))], q0, q0, q0, q (List.length (l ++ m7 b)), (none : Option Nat) = none ∨ (none : Option Nat) = none, q (List.length (l ++ m7 b)), ∀ (k : Nat), k < List.length (l ++ m7 b) → bl (l ++ m7 b) k = bl (l ++ m7 b) k, true = false → true = false]) : Option (V × c5 × List Prop)) := by kernel_rfl
structure BatchOk (b : SBatch) : Prop where
 n : b.n ≤ 100000
 noop : b.noop = true → b.n = 0
 req : ∀ k, k < b.n → ReqOk (b.req k)
 data : ∀ k, k < b.n → (b.req k).data.size ≤ 10000
theorem aw3 {b : SBatch} (h : BatchOk b) : ∀ k, k ≤ b.n → (p7 b.req k).length ≤ k * 20000
 | 0, _ => by simp [p7]
 | k + 1, hk => by
  have ih := aw3 h k (by omega)
  have h1 := bs_ (h.req k (by omega))
  have h2 := h.data k (by omega)
  rw [p7, List.length_append]; omega
theorem ca3 {l : List UInt8} {b : SBatch} (hl : l.length ≤ 1099511627776) (h : BatchOk b) : T Tryz.prog 97 [sb (.o 0) l, .agg b.c] [(.o 0, bs l)] (sb (.o 63) (l ++ m7 b)) [(.o 63, bs (l ++ m7 b))] := by
 have hn := h.n
 have hz := R7 (n := b.n + 1) (by omega)
 by_cases hno : b.noop = true
 ·have e : m7 b = f8 0 := by simp [m7, hno]
  refine f3 (bA9 l b) Tryz.func97 ?_
  rw [e]
  simp only [All]
  and_intros
  all_goals first | exact X4 (z := 0) ⟨by decide, by decide⟩ (by omega) (by decide) | simp [hno]
 ·have e : m7 b = f8 ((b.n + 1 : Nat) : Int) ++ p7 b.req b.n := by simp [m7, hno]
  have hlen : ∀ k, k ≤ b.n → (l ++ (f8 ((b.n + 1 : Nat) : Int) ++ p7 b.req k)).length ≤ 8796093022208 := fun k hk => by
   have h1 := aw3 h k hk
   have h2 := z6 hz
   rw [List.length_append, List.length_append]; omega
  have hL : f9 Tryz.prog none 1 (cB (cB (cR (cL (cR (cR (cR (f1 Tryz.f97)))))))) (b.n + 1) (bpI l b 0) (.exit 0) (bpI l b b.n) :=
   f9.inv (bpI l b) b.n (fun k hk => by
    have hT := cc3 (hlen k (by omega)) (h.req k hk) (a := 1) (m := 450) (by decide)
    have e1 : l ++ (f8 ((b.n + 1 : Nat) : Int) ++ p7 b.req k) ++ J6 (b.req k) = l ++ (f8 ((b.n + 1 : Nat) : Int) ++ p7 b.req (k + 1)) := by simp [p7]
    rw [e1] at hT
    refine f4 NG MO _ (bF_ l b k) ?_ (show 1 ≤ 2 by decide)
    simp only [All, Int.toNat_natCast]
    and_intros
    all_goals first | exact hT | (simp [hk, IntKind.min, IntKind.max, IntKind.signed, IntKind.bits] <;> omega))
    (f4 NG MO _ (bF9 l b b.n) (by simp [All]) (show 1 ≤ 2 by decide)) (by simp)
  refine f3 (bA8 l b) Tryz.func97 ?_
  rw [e]
  simp only [All]
  and_intros
  all_goals first | exact X4 hz (by omega) (by decide) | exact hL | (simp [hno, p7, IntKind.min, IntKind.max, IntKind.signed, IntKind.bits] <;> omega)
theorem T_bp {l : List UInt8} {b : SBatch} (hl : l.length ≤ 1099511627776) (h : BatchOk b) {a m : Nat} (hne : a ≠ m) : T Tryz.prog 97 [sb (.o a) l, .agg b.c] [(.o a, bs l)] (sb (.o m) (l ++ m7 b)) [(.o m, bs (l ++ m7 b))] := by
 obtain ⟨σ, hσ, h1⟩ := T.at (ca3 hl h) [.o 0, .o 63] [.o a, .o m] (by simp) (by simp [hne]) rfl
 simp only [List.map_cons, List.map_nil, List.cons.injEq, and_true] at hσ
 simpa [V.rens, V.ren, SBatch.c, rq, sb, bs, c5.ren, B.ren, hσ.1, hσ.2] using h1
def Z8 (q : Nat) (ns : List Int) : c5 := [(.o q, .rows 1 ns.length (j3 (nsV ns)) false)]
theorem bN9 {l : List UInt8} {a : Int} {b : Int} (hl : l.length ≤ 17592186044416) (ha : r9 a) (hb : r9 b) : T Tryz.prog 53 [.ptr (.o 0) 0 0 0 0, nsA 2 [a, b]] (wr 0 1 l ++ Z8 2 [a, b]) (.tup []) (wr 0 63 (l ++ n5 [a, b]) ++ Z8 2 [a, b]) := by
 have la := z6 ha
 have lb := z6 hb
 refine f3 (aP5 l a b) Tryz.func53 ?_
 simp only [All]
 and_intros
 all_goals first | exact X4 ha (by first | omega | (simp only [List.length_append]; omega)) (by decide) | exact X4 hb (by first | omega | (simp only [List.length_append]; omega)) (by decide) | (simp [n5, IntKind.min, IntKind.max, IntKind.signed, IntKind.bits]; done)
theorem bv0 {l : List UInt8} {a : Int} {b : Int} (hl : l.length ≤ 17592186044416) (ha : r9 a) (hb : r9 b) {w x q m : Nat} (hn : [Nm.o w, Nm.o x, Nm.o q, Nm.o m].Nodup) : T Tryz.prog 53 [.ptr (.o w) 0 0 0 0, nsA q [a, b]] (wr w x l ++ Z8 q [a, b]) (.tup []) (wr w m (l ++ n5 [a, b]) ++ Z8 q [a, b]) := by
 obtain ⟨σ, hσ, h1⟩ := T.at (bN9 hl ha hb) [.o 0, .o 1, .o 2, .o 63] [.o w, .o x, .o q, .o m] (by simp) hn rfl
 simp only [List.map_cons, List.map_nil, List.cons.injEq, and_true] at hσ
 simpa [V.rens, V.ren, sb, bs, wr, nsA, Z8, c5.ren, B.ren, hσ.1, hσ.2.1, hσ.2.2.1, hσ.2.2.2] using h1
theorem bN8 {a : Int} (ha : r9 a) : T Tryz.prog 53 [.ptr (.o 0) 0 0 0 0, nsA 2 [a]] ([(.o 0, .flat [.snil])] ++ Z8 2 [a]) (.tup []) (wr 0 63 (f8 a) ++ Z8 2 [a]) := by
 refine f3 (aY0 a) Tryz.func53 ?_
 simp only [All]
 and_intros
 all_goals first | exact aj8 ha | (simp [n5, IntKind.min, IntKind.max, IntKind.signed, IntKind.bits]; done)
theorem bu_ {a : Int} (ha : r9 a) {w q m : Nat} (hn : [Nm.o w, Nm.o q, Nm.o m].Nodup) : T Tryz.prog 53 [.ptr (.o w) 0 0 0 0, nsA q [a]] ([(.o w, .flat [.snil])] ++ Z8 q [a]) (.tup []) (wr w m (f8 a) ++ Z8 q [a]) := by
 obtain ⟨σ, hσ, h1⟩ := T.at (bN8 ha) [.o 0, .o 2, .o 63] [.o w, .o q, .o m] (by simp) hn rfl
 simp only [List.map_cons, List.map_nil, List.cons.injEq, and_true] at hσ
 simpa [V.rens, V.ren, sb, bs, wr, nsA, Z8, c5.ren, B.ren, hσ.1, hσ.2.1, hσ.2.2] using h1
theorem bP1 {l : List UInt8} {b : SBatch} (hl : l.length ≤ 1099511627776) (hb : BatchOk b) {w x m : Nat} (hn : [Nm.o w, Nm.o x, Nm.o m].Nodup) : T Tryz.prog 54 [.ptr (.o w) 0 0 0 0, .agg b.c] (wr w x l) (.tup []) (wr w m (l ++ m7 b)) := by
 have h0 : T Tryz.prog 54 [.ptr (.o 0) 0 0 0 0, .agg b.c] (wr 0 1 l) (.tup []) (wr 0 63 (l ++ m7 b)) := by
  refine f3 (bV0 l b) Tryz.func54 ?_
  simp only [All]
  and_intros
  all_goals first | exact T_bp hl hb (by decide) | simp
 obtain ⟨σ, hσ, h1⟩ := T.at h0 [.o 0, .o 1, .o 63] [.o w, .o x, .o m] (by simp) hn rfl
 simp only [List.map_cons, List.map_nil, List.cons.injEq, and_true] at hσ
 simpa [V.rens, V.ren, SBatch.c, rq, sb, bs, wr, c5.ren, B.ren, hσ.1, hσ.2.1, hσ.2.2] using h1
def ch5 (s : SSign) : List UInt8 := n5 [s.node] ++ K9 s.tag
def ar0 (s : Nat → SSign) : Nat → List UInt8
 | 0 => []
 | k + 1 => ar0 s k ++ ch5 (s k)
def aU7 (v : SVote) : List UInt8 := n5 [v.kind, v.epoch, v.view, v.slot] ++ K9 v.digest
def aR2 (c : SCert) : List UInt8 := aU7 c.vote ++ (n5 [(c.n : Int)] ++ ar0 c.sig c.n)
def cg5 (h : SHeld) : List UInt8 := m7 h.batch ++ aR2 h.cert
def aE4 (h : Nat → SHeld) : Nat → List UInt8
 | 0 => []
 | k + 1 => aE4 h k ++ cg5 (h k)
def envB (e : SEnv) : List UInt8 := n5 [e.src] ++ (l5 e.body ++ K9 e.tag)
def aR7 (e : Nat → SEnv) : Nat → List UInt8
 | 0 => []
 | k + 1 => aR7 e k ++ envB (e k)
structure SignOk (s : SSign) : Prop where
 node : r9 s.node
 tag : SegOk 16 s.tag
structure VoteOk (v : SVote) : Prop where
 kind : r9 v.kind
 epoch : r9 v.epoch
 view : r9 v.view
 slot : r9 v.slot
 digest : SegOk 32 v.digest
structure CertOk (c : SCert) : Prop where
 vote : VoteOk c.vote
 n : c.n ≤ 1000
 sig : ∀ k, k < c.n → SignOk (c.sig k)
structure HeldOk (h : SHeld) : Prop where
 batch : BatchOk h.batch
 cert : CertOk h.cert
structure EnvOk (e : SEnv) : Prop where
 src : r9 e.src
 body : e.body.size ≤ 10000000
 tag : SegOk 16 e.tag
def j6 (n m : Int) : Bool := decide (0 ≤ n) && decide (n ≤ m)
def w7 (r : SReq) : Bool := j6 r.client 8 && (j6 r.num 1099511627776 && decide (r.data.size ≤ 64))
def u0 (v : SVote) : Bool := (decide (v.kind = 1) || decide (v.kind = 2)) && (j6 v.epoch 1048576 && (j6 v.view 1099511627776 && j6 v.slot 1099511627776))
def u7 (s : SSign) : Bool := j6 s.node 64
def w4 (n most : Nat) (p : Nat → Bool) : Bool := decide (n ≤ most) && decide (∀ i, i < n → p i = true)
def D2 (c : SCert) : Bool := u0 c.vote && w4 c.n 64 (fun i => u7 (c.sig i))
def s8 (b : SBatch) : Bool := !(b.noop && decide (0 < b.n)) && w4 b.n 4 (fun i => w7 (b.req i))
def z5 (h : SHeld) : Bool := s8 h.batch && D2 h.cert
def A3 (e : SEnv) : Bool := j6 e.src 64 && decide (e.body.size ≤ 4194304)
def B4 (m : SMsg) : Bool := j6 m.cepoch 1048576 && (j6 m.cleader 64 && (j6 m.cview 1099511627776 && w4 m.nheld 4 (fun i => z5 (m.held i))))
def ae5 : Nat → List V → c5 → Nat → List Cl
 | 90, [.int _ n, .int _ m], _, _ => [{ val := .bool (j6 n m) }]
 | _, _, _, _ => []
def dbV (l : List (Nat × V)) : Nat → List V → c5 → Nat → List Cl := fun k args h lo => match ae5 k args h lo with
 | [] => match ai1 l k with
  | some v => [{ val := v }]
  | none => []
 | r => r
noncomputable def aZ_ (n m : Int) : Bd := { f := Tryz.f90, args := [.int .i64 n, .int .i64 m], kb := kb0 }
noncomputable def bi4 (r : SReq) : Bd := { f := Tryz.f132, args := [.agg r.c], kb := { db := ae5 } }
noncomputable def ak2 (v : SVote) : Bd := { f := Tryz.f88, args := [.agg v.c], kb := { db := ae5 } }
noncomputable def bdMS (s : SSign) : Bd := { f := Tryz.f96, args := [.agg s.c], kb := { db := ae5 } }
noncomputable def bS7 (e : SEnv) : Bd := { f := Tryz.f94, args := [.agg e.c], kb := { db := ae5 } }
noncomputable def bS6 (c : SCert) : Bd := { f := Tryz.f89, args := [.agg c.c], kb := { db := dbV [(88, .bool (u0 c.vote)), (95, .bool (w4 c.n 64 (fun i => u7 (c.sig i))))] } }
noncomputable def bi0 (b : SBatch) : Bd := { f := Tryz.f91, args := [.agg b.c], kb := { db := dbV [(131, .bool (w4 b.n 4 (fun i => w7 (b.req i))))] } }
noncomputable def bS8 (h : SHeld) : Bd := { f := Tryz.f134, args := [.agg h.c], kb := { db := dbV [(91, .bool (s8 h.batch)), (89, .bool (D2 h.cert))] } }
def chC (m : SMsg) : List V := [.int .i64 m.cepoch, .int .i64 m.cleader, .int .i64 m.cview, hl m.nheld m.held]
noncomputable def aO7 (m : SMsg) : Bd := { f := Tryz.f92, args := [.agg (chC m)], kb := { db := dbV [(133, .bool (w4 m.nheld 4 (fun i => z5 (m.held i))))] } }
def alI (v : V) (n : Nat) (isf k : Nat) : St := ⟨mkT 24 [(2, .fn (.func isf) [] []), (13, v), (14, .int .i64 n), (15, .int .i64 k)], [], 0, []⟩
def alF : St := ⟨mkT 24 [(6, .bool false)], [], 0, []⟩
noncomputable def aN3 (f : Func) (v : V) (n : Nat) (most : Int) (isf m : Nat) : Bd := { f := f, args := [v, .int .i64 most, .fn (.func isf) [] []], kb := { db := fun _ _ _ _ => [], lp := fun _ _ => [(True, .loop (n + 1) (wTo (alI v n isf 0)) (.exit 0) (alI v n isf n)), (True, .loop (m + 1) (wTo (alI v n isf 0)) .ret alF)] } }
noncomputable def aS6 (f : Func) (v : V) (n isf k : Nat) (p : Bool) : Pc := { c := cB (cB (cR (cL (cR (cR (f1 f)))))), st := alI v n isf k, kb := { db := fun _ _ _ _ => [{ val := .bool p }] }, k := fun e _ => match e with
 | .normal => some (wTo (alI v n isf (k + 1)))
 | .ret => some (wTo alF)
 | _ => some (wTo (alI v n isf n)) }
noncomputable def ao7 (n : Nat) (r : Nat → SReq) (most : Int) (m : Nat) : Bd := aN3 Tryz.f131 (rq n r) n most 132 m
noncomputable def aS9 (n : Nat) (r : Nat → SReq) (k : Nat) : Pc := aS6 Tryz.f131 (rq n r) n 132 k (w7 (r k))
noncomputable def ao8 (n : Nat) (r : Nat → SSign) (most : Int) (m : Nat) : Bd := aN3 Tryz.f95 (sg n r) n most 96 m
noncomputable def aS_ (n : Nat) (r : Nat → SSign) (k : Nat) : Pc := aS6 Tryz.f95 (sg n r) n 96 k (u7 (r k))
noncomputable def ao6 (n : Nat) (r : Nat → SHeld) (most : Int) (m : Nat) : Bd := aN3 Tryz.f133 (hl n r) n most 134 m
noncomputable def aS8 (n : Nat) (r : Nat → SHeld) (k : Nat) : Pc := aS6 Tryz.f133 (hl n r) n 134 k (z5 (r k))
noncomputable def ao5 (n : Nat) (r : Nat → SEnv) (most : Int) (m : Nat) : Bd := aN3 Tryz.f93 (nw n r) n most 94 m
noncomputable def aS7 (n : Nat) (r : Nat → SEnv) (k : Nat) : Pc := aS6 Tryz.f93 (nw n r) n 94 k (A3 (r k))
end Go.Proofs.YtnmccoincblecaaGreat
