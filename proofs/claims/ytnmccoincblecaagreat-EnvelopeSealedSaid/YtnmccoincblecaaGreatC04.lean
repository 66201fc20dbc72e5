/-
  Contracts and laws that the claim's theorem leans on, joined out of the texts SyOpen SyRng SyData SyShape SyMore SyLend Lz Rs0 Ta1D Ta1 Ta2D Ta2 Ta3D Ta3 Ta4D (own work of this seat): A call's arguments, as they are handed in, as abstract values; a law's contract as its row wants it; Ranges over a function: a round of a loop as what a call of its yield does; the statement, out of the iterator's contract; The values that the laws are told, as plain data, and their cells; The shapes of handed values, unfolded; what is known of their cells; Loops that look at each one of many; more glue; Blocks lent to a call that only looks at them; Small contracts; Small contracts; Contracts: numbers as bytes; Contracts: numbers as bytes; Contracts: text, requests, batches as bytes; Contracts: text, requests, batches as bytes; Contracts: batches, the writer's methods; Contracts: batches, the writer's methods; Contracts: the writer's methods, continued.
-/
import Derived.OpenShut
import Derived.JoinedCond
import Derived.WalkKit
import Derived.ProofKit
import Derived.RangeFuncIn
import Derived.RangeFuncRecord
import Derived.Test.YtnmccoincblecaaGreatProg
import Derived.Test.YtnmccoincblecaaGreatC03
set_option linter.unusedVariables false
set_option linter.unusedSimpArgs false
set_option maxHeartbeats 1000000
namespace Sy
open Go
variable {P : Program}
def Uof (w : World) : Imm := fun b => match w.heap[b]? with
 | some (.cells c _ _) => some c
 | _ => none
theorem bw4 {w : World} {b : Nat} {c : Array Value} (h : Uof w b = some c) : ∃ el fr, w.heap[b]? = some (.cells c el fr) := by
 unfold Uof at h
 split at h
 ·rename_i c' el fr e; cases h; exact ⟨el, fr, e⟩
 ·cases h
theorem a_0 (w : World) : HRel (Uof w) Env.none [] w :=
 ⟨fun n b h => absurd h List.not_mem_nil, fun n b n' b' l l' h => absurd h List.not_mem_nil, List.nodup_nil, fun b c h => bw4 h⟩
def W6 (P : Program) (op : TypeId → Bool) (top : Nat) : Nat → List Field → Bool
 | pos, [] => Nat.beq pos top
 | pos, f :: fs => Nat.beq f.offset pos && (op f.type && W6 P op top (pos + P.cellsOf f.type) fs)
def Q5 (P : Program) : Nat → TypeId → Bool
 | 0, _ => false
 | d + 1, t => match P.underlying t with
  | some .bool => true
  | some (.int _) => true
  | some .string => true
  | some (.slice e) => Q5 P d e && Nat.blt 0 (P.cellsOf e)
  | some (.struct fs) => W6 P (Q5 P d) (P.cellsOf t) 0 fs.toList
  | some (.array n e) => (match P.underlying e with
   | some (.int _) => true
   | _ => false) && (Nat.beq (P.cellsOf e) 1 && Nat.beq (P.cellsOf t) n)
  | _ => false
def a_1 (sh : TypeId → List V → Prop) : List Field → List V → Prop
 | [], vs => vs = []
 | f :: fs, vs => ∃ a b, vs = a ++ b ∧ sh f.type a ∧ a_1 sh fs b
def ShC (P : Program) : Nat → TypeId → List V → Prop
 | 0, _, _ => False
 | d + 1, t, vs => match P.underlying t with
  | some .bool => ∃ b, vs = [.bool b]
  | some (.int k) => ∃ n, vs = [.int k n] ∧ InR k n
  | some .string => ∃ s : ByteArray, vs = [.str s] ∧ s.size ≤ maxLen
  | some (.slice e) => ∃ len f, vs = [.ros (P.cellsOf e) len f false] ∧ len ≤ maxLen ∧ ∀ i, i < len → ShC P d e (f i)
  | some (.struct fs) => a_1 (ShC P d) fs.toList vs
  | some (.array n e) => ∃ k xs, P.underlying e = some (.int k) ∧ vs = [.seg k n xs] ∧ xs.length = n ∧ ∀ x ∈ xs, InR k x
  | _ => False
theorem ar9 {α β : Type} {f : α → Option β} : ∀ {l : List α} {r : List β}, l.mapM f = some r → r.length = l.length ∧ ∀ (i : Nat) (a : α), l[i]? = some a → ∃ y, r[i]? = some y ∧ f a = some y
 | [], r, h => by simp at h; subst h; simp
 | a :: l, r, h => by
  rw [List.mapM_cons] at h
  cases hf : f a with
  | none => simp [hf] at h
  | some y =>
   cases hr : l.mapM f with
   | none => simp [hf, hr] at h
   | some ys =>
    simp only [hf, hr, Option.bind_eq_bind, Option.bind_some, Option.pure_def, Option.some.injEq] at h
    subst h
    obtain ⟨h1, h2⟩ := ar9 hr
    refine ⟨by simp [h1], fun i b hi => ?_⟩
    cases i with
    | zero => simp only [List.getElem?_cons_zero, Option.some.injEq] at hi; subst hi; exact ⟨y, by simp, hf⟩
    | succ i => simp only [List.getElem?_cons_succ] at hi ⊢; exact h2 i b hi
theorem bv6 {k : IntKind} {n : Int} (h : (Lit.int k n).wf = true) : InR k n := by
 simp only [Lit.wf, Bool.and_eq_true, decide_eq_true_eq] at h; exact h
theorem ao5 {w : World} {a : Addr} {v : Value} (h : w.cell? a = some v) : a.spot = none ∧ ∃ c el fr, w.heap[a.block]? = some (.cells c el fr) ∧ c[a.off]? = some v := by
 unfold World.cell? at h
 split at h
 ·rename_i c el fr e
  cases hs : a.spot with
  | none => simp only [hs, Option.isSome_none, Bool.false_eq_true, if_false] at h; exact ⟨rfl, c, el, fr, e, h⟩
  | some s => simp [hs] at h
 ·cases h
theorem aB_ {H : Type} {w : World} {tr : TypeId → List Value → Option (DataW H × List MemPlace)} {sh : TypeId → List V → Prop} {op : TypeId → Bool} {top : Nat}
  (hk : ∀ t cs x, tr t cs = some x → op t = true → ∃ vs, i8 (Uof w) Env.none vs cs ∧ sh t vs) {cs : List Value} (hlen : cs.length = top) :
  ∀ (fs : List Field) (pos : Nat), W6 P op top pos fs = true → (∀ f ∈ fs, ∃ y, tr f.type ((cs.drop f.offset).take (P.cellsOf f.type)) = some y) →
   ∃ vs, i8 (Uof w) Env.none vs (cs.drop pos) ∧ a_1 sh fs vs
 | [], pos, ho, _ => by
  rw [W6] at ho
  have := Nat.eq_of_beq_eq_true ho
  refine ⟨[], ?_, rfl⟩
  rw [i8, List.drop_eq_nil_of_le (by omega)]
 | f :: fs, pos, ho, h => by
  rw [W6, Bool.and_eq_true, Bool.and_eq_true] at ho
  obtain ⟨h1, h2, h3⟩ := ho
  have e1 := Nat.eq_of_beq_eq_true h1
  obtain ⟨y, hf⟩ := h f (List.mem_cons_self ..)
  obtain ⟨a, ha, hsa⟩ := hk _ _ _ hf h2
  obtain ⟨b, hb, hsb⟩ := aB_ hk hlen fs _ h3 fun g hg => h g (List.mem_cons_of_mem _ hg)
  refine ⟨a ++ b, p6.2 ⟨_, _, ?_, ha, hb⟩, a, b, rfl, hsa, hsb⟩
  rw [e1, ← List.drop_drop, List.take_append_drop]
theorem bB_ {w : World} {base : Nat} {a : Addr} {n : Nat} {cs : List Value} (h : w.cells? base a n = some cs) : cs.length = n ∧ ∀ k, k < n → ∃ v, cs[k]? = some v ∧ w.cell? (a.add k) = some v := by
 unfold World.cells? at h
 split at h
 ·obtain ⟨h1, h2⟩ := ar9 h
  refine ⟨by simpa using h1, fun k hk => ?_⟩
  exact h2 k k (by simp [hk])
 ·cases h
def bL8 : Option Value → Int
 | some (.int _ z) => z
 | _ => 0
theorem U6 {H : Type} {enc : TypeId × Value → H} {w : World} {sp : Nat → Bool} : ∀ (fuel : Nat) (t : TypeId) (cs : List Value) (x : DataW H × List MemPlace), DataW.trod enc P w 0 sp true fuel t cs = some x → ∀ d, Q5 P d t = true →
  ∃ vs, i8 (Uof w) Env.none vs cs ∧ ShC P fuel t vs
 | 0, t, cs, x, h, _, _ => by simp [DataW.trod] at h
 | fuel + 1, t, cs, x, h, 0, ho => by simp [Q5] at ho
 | fuel + 1, t, cs, x, h, d + 1, ho => by
  unfold Q5 at ho
  have one : ∀ (v : V) (y : Value), v.cell = true → e9 (Uof w) Env.none v y → i8 (Uof w) Env.none [v] [y] := fun v y hv hy => (A9 hv).2 ⟨y, [], rfl, hy, by rw [i8]⟩
  split at ho
  ·rename_i hu
   obtain ⟨b, rfl, _⟩ := DataW.trod_bool hu h
   exact ⟨[.bool b], one _ _ rfl (by rw [e9]), by rw [ShC, hu]; exact ⟨b, rfl⟩⟩
  ·rename_i k hu
   obtain ⟨n, rfl, _, hw⟩ := DataW.trod_int hu h
   exact ⟨[.int k n], one _ _ rfl (by rw [e9]), by rw [ShC, hu]; exact ⟨n, rfl, bv6 hw⟩⟩
  ·rename_i hu
   obtain ⟨s, rfl, _, hs⟩ := DataW.trod_string hu h
   exact ⟨[.str s], one _ _ rfl (by rw [e9]), by rw [ShC, hu]; exact ⟨s, rfl, hs⟩⟩
  ·rename_i e hu
   rw [Bool.and_eq_true] at ho
   obtain ⟨ho1, ho2⟩ := ho
   have hes : 0 < P.cellsOf e := by rwa [Nat.blt_eq] at ho2
   rcases DataW.trod_slice hu h with ⟨rfl, _⟩ | ⟨a, len, cap, elems, rest, n, hn, rfl, _, _, hlc, hcm, hel, helem, _⟩
   ·refine ⟨[.ros (P.cellsOf e) 0 (fun _ => []) false], one _ _ rfl ?_, ?_⟩
    ·rw [e9]; exact ⟨none, 0, rfl, Nat.le_refl _, fun _ => rfl, fun i hi => by omega⟩
    ·rw [ShC, hu]; exact ⟨0, _, rfl, Nat.zero_le _, fun i hi => by omega⟩
   ·cases hn
    have hat : ∀ i, i < len → ∃ vs l, i8 (Uof w) Env.none vs l ∧ ShC P fuel e vs ∧ l.length = P.cellsOf e ∧ ∀ k, k < P.cellsOf e → ∃ v, l[k]? = some v ∧ w.cell? ((a.add (i * P.cellsOf e)).add k) = some v := by
     intro i hi
     have h1 := helem i hi
     rw [List.getElem?_eq_getElem (by omega)] at h1
     cases hc : w.cells? 0 (a.add (i * P.cellsOf e)) (P.cellsOf e) with
     | none => simp [hc] at h1
     | some l =>
      simp only [hc, Option.bind_some] at h1
      obtain ⟨vs, h2, h3⟩ := U6 fuel e l _ h1 d ho1
      obtain ⟨h4, h5⟩ := bB_ hc
      exact ⟨vs, l, h2, h3, h4, h5⟩
    refine ⟨[.ros (P.cellsOf e) len (fun i => if hi : i < len then Classical.choose (hat i hi) else []) false], one _ _ rfl ?_, ?_⟩
    ·rw [e9]
     refine ⟨some a, cap, rfl, hlc, fun hh => absurd hh (by simp), fun i hi => ?_⟩
     rw [dif_pos hi]
     obtain ⟨l, h1, h2, h3, h4⟩ := Classical.choose_spec (hat i hi)
     obtain ⟨_, l0, _, _, _, h04⟩ := hat 0 (by omega)
     obtain ⟨v0, _, h05⟩ := h04 0 hes
     have hsp : a.spot = none := by
      have : (a.add (0 * P.cellsOf e)).add 0 = a := by simp [Addr.add]
      rw [this] at h05
      exact (ao5 h05).1
     obtain ⟨ab, ao, aS⟩ := a
     simp only at hsp; subst hsp
     obtain ⟨v1, _, h15⟩ := h4 0 hes
     rw [Addr.add_lit, Addr.add_lit] at h15
     obtain ⟨_, c, el, fr, hc, _⟩ := ao5 h15
     refine ⟨ab, ao, c, rfl, by unfold Uof; simp only at hc; rw [hc], l, h1, h3, fun k hk => ?_⟩
     obtain ⟨v, h6, h7⟩ := h4 k (by omega)
     rw [Addr.add_lit, Addr.add_lit] at h7
     obtain ⟨_, c', el', fr', hc', hv⟩ := ao5 h7
     simp only at hc hc'
     rw [hc] at hc'; cases hc'
     rw [h6, ← hv]
    ·rw [ShC, hu]
     refine ⟨len, _, rfl, by omega, fun i hi => ?_⟩
     rw [dif_pos hi]
     obtain ⟨l, _, h2, _⟩ := Classical.choose_spec (hat i hi)
     exact h2
  ·rename_i fs hu
   obtain ⟨xs, n, hn, _, hlen, hxl, hf⟩ := DataW.trod_struct hu h
   cases hn
   obtain ⟨vs, h1, h2⟩ := aB_ (P := P) (tr := DataW.trod enc P w 0 sp true fuel) (sh := ShC P fuel) (op := Q5 P d) (fun t cs x hh ho => U6 fuel t cs x hh d ho) hlen fs.toList 0 ho fun f hfm => by
    obtain ⟨i, hi, e⟩ := List.mem_iff_getElem.1 hfm
    have hi' : i < fs.size := by simpa using hi
    have := hf i f (by rw [← Array.getElem?_toList, List.getElem?_eq_getElem hi, e])
    exact ⟨xs[i], by rw [this, List.getElem?_eq_getElem (by omega)]⟩
   rw [List.drop_zero] at h1
   exact ⟨vs, h1, by rw [ShC, hu]; exact h2⟩
  ·rename_i n e hu
   rw [Bool.and_eq_true, Bool.and_eq_true] at ho
   obtain ⟨ho1, ho2, ho3⟩ := ho
   have e2 := Nat.eq_of_beq_eq_true ho2
   have e3 := Nat.eq_of_beq_eq_true ho3
   split at ho1
   ·rename_i k hk
    obtain ⟨xs, m, hm, _, hlen, hxl, hx⟩ := DataW.trod_array hu h
    cases hm
    have hget : ∀ i, i < n → ∃ z, cs[i]? = some (.int k z) ∧ InR k z := by
     intro i hi
     have h1 := hx i hi
     rw [e2, Nat.mul_one, List.getElem?_eq_getElem (by omega)] at h1
     obtain ⟨z, h2, _, h3⟩ := DataW.trod_int hk h1
     refine ⟨z, ?_, bv6 h3⟩
     have := congrArg (fun l => l[0]?) h2
     simpa [List.getElem?_take, List.getElem?_drop] using this
    have hval : ∀ i, i < n → cs[i]? = some (.int k (bL8 cs[i]?)) := by
     intro i hi
     obtain ⟨z, h1, _⟩ := hget i hi
     rw [h1]; rfl
    refine ⟨[.seg k n ((List.range n).map fun i => bL8 cs[i]?)], ?_, ?_⟩
    ·rw [i8]
     refine ⟨cs, [], by simp, .inl ⟨k, n, _, rfl, by simp, ?_⟩, by rw [i8]⟩
     apply List.ext_getElem?
     intro i
     rcases Nat.lt_or_ge i n with hi | hi
     ·rw [hval i hi]; simp [hi]
     ·rw [List.getElem?_eq_none (by omega), List.getElem?_eq_none (by simpa using hi)]
    ·rw [ShC, hu]
     refine ⟨k, _, hk, rfl, by simp, fun z hz => ?_⟩
     obtain ⟨i, hi, rfl⟩ := List.mem_map.1 hz
     obtain ⟨z, h1, h2⟩ := hget i (List.mem_range.1 hi)
     rw [h1]; exact h2
   ·cases ho1
  ·cases ho
theorem ak_ {α β : Type} {g : α → Option β} : ∀ {l : List α} {xs : List β}, xs.length = l.length → (∀ (i : Nat) (a : α), l[i]? = some a → g a = xs[i]?) → l.mapM g = some xs
 | [], xs, hl, _ => by
  cases xs with
  | nil => rfl
  | cons x xs => simp at hl
 | a :: l, xs, hl, h => by
  cases xs with
  | nil => simp at hl
  | cons x xs =>
   have h0 := h 0 a (by simp)
   simp only [List.getElem?_cons_zero] at h0
   have hr := ak_ (g := g) (l := l) (xs := xs) (by simpa using hl) fun i b hb => by
    have := h (i + 1) b (by simpa using hb)
    simpa using this
   rw [List.mapM_cons, h0, hr]; rfl
open ChangeShapes in
theorem am5 {H : Type} {enc : TypeId × Value → H} {w : World} {sp : Nat → Bool} : ∀ (fuel : Nat) (t : TypeId) (cs : List Value) (x : DataW H × List MemPlace), DataW.trod enc P w 0 (fun _ => true) true fuel t cs = some x → ∀ d, Q5 P d t = true →
  (∀ p ∈ x.2, sp p.block = true) → DataW.trod enc P w 0 sp true fuel t cs = some x
 | 0, t, cs, x, h, _, _, _ => by simp [DataW.trod] at h
 | fuel + 1, t, cs, x, h, 0, ho, _ => by simp [Q5] at ho
 | fuel + 1, t, cs, x, h, d + 1, ho, hs => by
  unfold Q5 at ho
  split at ho
  ·rename_i hu
   obtain ⟨b, rfl, rfl⟩ := DataW.trod_bool hu h
   unfold DataW.trod; rw [hu]
  ·rename_i k hu
   obtain ⟨n, rfl, rfl, hw⟩ := DataW.trod_int hu h
   unfold DataW.trod; rw [hu]; simp [hw]
  ·rename_i hu
   obtain ⟨s, rfl, rfl, hl⟩ := DataW.trod_string hu h
   unfold DataW.trod; rw [hu]; simp [hl]
  ·rename_i e hu
   rw [Bool.and_eq_true] at ho
   obtain ⟨ho1, ho2⟩ := ho
   have hes : 0 < P.cellsOf e := by rwa [Nat.blt_eq] at ho2
   have h0 := h
   rcases DataW.trod_slice hu h0 with ⟨rfl, rfl⟩ | ⟨a, len, cap, elems, rest, n, hn, rfl, hx, _⟩
   ·simp [DataW.trod, hu]
   ·unfold DataW.trod at h ⊢
    rw [hu] at h ⊢
    simp only [if_true] at h ⊢
    split at h
    ·rename_i hc
     rw [if_pos hc]
     obtain ⟨es, h1, h2⟩ := Option.bind_eq_some_iff.1 h
     obtain ⟨rs, h3, h4⟩ := Option.map_eq_some_iff.1 h2
     subst h4
     have hat : ∀ (i : Nat) (y : DataW H × List MemPlace), (∀ p ∈ y.2, sp p.block = true) → (w.cells? 0 (a.add (i * P.cellsOf e)) (P.cellsOf e)).bind (DataW.trod enc P w 0 (fun _ => true) true fuel e) = some y → (w.cells? 0 (a.add (i * P.cellsOf e)) (P.cellsOf e)).bind (DataW.trod enc P w 0 sp true fuel e) = some y := by
      intro i y hy hh
      obtain ⟨l, k1, k2⟩ := Option.bind_eq_some_iff.1 hh
      rw [k1, Option.bind_some]
      exact am5 fuel e l y k2 d ho1 hy
     have hmem : ∀ y ∈ es ++ rs, ∀ p ∈ y.2, sp p.block = true := fun y hy p hp => hs p (List.mem_append_right _ (List.mem_flatMap.2 ⟨y, hy, hp⟩))
     rw [mapM_carry h1 fun i y _ hy hh => hat i y (hmem y (List.mem_append_left _ hy)) hh, Option.bind_some]
     have hlr := (ar9 h3).1
     have hle := (ar9 h1).1
     simp only [List.length_range] at hlr hle
     have hrest : (if sp a.block = true then (List.range (cap - len)).mapM fun j => (w.cells? 0 (a.add ((len + j) * P.cellsOf e)) (P.cellsOf e)).bind (DataW.trod enc P w 0 sp true fuel e) else some []) = some rs := by
      split
      ·exact mapM_carry h3 fun i y _ hy hh => hat (len + i) y (hmem y (List.mem_append_right _ hy)) hh
      ·rename_i hsp
       have hz : (es.length + rs.length) * P.cellsOf e = 0 := by
        rcases Nat.eq_zero_or_pos ((es.length + rs.length) * P.cellsOf e) with hz | hz
        ·exact hz
        ·exact absurd (hs (.cell a.block (a.off + 0)) (List.mem_append_left _ (MemPlace.mem_row.2 ⟨0, hz, rfl⟩))) hsp
       have : es.length + rs.length = 0 := by
        rcases Nat.mul_eq_zero.1 hz with h | h
        ·exact h
        ·omega
       rw [List.eq_nil_of_length_eq_zero (show rs.length = 0 by omega)]
     rw [hrest, Option.map_some]
    ·simp at h
  ·rename_i fs hu
   obtain ⟨xs, n, hn, rfl, hlen, hxl, hx⟩ := DataW.trod_struct hu h
   cases hn
   have hop : ∀ f ∈ fs.toList, Q5 P d f.type = true := by
    have : ∀ (fs : List Field) (pos : Nat), W6 P (Q5 P d) (P.cellsOf t) pos fs = true → ∀ f ∈ fs, Q5 P d f.type = true := by
     intro fs
     induction fs with
     | nil => intro _ _ f hf; cases hf
     | cons g fs ih =>
      intro pos hh f hf
      rw [W6, Bool.and_eq_true, Bool.and_eq_true] at hh
      rcases List.mem_cons.1 hf with rfl | hf
      ·exact hh.2.1
      ·exact ih _ hh.2.2 f hf
    exact this _ _ ho
   refine trod_struct_mk hu hlen (ak_ (by simpa using hxl) fun i f hf => ?_)
   have hi : i < xs.length := by
    have := (List.getElem?_eq_some_iff.1 hf).1
    rw [hxl]; simpa using this
   have h1 := hx i f (by rw [← Array.getElem?_toList]; exact hf)
   rw [List.getElem?_eq_getElem hi] at h1 ⊢
   exact am5 fuel f.type _ _ h1 d (hop f (List.mem_of_getElem? hf)) fun p hp => hs p (List.mem_flatMap.2 ⟨xs[i], List.getElem_mem hi, hp⟩)
  ·rename_i n e hu
   rw [Bool.and_eq_true] at ho
   obtain ⟨ho1, _⟩ := ho
   obtain ⟨xs, m, hm, rfl, hlen, hxl, hx⟩ := DataW.trod_array hu h
   cases hm
   split at ho1
   ·rename_i k hk
    have hb : ((List.range n).mapM fun i => DataW.trod enc P w 0 sp true fuel e ((cs.drop (i * P.cellsOf e)).take (P.cellsOf e))) = some xs := by
     refine ak_ (by simpa using hxl) fun i a ha => ?_
     have hi : i < n := by simpa using (List.getElem?_eq_some_iff.1 ha).1
     rw [List.getElem?_range hi] at ha
     cases ha
     have h1 := hx i hi
     rw [List.getElem?_eq_getElem (by omega)] at h1 ⊢
     obtain ⟨z, h2, h3, h4⟩ := DataW.trod_int hk h1
     rw [h2, h3]
     cases fuel with
     | zero => rw [h2] at h1; simp [DataW.trod] at h1
     | succ q => exact trod_int_mk q hk h4
    unfold DataW.trod
    rw [hu]
    split <;> simp_all
   ·cases ho1
  ·cases ho
structure KeptW (W W' : World) : Prop where
 size : W.heap.size ≤ W'.heap.size
 block : ∀ k, k < W.heap.size → W'.heap[k]? = W.heap[k]?
 out : W'.os = W.os ∧ W'.output = W.output
theorem KeptW.frame {W W' : World} (h : KeptW W W') (may : MemPlace → Prop) : W.keptBut W' may := by
 refine ⟨h.out.1, h.out.2, fun i hi => ?_⟩
 rw [h.block i hi]
 cases W.heap[i]? with
 | none => trivial
 | some o => cases o <;> simp
theorem KeptW.same {W W' : World} (h : KeptW W W') {p : MemPlace} (hp : p.block < W.heap.size) : W.sameAt W' p := by
 cases p with
 | cell b off => exact World.cell?_of_block (w := W) (h.block b hp)
 | map b => 
  show W'.heap[b]? = W.heap[b]?
  exact h.block b hp
theorem bq8 {f : FuncId} {vs : List V} {args : Array Value} {W : World} (hT : T P f vs [] (.bool true) []) (hv : j1 (Uof W) Env.none vs args.toList) :
  Calls P f args W fun e W' => e = .returned (.bool true) ∧ KeptW W W' := by
 refine Calls.mono (hT (Uof W) Env.none W args (a_0 W) hv fun n ⟨b, hb⟩ => absurd hb List.not_mem_nil) ?_
 rintro e W' ⟨x, U', ρ', rfl, L⟩
 have := L.val
 rw [e9] at this
 subst this
 exact ⟨rfl, L.ext.size, fun k hk => L.ext.frame k hk fun n l ⟨b, hb⟩ => absurd hb List.not_mem_nil, L.ext.out⟩
section
open ChangeShapes WideShapes ChangeAt RowKit
variable {H : Type} {enc : TypeId × Value → H}
def al1 (P : Program) : List TypeId → Bool
 | [] => true
 | t :: ts => Q5 P 12 t && al1 P ts
theorem ac5 {W W' : World} (hK : KeptW W W') {sp : Nat → Bool} : ∀ {ts : List TypeId} {vs : List Value} {ds : List (DataW H)} {ps : List MemPlace}, al1 P ts = true → DataW.TrodAll enc P W 0 (fun _ => true) true ts vs ds ps → (∀ p ∈ ps, sp p.block = true) →
  DataW.TrodAll enc P W' 0 sp true ts vs ds ps
 | [], [], [], _, _, h, _ => h
 | t :: ts, v :: vs, d :: ds, ps, ho, h, hs => by
  obtain ⟨p, q, ⟨fuel, h1⟩, h2, rfl⟩ := h
  rw [al1, Bool.and_eq_true] at ho
  refine ⟨p, q, ⟨fuel, ?_⟩, ac5 hK ho.2 h2 fun x hx => hs x (List.mem_append_right _ hx), rfl⟩
  have h3 := am5 fuel t _ _ h1 12 ho.1 (sp := sp) fun x hx => hs x (List.mem_append_left _ hx)
  exact DataW.trod_carry fuel t _ _ h3 fun x hx => hK.same (DataW.trod_lt fuel t _ _ h1 x hx)
theorem bD9 {f : Func} {s : ChangeSpec} {apart fresh handsOn again : Bool} {W W' : World} {args : Array Value} {ds gs : List (DataW H)} {before : List MemPlace} {tb : TypeId}
  (hW : DataW.Whole enc P f.params.toList s.vars apart W args.toList ds gs before) (hvars : s.vars = []) (hfn : s.fn H (ds ++ gs) = { results := [.lit (.bool true)], args := ds }) (hres : f.resultTypes = #[tb]) (hb : P.underlying tb = some .bool)
  (ho : al1 P f.params.toList = true) (hK : KeptW W W') : s.post enc P f apart fresh handsOn again W args (.bool true) W' := by
 have hW0 := hW
 obtain ⟨pa, pv, hA, hV, rfl, hz, hn⟩ := hW
 rw [hvars] at hV
 obtain ⟨rfl, rfl⟩ := trodVars_none hV
 have hlt : ∀ p ∈ pa ++ [], p.block < W.heap.size := fun p hp => hW0.lt p hp
 have hold : ∀ p ∈ pa, (fun b => decide (b < W.heap.size)) p.block = true := fun p hp => by simpa using hlt p (by simpa using hp)
 have hR : ∀ (b : Nat) (sp : Nat → Bool) (hd : Bool), DataW.TrodAll enc P W' b sp hd f.resultTypes.toList ((Value.bool true).resultList f.resultTypes.size) [DataW.lit (.bool true)] [] := by
  intro b sp hd
  rw [hres]
  exact trodAll_cons_mk (shut_bool hb true) trodAll_mk0
 refine ⟨ds, [], pa ++ [], [], pa, [], hW0, by rw [hfn]; exact hR _ _ _, by rw [hfn]; exact ac5 hK ho hA hold, by rw [hfn, hvars]; exact rfl, World.keptBut_mono (fun p hp => hp.elim) (hK.frame (fun _ => False)), fun _ => ?_⟩
 refine ⟨ok_one hres rfl (okWide_bool_mk hb true), _, _, ([] ++ pa) ++ [], ⟨[] ++ pa, [], by simpa using trodAll_append (ac5 hK ho hA fun _ _ => rfl) (hR _ _ _), (show DataW.TrodVars enc P W' (fun _ => true) s.vars [] [] by rw [hvars]; exact rfl), rfl, ?_, ?_⟩, ?_⟩
 ·intro b off hp
  have hp' : MemPlace.cell b off ∈ pa ++ [] := by simpa using hp
  have := hz b off hp'
  rw [← this]
  exact World.frozen?_of_block (w := W) (hK.block b (hlt _ hp'))
 ·intro ha
  have := hn ha
  simpa using this
 ·intro p hp _
  simpa using hp
end
theorem bD_ {P : Program} {f : FuncId} {vs : List V} {args : Array Value} {W : World} {Q : Ending → World → Prop} (hT : T P f vs [] (.bool true) []) (hv : j1 (Uof W) Env.none vs args.toList) (hQ : ∀ W', KeptW W W' → Q (.returned (.bool true)) W') : Calls P f args W Q :=
 Calls.mono (bq8 hT hv) fun e W' h => by obtain ⟨rfl, hK⟩ := h; exact hQ W' hK
end Sy
namespace Sy
open Go
variable {P : Program}
variable {X : List Deferred}
theorem StRel.perm {U ρ} {st : St} {a : Act} {w : World} {h : c5} (s : StRel X U ρ st a w) (hp : st.heap.Perm h) : StRel X U ρ ⟨st.tmps, h, st.next, st.dfs⟩ a w :=
 ⟨s.tmps, s.dfs, s.heap.perm hp, s.fresh⟩
theorem StRel.drop {p : Nat} {U ρ} {st : St} {a : Act} {w : World} {b rest : c5} (s : StRel X U ρ st a w) (hp : st.heap.Perm (b ++ rest)) :
  StRel X U ρ ⟨st.tmps, rest, st.next, st.dfs⟩ a w ∧ Turn p U ρ st.heap w U ρ rest w :=
 ⟨⟨s.tmps, s.dfs, (s.heap.perm hp).right, s.fresh⟩, ⟨Nat.le_refl _, Imm.le_refl _, fun _ _ _ => rfl, fun n l hd e hr => .inr ⟨n, l, (I8 hp n).2 (m8.2 (.inr hd)), e, hr, rfl⟩, fun _ _ e => .inl e, rfl, rfl⟩,
  fun n _ => ⟨rfl, fun hd => (I8 hp n).2 (m8.2 (.inr hd))⟩⟩
inductive RoundEnd : Exit → V → LoopState → Option Code → Prop where
 | on : RoundEnd .normal (.bool true) .ready none
 | ret : RoundEnd .ret (.bool false) .done (some .ret)
 | exit (id : Nat) : RoundEnd (.exit id) (.bool false) .done (some (.exit id))
inductive LoopEnd : Option Code → Exit → Prop where
 | on : LoopEnd none .normal
 | ret : LoopEnd (some .ret) .ret
 | exit (id : Nat) : LoopEnd (some (.exit id)) (.exit id)
end Sy
namespace Sy
open Go
structure SReq where
 client : Int := 0
 num : Int := 0
 data : ByteArray := .empty
 tag : List Int := []
structure SSign where
 node : Int := 0
 tag : List Int := []
structure SVote where
 kind : Int := 0
 epoch : Int := 0
 view : Int := 0
 slot : Int := 0
 digest : List Int := []
structure SBatch where
 noop : Bool := false
 n : Nat := 0
 req : Nat → SReq := fun _ => {}
structure SCert where
 vote : SVote := {}
 n : Nat := 0
 sig : Nat → SSign := fun _ => {}
structure SRec where
 kind : Int := 0
 leader : Int := 0
 view : Int := 0
 slot : Int := 0
 batch : SBatch := {}
 cert : SCert := {}
 state : ByteArray := .empty
 n : Nat := 0
 sig : Nat → SSign := fun _ => {}
structure SHeld where
 batch : SBatch := {}
 cert : SCert := {}
structure SEnv where
 src : Int := 0
 body : ByteArray := .empty
 tag : List Int := []
structure SMsg where
 kind : Int := 0
 epoch : Int := 0
 leader : Int := 0
 view : Int := 0
 slot : Int := 0
 batch : SBatch := {}
 vote : SVote := {}
 cepoch : Int := 0
 cleader : Int := 0
 cview : Int := 0
 nheld : Nat := 0
 held : Nat → SHeld := fun _ => {}
 nnews : Nat := 0
 news : Nat → SEnv := fun _ => {}
 digest : List Int := []
 cert : SCert := {}
 state : ByteArray := .empty
 n : Nat := 0
 sig : Nat → SSign := fun _ => {}
def SReq.c (r : SReq) : List V := [.int .i64 r.client, .int .i64 r.num, .str r.data, .seg .u8 16 r.tag]
def SSign.c (s : SSign) : List V := [.int .i64 s.node, .seg .u8 16 s.tag]
def SVote.c (v : SVote) : List V := [.int .i64 v.kind, .int .i64 v.epoch, .int .i64 v.view, .int .i64 v.slot, .seg .u8 32 v.digest]
def rq (n : Nat) (r : Nat → SReq) : V := .ros 19 n (fun i => (r i).c) false
def sg (n : Nat) (s : Nat → SSign) : V := .ros 17 n (fun i => (s i).c) false
def SBatch.c (b : SBatch) : List V := [.bool b.noop, rq b.n b.req]
def SCert.c (c : SCert) : List V := c.vote.c ++ [sg c.n c.sig]
def SRec.c (r : SRec) : List V := [.int .i64 r.kind, .int .i64 r.leader, .int .i64 r.view, .int .i64 r.slot] ++ (r.batch.c ++ (r.cert.c ++ [.str r.state, sg r.n r.sig]))
def SHeld.c (h : SHeld) : List V := h.batch.c ++ h.cert.c
def SEnv.c (e : SEnv) : List V := [.int .i64 e.src, .str e.body, .seg .u8 16 e.tag]
def hl (n : Nat) (h : Nat → SHeld) : V := .ros 39 n (fun i => (h i).c) false
def nw (n : Nat) (e : Nat → SEnv) : V := .ros 18 n (fun i => (e i).c) false
def SMsg.c (m : SMsg) : List V := [.int .i64 m.kind, .int .i64 m.epoch, .int .i64 m.leader, .int .i64 m.view, .int .i64 m.slot] ++ (m.batch.c ++ (m.vote.c ++ ([.int .i64 m.cepoch, .int .i64 m.cleader, .int .i64 m.cview, hl m.nheld m.held, nw m.nnews m.news, .seg .u8 32 m.digest] ++ (m.cert.c ++ [.str m.state, sg m.n m.sig]))))
theorem M5 {n : Int} : InR .i64 n ↔ -9223372036854775808 ≤ n ∧ n ≤ 9223372036854775807 := by
 simp [InR, IntKind.min, IntKind.max, IntKind.signed, IntKind.bits]
theorem InR8 {n : Int} : InR .u8 n ↔ 0 ≤ n ∧ n ≤ 255 := by
 simp [InR, IntKind.min, IntKind.max, IntKind.signed, IntKind.bits]
theorem T.conv {P : Program} {f : FuncId} {args args' : List V} {pre pre' : c5} {val val' : V} {post post' : c5} (h : T P f args pre val post) (ea : args = args') (ep : pre = pre') (ev : val = val') (eq : post = post') : T P f args' pre' val' post' := by
 subst ea; subst ep; subst ev; subst eq; exact h
theorem T.val {P : Program} {f : FuncId} {args : List V} {pre : c5} {val val' : V} {post : c5} (h : T P f args pre val post) (ev : val = val') : T P f args pre val' post := by
 subst ev; exact h
theorem T.le {P : Program} {f : FuncId} {args : List V} {pre : c5} {val val' : V} {post : c5} {cs : List Prop} (h : T P f args pre val post) (hl : leV [] val val' = some cs) (hc : All cs) : T P f args pre val' post := by
 intro U ρ w xs hh ha hf
 refine Calls.mono (h U ρ w xs hh ha hf) ?_
 rintro e w' ⟨x, U', ρ', he, L⟩
 exact ⟨x, U', ρ', he, Y5 (Imm.le_refl U') (fun n b hb => absurd hb List.not_mem_nil) _ _ _ _ hl hc L.val, L.heap, L.keep, L.only, L.ext⟩
theorem T.bool {P : Program} {f : FuncId} {args : List V} {pre : c5} {b b' : Bool} {post : c5} (h : T P f args pre (.bool b) post) (ev : b = b') : T P f args pre (.bool b') post := by
 subst ev; exact h
def z32 : List Int := [0, 0, 0, 0, 0, 0, 0, 0, 0, 0, 0, 0, 0, 0, 0, 0, 0, 0, 0, 0, 0, 0, 0, 0, 0, 0, 0, 0, 0, 0, 0, 0]
def z16 : List Int := [0, 0, 0, 0, 0, 0, 0, 0, 0, 0, 0, 0, 0, 0, 0, 0]
abbrev q {α : Type} (a : α) : Prop := a = a
abbrev q0 : Prop := (0 : Nat) = 0
abbrev q1 : Prop := (0 : Int) = 0
abbrev q2 : Prop := true = true
end Sy
namespace Sy
open Go
variable {P : Program}
theorem K1 {d : Nat} {t : TypeId} {vs : List V} {fs : Array Field} (h : ShC P d t vs) (hu : P.underlying t = some (.struct fs)) : ∃ d', a_1 (ShC P d') fs.toList vs := by
 cases d with
 | zero => exact h.elim
 | succ d => rw [ShC, hu] at h; exact ⟨d, h⟩
theorem al_ {d : Nat} {t e : TypeId} {vs : List V} (h : ShC P d t vs) (hu : P.underlying t = some (.slice e)) : ∃ d' len f, vs = [.ros (P.cellsOf e) len f false] ∧ len ≤ maxLen ∧ ∀ i, i < len → ShC P d' e (f i) := by
 cases d with
 | zero => exact h.elim
 | succ d => rw [ShC, hu] at h; obtain ⟨len, f, h1, h2, h3⟩ := h; exact ⟨d, len, f, h1, h2, h3⟩
theorem F0 {d : Nat} {t : TypeId} {vs : List V} {k : IntKind} (h : ShC P d t vs) (hu : P.underlying t = some (.int k)) : ∃ n, vs = [.int k n] ∧ InR k n := by
 cases d with
 | zero => exact h.elim
 | succ d => rw [ShC, hu] at h; exact h
theorem ca3 {d : Nat} {t : TypeId} {vs : List V} (h : ShC P d t vs) (hu : P.underlying t = some .bool) : ∃ b, vs = [.bool b] := by
 cases d with
 | zero => exact h.elim
 | succ d => rw [ShC, hu] at h; exact h
theorem aC9 {d : Nat} {t : TypeId} {vs : List V} (h : ShC P d t vs) (hu : P.underlying t = some .string) : ∃ s : ByteArray, vs = [.str s] ∧ s.size ≤ maxLen := by
 cases d with
 | zero => exact h.elim
 | succ d => rw [ShC, hu] at h; exact h
theorem aC8 {d : Nat} {t e : TypeId} {n : Nat} {k : IntKind} {vs : List V} (h : ShC P d t vs) (hu : P.underlying t = some (.array n e)) (he : P.underlying e = some (.int k)) : ∃ xs, vs = [.seg k n xs] ∧ xs.length = n ∧ ∀ x ∈ xs, InR k x := by
 cases d with
 | zero => exact h.elim
 | succ d =>
  rw [ShC, hu] at h
  obtain ⟨k', xs, h1, h2, h3, h4⟩ := h
  rw [he] at h1; cases h1
  exact ⟨xs, h2, h3, h4⟩
def u5 (U : Imm) (a b : List V) : Prop := ∀ l, i8 U Env.none a l → i8 U Env.none b l
theorem u5.refl (U : Imm) (a : List V) : u5 U a a := fun _ h => h
theorem u5.app {U : Imm} {a a' b b' : List V} (h1 : u5 U a a') (h2 : u5 U b b') : u5 U (a ++ b) (a' ++ b') := fun l h => by
 obtain ⟨la, lb, rfl, h3, h4⟩ := p6.1 h
 exact p6.2 ⟨la, lb, rfl, h1 _ h3, h2 _ h4⟩
theorem bw6 {U : Imm} {ρ : Env} {es n : Nat} {f g : Nat → List V} {c : Bool} (h : ∀ i, i < n → u5 U (f i) (g i)) {x : Value} (hx : e9 U ρ (.ros es n f c) x) : e9 U ρ (.ros es n g c) x := by
 rw [e9] at hx ⊢
 obtain ⟨a, cp, h1, h2, h3, h4⟩ := hx
 refine ⟨a, cp, h1, h2, h3, fun i hi => ?_⟩
 obtain ⟨b, base, c0, g1, g2, l, g3, g4⟩ := h4 i hi
 exact ⟨b, base, c0, g1, g2, l, h i hi l g3, g4⟩
theorem u5.ros {U : Imm} {es n : Nat} {f g : Nat → List V} {c : Bool} (h : ∀ i, i < n → u5 U (f i) (g i)) : u5 U [.ros es n f c] [.ros es n g c] := fun l hl => by
 obtain ⟨x, r, rfl, h1, h2⟩ := (A9 rfl).1 hl
 exact (A9 rfl).2 ⟨x, r, rfl, bw6 h h1, h2⟩
def bE5 (P : Program) (t : TypeId) : Bool := match P.underlying t with
 | some .bool => true
 | some (.int _) => true
 | some .string => true
 | some (.slice _) => true
 | _ => false
theorem bO_ {W : World} {base : Nat} {t : TypeId} {v : Value} (h : Value.okWide P W .any base t v) (ho : bE5 P t = true) : v.cells.toList = [v] := by
 unfold bE5 at ho
 cases v <;> first | rfl | skip
 rename_i cs
 exfalso
 split at ho <;> first | (cases ho; done) | skip
 all_goals
  rename_i hu
  simp [Value.okWide, hu, Cell.okWide, Cell.ok] at h
theorem au2 {W : World} {base : Nat} {ps : Array TypeId} {args : Array Value} (hval : ∀ (j : Nat) t v, ps[j]? = some t → args[j]? = some v → Value.okWide P W .any base t v) {j : Nat} {t : TypeId} {v : Value} (h1 : ps[j]? = some t) (h2 : args[j]? = some v) (ho : bE5 P t = true) : v.cells.toList = [v] :=
 bO_ (hval j t v h1 h2) ho
theorem ba1 {W : World} {base : Nat} {t : TypeId} {fs : Array Field} {v : Value} (h : Value.okWide P W .any base t v) (hu : P.underlying t = some (.struct fs)) : ∃ cs, v = .agg cs := by
 unfold Value.okWide at h
 rw [hu] at h
 obtain ⟨cs, h1, _⟩ := h
 exact ⟨cs, h1⟩
theorem aV6 {W : World} {base : Nat} {ps : Array TypeId} {args : Array Value} (hval : ∀ (j : Nat) t v, ps[j]? = some t → args[j]? = some v → Value.okWide P W .any base t v) {j : Nat} {t : TypeId} {fs : Array Field} {v : Value} (h1 : ps[j]? = some t) (h2 : args[j]? = some v) (hu : P.underlying t = some (.struct fs)) : ∃ cs, v = .agg cs :=
 ba1 (hval j t v h1 h2) hu
theorem au1 {U : Imm} {u : V} {v : Value} (hu : u.cell = true) (hv : v.cells.toList = [v]) (h : i8 U Env.none [u] v.cells.toList) : e9 U Env.none u v := by
 rw [hv] at h
 obtain ⟨x, l, h1, h2, h3⟩ := (A9 hu).1 h
 cases h1
 exact h2
theorem bw5 {U : Imm} {vs : List V} {cs : Array Value} (h : i8 U Env.none vs (Value.agg cs).cells.toList) : e9 U Env.none (.agg vs) (.agg cs) := by
 rw [e9]; exact ⟨cs, rfl, h⟩
theorem af6 {α : Type} [Inhabited α] {n : Nat} {p : Nat → α → Prop} (h : ∀ i, i < n → ∃ a, p i a) : ∃ f : Nat → α, ∀ i, i < n → p i (f i) := by
 classical
 refine ⟨fun i => if hi : i < n then Classical.choose (h i hi) else default, fun i hi => ?_⟩
 simp only [dif_pos hi]
 exact Classical.choose_spec (h i hi)
instance : Inhabited SSign := ⟨{}⟩
instance : Inhabited SReq := ⟨{}⟩
instance : Inhabited SRec := ⟨{}⟩
instance : Inhabited SHeld := ⟨{}⟩
instance : Inhabited SEnv := ⟨{}⟩
end Sy
namespace Sy
open Go
theorem aH9 (p : Nat → Prop) : ∀ n, (∀ k, k < n → p k) ∨ ∃ m, m < n ∧ (∀ k, k < m → p k) ∧ ¬ p m
 | 0 => .inl fun k h => absurd h (Nat.not_lt_zero k)
 | n + 1 => by
  rcases aH9 p n with h | ⟨m, h1, h2, h3⟩
  ·by_cases hp : p n
   ·exact .inl fun k hk => by
     rcases Nat.lt_or_ge k n with h1 | h1
     ·exact h k h1
     ·obtain rfl : k = n := by omega
      exact hp
   ·exact .inr ⟨n, Nat.lt_succ_self n, h, hp⟩
  ·exact .inr ⟨m, Nat.lt_succ_of_lt h1, h2, h3⟩
theorem aS3 {P : Program} {ro : Option Nat} {p : Nat} {c : Code} {I : Nat → St} {F : Nat → St} {e : Nat → Exit} {x : Exit} {G : St} {n : Nat} {q : Nat → Prop}
  (step : ∀ k, k < n → q k → R P ro p c (I k) .normal (I (k + 1))) (bad : ∀ k, k < n → ¬ q k → R P ro p c (I k) (e k) (F k)) (he : ∀ k, e k ≠ .normal) (out : R P ro p c (I n) x G) (hx : x ≠ .normal) :
  ((∀ k, k < n → q k) ∧ i5 P ro p c (n + 1) (I 0) x G) ∨ ∃ m, m < n ∧ (∀ k, k < m → q k) ∧ ¬ q m ∧ i5 P ro p c (m + 1) (I 0) (e m) (F m) := by
 rcases aH9 q n with h | ⟨m, h1, h2, h3⟩
 ·exact .inl ⟨h, i5.inv I n (fun k hk => step k hk (h k hk)) out hx⟩
 ·exact .inr ⟨m, h1, h2, h3, i5.inv I m (fun k hk => step k (by omega) (h2 k hk)) (bad m h1 h3) (he m)⟩
end Sy
namespace Sy
theorem bM3 {b : Bool} (h : b = true) : (!b) = false := by subst h; rfl
theorem cw9 {b : Bool} (h : ¬ b = true) : (!b) = true := by rw [Bool.eq_false_iff.mpr h]; rfl
end Sy
namespace Sy
end Sy
namespace Sy
open Go
theorem T.args {P : Program} {f : FuncId} {args args' : List V} {pre : c5} {val : V} {post : c5} {cs : List Prop} (h : T P f args pre val post) (hl : V0 [] args' args = some cs) (hc : All cs) : T P f args' pre val post := by
 intro U ρ w xs hh ha hf
 exact h U ρ w xs hh (T9 (Imm.le_refl U) (fun n b hb => absurd hb List.not_mem_nil) _ _ _ _ hl hc ha) hf
end Sy
namespace Sy
open Go
def G3 (v : V) : Prop := ∀ U U' ρ x, e9 U ρ v x → e9 U' ρ v x
def Z4 (b : B) : Prop := ∀ U U' ρ sz o, z6 U ρ sz b o → z6 U' ρ sz b o
theorem G3.int (k : IntKind) (n : Int) : G3 (.int k n) := fun _ _ _ _ h => by rw [e9] at h ⊢; exact h
theorem G3.bool (b : Bool) : G3 (.bool b) := fun _ _ _ _ h => by rw [e9] at h ⊢; exact h
theorem G3.snil : G3 .snil := fun _ _ _ _ h => by rw [e9] at h ⊢; exact h
theorem G3.sl (n : Nm) (es i o j len : Nat) (cap : Option Nat) : G3 (.sl n es i o j len cap) := fun _ _ _ _ h => by rw [e9] at h ⊢; exact h
theorem G3.ptr (n : Nm) (es i o j : Nat) : G3 (.ptr n es i o j) := fun _ _ _ _ h => by rw [e9] at h ⊢; exact h
theorem T.lendG {P : Program} {f : FuncId} {args args' : List V} {pre post : c5} {val : V} {cs : List Prop} (h : T P f args [] val post) (hl : V0 pre args' args = some cs) (hc : All cs)
  (hv : G3 val) (hp : ∀ q ∈ post, Z4 q.2) (hd : ∀ n, c5.dom post n → ¬ c5.dom pre n) : T P f args' pre val (post ++ pre) := by
 intro U ρ w xs hh ha hf
 have hfU : ∀ n b l, (n, b) ∈ pre → ρ n = some l → l.real = true → U l.blk = none := fun n b l hm e hr => by
  obtain ⟨_, _, _, h⟩ := hh.real hm e hr; exact h
 have hU : U.le (freeze U ρ pre w) := fun k c e => by
  unfold freeze
  split
  ·rename_i hx
   obtain ⟨n, b, l, h1, h2, h3, rfl⟩ := hx
   rw [hfU n b l h1 h2 h3] at e; cases e
  ·exact e
 have hF : N6 U (freeze U ρ pre w) ρ pre := fun n b hm l e hr => by
  have hex : ∃ n b l', (n, b) ∈ pre ∧ ρ n = some l' ∧ l'.real = true ∧ l'.blk = l.blk := ⟨n, b, l, hm, e, hr, rfl⟩
  obtain ⟨o, h1, h2, h3⟩ := hh.real hm e hr
  constructor
  ·rintro cs rfl
   obtain ⟨c, el, lo, hi, rfl, _, _, h4⟩ := h2
   exact ⟨c, by unfold freeze; rw [if_pos hex, h1], h4⟩
  ·rintro es m f g rfl
   obtain ⟨c, el, lo, hi, rfl, _, _, _, _, h4⟩ := h2
   exact ⟨c, by unfold freeze; rw [if_pos hex, h1], h4⟩
 have h0 : HRel (freeze U ρ pre w) ρ [] w := by
  refine ⟨fun n b hm => absurd hm List.not_mem_nil, fun n b n' b' l l' hm => absurd hm List.not_mem_nil, List.nodup_nil, fun k c hk => ?_⟩
  unfold freeze at hk
  split at hk
  ·split at hk
   ·rename_i c' el fr hx
    simp only [Option.some.injEq] at hk; subst hk
    exact ⟨el, fr, hx⟩
   ·cases hk
  ·exact hh.imm k c hk
 have hnone : ∀ n, c5.dom post n → ρ n = none := fun n hn => (hf n (m8.2 (.inl hn))).resolve_left (hd n hn)
 refine Calls.mono (h _ ρ w xs h0 (T9 hU hF _ _ _ _ hl hc ha) fun n hn => .inr (hnone n hn)) ?_
 rintro e w' ⟨x, U', ρ', he, L⟩
 have hk : ∀ k, k < w.heap.size → w'.heap[k]? = w.heap[k]? := fun k hk => L.ext.frame k hk fun n l ⟨b, hb⟩ => absurd hb List.not_mem_nil
 have hUU : U.le U' := Imm.le_trans hU L.ext.imm
 have hpp : ∀ n, post.dom n → Env.both post ρ' ρ n = ρ' n := fun n h => by simp [Env.both, h]
 have hqq : ∀ n, ¬ post.dom n → Env.both post ρ' ρ n = ρ n := fun n h => by simp [Env.both, h]
 have hle' : ρ'.le (Env.both post ρ' ρ) := fun n l e => by
  by_cases h : post.dom n
  ·rw [hpp n h]; exact e
  ·rw [hqq n h]; exact (L.only n l e).resolve_left h
 have hle : ρ.le (Env.both post ρ' ρ) := fun n l e => by
  by_cases h : post.dom n
  ·rw [hnone n h] at e; cases e
  ·rw [hqq n h]; exact e
 have hnp : ∀ n, c5.dom pre n → ¬ c5.dom post n := fun n h h' => hd n h' h
 have hnew : ∀ n b l, (n, b) ∈ post → ρ' n = some l → l.real = true → w.heap.size ≤ l.blk := fun n b l hm e hr => by
  rcases L.ext.new n l ⟨b, hm⟩ e hr with h | ⟨n0, _, ⟨b0, hb0⟩, _⟩
  ·exact h
  ·exact absurd hb0 List.not_mem_nil
 have hold : ∀ n b l, (n, b) ∈ pre → ρ n = some l → l.real = true → l.blk < w.heap.size := fun n b l hm e hr => by
  obtain ⟨o, h1, _⟩ := hh.real hm e hr; exact C5 h1
 refine ⟨x, U, Env.both post ρ' ρ, he, ⟨e9.mono (Imm.le_refl _) hle' (hv _ _ _ _ L.val), ⟨fun n b hm => ?_, fun n b n' b' l l' m m' e1 e2 r1 r2 e3 => ?_, ?_, fun k c e => ?_⟩, fun n l hn e => ?_, fun n l e => ?_,
  ⟨L.ext.size, Imm.le_refl _, fun k hk' _ => hk k hk', fun n l hn e hr => ?_, fun b c e => .inl e, L.ext.out⟩⟩⟩
 ·rcases List.mem_append.1 hm with hm | hm
  ·obtain ⟨l, g1, g2⟩ := L.heap.blk n b hm
   refine ⟨l, by rw [hpp n ⟨b, hm⟩]; exact g1, ?_⟩
   rcases g2 with ⟨hr, o, g3, g4, g5⟩ | g2
   ·refine .inl ⟨hr, o, g3, z6.mono (Imm.le_refl _) hle' (hp _ hm _ U _ _ _ g4), ?_⟩
    cases hUl : U l.blk with
    | none => rfl
    | some c => rw [hUU _ _ hUl] at g5; cases g5
   ·exact .inr g2
  ·obtain ⟨l, g1, g2⟩ := hh.blk n b hm
   refine ⟨l, by rw [hqq n (hnp n ⟨b, hm⟩)]; exact g1, ?_⟩
   rcases g2 with ⟨hr, o, g3, g4, g5⟩ | g2
   ·exact .inl ⟨hr, o, by rw [hk _ (C5 g3)]; exact g3, z6.mono (Imm.le_refl _) hle g4, g5⟩
   ·exact .inr g2
 ·rcases List.mem_append.1 m with m | m <;> rcases List.mem_append.1 m' with m' | m'
  ·rw [hpp n ⟨b, m⟩] at e1; rw [hpp n' ⟨b', m'⟩] at e2
   exact L.heap.inj n b n' b' l l' m m' e1 e2 r1 r2 e3
  ·rw [hpp n ⟨b, m⟩] at e1; rw [hqq n' (hnp n' ⟨b', m'⟩)] at e2
   have h1 := hnew n b l m e1 r1; have h2 := hold n' b' l' m' e2 r2; omega
  ·rw [hqq n (hnp n ⟨b, m⟩)] at e1; rw [hpp n' ⟨b', m'⟩] at e2
   have h1 := hnew n' b' l' m' e2 r2; have h2 := hold n b l m e1 r1; omega
  ·rw [hqq n (hnp n ⟨b, m⟩)] at e1; rw [hqq n' (hnp n' ⟨b', m'⟩)] at e2
   exact hh.inj n b n' b' l l' m m' e1 e2 r1 r2 e3
 ·rw [List.map_append, List.nodup_append]
  refine ⟨L.heap.nd, hh.nd, fun n hn n' hn' e => ?_⟩
  subst e
  obtain ⟨⟨_, b⟩, hb, rfl⟩ := List.mem_map.1 hn
  obtain ⟨⟨m, b'⟩, hb', e⟩ := List.mem_map.1 hn'
  cases e
  exact hd _ ⟨b, hb⟩ ⟨b', hb'⟩
 ·obtain ⟨el, fr, g⟩ := hh.imm k c e
  exact ⟨el, fr, by rw [hk _ (C5 g)]; exact g⟩
 ·exact hle n l e
 ·by_cases h : post.dom n
  ·exact .inl (m8.2 (.inl h))
  ·rw [hqq n h] at e; exact .inr e
 ·rcases m8.1 hn with ⟨b, hb⟩ | ⟨b, hb⟩
  ·rw [hpp n ⟨b, hb⟩] at e
   exact .inl (hnew n b l hb e hr)
  ·rw [hqq n (hnp n ⟨b, hb⟩)] at e
   exact .inr ⟨n, l, ⟨b, hb⟩, e, hr, rfl⟩
def aG2 (dr : c5) : c5 → c5 → Option (List Prop)
 | [], h => match h with
  | [] => some []
  | _ => none
 | p :: r, h => match h with
  | [] => none
  | q :: s => bif p.1.beq q.1 then match leB dr p.2 q.2 with
   | some c1 => match aG2 dr r s with
    | some c2 => some (c1 ++ c2)
    | none => none
   | none => none
   else none
theorem aZ4 {dr : c5} : ∀ {h h' : c5} {cs : List Prop}, aG2 dr h h' = some cs → All cs → (h.map Prod.fst = h'.map Prod.fst) ∧ ∀ n b', (n, b') ∈ h' → ∃ b c, (n, b) ∈ h ∧ leB dr b b' = some c ∧ All c
 | [], h', cs, h, hc => by
  unfold aG2 at h
  cases h' with
  | nil => exact ⟨rfl, fun n b' hm => absurd hm List.not_mem_nil⟩
  | cons q s => cases h
 | p :: r, h', cs, h, hc => by
  unfold aG2 at h
  cases h' with
  | nil => cases h
  | cons q s =>
   simp only at h
   cases hn : p.1.beq q.1 <;> simp only [hn, cond_true, cond_false, reduceCtorEq] at h
   have e := Nm.beq_iff.1 hn
   cases h1 : leB dr p.2 q.2 with
   | none => simp [h1] at h
   | some c1 =>
    simp only [h1] at h
    cases h2 : aG2 dr r s with
    | none => simp [h2] at h
    | some c2 =>
     simp only [h2, Option.some.injEq] at h
     subst h
     obtain ⟨k1, k2⟩ := f3.1 hc
     obtain ⟨g1, g2⟩ := aZ4 h2 k2
     refine ⟨by rw [List.map_cons, List.map_cons, e, g1], fun n b' hm => ?_⟩
     rcases List.mem_cons.1 hm with hm | hm
     ·refine ⟨p.2, c1, ?_, by rw [← h1, ← hm], k1⟩
      have : n = p.1 := by rw [e, ← hm]
      rw [this]; exact List.mem_cons_self ..
     ·obtain ⟨b, c, m1, m2, m3⟩ := g2 n b' hm
      exact ⟨b, c, List.mem_cons_of_mem _ m1, m2, m3⟩
theorem T8 {h : c5} {n : Nm} : h.dom n ↔ n ∈ h.map Prod.fst := by
 constructor
 ·rintro ⟨b, hb⟩; exact List.mem_map.2 ⟨_, hb, rfl⟩
 ·intro hm
  obtain ⟨⟨_, b⟩, hb, rfl⟩ := List.mem_map.1 hm
  exact ⟨b, hb⟩
theorem T.lendH {P : Program} {f : FuncId} {args args' : List V} {pre0 pre0' pre1 post : c5} {val : V} {cs cs2 : List Prop} (h : T P f args pre0 val post) (hl : V0 pre1 args' args = some cs) (hc : All cs)
  (hb : aG2 pre1 pre0' pre0 = some cs2) (hc2 : All cs2) (hv : G3 val) (hp : ∀ q ∈ post, Z4 q.2) (hd : ∀ n, c5.dom post n → ¬ c5.dom pre1 n) : T P f args' (pre0' ++ pre1) val (post ++ pre1) := by
 intro U ρ w xs hh ha hf
 obtain ⟨en, eb⟩ := aZ4 hb hc2
 have hdm : ∀ n, c5.dom pre0 n ↔ c5.dom pre0' n := fun n => by rw [T8, T8, en]
 have hhl := hh.left
 have hhr := hh.right
 have hdis : ∀ n, c5.dom pre0' n → ¬ c5.dom pre1 n := fun n h1 h2 => by
  have := hh.nd
  rw [List.map_append, List.nodup_append] at this
  exact this.2.2 n (T8.1 h1) n (T8.1 h2) rfl
 have hfU : ∀ n b l, (n, b) ∈ pre1 → ρ n = some l → l.real = true → U l.blk = none := fun n b l hm e hr => by
  obtain ⟨_, _, _, h⟩ := hhr.real hm e hr; exact h
 have hU : U.le (freeze U ρ pre1 w) := fun k c e => by
  unfold freeze
  split
  ·rename_i hx
   obtain ⟨n, b, l, h1, h2, h3, rfl⟩ := hx
   rw [hfU n b l h1 h2 h3] at e; cases e
  ·exact e
 have hF : N6 U (freeze U ρ pre1 w) ρ pre1 := fun n b hm l e hr => by
  have hex : ∃ n b l', (n, b) ∈ pre1 ∧ ρ n = some l' ∧ l'.real = true ∧ l'.blk = l.blk := ⟨n, b, l, hm, e, hr, rfl⟩
  obtain ⟨o, h1, h2, h3⟩ := hhr.real hm e hr
  constructor
  ·rintro cs rfl
   obtain ⟨c, el, lo, hi, rfl, _, _, h4⟩ := h2
   exact ⟨c, by unfold freeze; rw [if_pos hex, h1], h4⟩
  ·rintro es m f g rfl
   obtain ⟨c, el, lo, hi, rfl, _, _, _, _, h4⟩ := h2
   exact ⟨c, by unfold freeze; rw [if_pos hex, h1], h4⟩
 have h0 : HRel (freeze U ρ pre1 w) ρ pre0 w := by
  refine ⟨fun n b' hm => ?_, fun n b n' b' l l' m m' => ?_, by rw [← en]; exact hhl.nd, fun k c hk => ?_⟩
  ·obtain ⟨b, c, m1, m2, m3⟩ := eb n b' hm
   obtain ⟨l, g1, g2⟩ := hhl.blk n b m1
   refine ⟨l, g1, ?_⟩
   rcases g2 with ⟨hr, o, g3, g4, g5⟩ | ⟨hr, es, f0, rfl⟩
   ·refine .inl ⟨hr, o, g3, bq9 hU hF m2 m3 g4, ?_⟩
    unfold freeze
    rw [if_neg]
    ·exact g5
    ·rintro ⟨n1, b1, l1, k1, k2, k3, k4⟩
     have := hh.inj n b n1 b1 l l1 (List.mem_append_left _ m1) (List.mem_append_right _ k1) g1 k2 hr k3 k4.symm
     subst this
     exact hdis n ⟨b, m1⟩ ⟨b1, k1⟩
   ·refine .inr ⟨hr, ?_⟩
    cases b' <;> simp only [leB, reduceCtorEq] at m2
    rename_i es' n' f' g'
    cases hes : Nat.beq es es' <;> simp only [hes, cond_true, cond_false, reduceCtorEq, Option.some.injEq] at m2
    subst m2
    obtain ⟨q1, _, q3, _⟩ := m3
    subst q1
    cases g' with
    | true => exact ⟨es', f', rfl⟩
    | false => exact absurd (q3 rfl) (by decide)
  ·obtain ⟨b0, c0, m0, _⟩ := eb n b m
   obtain ⟨b1, c1, m1, _⟩ := eb n' b' m'
   exact hhl.inj n b0 n' b1 l l' m0 m1
  ·unfold freeze at hk
   split at hk
   ·split at hk
    ·rename_i c' el fr hx
     simp only [Option.some.injEq] at hk; subst hk
     exact ⟨el, fr, hx⟩
    ·cases hk
   ·exact hh.imm k c hk
 have hnone : ∀ n, c5.dom post n → c5.dom pre0 n ∨ ρ n = none := fun n hn => by
  rcases hf n (m8.2 (.inl hn)) with h1 | h1
  ·rcases m8.1 h1 with h1 | h1
   ·exact .inl ((hdm n).2 h1)
   ·exact absurd h1 (hd n hn)
  ·exact .inr h1
 refine Calls.mono (h _ ρ w xs h0 (T9 hU hF _ _ _ _ hl hc ha) hnone) ?_
 rintro e w' ⟨x, U', ρ', he, L⟩
 have hold : ∀ n b l, (n, b) ∈ pre1 → ρ n = some l → l.real = true → l.blk < w.heap.size := fun n b l hm e hr => by
  obtain ⟨o, h1, _⟩ := hhr.real hm e hr; exact C5 h1
 have hk1 : ∀ n b l, (n, b) ∈ pre1 → ρ n = some l → l.real = true → w'.heap[l.blk]? = w.heap[l.blk]? := fun n b l hm e hr => by
  refine L.ext.frame _ (hold n b l hm e hr) fun n0 l0 hd0 e0 hr0 he0 => ?_
  obtain ⟨b0, hb0⟩ := (hdm n0).1 hd0
  have := hh.inj n0 b0 n b l0 l (List.mem_append_left _ hb0) (List.mem_append_right _ hm) e0 e hr0 hr he0
  subst this
  exact hdis n0 ⟨b0, hb0⟩ ⟨b, hm⟩
 have hUU : U.le U' := Imm.le_trans hU L.ext.imm
 have hpp : ∀ n, post.dom n → Env.both post ρ' ρ n = ρ' n := fun n h => by simp [Env.both, h]
 have hqq : ∀ n, ¬ post.dom n → Env.both post ρ' ρ n = ρ n := fun n h => by simp [Env.both, h]
 have hle' : ρ'.le (Env.both post ρ' ρ) := fun n l e => by
  by_cases h : post.dom n
  ·rw [hpp n h]; exact e
  ·rw [hqq n h]; exact (L.only n l e).resolve_left h
 have hle : ρ.le (Env.both post ρ' ρ) := fun n l e => by
  by_cases h : post.dom n
  ·rw [hpp n h]; exact L.keep n l h e
  ·rw [hqq n h]; exact e
 have hnp : ∀ n, c5.dom pre1 n → ¬ c5.dom post n := fun n h h' => hd n h' h
 have cross : ∀ n b n' b' l l', (n, b) ∈ post → (n', b') ∈ pre1 → ρ' n = some l → ρ n' = some l' → l.real = true → l'.real = true → l.blk = l'.blk → False := fun n b n' b' l l' m m' e1 e2 r1 r2 e3 => by
  rcases L.ext.new n l ⟨b, m⟩ e1 r1 with h | ⟨n0, l0, hd0, e0, hr0, he0⟩
  ·have := hold n' b' l' m' e2 r2; omega
  ·obtain ⟨b0, hb0⟩ := (hdm n0).1 hd0
   have := hh.inj n0 b0 n' b' l0 l' (List.mem_append_left _ hb0) (List.mem_append_right _ m') e0 e2 hr0 r2 (he0.trans e3)
   subst this
   exact hdis n0 ⟨b0, hb0⟩ ⟨b', m'⟩
 refine ⟨x, U, Env.both post ρ' ρ, he, ⟨e9.mono (Imm.le_refl _) hle' (hv _ _ _ _ L.val), ⟨fun n b hm => ?_, fun n b n' b' l l' m m' e1 e2 r1 r2 e3 => ?_, ?_, fun k c e => ?_⟩, fun n l hn e => ?_, fun n l e => ?_,
  ⟨L.ext.size, Imm.le_refl _, fun k hk' hk2 => L.ext.frame k hk' fun n l hd0 e hr => hk2 n l (m8.2 (.inl ((hdm n).1 hd0))) e hr, fun n l hn e hr => ?_, fun b c e => .inl e, L.ext.out⟩⟩⟩
 ·rcases List.mem_append.1 hm with hm | hm
  ·obtain ⟨l, g1, g2⟩ := L.heap.blk n b hm
   refine ⟨l, by rw [hpp n ⟨b, hm⟩]; exact g1, ?_⟩
   rcases g2 with ⟨hr, o, g3, g4, g5⟩ | g2
   ·refine .inl ⟨hr, o, g3, z6.mono (Imm.le_refl _) hle' (hp _ hm _ U _ _ _ g4), ?_⟩
    cases hUl : U l.blk with
    | none => rfl
    | some c => rw [hUU _ _ hUl] at g5; cases g5
   ·exact .inr g2
  ·obtain ⟨l, g1, g2⟩ := hhr.blk n b hm
   refine ⟨l, by rw [hqq n (hnp n ⟨b, hm⟩)]; exact g1, ?_⟩
   rcases g2 with ⟨hr, o, g3, g4, g5⟩ | g2
   ·exact .inl ⟨hr, o, by rw [hk1 n b l hm g1 hr]; exact g3, z6.mono (Imm.le_refl _) hle g4, g5⟩
   ·exact .inr g2
 ·rcases List.mem_append.1 m with m | m <;> rcases List.mem_append.1 m' with m' | m'
  ·rw [hpp n ⟨b, m⟩] at e1; rw [hpp n' ⟨b', m'⟩] at e2
   exact L.heap.inj n b n' b' l l' m m' e1 e2 r1 r2 e3
  ·rw [hpp n ⟨b, m⟩] at e1; rw [hqq n' (hnp n' ⟨b', m'⟩)] at e2
   exact (cross n b n' b' l l' m m' e1 e2 r1 r2 e3).elim
  ·rw [hqq n (hnp n ⟨b, m⟩)] at e1; rw [hpp n' ⟨b', m'⟩] at e2
   exact (cross n' b' n b l' l m' m e2 e1 r2 r1 e3.symm).elim
  ·rw [hqq n (hnp n ⟨b, m⟩)] at e1; rw [hqq n' (hnp n' ⟨b', m'⟩)] at e2
   exact hhr.inj n b n' b' l l' m m' e1 e2 r1 r2 e3
 ·rw [List.map_append, List.nodup_append]
  refine ⟨L.heap.nd, hhr.nd, fun n hn n' hn' e => ?_⟩
  subst e
  exact hd _ (T8.2 hn) (T8.2 hn')
 ·obtain ⟨el, fr, g⟩ := L.heap.imm k c (hUU k c e)
  exact ⟨el, fr, g⟩
 ·exact hle n l e
 ·by_cases h : post.dom n
  ·exact .inl (m8.2 (.inl h))
  ·rw [hqq n h] at e; exact .inr e
 ·rcases m8.1 hn with ⟨b, hb⟩ | ⟨b, hb⟩
  ·rw [hpp n ⟨b, hb⟩] at e
   rcases L.ext.new n l ⟨b, hb⟩ e hr with h | ⟨n0, l0, hd0, h2⟩
   ·exact .inl h
   ·exact .inr ⟨n0, l0, m8.2 (.inl ((hdm n0).1 hd0)), h2⟩
  ·rw [hqq n (hnp n ⟨b, hb⟩)] at e
   exact .inr ⟨n, l, m8.2 (.inr ⟨b, hb⟩), e, hr, rfl⟩
theorem Z4.cells {cs : List V} (h : ∀ U U' ρ x, i8 U ρ cs x → i8 U' ρ cs x) : Z4 (.flat cs) := fun U U' ρ sz o hb => by
 obtain ⟨c, el, lo, hi, h1, h2, h3, h4⟩ := hb
 exact ⟨c, el, lo, hi, h1, h2, h3, h _ _ _ _ h4⟩
theorem G3.tup0 : G3 (.tup []) := fun U U' ρ x h => by
 rw [e9] at h ⊢
 obtain ⟨l, rfl, h⟩ := h
 exact ⟨l, rfl, by rw [j1] at h ⊢; exact h⟩
def V.fre : V → Bool
 | .seg .. | .int .. | .bool _ | .sl .. | .ptr .. | .str _ | .mp _ | .mpnil | .snil | .pnil => true
 | _ => false
def aA7 : List V → Bool
 | [] => true
 | v :: r => v.fre && aA7 r
theorem av6 : ∀ {cs : List V}, aA7 cs = true → ∀ U U' ρ x, i8 U ρ cs x → i8 U' ρ cs x
 | [], _, U, U', ρ, x, h => by rw [i8] at h ⊢; exact h
 | v :: r, hf, U, U', ρ, x, h => by
  rw [aA7, Bool.and_eq_true] at hf
  rw [i8] at h ⊢
  obtain ⟨l1, l2, rfl, h1, h2⟩ := h
  refine ⟨l1, l2, rfl, ?_, av6 hf.2 _ _ _ _ h2⟩
  rcases h1 with h1 | ⟨hc, y, rfl, hy⟩
  ·exact .inl h1
  ·refine .inr ⟨hc, y, rfl, ?_⟩
   cases v <;> first
    | (rw [e9] at hy ⊢; exact hy)
    | exact absurd hf.1 (by simp [V.fre])
theorem Z4.flat {cs : List V} (h : aA7 cs = true) : Z4 (.flat cs) := Z4.cells (av6 h)
theorem G3.agg {cs : List V} (h : aA7 cs = true) : G3 (.agg cs) := fun U U' ρ x hx => by
 rw [e9] at hx ⊢
 obtain ⟨l, rfl, h1⟩ := hx
 exact ⟨l, rfl, av6 h _ _ _ _ h1⟩
end Sy
namespace Go.Proofs.YtnmccoincblecaaGreat
open Go Sy Go.Proofs
noncomputable abbrev zp : Program := Tryz.prog
theorem MO : Tryz.prog.follows .mixedOrders = true := by kernel_rfl
def ngB (P : Program) : Bool := P.funcs.toList.all fun fn => !fn.body.isSome || !(fn.name == "runtime.NumGoroutine")
theorem cq5 {P : Program} (h : ngB P = true) : S9 P := by
 intro f fn hf hb
 have := List.all_eq_true.1 h fn (by
  rw [← Array.getElem?_toList] at hf
  exact List.mem_of_getElem? hf)
 rw [hb] at this; simpa using this
theorem NG : S9 Tryz.prog := cq5 (by kernel_rfl)
theorem f5 {f : FuncId} {b : Bd} {path : List Bool} {val : V} {post : c5} {cs : List Prop} (h : f4 Tryz.prog b path = some (val, post, cs)) (hf : Tryz.prog.funcs[f]? = some b.f) (hc : All cs) (hb : b.f.body = some (f8 b.f) := by kernel_rfl) (hpin : aa_ b.base b.pre := by exact O1 (by kernel_rfl)) (hargs : V.withins (Nm.pin b.base) b.args = true := by kernel_rfl) : T Tryz.prog f b.args b.pre val post :=
 T5 NG MO path h hf hb hc hpin hargs
def kb0 : Kb := { db := fun _ _ _ _ => [] }
def bL_ : List (Nat × (List V → c5 → Nat → List Cl)) → Nat → Option (List V → c5 → Nat → List Cl)
 | [], _ => none
 | p :: r, k => bif Nat.beq p.1 k then some p.2 else bL_ r k
def dbQ (l : List (Nat × (List V → c5 → Nat → List Cl))) : Nat → List V → c5 → Nat → List Cl := fun k args h lo => match bL_ l k with
 | some f => f args h lo
 | none => []
def O3 (v : V) : List V → c5 → Nat → List Cl := fun _ _ _ => [{ val := v }]
theorem at5 : ∀ (l l' : List Nm), l.Nodup → l'.Nodup → l.length = l'.length → ∃ σ τ : Nm → Nm, (∀ n, σ (τ n) = n) ∧ (∀ n, τ (σ n) = n) ∧ l.map σ = l'
 | [], [], _, _, _ => ⟨id, id, fun _ => rfl, fun _ => rfl, rfl⟩
 | a :: l, a' :: l', h, h', hl => by
  rw [List.nodup_cons] at h h'
  obtain ⟨σ, τ, h1, h2, h3⟩ := at5 l l' h.2 h'.2 (by simpa using hl)
  refine ⟨fun n => Nm.swap (σ a) a' (σ n), fun n => τ (Nm.swap (σ a) a' n), fun n => by simp only [h1, Nm.swap_swap], fun n => by simp only [Nm.swap_swap, h2], ?_⟩
  rw [List.map_cons]
  congr 1
  ·simp [Nm.swap]
  ·rw [← h3]
   apply List.map_congr_left
   intro x hx
   have e1 : σ x ≠ σ a := fun e => h.1 (by have := congrArg τ e; rw [h2, h2] at this; exact this ▸ hx)
   have e2 : σ x ≠ a' := fun e => h'.1 (by rw [← h3, ← e]; exact List.mem_map_of_mem hx)
   simp [Nm.swap, e1, e2]
theorem T.at {P : Program} {f : FuncId} {args : List V} {pre : c5} {val : V} {post : c5} (H : T P f args pre val post) (l l' : List Nm) (h : l.Nodup) (h' : l'.Nodup) (hl : l.length = l'.length) :
  ∃ σ : Nm → Nm, l.map σ = l' ∧ T P f (V.rens σ args) (pre.ren σ) (V.ren σ val) (post.ren σ) := by
 obtain ⟨σ, τ, h1, h2, h3⟩ := at5 l l' h h' hl
 exact ⟨σ, h3, T.ren σ τ h1 h2 H⟩
def nmV : V → Nm
 | .ptr n _ _ _ _ => n
 | .sl n _ _ _ _ _ _ => n
 | _ => .g 0
noncomputable def aL9 (n more most : Int) : Bd := { f := Tryz.f51, args := [.int .i64 n, .int .i64 more, .int .i64 most], kb := kb0 }
def bl (l : List UInt8) : Nat → List V := fun i => [.int .u8 ((l.getD i 0).toNat : Int)]
def bs (l : List UInt8) : B := .rows 1 l.length (bl l) true
def sb (m : Nm) (l : List UInt8) : V := .sl m 1 0 0 0 l.length none
def i4 : Nat → Nat → List UInt8
 | 0, _ => []
 | f + 1, n => if n = 0 then [] else i4 f (n / 256) ++ [UInt8.ofNat (n % 256)]
def j8 (n : Nat) : List UInt8 := UInt8.ofNat (i4 8 n).length :: i4 8 n
def as3 (n : Nat) (k : Nat) : St := ⟨mkT 13 [(0, .int .i64 (n / 256 ^ k : Nat)), (3, .int .i64 (k + 1 : Nat))], [], 0, []⟩
noncomputable def bm2 (n m : Nat) : Bd := { f := Tryz.f80, args := [.int .i64 n], kb := { db := fun _ _ _ _ => [], lp := fun _ _ => [(True, .loop (m + 1) (wTo (as3 n 0)) (.exit 0) (as3 n m))] } }
noncomputable def bt0 (n m k : Nat) : Pc := { c := cB (cB (cL (cR (cR (cR (f8 Tryz.f80)))))), st := as3 n k, kb := kb0, k := fun e _ => match e with
 | .normal => some (wTo (as3 n (k + 1)))
 | _ => some (wTo (as3 n m)) }
def aQ9 (m : Nat) : Nat → List V → c5 → Nat → List Cl
 | 80, _, _, _ => [{ val := .int .i64 (m + 1 : Nat) }]
 | _, _, _, _ => []
def ap8 (n : Nat) (l : List UInt8) (k : Nat) : St := ⟨mkT 41 [(0, sb (.o 1) (l ++ (j8 n).take (k + 1))), (1, .int .i64 n), (5, .int .i64 (i4 8 n).length), (24, .int .i64 (i4 8 n).length), (25, .int .i64 k)], [(.o 1, bs (l ++ (j8 n).take (k + 1)))], 2, []⟩
def aS4 (n : Nat) (l : List UInt8) : Nat → St → List (Prop × Hint) := fun _ st => match r9 st.tmps 0 with
 | .sl a _ _ _ _ _ _ => [(True, .loop ((i4 8 n).length + 1) (B6 [(.o 1, a)] (ap8 n l 0)) (.exit 0) (ap8 n l (i4 8 n).length))]
 | _ => []
def be1 (n : Nat) (l : List UInt8) : Exit → St → Option W := fun _ st => some ⟨[], [(4, .set (sb (.o 1) (l ++ j8 n)))], [(.o 1, .set (bs (l ++ j8 n)))], none, st.next⟩
noncomputable def bL3 (n : Nat) (l : List UInt8) : Bd := { f := Tryz.f35, args := [sb (.o 0) l, .int .i64 n], pre := [(.o 0, bs l)], base := 1, kb := { db := aQ9 (i4 8 n).length, lp := aS4 n l }, k := be1 n l, names := fun _ => [.o 1] }
noncomputable def bl0 (n : Nat) : Bd := { f := Tryz.f35, args := [.snil, .int .i64 n], base := 1, kb := { db := aQ9 (i4 8 n).length, lp := aS4 n [] }, k := be1 n [], names := fun _ => [.o 1] }
noncomputable def bs7 (n : Nat) (l : List UInt8) (k : Nat) : Pc := { c := cB (cB (cR (cL (cR (cR (cR (cR (cR (f8 Tryz.f35))))))))), st := ap8 n l k, p := 1, kb := kb0, k := fun e st => match e with
 | .normal => match r9 st.tmps 0 with
  | .sl a _ _ _ _ _ _ => some (B6 [(.o 1, a)] (ap8 n l (k + 1)))
  | _ => none
 | _ => some (wTo (ap8 n l (i4 8 n).length)) }
theorem bm3 (n : Nat) (m : Nat) :
  f4 zp (bm2 n m) [false] = (some (.int .i64 (↑(m + 1) : Int), [], [q false, i5 zp none 0 (cB (cB (cL (cR (cR (cR (f8 (Bd.f (bm2 n m))))))))) (m + 1) (St.mk (mkT 13 [(0, .int .i64 (↑(n / 1) : Int)), (3, .int .i64 1)]) [] 0 []) (.exit 0) (St.mk (mkT 13 [(0, .int .i64 (↑(n / 256 ^ m) : Int)), (3, .int .i64 (↑(m + 1) : Int))]) [] 0 []), (↑n : Int) = (↑(n / 1) : Int), q (1 : Int)]) : Option (V × c5 × List Prop)) := by kernel_rfl
theorem bt2 (n : Nat) (m : Nat) (k : Nat) :
  i6 zp (bt0 n m k) [true] = (some (.normal, St.mk (mkT 13 [(0, .int .i64 (↑(n / 256 ^ (k + 1)) : Int)), (3, .int .i64 (↑(k + 1 + 1) : Int))]) [] 0 [], [decide ((0 : Int) < (↑(n / (256 : Nat) ^ k) : Int)) = true, InR .i64 ((↑(k + (1 : Nat)) : Int) + (1 : Int)), (0 : Int) ≤ (8 : Int) ∧ (8 : Int) ≤ (64 : Int), (↑(n / (256 : Nat) ^ k) : Int) / (256 : Int) = (↑(n / (256 : Nat) ^ (k + (1 : Nat))) : Int), (↑(k + (1 : Nat)) : Int) + (1 : Int) = (↑(k + (1 : Nat) + (1 : Nat)) : Int)]) : Option (Exit × St × List Prop)) := by kernel_rfl
theorem bt1 (n : Nat) (m : Nat) (k : Nat) :
  i6 zp (bt0 n m k) [false] = (some (.exit 0, St.mk (mkT 13 [(0, .int .i64 (↑(n / 256 ^ m) : Int)), (3, .int .i64 (↑(m + 1) : Int))]) [] 0 [], [decide ((0 : Int) < (↑(n / (256 : Nat) ^ k) : Int)) = false, (↑(n / (256 : Nat) ^ k) : Int) = (↑(n / (256 : Nat) ^ m) : Int), (↑(k + (1 : Nat)) : Int) = (↑(m + (1 : Nat)) : Int)]) : Option (Exit × St × List Prop)) := by kernel_rfl
theorem bl1 (n : Nat) :
  f4 zp (bl0 n) [false] = (some (.sl (.o 1) 1 0 0 0 (List.length ([] ++ j8 n)) none, [(.o 1, bs ([] ++ j8 n))], [(0 : Int) ≤ (0 : Int) ∧ (0 : Int) ≤ (0 : Int), (0 : Int) ≤ (0 : Int) ∧ (0 : Int) ≤ (0 : Int), q false, T zp 80 [.int .i64 ↑n] [] (.int .i64 (↑(List.length (i4 8 n) + 1) : Int)) [], InR .i64 ((↑(List.length (i4 (8 : Nat) n) + (1 : Nat)) : Int) - (1 : Int)), 1 ≤ (1 : Nat), ∀ (k : Nat), k < (1 : Nat) → s6 (j4 [[V.int .u8 (IntKind.wrap .u8 ((↑(List.length (i4 (8 : Nat) n) + (1 : Nat)) : Int) - (1 : Int)))]] ((0 : Nat) + k)) = true, 1 ≤ (140737488355328 : Nat), i5 zp none 1 (cB (cB (cR (cL (cR (cR (cR (cR (cR (f8 (Bd.f (bl0 n)))))))))))) (List.length (i4 8 n) + 1) (St.mk (mkT 41 [(0, .sl (.o 1) 1 0 0 0 1 none), (1, .int .i64 ↑n), (5, .int .i64 (↑(List.length (i4 8 n)) : Int)), (24, .int .i64 (↑(List.length (i4 8 n)) : Int)), (25, .int .i64 0)]) [(.o 1, bs ([] ++ List.take 1 (j8 n)))] 2 []) (.exit 0) (St.mk (mkT 41 [(0, .sl (.o 1) 1 0 0 0 (List.length ([] ++ List.take (List.length (i4 8 n) + 1) (j8 n))) none), (1, .int .i64 ↑n), (5, .int .i64 (↑(List.length (i4 8 n)) : Int)), (24, .int .i64 (↑(List.length (i4 8 n)) : Int)), (25, .int .i64 (↑(List.length (i4 8 n)) : Int))]) [(.o 1, bs ([] ++ List.take (List.length (i4 8 n) + 1) (j8 n)))] 2 []), q 1, ∀ (k : Nat), k < 1 → r6 (0 : Nat) (fun x => []) (fun k => j4 [[V.int .u8 (IntKind.wrap .u8 ((↑(List.length (i4 (8 : Nat) n) + (1 : Nat)) : Int) - (1 : Int)))]] ((0 : Nat) + k)) k = bl ([] ++ List.take 1 (j8 n)) k, true = false → true = false, q0, q0, q0, q 1, (none : Option Nat) = none ∨ (none : Option Nat) = none, q (↑n : Int), (↑(List.length (i4 (8 : Nat) n) + (1 : Nat)) : Int) - (1 : Int) = (↑(List.length (i4 (8 : Nat) n)) : Int), (↑(List.length (i4 (8 : Nat) n) + (1 : Nat)) : Int) - (1 : Int) = (↑(List.length (i4 (8 : Nat) n)) : Int), q1, List.length ([] ++ List.take (List.length (i4 (8 : Nat) n) + (1 : Nat)) (j8 n)) = List.length ([] ++ j8 n), ∀ (k : Nat), k < List.length ([] ++ List.take (List.length (i4 (8 : Nat) n) + (1 : Nat)) (j8 n)) → bl ([] ++ List.take (List.length (i4 (8 : Nat) n) + (1 : Nat)) (j8 n)) k = bl ([] ++ j8 n) k, true = false → true = false, q0, q0, q0, List.length ([] ++ List.take (List.length (i4 (8 : Nat) n) + (1 : Nat)) (j8 n)) = List.length ([] ++ j8 n), (none : Option Nat) = none ∨ (none : Option Nat) = none]) : Option (V × c5 × List Prop)) := by kernel_rfl
theorem bz2 (n : Nat) (l : List UInt8) :
  f4 zp (bL3 n l) [false] = (some (.sl (.o 1) 1 0 0 0 (List.length (l ++ j8 n)) none, [(.o 1, bs (l ++ j8 n))], [(0 : Int) ≤ (↑(List.length l) : Int) ∧ (↑(List.length l) : Int) ≤ (↑(List.length l) : Int), (0 : Int) ≤ (↑(List.length l) : Int) ∧ (↑(List.length l) : Int) ≤ (↑(i3 (some (↑(List.length l) : Int)) (List.length l)) : Int), q false, T zp 80 [.int .i64 ↑n] [] (.int .i64 (↑(List.length (i4 8 n) + 1) : Int)) [], InR .i64 ((↑(List.length (i4 (8 : Nat) n) + (1 : Nat)) : Int) - (1 : Int)), i3 (some (↑(List.length l) : Int)) (List.length l) - 0 = List.length l, 1 ≤ (1 : Nat), ∀ (k : Nat), k < (1 : Nat) → s6 (j4 [[V.int .u8 (IntKind.wrap .u8 ((↑(List.length (i4 (8 : Nat) n) + (1 : Nat)) : Int) - (1 : Int)))]] ((0 : Nat) + k)) = true, (i3 (some (↑(List.length l) : Int)) (List.length l) - 0 + (1 : Nat)) * (1 : Nat) ≤ (140737488355328 : Nat), i5 zp none 1 (cB (cB (cR (cL (cR (cR (cR (cR (cR (f8 (Bd.f (bL3 n l)))))))))))) (List.length (i4 8 n) + 1) (St.mk (mkT 41 [(0, .sl (.o 1) 1 0 0 0 (List.length (l ++ List.take 1 (j8 n))) none), (1, .int .i64 ↑n), (5, .int .i64 (↑(List.length (i4 8 n)) : Int)), (24, .int .i64 (↑(List.length (i4 8 n)) : Int)), (25, .int .i64 0)]) [(.o 1, bs (l ++ List.take 1 (j8 n)))] 2 []) (.exit 0) (St.mk (mkT 41 [(0, .sl (.o 1) 1 0 0 0 (List.length (l ++ List.take (List.length (i4 8 n) + 1) (j8 n))) none), (1, .int .i64 ↑n), (5, .int .i64 (↑(List.length (i4 8 n)) : Int)), (24, .int .i64 (↑(List.length (i4 8 n)) : Int)), (25, .int .i64 (↑(List.length (i4 8 n)) : Int))]) [(.o 1, bs (l ++ List.take (List.length (i4 8 n) + 1) (j8 n)))] 2 []), i3 (some (↑(List.length l) : Int)) (List.length l) - 0 + (1 : Nat) = List.length (l ++ List.take 1 (j8 n)), ∀ (k : Nat), k < i3 (some (↑(List.length l) : Int)) (List.length l) - 0 + (1 : Nat) → r6 (i3 (some (↑(List.length l) : Int)) (List.length l) - 0) (bl l) (fun k => j4 [[V.int .u8 (IntKind.wrap .u8 ((↑(List.length (i4 (8 : Nat) n) + (1 : Nat)) : Int) - (1 : Int)))]] ((0 : Nat) + k)) k = bl (l ++ List.take 1 (j8 n)) k, true = false → true = false, q0, q0, q0, i3 (some (↑(List.length l) : Int)) (List.length l) - 0 + (1 : Nat) = List.length (l ++ List.take 1 (j8 n)), (none : Option Nat) = none ∨ (none : Option Nat) = none, q (↑n : Int), (↑(List.length (i4 (8 : Nat) n) + (1 : Nat)) : Int) - (1 : Int) = (↑(List.length (i4 (8 : Nat) n)) : Int), (↑(List.length (i4 (8 : Nat) n) + (1 : Nat)) : Int) - (1 : Int) = (↑(List.length (i4 (8 : Nat) n)) : Int), q1, List.length (l ++ List.take (List.length (i4 (8 : Nat) n) + (1 : Nat)) (j8 n)) = List.length (l ++ j8 n), ∀ (k : Nat), k < List.length (l ++ List.take (List.length (i4 (8 : Nat) n) + (1 : Nat)) (j8 n)) → bl (l ++ List.take (List.length (i4 (8 : Nat) n) + (1 : Nat)) (j8 n)) k = bl (l ++ j8 n) k, true = false → true = false, q0, q0, q0, List.length (l ++ List.take (List.length (i4 (8 : Nat) n) + (1 : Nat)) (j8 n)) = List.length (l ++ j8 n), (none : Option Nat) = none ∨ (none : Option Nat) = none]) : Option (V × c5 × List Prop)) := by kernel_rfl
theorem bs9 (n : Nat) (l : List UInt8) (k : Nat) :
  i6 zp (bs7 n l k) [true] = (some (.normal, St.mk (mkT 41 [(0, .sl (.o 1) 1 0 0 0 (List.length (l ++ List.take (k + 1 + 1) (j8 n))) none), (1, .int .i64 ↑n), (5, .int .i64 (↑(List.length (i4 8 n)) : Int)), (24, .int .i64 (↑(List.length (i4 8 n)) : Int)), (25, .int .i64 (↑(k + 1) : Int))]) [(.o 1, bs (l ++ List.take (k + 1 + 1) (j8 n)))] 2 [], [decide ((↑k : Int) < (↑(List.length (i4 (8 : Nat) n)) : Int)) = true, InR .i64 ((↑(List.length (i4 (8 : Nat) n)) : Int) - (1 : Int)), InR .i64 ((↑(List.length (i4 (8 : Nat) n)) : Int) - (1 : Int) - (↑k : Int)), InR .i64 ((8 : Int) * ((↑(List.length (i4 (8 : Nat) n)) : Int) - (1 : Int) - (↑k : Int))), (0 : Int) ≤ (8 : Int) * ((↑(List.length (i4 (8 : Nat) n)) : Int) - (1 : Int) - (↑k : Int)) ∧ (8 : Int) * ((↑(List.length (i4 (8 : Nat) n)) : Int) - (1 : Int) - (↑k : Int)) ≤ (64 : Int), q (List.length (l ++ List.take (k + (1 : Nat)) (j8 n))), 1 ≤ (1 : Nat), ∀ (k_1 : Nat), k_1 < (1 : Nat) → s6 (j4 [[V.int .u8 (IntKind.wrap .u8 ((↑n : Int) / (2 : Int) ^ Int.toNat ((8 : Int) * ((↑(List.length (i4 (8 : Nat) n)) : Int) - (1 : Int) - (↑k : Int)))))]] ((0 : Nat) + k_1)) = true, (List.length (l ++ List.take (k + (1 : Nat)) (j8 n)) + (1 : Nat)) * (1 : Nat) ≤ (140737488355328 : Nat), InR .i64 ((↑k : Int) + (1 : Int)), List.length (l ++ List.take (k + (1 : Nat)) (j8 n)) + (1 : Nat) = List.length (l ++ List.take (k + (1 : Nat) + (1 : Nat)) (j8 n)), ∀ (k_1 : Nat), k_1 < List.length (l ++ List.take (k + (1 : Nat)) (j8 n)) + (1 : Nat) → r6 (List.length (l ++ List.take (k + (1 : Nat)) (j8 n))) (bl (l ++ List.take (k + (1 : Nat)) (j8 n))) (fun k_2 => j4 [[V.int .u8 (IntKind.wrap .u8 ((↑n : Int) / (2 : Int) ^ Int.toNat ((8 : Int) * ((↑(List.length (i4 (8 : Nat) n)) : Int) - (1 : Int) - (↑k : Int)))))]] ((0 : Nat) + k_2)) k_1 = bl (l ++ List.take (k + (1 : Nat) + (1 : Nat)) (j8 n)) k_1, true = false → true = false, q0, q0, q0, List.length (l ++ List.take (k + (1 : Nat)) (j8 n)) + (1 : Nat) = List.length (l ++ List.take (k + (1 : Nat) + (1 : Nat)) (j8 n)), (none : Option Nat) = none ∨ (none : Option Nat) = none, q (↑n : Int), q (↑(List.length (i4 (8 : Nat) n)) : Int), q (↑(List.length (i4 (8 : Nat) n)) : Int), (↑k : Int) + (1 : Int) = (↑(k + (1 : Nat)) : Int)]) : Option (Exit × St × List Prop)) := by kernel_rfl
theorem bs8 (n : Nat) (l : List UInt8) (k : Nat) :
  i6 zp (bs7 n l k) [false] = (some (.exit 0, St.mk (mkT 41 [(0, .sl (.o 1) 1 0 0 0 (List.length (l ++ List.take (List.length (i4 8 n) + 1) (j8 n))) none), (1, .int .i64 ↑n), (5, .int .i64 (↑(List.length (i4 8 n)) : Int)), (24, .int .i64 (↑(List.length (i4 8 n)) : Int)), (25, .int .i64 (↑(List.length (i4 8 n)) : Int))]) [(.o 1, bs (l ++ List.take (List.length (i4 8 n) + 1) (j8 n)))] 2 [], [decide ((↑k : Int) < (↑(List.length (i4 (8 : Nat) n)) : Int)) = false, List.length (l ++ List.take (k + (1 : Nat)) (j8 n)) = List.length (l ++ List.take (List.length (i4 (8 : Nat) n) + (1 : Nat)) (j8 n)), ∀ (k_1 : Nat), k_1 < List.length (l ++ List.take (k + (1 : Nat)) (j8 n)) → bl (l ++ List.take (k + (1 : Nat)) (j8 n)) k_1 = bl (l ++ List.take (List.length (i4 (8 : Nat) n) + (1 : Nat)) (j8 n)) k_1, true = false → true = false, q0, q0, q0, List.length (l ++ List.take (k + (1 : Nat)) (j8 n)) = List.length (l ++ List.take (List.length (i4 (8 : Nat) n) + (1 : Nat)) (j8 n)), (none : Option Nat) = none ∨ (none : Option Nat) = none, q (↑n : Int), q (↑(List.length (i4 (8 : Nat) n)) : Int), q (↑(List.length (i4 (8 : Nat) n)) : Int), (↑k : Int) = (↑(List.length (i4 (8 : Nat) n)) : Int)]) : Option (Exit × St × List Prop)) := by kernel_rfl
theorem F1 : ∀ f n, n < 256 ^ f → (i4 f n).length ≤ f ∧ n / 256 ^ (i4 f n).length = 0 ∧ ∀ k, k < (i4 f n).length → 0 < n / 256 ^ k
 | 0, n, h => by simp at h; subst h; simp [i4]
 | f + 1, n, h => by
  rw [i4]
  split
  ·rename_i h0; subst h0; simp
  ·have ih := F1 f (n / 256) (by rw [Nat.pow_succ] at h; omega)
   simp only [List.length_append, List.length_singleton]
   refine ⟨by omega, ?_, fun k hk => ?_⟩
   ·rw [Nat.pow_succ', ← Nat.div_div_eq_div_mul]; exact ih.2.1
   ·cases k with
    | zero => simp; omega
    | succ k => rw [Nat.pow_succ', ← Nat.div_div_eq_div_mul]; exact ih.2.2 k (by omega)
theorem ak1 : ∀ f n k, n < 256 ^ f → k < (i4 f n).length → (i4 f n)[k]? = some (UInt8.ofNat (n / 256 ^ ((i4 f n).length - 1 - k) % 256))
 | 0, n, k, _, h => by simp [i4] at h
 | f + 1, n, k, hn, h => by
  rw [i4] at h ⊢
  split at h
  ·simp at h
  ·rename_i h0
   rw [if_neg h0]
   have hn' : n / 256 < 256 ^ f := by rw [Nat.pow_succ] at hn; omega
   simp only [List.length_append, List.length_singleton] at h ⊢
   rcases Nat.lt_or_ge k (i4 f (n / 256)).length with h1 | h1
   ·rw [List.getElem?_append_left h1, ak1 f (n / 256) k hn' h1, Nat.div_div_eq_div_mul, ← Nat.pow_succ']
    congr 5; omega
   ·have : k = (i4 f (n / 256)).length := by omega
    subst this
    rw [List.getElem?_append_right (Nat.le_refl _)]; simp
theorem K9 {n : Nat} (h : n < 9223372036854775808) : n < 256 ^ 8 := by omega
theorem aU2 {n : Nat} (h : n < 9223372036854775808) : (j8 n).length ≤ 9 := by
 have := (F1 8 n (K9 h)).1
 simp [j8]; omega
theorem I2 (l r : List UInt8) : bl (l ++ r) = r6 l.length (bl l) (bl r) := by
 funext k
 unfold bl r6
 cases h : Nat.blt k l.length
 ·have h1 : l.length ≤ k := by
   rcases Nat.lt_or_ge k l.length with h2 | h2
   ·rw [← Nat.blt_eq] at h2; rw [h2] at h; cases h
   ·exact h2
  simp [List.getD_eq_getElem?_getD, List.getElem?_append_right h1]
 ·rw [Nat.blt_eq] at h
  simp [List.getD_eq_getElem?_getD, List.getElem?_append_left h]
theorem ab6 (l : List UInt8) (v : Int) (x : UInt8) (h : v = (x.toNat : Int)) : ∀ k, k < l.length + 1 → r6 l.length (bl l) (fun k => j4 [[V.int .u8 v]] (0 + k)) k = bl (l ++ [x]) k := by
 intro k hk
 rw [I2]
 unfold r6
 cases hb : Nat.blt k l.length
 ·have h1 : l.length ≤ k := by
   rcases Nat.lt_or_ge k l.length with h2 | h2
   ·rw [← Nat.blt_eq] at h2; rw [h2] at hb; cases hb
   ·exact h2
  have : k - l.length = 0 := by omega
  simp only [cond_false, this]
  subst h
  simp [j4, bl]
 ·rfl
theorem as6 (m : Nat) : IntKind.wrap IntKind.u8 (m : Int) = ((UInt8.ofNat m).toNat : Int) := by
 simp only [IntKind.wrap, IntKind.signed, IntKind.bits, UInt8.toNat_ofNat']
 simp
theorem bv7 (m : Nat) : IntKind.wrap IntKind.u8 (m : Int) = ((UInt8.ofNat (m % 256)).toNat : Int) := by
 rw [as6]; simp
theorem aN5 {n : Nat} (h : n < 9223372036854775808) : T Tryz.prog 80 [.int .i64 n] [] (.int .i64 ((i4 8 n).length + 1 : Nat)) [] := by
 obtain ⟨h1, h2, h3⟩ := F1 8 n (K9 h)
 refine f5 (bm3 n (i4 8 n).length) Tryz.func80 ⟨by simp, i5.inv (as3 n) (i4 8 n).length (fun k hk => ?_) (f9 NG MO _ (bt1 n _ (i4 8 n).length) ?_ (Nat.zero_le _)) (by simp), by simp, rfl, trivial⟩
 ·refine f9 NG MO _ (bt2 n 0 k) ?_ (Nat.zero_le _)
  have h4 := h3 k hk
  have e : n / 256 ^ (k + 1) = n / 256 ^ k / 256 := by rw [Nat.pow_succ, Nat.div_div_eq_div_mul]
  refine ⟨by rw [decide_eq_true_eq]; exact_mod_cast h4, by rw [M5]; omega, by decide, by rw [e]; omega, by omega, trivial⟩
 ·simp [All, h2]
theorem at_ {n : Nat} (h : n < 9223372036854775808) {l : List UInt8} (hl : l.length ≤ 70368744177664) :
  i5 Tryz.prog none 1 (cB (cB (cR (cL (cR (cR (cR (cR (cR (f8 Tryz.f35)))))))))) ((i4 8 n).length + 1) (ap8 n l 0) (.exit 0) (ap8 n l (i4 8 n).length) := by
 have h1 := F1 8 n (K9 h)
 refine i5.inv (ap8 n l) (i4 8 n).length (fun k hk => ?_) (f9 NG MO _ (bs8 n l (i4 8 n).length) (by simp [All]) (Nat.le_succ _)) (by simp)
 refine f9 NG MO _ (bs9 n l k) ?_ (Nat.le_succ _)
 have hg := ak1 8 n k (K9 h) hk
 have ht : l ++ List.take (k + 1 + 1) (j8 n) = (l ++ List.take (k + 1) (j8 n)) ++ [UInt8.ofNat (n / 256 ^ ((i4 8 n).length - 1 - k) % 256)] := by
  rw [List.append_assoc]; congr 1
  rw [j8, List.take_succ_cons, List.take_succ_cons, List.cons_append, List.take_add_one, hg]; rfl
 have hlen : (l ++ List.take (k + 1) (j8 n)).length ≤ l.length + 9 := by
  have := aU2 h
  simp only [List.length_append, List.length_take]; omega
 have hpl : (j8 n).length = (i4 8 n).length + 1 := by simp [j8]
 have hv : IntKind.wrap IntKind.u8 ((n : Int) / 2 ^ Int.toNat (8 * (((i4 8 n).length : Int) - 1 - (k : Int)))) = ((UInt8.ofNat (n / 256 ^ ((i4 8 n).length - 1 - k) % 256)).toNat : Int) := by
  have e : Int.toNat (8 * (((i4 8 n).length : Int) - 1 - (k : Int))) = 8 * ((i4 8 n).length - 1 - k) := by omega
  have e2 : ((2 : Int) ^ (8 * ((i4 8 n).length - 1 - k))) = ((256 ^ ((i4 8 n).length - 1 - k) : Nat) : Int) := by
   rw [show (256 : Nat) = 2 ^ 8 from rfl, ← Nat.pow_mul]; norm_cast
  rw [e, e2]
  rw [show (n : Int) / ((256 ^ ((i4 8 n).length - 1 - k) : Nat) : Int) = ((n / 256 ^ ((i4 8 n).length - 1 - k) : Nat) : Int) from rfl, bv7]
 simp only [All]
 and_intros
 all_goals first | omega | (simp only [List.length_append, List.length_take]; omega) | (rw [ht]; exact ab6 _ _ _ hv) | (simp [hk, IntKind.min, IntKind.max, IntKind.signed, IntKind.bits] <;> omega) | (intro k hk; rw [show k = 0 by omega]; rfl)
theorem ce0 {n : Nat} (h : n < 9223372036854775808) : T Tryz.prog 35 [.snil, .int .i64 n] [] (sb (.o 1) (j8 n)) [(.o 1, bs (j8 n))] := by
 have h1 := F1 8 n (K9 h)
 have hv : IntKind.wrap IntKind.u8 ((((i4 8 n).length + 1 : Nat) : Int) - 1) = ((UInt8.ofNat (i4 8 n).length).toNat : Int) := by
  rw [show (((i4 8 n).length + 1 : Nat) : Int) - 1 = (((i4 8 n).length : Nat) : Int) by omega, as6]
 have hc := ab6 [] _ _ hv
 refine f5 (bl1 n) Tryz.func35 ?_
 simp only [All]
 and_intros
 all_goals first | exact aN5 h | exact at_ h (l := []) (by simp) | (intro k hk; rw [show k = 0 by omega]; exact hc 0 (by simp)) | (simp [j8, IntKind.min, IntKind.max, IntKind.signed, IntKind.bits] <;> omega) | (intro k hk; rw [show k = 0 by omega]; rfl)
theorem ce1 {n : Nat} (h : n < 9223372036854775808) {l : List UInt8} (hl : l.length ≤ 70368744177664) : T Tryz.prog 35 [sb (.o 0) l, .int .i64 n] [(.o 0, bs l)] (sb (.o 1) (l ++ j8 n)) [(.o 1, bs (l ++ j8 n))] := by
 have h1 := F1 8 n (K9 h)
 have hv : IntKind.wrap IntKind.u8 ((((i4 8 n).length + 1 : Nat) : Int) - 1) = ((UInt8.ofNat (i4 8 n).length).toNat : Int) := by
  rw [show (((i4 8 n).length + 1 : Nat) : Int) - 1 = (((i4 8 n).length : Nat) : Int) by omega, as6]
 have hc := ab6 l _ _ hv
 refine f5 (bz2 n l) Tryz.func35 ?_
 simp only [All]
 and_intros
 all_goals first | exact aN5 h | exact at_ h hl | (simp only [i3, Int.toNat_natCast, Nat.sub_zero]; exact hc) | (simp [j8, i3, IntKind.min, IntKind.max, IntKind.signed, IntKind.bits] <;> omega) | (intro k hk; rw [show k = 0 by omega]; rfl)
def c6 (z : Int) : List UInt8 := j8 z.toNat
def p9 (z : Int) : Prop := 0 ≤ z ∧ z < 9223372036854775808
theorem K8 {z : Int} (h : p9 z) {l : List UInt8} (hl : l.length ≤ 70368744177664) {a m : Nat} (hne : a ≠ m) : T Tryz.prog 35 [sb (.o a) l, .int .i64 z] [(.o a, bs l)] (sb (.o m) (l ++ c6 z)) [(.o m, bs (l ++ c6 z))] := by
 have e : ((z.toNat : Nat) : Int) = z := Int.toNat_of_nonneg h.1
 have h0 := ce1 (n := z.toNat) (by have := h.2; omega) hl
 rw [e] at h0
 obtain ⟨σ, hσ, h1⟩ := T.at h0 [.o 0, .o 1] [.o a, .o m] (by simp) (by simp [hne]) rfl
 simp only [List.map_cons, List.map_nil, List.cons.injEq, and_true] at hσ
 simpa [V.rens, V.ren, sb, bs, c5.ren, B.ren, hσ.1, hσ.2, c6] using h1
theorem au0 {z : Int} (h : p9 z) {m : Nat} : T Tryz.prog 35 [.snil, .int .i64 z] [] (sb (.o m) (c6 z)) [(.o m, bs (c6 z))] := by
 have e : ((z.toNat : Nat) : Int) = z := Int.toNat_of_nonneg h.1
 have h0 := ce0 (n := z.toNat) (by have := h.2; omega)
 rw [e] at h0
 obtain ⟨σ, hσ, h1⟩ := T.at h0 [.o 1] [.o m] (by simp) (by simp) rfl
 simp only [List.map_cons, List.map_nil, List.cons.injEq, and_true] at hσ
 simpa [V.rens, V.ren, sb, bs, c5.ren, B.ren, hσ, c6] using h1
def ak8 {α : Type} : List (Nat × α) → Nat → Option α
 | [], _ => none
 | p :: r, n => bif Nat.beq p.1 n then some p.2 else ak8 r n
def af7 (base : Nat) (l : List (Nat × (List V → Nat → List Cl))) : Nat → List V → c5 → Nat → List Cl := fun _ args _ lo => match ak8 l ((lo - base) / 64) with
 | some f => f args lo
 | none => []
def F6 (l : List UInt8) : List V → Nat → List Cl := fun args lo => match args with
 | .sl a _ _ _ _ _ _ :: _ => [{ pre := [a], val := sb (.o lo) l, post := [(.o lo, bs l)] }]
 | .snil :: _ => [{ val := sb (.o lo) l, post := [(.o lo, bs l)] }]
 | _ => []
def kSb (t nm : Nat) (l : List UInt8) : Exit → St → Option W := fun _ st => match r9 st.tmps t with
 | .sl a _ _ _ _ _ _ => some ⟨[(.o nm, a)], [(t, .set (sb (.o nm) l))], [(.o nm, .set (bs l))], none, st.next⟩
 | _ => none
def m4 (s : ByteArray) : List UInt8 := s.data.toList
def l9 (xs : List Int) : List UInt8 := xs.map fun x => UInt8.ofNat x.toNat
def j3 (s : ByteArray) : List UInt8 := j8 s.size ++ m4 s
def J5 (r : SReq) : List UInt8 := c6 r.client ++ (c6 r.num ++ (j3 r.data ++ l9 r.tag))
noncomputable def ck0 (l : List UInt8) (s : ByteArray) : Bd := { f := Tryz.f34, args := [sb (.o 0) l, .str s], pre := [(.o 0, bs l)], base := 1, kb := { db := af7 1 [(4, F6 (l ++ c6 s.size))] }, k := kSb 4 63 (l ++ j3 s), names := fun _ => [.o 63] }
noncomputable def cv8 (l : List UInt8) (r : SReq) : Bd := { f := Tryz.f135, args := [sb (.o 0) l, .agg r.c], pre := [(.o 0, bs l)], base := 1, kb := { db := af7 1 [(5, F6 (l ++ c6 r.client)), (8, F6 (l ++ c6 r.client ++ c6 r.num)), (11, F6 (l ++ c6 r.client ++ c6 r.num ++ j3 r.data))] }, k := kSb 4 63 (l ++ J5 r), names := fun _ => [.o 63] }
theorem bB3 (l : List UInt8) (s : ByteArray) :
  f4 zp (ck0 l s) [] = (some (.sl (.o 63) 1 0 0 0 (List.length (l ++ j3 s)) none, [(.o 63, bs (l ++ j3 s))], [T zp 35 [.sl (.o 0) 1 0 0 0 (List.length l) none, .int .i64 (↑(ByteArray.size s) : Int)] [(.o 0, bs l)] (sb (.o 257) (l ++ c6 (↑(ByteArray.size s) : Int))) [(.o 257, bs (l ++ c6 (↑(ByteArray.size s) : Int)))], q (List.length (l ++ c6 (↑(ByteArray.size s) : Int))), (List.length (l ++ c6 (↑(ByteArray.size s) : Int)) + ByteArray.size s) * (1 : Nat) ≤ (140737488355328 : Nat), List.length (l ++ c6 (↑(ByteArray.size s) : Int)) + ByteArray.size s = List.length (l ++ j3 s), ∀ (k : Nat), k < List.length (l ++ c6 (↑(ByteArray.size s) : Int)) + ByteArray.size s → r6 (List.length (l ++ c6 (↑(ByteArray.size s) : Int))) (bl (l ++ c6 (↑(ByteArray.size s) : Int))) (fun k => [V.int .u8 (B1 s k)]) k = bl (l ++ j3 s) k, true = false → true = false, q0, q0, q0, List.length (l ++ c6 (↑(ByteArray.size s) : Int)) + ByteArray.size s = List.length (l ++ j3 s), (none : Option Nat) = none ∨ (none : Option Nat) = none]) : Option (V × c5 × List Prop)) := by kernel_rfl
theorem bS6 (l : List UInt8) (r : SReq) :
  f4 zp (cv8 l r) [] = (some (.sl (.o 63) 1 0 0 0 (List.length (l ++ J5 r)) none, [(.o 63, bs (l ++ J5 r))], [T zp 35 [.sl (.o 0) 1 0 0 0 (List.length l) none, .int .i64 (SReq.client r)] [(.o 0, bs l)] (sb (.o 321) (l ++ c6 (SReq.client r))) [(.o 321, bs (l ++ c6 (SReq.client r)))], T zp 35 [.sl (.o 321) 1 0 0 0 (List.length (l ++ c6 (SReq.client r))) none, .int .i64 (SReq.num r)] [(.o 321, bs (l ++ c6 (SReq.client r)))] (sb (.o 513) (l ++ c6 (SReq.client r) ++ c6 (SReq.num r))) [(.o 513, bs (l ++ c6 (SReq.client r) ++ c6 (SReq.num r)))], T zp 34 [.sl (.o 513) 1 0 0 0 (List.length (l ++ c6 (SReq.client r) ++ c6 (SReq.num r))) none, .str (SReq.data r)] [(.o 513, bs (l ++ c6 (SReq.client r) ++ c6 (SReq.num r)))] (sb (.o 705) (l ++ c6 (SReq.client r) ++ c6 (SReq.num r) ++ j3 (SReq.data r))) [(.o 705, bs (l ++ c6 (SReq.client r) ++ c6 (SReq.num r) ++ j3 (SReq.data r)))], q (List.length (l ++ c6 (SReq.client r) ++ c6 (SReq.num r) ++ j3 (SReq.data r))), 16 ≤ (16 : Nat), (List.length (l ++ c6 (SReq.client r) ++ c6 (SReq.num r) ++ j3 (SReq.data r)) + 16) * (1 : Nat) ≤ (140737488355328 : Nat), List.length (l ++ c6 (SReq.client r) ++ c6 (SReq.num r) ++ j3 (SReq.data r)) + 16 = List.length (l ++ J5 r), ∀ (k : Nat), k < List.length (l ++ c6 (SReq.client r) ++ c6 (SReq.num r) ++ j3 (SReq.data r)) + 16 → r6 (List.length (l ++ c6 (SReq.client r) ++ c6 (SReq.num r) ++ j3 (SReq.data r))) (bl (l ++ c6 (SReq.client r) ++ c6 (SReq.num r) ++ j3 (SReq.data r))) (fun q => [V.int .u8 (List.getD (SReq.tag r) (0 + q) (0 : Int))]) k = bl (l ++ J5 r) k, true = false → true = false, q0, q0, q0, List.length (l ++ c6 (SReq.client r) ++ c6 (SReq.num r) ++ j3 (SReq.data r)) + 16 = List.length (l ++ J5 r), (none : Option Nat) = none ∨ (none : Option Nat) = none]) : Option (V × c5 × List Prop)) := by kernel_rfl
structure SegOk (n : Nat) (xs : List Int) : Prop where
 len : xs.length = n
 rng : ∀ x ∈ xs, 0 ≤ x ∧ x ≤ 255
theorem X1 (xs : List Int) : (l9 xs).length = xs.length := by simp [l9]
theorem as2 {n : Nat} {xs : List Int} (h : SegOk n xs) : (fun q => [V.int .u8 (xs.getD (0 + q) 0)]) = bl (l9 xs) := by
 funext q
 unfold bl l9
 rw [Nat.zero_add]
 simp only [List.getD_eq_getElem?_getD, List.getElem?_map]
 cases hq : xs[q]? with
 | none => simp
 | some x =>
  have hx := h.rng x (List.mem_of_getElem? hq)
  simp only [Option.map_some, Option.getD_some, UInt8.toNat_ofNat']
  congr 2
  omega
theorem K4 (s : ByteArray) : (m4 s).length = s.size := rfl
theorem m9 {z : Int} (h : p9 z) : (c6 z).length ≤ 9 := aU2 (by have := h.1; have := h.2; omega)
theorem D2 {n : Nat} (h : n < 9223372036854775808) : p9 (n : Int) := ⟨by omega, by omega⟩
theorem am4 (s : ByteArray) : j3 s = c6 s.size ++ m4 s := by simp [j3, c6]
theorem Q2 {s : ByteArray} (h : s.size ≤ 1099511627776) : (j3 s).length ≤ 9 + s.size := by
 have := m9 (D2 (n := s.size) (by omega))
 rw [am4, List.length_append, K4]; omega
theorem bO9 {l : List UInt8} {s : ByteArray} (hl : l.length ≤ 17592186044416) (hs : s.size ≤ 1099511627776) : T Tryz.prog 34 [sb (.o 0) l, .str s] [(.o 0, bs l)] (sb (.o 63) (l ++ j3 s)) [(.o 63, bs (l ++ j3 s))] := by
 have hz := D2 (n := s.size) (by omega)
 have e : l ++ j3 s = (l ++ c6 s.size) ++ m4 s := by rw [am4, List.append_assoc]
 have h9 := m9 hz
 have hlen : (l ++ c6 (s.size : Int)).length ≤ l.length + 9 := by rw [List.length_append]; omega
 have hle : (l ++ c6 (s.size : Int)).length + s.size = (l ++ j3 s).length := by rw [e, List.length_append (bs := m4 s), K4]
 refine f5 (bB3 l s) Tryz.func34 ?_
 simp only [All]
 and_intros
 all_goals first | exact K8 hz (by omega) (by decide) | exact hle | omega | (rw [e, I2 (l ++ c6 (s.size : Int)) (m4 s)]; intro k _; rfl) | simp
theorem aN6 {l : List UInt8} {s : ByteArray} (hl : l.length ≤ 17592186044416) (hs : s.size ≤ 1099511627776) {a m : Nat} (hne : a ≠ m) : T Tryz.prog 34 [sb (.o a) l, .str s] [(.o a, bs l)] (sb (.o m) (l ++ j3 s)) [(.o m, bs (l ++ j3 s))] := by
 obtain ⟨σ, hσ, h1⟩ := T.at (bO9 hl hs) [.o 0, .o 63] [.o a, .o m] (by simp) (by simp [hne]) rfl
 simp only [List.map_cons, List.map_nil, List.cons.injEq, and_true] at hσ
 simpa [V.rens, V.ren, sb, bs, c5.ren, B.ren, hσ.1, hσ.2] using h1
structure ReqOk (r : SReq) : Prop where
 client : p9 r.client
 num : p9 r.num
 data : r.data.size ≤ 1099511627776
 tag : SegOk 16 r.tag
theorem bI2 {r : SReq} (h : ReqOk r) : (J5 r).length ≤ 43 + r.data.size := by
 have h1 := m9 h.client
 have h2 := m9 h.num
 have h3 := Q2 h.data
 have h4 := h.tag.len
 simp only [J5, List.length_append, X1]; omega
theorem ce7 {l : List UInt8} {r : SReq} (hl : l.length ≤ 8796093022208) (h : ReqOk r) : T Tryz.prog 135 [sb (.o 0) l, .agg r.c] [(.o 0, bs l)] (sb (.o 63) (l ++ J5 r)) [(.o 63, bs (l ++ J5 r))] := by
 have h1 := m9 h.client
 have h2 := m9 h.num
 have h3 := Q2 h.data
 have h4 := h.tag.len
 have h5 := h.data
 have e : l ++ J5 r = (l ++ c6 r.client ++ c6 r.num ++ j3 r.data) ++ l9 r.tag := by simp [J5]
 have l1 : (l ++ c6 r.client).length ≤ l.length + 9 := by rw [List.length_append]; omega
 have l2 : (l ++ c6 r.client ++ c6 r.num).length ≤ l.length + 18 := by rw [List.length_append]; omega
 have l3 : (l ++ c6 r.client ++ c6 r.num ++ j3 r.data).length ≤ l.length + 27 + r.data.size := by rw [List.length_append]; omega
 have l4 : (l ++ c6 r.client ++ c6 r.num ++ j3 r.data).length + 16 = (l ++ J5 r).length := by rw [e, List.length_append (bs := l9 r.tag), X1, h4]
 refine f5 (bS6 l r) Tryz.func135 ?_
 simp only [All]
 and_intros
 all_goals first | exact K8 h.client (by omega) (by decide) | exact K8 h.num (by omega) (by decide) | exact aN6 (by omega) h.data (by decide) | exact l4 | omega | (rw [e, I2 (l ++ c6 r.client ++ c6 r.num ++ j3 r.data) (l9 r.tag), as2 h.tag]; intro k _; rfl) | simp
theorem ct0 {l : List UInt8} {r : SReq} (hl : l.length ≤ 8796093022208) (h : ReqOk r) {a m : Nat} (hne : a ≠ m) : T Tryz.prog 135 [sb (.o a) l, .agg r.c] [(.o a, bs l)] (sb (.o m) (l ++ J5 r)) [(.o m, bs (l ++ J5 r))] := by
 obtain ⟨σ, hσ, h1⟩ := T.at (ce7 hl h) [.o 0, .o 63] [.o a, .o m] (by simp) (by simp [hne]) rfl
 simp only [List.map_cons, List.map_nil, List.cons.injEq, and_true] at hσ
 simpa [V.rens, V.ren, SReq.c, sb, bs, c5.ren, B.ren, hσ.1, hσ.2] using h1
def s9 (r : Nat → SReq) : Nat → List UInt8
 | 0 => []
 | k + 1 => s9 r k ++ J5 (r k)
def j6 (b : SBatch) : List UInt8 := if b.noop then c6 0 else c6 ((b.n + 1 : Nat) : Int) ++ s9 b.req b.n
def bpI (l : List UInt8) (b : SBatch) (k : Nat) : St := ⟨mkT 29 [(0, sb (.o 1) (l ++ (c6 ((b.n + 1 : Nat) : Int) ++ s9 b.req k))), (18, rq b.n b.req), (19, .int .i64 b.n), (20, .int .i64 k)], [(.o 1, bs (l ++ (c6 ((b.n + 1 : Nat) : Int) ++ s9 b.req k)))], 2, []⟩
def lpBp (l : List UInt8) (b : SBatch) : Nat → St → List (Prop × Hint) := fun _ st => match r9 st.tmps 0 with
 | .sl a _ _ _ _ _ _ => [(True, .loop (b.n + 1) (B6 [(.o 1, a)] (bpI l b 0)) (.exit 0) (bpI l b b.n))]
 | _ => []
def kBp (l : List UInt8) (b : SBatch) (k : Nat) : Exit → St → Option W := fun e st => match e with
 | .normal => match r9 st.tmps 0 with
  | .sl a _ _ _ _ _ _ => some (B6 [(.o 1, a)] (bpI l b (k + 1)))
  | _ => none
 | _ => some (wTo (bpI l b b.n))
noncomputable def bx1 (l : List UInt8) (b : SBatch) : Bd := { f := Tryz.f97, args := [sb (.o 0) l, .agg b.c], pre := [(.o 0, bs l)], base := 1, kb := { db := af7 1 [(5, F6 (l ++ c6 0)), (9, F6 (l ++ c6 ((b.n + 1 : Nat) : Int)))], lp := lpBp l b }, k := kSb 4 63 (l ++ j6 b), names := fun _ => [.o 63] }
noncomputable def cm0 (l : List UInt8) (b : SBatch) (k : Nat) : Pc := { c := cB (cB (cR (cL (cR (cR (cR (f8 Tryz.f97))))))), st := bpI l b k, p := 1, kb := { db := af7 2 [(7, F6 (l ++ (c6 ((b.n + 1 : Nat) : Int) ++ s9 b.req (k + 1))))] }, k := kBp l b k }
def wr (w a : Nat) (l : List UInt8) : c5 := [(.o w, .flat [sb (.o a) l]), (.o a, bs l)]
def ab9 (base : Nat) (l : List (Nat × (List V → c5 → Nat → List Cl))) : Nat → List V → c5 → Nat → List Cl := fun _ args h lo => match ak8 l ((lo - base) / 64) with
 | some f => f args h lo
 | none => []
def cW (l : List UInt8) : List V → c5 → Nat → List Cl := fun args h lo => match args with
 | .ptr w _ _ _ _ :: r => match B3 w h with
  | some (.flat (.sl a _ _ _ _ _ _ :: _), _) => match r with
   | .sl q _ _ _ _ _ _ :: _ => [{ rd := [q], pre := [w, a], val := .tup [], post := [(w, .flat [sb (.o lo) l]), (.o lo, bs l)] }]
   | _ => [{ pre := [w, a], val := .tup [], post := [(w, .flat [sb (.o lo) l]), (.o lo, bs l)] }]
  | some (.flat (.snil :: _), _) => match r with
   | .sl q _ _ _ _ _ _ :: _ => [{ rd := [q], pre := [w], val := .tup [], post := [(w, .flat [sb (.o lo) l]), (.o lo, bs l)] }]
   | _ => []
  | _ => []
 | _ => []
def kWr (l : List UInt8) (others : c5) : Exit → St → Option W := fun _ st => match B3 (.o 0) st.heap with
 | some (.flat (.sl a _ _ _ _ _ _ :: _), _) => some ⟨[(.o 63, a)], [], [(.o 0, .set (.flat [sb (.o 63) l])), (.o 63, .set (bs l))] ++ Q3 others, none, st.next⟩
 | _ => none
def nsV (ns : List Int) : List (List V) := ns.map fun n => [V.int .i64 n]
def c9 : List Int → List UInt8
 | [] => []
 | n :: r => c6 n ++ c9 r
def nsH (ns : List Int) : c5 := [(.o 2, .rows 1 ns.length (j4 (nsV ns)) false)]
def nsA (q : Nat) (ns : List Int) : V := .sl (.o q) 1 0 0 0 ns.length (some ns.length)
noncomputable def bc2 (l : List UInt8) (ns : List Int) (steps : List (Nat × (List V → Nat → List Cl))) : Bd := { f := Tryz.f53, args := [.ptr (.o 0) 0 0 0 0, nsA 2 ns], pre := wr 0 1 l ++ nsH ns, base := 3, kb := { db := af7 3 steps, lp := fun _ _ => [(True, .rounds (ns.length + 1))] }, k := kWr (l ++ c9 ns) (nsH ns), names := fun _ => [.o 0, .o 63, .o 2] }
noncomputable def cv3 (l : List UInt8) (a : Int) : Bd := bc2 l [a] [(13, F6 (l ++ c6 a))]
noncomputable def cv4 (l : List UInt8) (a b : Int) : Bd := bc2 l [a, b] [(13, F6 (l ++ c6 a)), (29, F6 (l ++ c6 a ++ c6 b))]
noncomputable def cv5 (l : List UInt8) (a b c : Int) : Bd := bc2 l [a, b, c] [(13, F6 (l ++ c6 a)), (29, F6 (l ++ c6 a ++ c6 b)), (45, F6 (l ++ c6 a ++ c6 b ++ c6 c))]
noncomputable def cv6 (l : List UInt8) (a b c d : Int) : Bd := bc2 l [a, b, c, d] [(13, F6 (l ++ c6 a)), (29, F6 (l ++ c6 a ++ c6 b)), (45, F6 (l ++ c6 a ++ c6 b ++ c6 c)), (61, F6 (l ++ c6 a ++ c6 b ++ c6 c ++ c6 d))]
noncomputable def cv2 (a : Int) : Bd := { f := Tryz.f53, args := [.ptr (.o 0) 0 0 0 0, nsA 2 [a]], pre := [(.o 0, .flat [.snil])] ++ nsH [a], base := 3, kb := { db := af7 3 [(13, F6 (c6 a))], lp := fun _ _ => [(True, .rounds 2)] }, k := kWr (c6 a) (nsH [a]), names := fun _ => [.o 0, .o 63, .o 2] }
noncomputable def bdWt (l : List UInt8) (s : ByteArray) : Bd := { f := Tryz.f62, args := [.ptr (.o 0) 0 0 0 0, .str s], pre := wr 0 1 l, base := 2, kb := { db := af7 2 [(6, F6 (l ++ j3 s))] }, k := kWr (l ++ j3 s) [], names := fun _ => [.o 0, .o 63] }
noncomputable def bdWb (l : List UInt8) (b : SBatch) : Bd := { f := Tryz.f54, args := [.ptr (.o 0) 0 0 0 0, .agg b.c], pre := wr 0 1 l, base := 2, kb := { db := af7 2 [(7, F6 (l ++ j6 b))] }, k := kWr (l ++ j6 b) [], names := fun _ => [.o 0, .o 63] }
noncomputable def bc5 (l : List UInt8) (cs : List V) (o n : Nat) (xs : List Int) : Bd := { f := Tryz.f98, args := [.ptr (.o 0) 0 0 0 0, .sl (.o 2) 0 0 o 0 n (some n)], pre := wr 0 1 l ++ [(.o 2, .flat cs)], base := 3, kb := kb0, k := kWr (l ++ l9 xs) [(.o 2, .flat cs)], names := fun _ => [.o 0, .o 63, .o 2] }
noncomputable def ci7 (l : List UInt8) (d : List Int) : Bd := bc5 l [.seg .u8 32 d] 0 32 d
noncomputable def ci9 (l : List UInt8) (s : SSign) : Bd := bc5 l s.c 1 16 s.tag
noncomputable def ci8 (l : List UInt8) (e : SEnv) : Bd := bc5 l e.c 2 16 e.tag
theorem bP4 (l : List UInt8) (b : SBatch) :
  f4 zp (bx1 l b) [true] = (some (.sl (.o 63) 1 0 0 0 (List.length (l ++ j6 b)) none, [(.o 63, bs (l ++ j6 b))], [SBatch.noop b = true, T zp 35 [.sl (.o 0) 1 0 0 0 (List.length l) none, .int .i64 0] [(.o 0, bs l)] (sb (.o 321) (l ++ c6 (0 : Int))) [(.o 321, bs (l ++ c6 (0 : Int)))], List.length (l ++ c6 (0 : Int)) = List.length (l ++ j6 b), ∀ (k : Nat), k < List.length (l ++ c6 (0 : Int)) → bl (l ++ c6 (0 : Int)) k = bl (l ++ j6 b) k, true = false → true = false, q0, q0, q0, List.length (l ++ c6 (0 : Int)) = List.length (l ++ j6 b), (none : Option Nat) = none ∨ (none : Option Nat) = none]) : Option (V × c5 × List Prop)) := by kernel_rfl
theorem bP3 (l : List UInt8) (b : SBatch) :
  f4 zp (bx1 l b) [false] = (some (.sl (.o 63) 1 0 0 0 (List.length (l ++ j6 b)) none, [(.o 63, bs (l ++ j6 b))], [SBatch.noop b = false, InR .i64 ((↑(SBatch.n b) : Int) + (1 : Int)), T zp 35 [.sl (.o 0) 1 0 0 0 (List.length l) none, .int .i64 ((↑(SBatch.n b) : Int) + (1 : Int))] [(.o 0, bs l)] (sb (.o 577) (l ++ c6 (↑(SBatch.n b + 1) : Int))) [(.o 577, bs (l ++ c6 (↑(SBatch.n b + 1) : Int)))], i5 zp none 1 (cB (cB (cR (cL (cR (cR (cR (f8 (Bd.f (bx1 l b)))))))))) (SBatch.n b + 1) (St.mk (mkT 29 [(0, .sl (.o 1) 1 0 0 0 (List.length (l ++ (c6 (↑(SBatch.n b + 1) : Int) ++ s9 (SBatch.req b) 0))) none), (18, .ros 19 (SBatch.n b) (fun i => SReq.c (SBatch.req b i)) false), (19, .int .i64 (↑(SBatch.n b) : Int)), (20, .int .i64 0)]) [(.o 1, bs (l ++ (c6 (↑(SBatch.n b + 1) : Int) ++ s9 (SBatch.req b) 0)))] 2 []) (.exit 0) (St.mk (mkT 29 [(0, .sl (.o 1) 1 0 0 0 (List.length (l ++ (c6 (↑(SBatch.n b + 1) : Int) ++ s9 (SBatch.req b) (SBatch.n b)))) none), (18, .ros 19 (SBatch.n b) (fun i => SReq.c (SBatch.req b i)) false), (19, .int .i64 (↑(SBatch.n b) : Int)), (20, .int .i64 (↑(SBatch.n b) : Int))]) [(.o 1, bs (l ++ (c6 (↑(SBatch.n b + 1) : Int) ++ s9 (SBatch.req b) (SBatch.n b))))] 2 []), List.length (l ++ c6 (↑(SBatch.n b + (1 : Nat)) : Int)) = List.length (l ++ (c6 (↑(SBatch.n b + (1 : Nat)) : Int) ++ s9 (SBatch.req b) (0 : Nat))), ∀ (k : Nat), k < List.length (l ++ c6 (↑(SBatch.n b + (1 : Nat)) : Int)) → bl (l ++ c6 (↑(SBatch.n b + (1 : Nat)) : Int)) k = bl (l ++ (c6 (↑(SBatch.n b + (1 : Nat)) : Int) ++ s9 (SBatch.req b) (0 : Nat))) k, true = false → true = false, q0, q0, q0, List.length (l ++ c6 (↑(SBatch.n b + (1 : Nat)) : Int)) = List.length (l ++ (c6 (↑(SBatch.n b + (1 : Nat)) : Int) ++ s9 (SBatch.req b) (0 : Nat))), (none : Option Nat) = none ∨ (none : Option Nat) = none, q (SBatch.n b), ∀ (k : Nat), k < SBatch.n b → SReq.c (SBatch.req b k) = SReq.c (SBatch.req b k), false = true → false = true, q (↑(SBatch.n b) : Int), q1, List.length (l ++ (c6 (↑(SBatch.n b + (1 : Nat)) : Int) ++ s9 (SBatch.req b) (SBatch.n b))) = List.length (l ++ j6 b), ∀ (k : Nat), k < List.length (l ++ (c6 (↑(SBatch.n b + (1 : Nat)) : Int) ++ s9 (SBatch.req b) (SBatch.n b))) → bl (l ++ (c6 (↑(SBatch.n b + (1 : Nat)) : Int) ++ s9 (SBatch.req b) (SBatch.n b))) k = bl (l ++ j6 b) k, true = false → true = false, q0, q0, q0, List.length (l ++ (c6 (↑(SBatch.n b + (1 : Nat)) : Int) ++ s9 (SBatch.req b) (SBatch.n b))) = List.length (l ++ j6 b), (none : Option Nat) = none ∨ (none : Option Nat) = none]) : Option (V × c5 × List Prop)) := by kernel_rfl
theorem bX6 (l : List UInt8) (b : SBatch) (k : Nat) :
  i6 zp (cm0 l b k) [true] = (some (.normal, St.mk (mkT 29 [(0, .sl (.o 1) 1 0 0 0 (List.length (l ++ (c6 (↑(SBatch.n b + 1) : Int) ++ s9 (SBatch.req b) (k + 1)))) none), (18, .ros 19 (SBatch.n b) (fun i => SReq.c (SBatch.req b i)) false), (19, .int .i64 (↑(SBatch.n b) : Int)), (20, .int .i64 (↑(k + 1) : Int))]) [(.o 1, bs (l ++ (c6 (↑(SBatch.n b + 1) : Int) ++ s9 (SBatch.req b) (k + 1))))] 2 [], [decide ((↑k : Int) < (↑(SBatch.n b) : Int)) = true, (0 : Int) ≤ (↑k : Int) ∧ (↑k : Int) < (↑(SBatch.n b) : Int), T zp 135 [.sl (.o 1) 1 0 0 0 (List.length (l ++ (c6 (↑(SBatch.n b + 1) : Int) ++ s9 (SBatch.req b) k))) none, .agg (SReq.c (SBatch.req b (Int.toNat (↑k : Int))))] [(.o 1, bs (l ++ (c6 (↑(SBatch.n b + 1) : Int) ++ s9 (SBatch.req b) k)))] (sb (.o 450) (l ++ (c6 (↑(SBatch.n b + 1) : Int) ++ s9 (SBatch.req b) (k + 1)))) [(.o 450, bs (l ++ (c6 (↑(SBatch.n b + 1) : Int) ++ s9 (SBatch.req b) (k + 1))))], InR .i64 ((↑k : Int) + (1 : Int)), q (List.length (l ++ (c6 (↑(SBatch.n b + (1 : Nat)) : Int) ++ s9 (SBatch.req b) (k + (1 : Nat))))), ∀ (k_1 : Nat), k_1 < List.length (l ++ (c6 (↑(SBatch.n b + (1 : Nat)) : Int) ++ s9 (SBatch.req b) (k + (1 : Nat)))) → bl (l ++ (c6 (↑(SBatch.n b + (1 : Nat)) : Int) ++ s9 (SBatch.req b) (k + (1 : Nat)))) k_1 = bl (l ++ (c6 (↑(SBatch.n b + (1 : Nat)) : Int) ++ s9 (SBatch.req b) (k + (1 : Nat)))) k_1, true = false → true = false, q0, q0, q0, q (List.length (l ++ (c6 (↑(SBatch.n b + (1 : Nat)) : Int) ++ s9 (SBatch.req b) (k + (1 : Nat))))), (none : Option Nat) = none ∨ (none : Option Nat) = none, q (SBatch.n b), ∀ (k : Nat), k < SBatch.n b → SReq.c (SBatch.req b k) = SReq.c (SBatch.req b k), false = true → false = true, q (↑(SBatch.n b) : Int), (↑k : Int) + (1 : Int) = (↑(k + (1 : Nat)) : Int)]) : Option (Exit × St × List Prop)) := by kernel_rfl
theorem bX5 (l : List UInt8) (b : SBatch) (k : Nat) :
  i6 zp (cm0 l b k) [false] = (some (.exit 0, St.mk (mkT 29 [(0, .sl (.o 1) 1 0 0 0 (List.length (l ++ (c6 (↑(SBatch.n b + 1) : Int) ++ s9 (SBatch.req b) (SBatch.n b)))) none), (18, .ros 19 (SBatch.n b) (fun i => SReq.c (SBatch.req b i)) false), (19, .int .i64 (↑(SBatch.n b) : Int)), (20, .int .i64 (↑(SBatch.n b) : Int))]) [(.o 1, bs (l ++ (c6 (↑(SBatch.n b + 1) : Int) ++ s9 (SBatch.req b) (SBatch.n b))))] 2 [], [decide ((↑k : Int) < (↑(SBatch.n b) : Int)) = false, List.length (l ++ (c6 (↑(SBatch.n b + (1 : Nat)) : Int) ++ s9 (SBatch.req b) k)) = List.length (l ++ (c6 (↑(SBatch.n b + (1 : Nat)) : Int) ++ s9 (SBatch.req b) (SBatch.n b))), ∀ (k_1 : Nat), k_1 < List.length (l ++ (c6 (↑(SBatch.n b + (1 : Nat)) : Int) ++ s9 (SBatch.req b) k)) → bl (l ++ (c6 (↑(SBatch.n b + (1 : Nat)) : Int) ++ s9 (SBatch.req b) k)) k_1 = bl (l ++ (c6 (↑(SBatch.n b + (1 : Nat)) : Int) ++ s9 (SBatch.req b) (SBatch.n b))) k_1, true = false → true = false, q0, q0, q0, List.length (l ++ (c6 (↑(SBatch.n b + (1 : Nat)) : Int) ++ s9 (SBatch.req b) k)) = List.length (l ++ (c6 (↑(SBatch.n b + (1 : Nat)) : Int) ++ s9 (SBatch.req b) (SBatch.n b))), (none : Option Nat) = none ∨ (none : Option Nat) = none, q (SBatch.n b), ∀ (k : Nat), k < SBatch.n b → SReq.c (SBatch.req b k) = SReq.c (SBatch.req b k), false = true → false = true, q (↑(SBatch.n b) : Int), (↑k : Int) = (↑(SBatch.n b) : Int)]) : Option (Exit × St × List Prop)) := by kernel_rfl
theorem bk9 (l : List UInt8) (a : Int) :
  f4 zp (cv3 l a) [true, false] = (some (.tup [], [(.o 0, .flat [sb (.o 63) (l ++ c9 [a])]), (.o 63, bs (l ++ c9 [a])), (.o 2, .rows 1 1 (j4 [[.int .i64 a]]) false)], [q2, (0 : Int) ≤ (0 : Int) ∧ (0 : Int) < (1 : Int), 0 < 1, T zp 35 [.sl (.o 1) 1 0 0 0 (List.length l) none, .int .i64 a] [(.o 1, bs l)] (sb (.o 835) (l ++ c6 a)) [(.o 835, bs (l ++ c6 a))], InR .i64 (1 : Int), q false, q0, q0, q0, List.length (l ++ c6 a) = List.length (l ++ c9 [a]), (none : Option Nat) = none ∨ (none : Option Nat) = none, List.length (l ++ c6 a) = List.length (l ++ c9 [a]), ∀ (k : Nat), k < List.length (l ++ c6 a) → bl (l ++ c6 a) k = bl (l ++ c9 [a]) k, true = false → true = false, q 1, ∀ (k : Nat), k < 1 → j4 [[V.int .i64 a]] k = j4 [[V.int .i64 a]] k, false = false → false = false]) : Option (V × c5 × List Prop)) := by kernel_rfl
theorem bc3 (l : List UInt8) (a : Int) (b : Int) :
  f4 zp (cv4 l a b) [true, true, false] = (some (.tup [], [(.o 0, .flat [sb (.o 63) (l ++ c9 [a, b])]), (.o 63, bs (l ++ c9 [a, b])), (.o 2, .rows 1 2 (j4 [[.int .i64 a], [.int .i64 b]]) false)], [q2, (0 : Int) ≤ (0 : Int) ∧ (0 : Int) < (2 : Int), 0 < 2, T zp 35 [.sl (.o 1) 1 0 0 0 (List.length l) none, .int .i64 a] [(.o 1, bs l)] (sb (.o 835) (l ++ c6 a)) [(.o 835, bs (l ++ c6 a))], InR .i64 (1 : Int), q2, (0 : Int) ≤ (1 : Int) ∧ (1 : Int) < (2 : Int), 1 < 2, T zp 35 [.sl (.o 835) 1 0 0 0 (List.length (l ++ c6 a)) none, .int .i64 b] [(.o 835, bs (l ++ c6 a))] (sb (.o 1859) (l ++ c6 a ++ c6 b)) [(.o 1859, bs (l ++ c6 a ++ c6 b))], InR .i64 (2 : Int), q false, q0, q0, q0, List.length (l ++ c6 a ++ c6 b) = List.length (l ++ c9 [a, b]), (none : Option Nat) = none ∨ (none : Option Nat) = none, List.length (l ++ c6 a ++ c6 b) = List.length (l ++ c9 [a, b]), ∀ (k : Nat), k < List.length (l ++ c6 a ++ c6 b) → bl (l ++ c6 a ++ c6 b) k = bl (l ++ c9 [a, b]) k, true = false → true = false, q 2, ∀ (k : Nat), k < 2 → j4 [[V.int .i64 a], [V.int .i64 b]] k = j4 [[V.int .i64 a], [V.int .i64 b]] k, false = false → false = false]) : Option (V × c5 × List Prop)) := by kernel_rfl
theorem aW6 (l : List UInt8) (a : Int) (b : Int) (c : Int) :
  f4 zp (cv5 l a b c) [true, true, true, false] = (some (.tup [], [(.o 0, .flat [sb (.o 63) (l ++ c9 [a, b, c])]), (.o 63, bs (l ++ c9 [a, b, c])), (.o 2, .rows 1 3 (j4 [[.int .i64 a], [.int .i64 b], [.int .i64 c]]) false)], [q2, (0 : Int) ≤ (0 : Int) ∧ (0 : Int) < (3 : Int), 0 < 3, T zp 35 [.sl (.o 1) 1 0 0 0 (List.length l) none, .int .i64 a] [(.o 1, bs l)] (sb (.o 835) (l ++ c6 a)) [(.o 835, bs (l ++ c6 a))], InR .i64 (1 : Int), q2, (0 : Int) ≤ (1 : Int) ∧ (1 : Int) < (3 : Int), 1 < 3, T zp 35 [.sl (.o 835) 1 0 0 0 (List.length (l ++ c6 a)) none, .int .i64 b] [(.o 835, bs (l ++ c6 a))] (sb (.o 1859) (l ++ c6 a ++ c6 b)) [(.o 1859, bs (l ++ c6 a ++ c6 b))], InR .i64 (2 : Int), q2, (0 : Int) ≤ (2 : Int) ∧ (2 : Int) < (3 : Int), 2 < 3, T zp 35 [.sl (.o 1859) 1 0 0 0 (List.length (l ++ c6 a ++ c6 b)) none, .int .i64 c] [(.o 1859, bs (l ++ c6 a ++ c6 b))] (sb (.o 2883) (l ++ c6 a ++ c6 b ++ c6 c)) [(.o 2883, bs (l ++ c6 a ++ c6 b ++ c6 c))], InR .i64 (3 : Int), q false, q0, q0, q0, List.length (l ++ c6 a ++ c6 b ++ c6 c) = List.length (l ++ c9 [a, b, c]), (none : Option Nat) = none ∨ (none : Option Nat) = none, List.length (l ++ c6 a ++ c6 b ++ c6 c) = List.length (l ++ c9 [a, b, c]), ∀ (k : Nat), k < List.length (l ++ c6 a ++ c6 b ++ c6 c) → bl (l ++ c6 a ++ c6 b ++ c6 c) k = bl (l ++ c9 [a, b, c]) k, true = false → true = false, q 3, ∀ (k : Nat), k < 3 → j4 [[V.int .i64 a], [V.int .i64 b], [V.int .i64 c]] k = j4 [[V.int .i64 a], [V.int .i64 b], [V.int .i64 c]] k, false = false → false = false]) : Option (V × c5 × List Prop)) := by kernel_rfl
theorem aP5 (l : List UInt8) (a : Int) (b : Int) (c : Int) (d : Int) :
  f4 zp (cv6 l a b c d) [true, true, true, true, false] = (some (.tup [], [(.o 0, .flat [sb (.o 63) (l ++ c9 [a, b, c, d])]), (.o 63, bs (l ++ c9 [a, b, c, d])), (.o 2, .rows 1 4 (j4 [[.int .i64 a], [.int .i64 b], [.int .i64 c], [.int .i64 d]]) false)], [q2, (0 : Int) ≤ (0 : Int) ∧ (0 : Int) < (4 : Int), 0 < 4, T zp 35 [.sl (.o 1) 1 0 0 0 (List.length l) none, .int .i64 a] [(.o 1, bs l)] (sb (.o 835) (l ++ c6 a)) [(.o 835, bs (l ++ c6 a))], InR .i64 (1 : Int), q2, (0 : Int) ≤ (1 : Int) ∧ (1 : Int) < (4 : Int), 1 < 4, T zp 35 [.sl (.o 835) 1 0 0 0 (List.length (l ++ c6 a)) none, .int .i64 b] [(.o 835, bs (l ++ c6 a))] (sb (.o 1859) (l ++ c6 a ++ c6 b)) [(.o 1859, bs (l ++ c6 a ++ c6 b))], InR .i64 (2 : Int), q2, (0 : Int) ≤ (2 : Int) ∧ (2 : Int) < (4 : Int), 2 < 4, T zp 35 [.sl (.o 1859) 1 0 0 0 (List.length (l ++ c6 a ++ c6 b)) none, .int .i64 c] [(.o 1859, bs (l ++ c6 a ++ c6 b))] (sb (.o 2883) (l ++ c6 a ++ c6 b ++ c6 c)) [(.o 2883, bs (l ++ c6 a ++ c6 b ++ c6 c))], InR .i64 (3 : Int), q2, (0 : Int) ≤ (3 : Int) ∧ (3 : Int) < (4 : Int), 3 < 4, T zp 35 [.sl (.o 2883) 1 0 0 0 (List.length (l ++ c6 a ++ c6 b ++ c6 c)) none, .int .i64 d] [(.o 2883, bs (l ++ c6 a ++ c6 b ++ c6 c))] (sb (.o 3907) (l ++ c6 a ++ c6 b ++ c6 c ++ c6 d)) [(.o 3907, bs (l ++ c6 a ++ c6 b ++ c6 c ++ c6 d))], InR .i64 (4 : Int), q false, q0, q0, q0, List.length (l ++ c6 a ++ c6 b ++ c6 c ++ c6 d) = List.length (l ++ c9 [a, b, c, d]), (none : Option Nat) = none ∨ (none : Option Nat) = none, List.length (l ++ c6 a ++ c6 b ++ c6 c ++ c6 d) = List.length (l ++ c9 [a, b, c, d]), ∀ (k : Nat), k < List.length (l ++ c6 a ++ c6 b ++ c6 c ++ c6 d) → bl (l ++ c6 a ++ c6 b ++ c6 c ++ c6 d) k = bl (l ++ c9 [a, b, c, d]) k, true = false → true = false, q 4, ∀ (k : Nat), k < 4 → j4 [[V.int .i64 a], [V.int .i64 b], [V.int .i64 c], [V.int .i64 d]] k = j4 [[V.int .i64 a], [V.int .i64 b], [V.int .i64 c], [V.int .i64 d]] k, false = false → false = false]) : Option (V × c5 × List Prop)) := by kernel_rfl
theorem bk8 (a : Int) :
  f4 zp (cv2 a) [true, false] = (some (.tup [], [(.o 0, .flat [sb (.o 63) (c6 a)]), (.o 63, bs (c6 a)), (.o 2, .rows 1 1 (j4 [[.int .i64 a]]) false)], [q2, (0 : Int) ≤ (0 : Int) ∧ (0 : Int) < (1 : Int), 0 < 1, T zp 35 [.snil, .int .i64 a] [] (sb (.o 835) (c6 a)) [(.o 835, bs (c6 a))], InR .i64 (1 : Int), q false, q0, q0, q0, q (List.length (c6 a)), (none : Option Nat) = none ∨ (none : Option Nat) = none, q (List.length (c6 a)), ∀ (k : Nat), k < List.length (c6 a) → bl (c6 a) k = bl (c6 a) k, true = false → true = false, q 1, ∀ (k : Nat), k < 1 → j4 [[V.int .i64 a]] k = j4 [[V.int .i64 a]] k, false = false → false = false]) : Option (V × c5 × List Prop)) := by kernel_rfl
theorem ck6 (l : List UInt8) (s : ByteArray) :
  f4 zp (bdWt l s) [] = (some (.tup [], [(.o 0, .flat [sb (.o 63) (l ++ j3 s)]), (.o 63, bs (l ++ j3 s))], [T zp 34 [.sl (.o 1) 1 0 0 0 (List.length l) none, .str s] [(.o 1, bs l)] (sb (.o 386) (l ++ j3 s)) [(.o 386, bs (l ++ j3 s))], q0, q0, q0, q (List.length (l ++ j3 s)), (none : Option Nat) = none ∨ (none : Option Nat) = none, q (List.length (l ++ j3 s)), ∀ (k : Nat), k < List.length (l ++ j3 s) → bl (l ++ j3 s) k = bl (l ++ j3 s) k, true = false → true = false]) : Option (V × c5 × List Prop)) := by kernel_rfl
theorem ck3 (l : List UInt8) (b : SBatch) :
  f4 zp (bdWb l b) [] = (some (.tup [], [(.o 0, .flat [sb (.o 63) (l ++ j6 b)]), (.o 63, bs (l ++ j6 b))], [T zp 97 [.sl (.o 1) 1 0 0 0 (List.length l) none, .agg (SBatch.c b)] [(.o 1, bs l)] (sb (.o 450) (l ++ j6 b)) [(.o 450, bs (l ++ j6 b))], q0, q0, q0, q (List.length (l ++ j6 b)), (none : Option Nat) = none ∨ (none : Option Nat) = none, q (List.length (l ++ j6 b)), ∀ (k : Nat), k < List.length (l ++ j6 b) → bl (l ++ j6 b) k = bl (l ++ j6 b) k, true = false → true = false]) : Option (V × c5 × List Prop)) := by kernel_rfl
theorem bz3 (l : List UInt8) (d : List Int) :
  f4 zp (ci7 l d) [] = (some (.tup [], [(.o 0, .flat [sb (.o 63) (l ++ l9 d)]), (.o 63, bs (l ++ l9 d)), (.o 2, .flat [.seg .u8 32 d])], [q (List.length l), 32 ≤ (32 : Nat), (List.length l + (32 : Nat)) * (1 : Nat) ≤ (140737488355328 : Nat), q0, q0, q0, List.length l + (32 : Nat) = List.length (l ++ l9 d), (none : Option Nat) = none ∨ (none : Option Nat) = none, List.length l + (32 : Nat) = List.length (l ++ l9 d), ∀ (k : Nat), k < List.length l + (32 : Nat) → r6 (List.length l) (bl l) (fun q => [V.int .u8 (List.getD d ((0 : Nat) + q) (0 : Int))]) k = bl (l ++ l9 d) k, true = false → true = false, q (32 : Nat), q d]) : Option (V × c5 × List Prop)) := by kernel_rfl
theorem bz5 (l : List UInt8) (s : SSign) :
  f4 zp (ci9 l s) [] = (some (.tup [], [(.o 0, .flat [sb (.o 63) (l ++ l9 (SSign.tag s))]), (.o 63, bs (l ++ l9 (SSign.tag s))), (.o 2, .flat (SSign.c s))], [q (List.length l), 16 ≤ (16 : Nat), (List.length l + (16 : Nat)) * (1 : Nat) ≤ (140737488355328 : Nat), q0, q0, q0, List.length l + (16 : Nat) = List.length (l ++ l9 (SSign.tag s)), (none : Option Nat) = none ∨ (none : Option Nat) = none, List.length l + (16 : Nat) = List.length (l ++ l9 (SSign.tag s)), ∀ (k : Nat), k < List.length l + (16 : Nat) → r6 (List.length l) (bl l) (fun q => [V.int .u8 (List.getD (SSign.tag s) ((0 : Nat) + q) (0 : Int))]) k = bl (l ++ l9 (SSign.tag s)) k, true = false → true = false, q (SSign.node s), q (16 : Nat), q (SSign.tag s)]) : Option (V × c5 × List Prop)) := by kernel_rfl
theorem bz4 (l : List UInt8) (e : SEnv) :
  f4 zp (ci8 l e) [] = (some (.tup [], [(.o 0, .flat [sb (.o 63) (l ++ l9 (SEnv.tag e))]), (.o 63, bs (l ++ l9 (SEnv.tag e))), (.o 2, .flat (SEnv.c e))], [q (List.length l), 16 ≤ (16 : Nat), (List.length l + (16 : Nat)) * (1 : Nat) ≤ (140737488355328 : Nat), q0, q0, q0, List.length l + (16 : Nat) = List.length (l ++ l9 (SEnv.tag e)), (none : Option Nat) = none ∨ (none : Option Nat) = none, List.length l + (16 : Nat) = List.length (l ++ l9 (SEnv.tag e)), ∀ (k : Nat), k < List.length l + (16 : Nat) → r6 (List.length l) (bl l) (fun q => [V.int .u8 (List.getD (SEnv.tag e) ((0 : Nat) + q) (0 : Int))]) k = bl (l ++ l9 (SEnv.tag e)) k, true = false → true = false, q (SEnv.src e), q (SEnv.body e), q (16 : Nat), q (SEnv.tag e)]) : Option (V × c5 × List Prop)) := by kernel_rfl
structure BatchOk (b : SBatch) : Prop where
 n : b.n ≤ 100000
 noop : b.noop = true → b.n = 0
 req : ∀ k, k < b.n → ReqOk (b.req k)
 data : ∀ k, k < b.n → (b.req k).data.size ≤ 10000
theorem aq1 {b : SBatch} (h : BatchOk b) : ∀ k, k ≤ b.n → (s9 b.req k).length ≤ k * 20000
 | 0, _ => by simp [s9]
 | k + 1, hk => by
  have ih := aq1 h k (by omega)
  have h1 := bI2 (h.req k (by omega))
  have h2 := h.data k (by omega)
  rw [s9, List.length_append]; omega
theorem aj6 {b : SBatch} (h : BatchOk b) : (j6 b).length ≤ 2000000009 := by
 unfold j6
 have h1 := aq1 h b.n (Nat.le_refl _)
 have h2 := h.n
 have h3 := m9 (D2 (n := b.n + 1) (by omega))
 have h4 := m9 (D2 (n := 0) (by omega))
 split
 ·have : c6 0 = c6 ((0 : Nat) : Int) := rfl
  rw [this]; omega
 ·rw [List.length_append]; omega
theorem cq7 {l : List UInt8} {b : SBatch} (hl : l.length ≤ 1099511627776) (h : BatchOk b) : T Tryz.prog 97 [sb (.o 0) l, .agg b.c] [(.o 0, bs l)] (sb (.o 63) (l ++ j6 b)) [(.o 63, bs (l ++ j6 b))] := by
 have hn := h.n
 have hz := D2 (n := b.n + 1) (by omega)
 by_cases hno : b.noop = true
 ·have e : j6 b = c6 0 := by simp [j6, hno]
  refine f5 (bP4 l b) Tryz.func97 ?_
  rw [e]
  simp only [All]
  and_intros
  all_goals first | exact K8 (z := 0) ⟨by decide, by decide⟩ (by omega) (by decide) | simp [hno]
 ·have e : j6 b = c6 ((b.n + 1 : Nat) : Int) ++ s9 b.req b.n := by simp [j6, hno]
  have hlen : ∀ k, k ≤ b.n → (l ++ (c6 ((b.n + 1 : Nat) : Int) ++ s9 b.req k)).length ≤ 8796093022208 := fun k hk => by
   have h1 := aq1 h k hk
   have h2 := m9 hz
   rw [List.length_append, List.length_append]; omega
  have hL : i5 Tryz.prog none 1 (cB (cB (cR (cL (cR (cR (cR (f8 Tryz.f97)))))))) (b.n + 1) (bpI l b 0) (.exit 0) (bpI l b b.n) :=
   i5.inv (bpI l b) b.n (fun k hk => by
    have hT := ct0 (hlen k (by omega)) (h.req k hk) (a := 1) (m := 450) (by decide)
    have e1 : l ++ (c6 ((b.n + 1 : Nat) : Int) ++ s9 b.req k) ++ J5 (b.req k) = l ++ (c6 ((b.n + 1 : Nat) : Int) ++ s9 b.req (k + 1)) := by simp [s9]
    rw [e1] at hT
    refine f9 NG MO _ (bX6 l b k) ?_ (show 1 ≤ 2 by decide)
    simp only [All, Int.toNat_natCast]
    and_intros
    all_goals first | exact hT | (simp [hk, IntKind.min, IntKind.max, IntKind.signed, IntKind.bits] <;> omega))
    (f9 NG MO _ (bX5 l b b.n) (by simp [All]) (show 1 ≤ 2 by decide)) (by simp)
  refine f5 (bP3 l b) Tryz.func97 ?_
  rw [e]
  simp only [All]
  and_intros
  all_goals first | exact K8 hz (by omega) (by decide) | exact hL | (simp [hno, s9, IntKind.min, IntKind.max, IntKind.signed, IntKind.bits] <;> omega)
theorem T_bp {l : List UInt8} {b : SBatch} (hl : l.length ≤ 1099511627776) (h : BatchOk b) {a m : Nat} (hne : a ≠ m) : T Tryz.prog 97 [sb (.o a) l, .agg b.c] [(.o a, bs l)] (sb (.o m) (l ++ j6 b)) [(.o m, bs (l ++ j6 b))] := by
 obtain ⟨σ, hσ, h1⟩ := T.at (cq7 hl h) [.o 0, .o 63] [.o a, .o m] (by simp) (by simp [hne]) rfl
 simp only [List.map_cons, List.map_nil, List.cons.injEq, and_true] at hσ
 simpa [V.rens, V.ren, SBatch.c, rq, sb, bs, c5.ren, B.ren, hσ.1, hσ.2] using h1
def H0 (q : Nat) (ns : List Int) : c5 := [(.o q, .rows 1 ns.length (j4 (nsV ns)) false)]
theorem cd5 {l : List UInt8} {a : Int} (hl : l.length ≤ 17592186044416) (ha : p9 a) : T Tryz.prog 53 [.ptr (.o 0) 0 0 0 0, nsA 2 [a]] (wr 0 1 l ++ H0 2 [a]) (.tup []) (wr 0 63 (l ++ c9 [a]) ++ H0 2 [a]) := by
 have la := m9 ha
 refine f5 (bk9 l a) Tryz.func53 ?_
 simp only [All]
 and_intros
 all_goals first | exact K8 ha (by first | omega | (simp only [List.length_append]; omega)) (by decide) | (simp [c9, IntKind.min, IntKind.max, IntKind.signed, IntKind.bits]; done)
theorem aj4 {l : List UInt8} {a : Int} (hl : l.length ≤ 17592186044416) (ha : p9 a) {w x q m : Nat} (hn : [Nm.o w, Nm.o x, Nm.o q, Nm.o m].Nodup) : T Tryz.prog 53 [.ptr (.o w) 0 0 0 0, nsA q [a]] (wr w x l ++ H0 q [a]) (.tup []) (wr w m (l ++ c9 [a]) ++ H0 q [a]) := by
 obtain ⟨σ, hσ, h1⟩ := T.at (cd5 hl ha) [.o 0, .o 1, .o 2, .o 63] [.o w, .o x, .o q, .o m] (by simp) hn rfl
 simp only [List.map_cons, List.map_nil, List.cons.injEq, and_true] at hσ
 simpa [V.rens, V.ren, sb, bs, wr, nsA, H0, c5.ren, B.ren, hσ.1, hσ.2.1, hσ.2.2.1, hσ.2.2.2] using h1
theorem cd6 {l : List UInt8} {a : Int} {b : Int} (hl : l.length ≤ 17592186044416) (ha : p9 a) (hb : p9 b) : T Tryz.prog 53 [.ptr (.o 0) 0 0 0 0, nsA 2 [a, b]] (wr 0 1 l ++ H0 2 [a, b]) (.tup []) (wr 0 63 (l ++ c9 [a, b]) ++ H0 2 [a, b]) := by
 have la := m9 ha
 have lb := m9 hb
 refine f5 (bc3 l a b) Tryz.func53 ?_
 simp only [All]
 and_intros
 all_goals first | exact K8 ha (by first | omega | (simp only [List.length_append]; omega)) (by decide) | exact K8 hb (by first | omega | (simp only [List.length_append]; omega)) (by decide) | (simp [c9, IntKind.min, IntKind.max, IntKind.signed, IntKind.bits]; done)
theorem aL6 {l : List UInt8} {a : Int} {b : Int} (hl : l.length ≤ 17592186044416) (ha : p9 a) (hb : p9 b) {w x q m : Nat} (hn : [Nm.o w, Nm.o x, Nm.o q, Nm.o m].Nodup) : T Tryz.prog 53 [.ptr (.o w) 0 0 0 0, nsA q [a, b]] (wr w x l ++ H0 q [a, b]) (.tup []) (wr w m (l ++ c9 [a, b]) ++ H0 q [a, b]) := by
 obtain ⟨σ, hσ, h1⟩ := T.at (cd6 hl ha hb) [.o 0, .o 1, .o 2, .o 63] [.o w, .o x, .o q, .o m] (by simp) hn rfl
 simp only [List.map_cons, List.map_nil, List.cons.injEq, and_true] at hσ
 simpa [V.rens, V.ren, sb, bs, wr, nsA, H0, c5.ren, B.ren, hσ.1, hσ.2.1, hσ.2.2.1, hσ.2.2.2] using h1
theorem cd7 {l : List UInt8} {a : Int} {b : Int} {c : Int} (hl : l.length ≤ 17592186044416) (ha : p9 a) (hb : p9 b) (hc : p9 c) : T Tryz.prog 53 [.ptr (.o 0) 0 0 0 0, nsA 2 [a, b, c]] (wr 0 1 l ++ H0 2 [a, b, c]) (.tup []) (wr 0 63 (l ++ c9 [a, b, c]) ++ H0 2 [a, b, c]) := by
 have la := m9 ha
 have lb := m9 hb
 have lc := m9 hc
 refine f5 (aW6 l a b c) Tryz.func53 ?_
 simp only [All]
 and_intros
 all_goals first | exact K8 ha (by first | omega | (simp only [List.length_append]; omega)) (by decide) | exact K8 hb (by first | omega | (simp only [List.length_append]; omega)) (by decide) | exact K8 hc (by first | omega | (simp only [List.length_append]; omega)) (by decide) | (simp [c9, IntKind.min, IntKind.max, IntKind.signed, IntKind.bits]; done)
theorem aL7 {l : List UInt8} {a : Int} {b : Int} {c : Int} (hl : l.length ≤ 17592186044416) (ha : p9 a) (hb : p9 b) (hc : p9 c) {w x q m : Nat} (hn : [Nm.o w, Nm.o x, Nm.o q, Nm.o m].Nodup) : T Tryz.prog 53 [.ptr (.o w) 0 0 0 0, nsA q [a, b, c]] (wr w x l ++ H0 q [a, b, c]) (.tup []) (wr w m (l ++ c9 [a, b, c]) ++ H0 q [a, b, c]) := by
 obtain ⟨σ, hσ, h1⟩ := T.at (cd7 hl ha hb hc) [.o 0, .o 1, .o 2, .o 63] [.o w, .o x, .o q, .o m] (by simp) hn rfl
 simp only [List.map_cons, List.map_nil, List.cons.injEq, and_true] at hσ
 simpa [V.rens, V.ren, sb, bs, wr, nsA, H0, c5.ren, B.ren, hσ.1, hσ.2.1, hσ.2.2.1, hσ.2.2.2] using h1
theorem cd8 {l : List UInt8} {a : Int} {b : Int} {c : Int} {d : Int} (hl : l.length ≤ 17592186044416) (ha : p9 a) (hb : p9 b) (hc : p9 c) (hd : p9 d) : T Tryz.prog 53 [.ptr (.o 0) 0 0 0 0, nsA 2 [a, b, c, d]] (wr 0 1 l ++ H0 2 [a, b, c, d]) (.tup []) (wr 0 63 (l ++ c9 [a, b, c, d]) ++ H0 2 [a, b, c, d]) := by
 have la := m9 ha
 have lb := m9 hb
 have lc := m9 hc
 have ld := m9 hd
 refine f5 (aP5 l a b c d) Tryz.func53 ?_
 simp only [All]
 and_intros
 all_goals first | exact K8 ha (by first | omega | (simp only [List.length_append]; omega)) (by decide) | exact K8 hb (by first | omega | (simp only [List.length_append]; omega)) (by decide) | exact K8 hc (by first | omega | (simp only [List.length_append]; omega)) (by decide) | exact K8 hd (by first | omega | (simp only [List.length_append]; omega)) (by decide) | (simp [c9, IntKind.min, IntKind.max, IntKind.signed, IntKind.bits]; done)
theorem cs9 {l : List UInt8} {a : Int} {b : Int} {c : Int} {d : Int} (hl : l.length ≤ 17592186044416) (ha : p9 a) (hb : p9 b) (hc : p9 c) (hd : p9 d) {w x q m : Nat} (hn : [Nm.o w, Nm.o x, Nm.o q, Nm.o m].Nodup) : T Tryz.prog 53 [.ptr (.o w) 0 0 0 0, nsA q [a, b, c, d]] (wr w x l ++ H0 q [a, b, c, d]) (.tup []) (wr w m (l ++ c9 [a, b, c, d]) ++ H0 q [a, b, c, d]) := by
 obtain ⟨σ, hσ, h1⟩ := T.at (cd8 hl ha hb hc hd) [.o 0, .o 1, .o 2, .o 63] [.o w, .o x, .o q, .o m] (by simp) hn rfl
 simp only [List.map_cons, List.map_nil, List.cons.injEq, and_true] at hσ
 simpa [V.rens, V.ren, sb, bs, wr, nsA, H0, c5.ren, B.ren, hσ.1, hσ.2.1, hσ.2.2.1, hσ.2.2.2] using h1
theorem cd4 {a : Int} (ha : p9 a) : T Tryz.prog 53 [.ptr (.o 0) 0 0 0 0, nsA 2 [a]] ([(.o 0, .flat [.snil])] ++ H0 2 [a]) (.tup []) (wr 0 63 (c6 a) ++ H0 2 [a]) := by
 refine f5 (bk8 a) Tryz.func53 ?_
 simp only [All]
 and_intros
 all_goals first | exact au0 ha | (simp [c9, IntKind.min, IntKind.max, IntKind.signed, IntKind.bits]; done)
theorem K7 {a : Int} (ha : p9 a) {w q m : Nat} (hn : [Nm.o w, Nm.o q, Nm.o m].Nodup) : T Tryz.prog 53 [.ptr (.o w) 0 0 0 0, nsA q [a]] ([(.o w, .flat [.snil])] ++ H0 q [a]) (.tup []) (wr w m (c6 a) ++ H0 q [a]) := by
 obtain ⟨σ, hσ, h1⟩ := T.at (cd4 ha) [.o 0, .o 2, .o 63] [.o w, .o q, .o m] (by simp) hn rfl
 simp only [List.map_cons, List.map_nil, List.cons.injEq, and_true] at hσ
 simpa [V.rens, V.ren, sb, bs, wr, nsA, H0, c5.ren, B.ren, hσ.1, hσ.2.1, hσ.2.2] using h1
theorem bw3 {l : List UInt8} {s : ByteArray} (hl : l.length ≤ 17592186044416) (hs : s.size ≤ 1099511627776) {w x m : Nat} (hn : [Nm.o w, Nm.o x, Nm.o m].Nodup) : T Tryz.prog 62 [.ptr (.o w) 0 0 0 0, .str s] (wr w x l) (.tup []) (wr w m (l ++ j3 s)) := by
 have h0 : T Tryz.prog 62 [.ptr (.o 0) 0 0 0 0, .str s] (wr 0 1 l) (.tup []) (wr 0 63 (l ++ j3 s)) := by
  refine f5 (ck6 l s) Tryz.func62 ?_
  simp only [All]
  and_intros
  all_goals first | exact aN6 hl hs (by decide) | simp
 obtain ⟨σ, hσ, h1⟩ := T.at h0 [.o 0, .o 1, .o 63] [.o w, .o x, .o m] (by simp) hn rfl
 simp only [List.map_cons, List.map_nil, List.cons.injEq, and_true] at hσ
 simpa [V.rens, V.ren, sb, bs, wr, c5.ren, B.ren, hσ.1, hσ.2.1, hσ.2.2] using h1
theorem aN7 {l : List UInt8} {b : SBatch} (hl : l.length ≤ 1099511627776) (hb : BatchOk b) {w x m : Nat} (hn : [Nm.o w, Nm.o x, Nm.o m].Nodup) : T Tryz.prog 54 [.ptr (.o w) 0 0 0 0, .agg b.c] (wr w x l) (.tup []) (wr w m (l ++ j6 b)) := by
 have h0 : T Tryz.prog 54 [.ptr (.o 0) 0 0 0 0, .agg b.c] (wr 0 1 l) (.tup []) (wr 0 63 (l ++ j6 b)) := by
  refine f5 (ck3 l b) Tryz.func54 ?_
  simp only [All]
  and_intros
  all_goals first | exact T_bp hl hb (by decide) | simp
 obtain ⟨σ, hσ, h1⟩ := T.at h0 [.o 0, .o 1, .o 63] [.o w, .o x, .o m] (by simp) hn rfl
 simp only [List.map_cons, List.map_nil, List.cons.injEq, and_true] at hσ
 simpa [V.rens, V.ren, SBatch.c, rq, sb, bs, wr, c5.ren, B.ren, hσ.1, hσ.2.1, hσ.2.2] using h1
theorem ce3 {l : List UInt8} {d : List Int} (hl : l.length ≤ 17592186044416) (hs : SegOk 32 d) {w x q m : Nat} (hn : [Nm.o w, Nm.o x, Nm.o q, Nm.o m].Nodup) : T Tryz.prog 98 [.ptr (.o w) 0 0 0 0, .sl (.o q) 0 0 0 0 32 (some 32)] (wr w x l ++ [(.o q, .flat [V.seg .u8 32 d])]) (.tup []) (wr w m (l ++ l9 d) ++ [(.o q, .flat [V.seg .u8 32 d])]) := by
 have h0 : T Tryz.prog 98 [.ptr (.o 0) 0 0 0 0, .sl (.o 2) 0 0 0 0 32 (some 32)] (wr 0 1 l ++ [(.o 2, .flat [V.seg .u8 32 d])]) (.tup []) (wr 0 63 (l ++ l9 d) ++ [(.o 2, .flat [V.seg .u8 32 d])]) := by
  have h4 := hs.len
  have hlen : l.length + 32 = (l ++ l9 d).length := by rw [List.length_append, X1, h4]
  refine f5 (bz3 l d) Tryz.func98 ?_
  simp only [All]
  and_intros
  all_goals first | exact hlen | omega | (rw [I2 l (l9 d), as2 hs]; intro k _; rfl) | simp
 obtain ⟨σ, hσ, h1⟩ := T.at h0 [.o 0, .o 1, .o 2, .o 63] [.o w, .o x, .o q, .o m] (by simp) hn rfl
 simp only [List.map_cons, List.map_nil, List.cons.injEq, and_true] at hσ
 simpa [V.rens, V.ren, sb, bs, wr, c5.ren, B.ren, hσ.1, hσ.2.1, hσ.2.2.1, hσ.2.2.2] using h1
theorem ce5 {l : List UInt8} {s : SSign} (hl : l.length ≤ 17592186044416) (hs : SegOk 16 s.tag) {w x q m : Nat} (hn : [Nm.o w, Nm.o x, Nm.o q, Nm.o m].Nodup) : T Tryz.prog 98 [.ptr (.o w) 0 0 0 0, .sl (.o q) 0 0 1 0 16 (some 16)] (wr w x l ++ [(.o q, .flat s.c)]) (.tup []) (wr w m (l ++ l9 s.tag) ++ [(.o q, .flat s.c)]) := by
 have h0 : T Tryz.prog 98 [.ptr (.o 0) 0 0 0 0, .sl (.o 2) 0 0 1 0 16 (some 16)] (wr 0 1 l ++ [(.o 2, .flat s.c)]) (.tup []) (wr 0 63 (l ++ l9 s.tag) ++ [(.o 2, .flat s.c)]) := by
  have h4 := hs.len
  have hlen : l.length + 16 = (l ++ l9 s.tag).length := by rw [List.length_append, X1, h4]
  refine f5 (bz5 l s) Tryz.func98 ?_
  simp only [All]
  and_intros
  all_goals first | exact hlen | omega | (rw [I2 l (l9 s.tag), as2 hs]; intro k _; rfl) | simp
 obtain ⟨σ, hσ, h1⟩ := T.at h0 [.o 0, .o 1, .o 2, .o 63] [.o w, .o x, .o q, .o m] (by simp) hn rfl
 simp only [List.map_cons, List.map_nil, List.cons.injEq, and_true] at hσ
 simpa [V.rens, V.ren, SSign.c, sb, bs, wr, c5.ren, B.ren, hσ.1, hσ.2.1, hσ.2.2.1, hσ.2.2.2] using h1
theorem ce4 {l : List UInt8} {e : SEnv} (hl : l.length ≤ 17592186044416) (hs : SegOk 16 e.tag) {w x q m : Nat} (hn : [Nm.o w, Nm.o x, Nm.o q, Nm.o m].Nodup) : T Tryz.prog 98 [.ptr (.o w) 0 0 0 0, .sl (.o q) 0 0 2 0 16 (some 16)] (wr w x l ++ [(.o q, .flat e.c)]) (.tup []) (wr w m (l ++ l9 e.tag) ++ [(.o q, .flat e.c)]) := by
 have h0 : T Tryz.prog 98 [.ptr (.o 0) 0 0 0 0, .sl (.o 2) 0 0 2 0 16 (some 16)] (wr 0 1 l ++ [(.o 2, .flat e.c)]) (.tup []) (wr 0 63 (l ++ l9 e.tag) ++ [(.o 2, .flat e.c)]) := by
  have h4 := hs.len
  have hlen : l.length + 16 = (l ++ l9 e.tag).length := by rw [List.length_append, X1, h4]
  refine f5 (bz4 l e) Tryz.func98 ?_
  simp only [All]
  and_intros
  all_goals first | exact hlen | omega | (rw [I2 l (l9 e.tag), as2 hs]; intro k _; rfl) | simp
 obtain ⟨σ, hσ, h1⟩ := T.at h0 [.o 0, .o 1, .o 2, .o 63] [.o w, .o x, .o q, .o m] (by simp) hn rfl
 simp only [List.map_cons, List.map_nil, List.cons.injEq, and_true] at hσ
 simpa [V.rens, V.ren, SEnv.c, sb, bs, wr, c5.ren, B.ren, hσ.1, hσ.2.1, hσ.2.2.1, hσ.2.2.2] using h1
def D8 (s : SSign) : List UInt8 := c9 [s.node] ++ l9 s.tag
def l8 (s : Nat → SSign) : Nat → List UInt8
 | 0 => []
 | k + 1 => l8 s k ++ D8 (s k)
def r7 (v : SVote) : List UInt8 := c9 [v.kind, v.epoch, v.view, v.slot] ++ l9 v.digest
def u9 (c : SCert) : List UInt8 := r7 c.vote ++ (c9 [(c.n : Int)] ++ l8 c.sig c.n)
def E2 (h : SHeld) : List UInt8 := j6 h.batch ++ u9 h.cert
def m6 (h : Nat → SHeld) : Nat → List UInt8
 | 0 => []
 | k + 1 => m6 h k ++ E2 (h k)
def I7 (e : SEnv) : List UInt8 := c9 [e.src] ++ (j3 e.body ++ l9 e.tag)
def n9 (e : Nat → SEnv) : Nat → List UInt8
 | 0 => []
 | k + 1 => n9 e k ++ I7 (e k)
noncomputable def bdW (f : Func) (l s : List UInt8) (x : List V) (steps : List (Nat × (List V → c5 → Nat → List Cl))) : Bd := { f := f, args := .ptr (.o 0) 0 0 0 0 :: x, pre := wr 0 1 l, base := 2, kb := { db := ab9 2 steps }, k := kWr (l ++ s) [], names := fun _ => [.o 0, .o 63] }
noncomputable def cu5 (l : List UInt8) (d : List Int) : Bd := bdW Tryz.f60 l (l9 d) [.agg [.seg .u8 32 d]] [(3, cW (l ++ l9 d))]
noncomputable def cw0 (l : List UInt8) (s : SSign) : Bd := bdW Tryz.f64 l (D8 s) [.agg s.c] [(5, cW (l ++ c9 [s.node])), (9, cW (l ++ c9 [s.node] ++ l9 s.tag))]
noncomputable def cu6 (l : List UInt8) (e : SEnv) : Bd := bdW Tryz.f59 l (I7 e) [.agg e.c] [(5, cW (l ++ c9 [e.src])), (9, cW (l ++ c9 [e.src] ++ j3 e.body)), (13, cW (l ++ c9 [e.src] ++ j3 e.body ++ l9 e.tag))]
noncomputable def cw3 (l : List UInt8) (v : SVote) : Bd := bdW Tryz.f55 l (r7 v) [.agg v.c] [(11, cW (l ++ c9 [v.kind, v.epoch, v.view, v.slot])), (15, cW (l ++ r7 v))]
noncomputable def cu1 (l : List UInt8) (c : SCert) : Bd := bdW Tryz.f61 l (u9 c) [.agg c.c] [(4, cW (l ++ r7 c.vote)), (10, cW (l ++ r7 c.vote ++ (c9 [(c.n : Int)] ++ l8 c.sig c.n)))]
noncomputable def cv1 (l : List UInt8) (h : SHeld) : Bd := bdW Tryz.f57 l (E2 h) [.agg h.c] [(4, cW (l ++ j6 h.batch)), (8, cW (l ++ j6 h.batch ++ u9 h.cert))]
def aw6 (l : List UInt8) (n : Nat) (s : Nat → SSign) (k : Nat) : St := ⟨mkT 23 [(2, .fn (.func 64) [.ptr (.o 0) 0 0 0 0] []), (13, sg n s), (14, .int .i64 n), (15, .int .i64 k)], wr 0 63 (l ++ (c9 [(n : Int)] ++ l8 s k)), 64, []⟩
def lpSg (l : List UInt8) (n : Nat) (s : Nat → SSign) : Nat → St → List (Prop × Hint) := fun _ st => match B3 (.o 0) st.heap with
 | some (.flat (.sl a _ _ _ _ _ _ :: _), _) => [(True, .loop (n + 1) (B6 [(.o 63, a)] ⟨mkT 23 [(2, .fn (.func 64) [.ptr (.o 0) 0 0 0 0] []), (13, sg n s), (14, .int .i64 n), (15, .int .i64 (0 : Nat))], wr 0 63 (l ++ (c9 [(n : Int)] ++ l8 s 0)), 64, []⟩) (.exit 0) (aw6 l n s n))]
 | _ => []
def kpSg (l : List UInt8) (n : Nat) (s : Nat → SSign) (k : Nat) : Exit → St → Option W := fun e st => match e with
 | .normal => match B3 (.o 0) st.heap with
  | some (.flat (.sl a _ _ _ _ _ _ :: _), _) => some (B6 [(.o 63, a)] (aw6 l n s (k + 1)))
  | _ => none
 | _ => some (wTo (aw6 l n s n))
noncomputable def bL2 (l : List UInt8) (n : Nat) (s : Nat → SSign) : Bd := { f := Tryz.f63, args := [.ptr (.o 0) 0 0 0 0, sg n s, .fn (.func 64) [.ptr (.o 0) 0 0 0 0] []], pre := wr 0 1 l, base := 2, kb := { db := ab9 2 [(4, cW (l ++ c9 [(n : Int)]))], lp := lpSg l n s }, k := kWr (l ++ (c9 [(n : Int)] ++ l8 s n)) [], names := fun _ => [.o 0, .o 63] }
noncomputable def bM7 (l : List UInt8) (n : Nat) (s : Nat → SSign) (k : Nat) : Pc := { c := cB (cB (cR (cR (f8 Tryz.f63)))), st := aw6 l n s k, p := 2, kb := { db := ab9 64 [(7, cW (l ++ (c9 [(n : Int)] ++ l8 s (k + 1))))] }, k := kpSg l n s k }
def aw4 (l : List UInt8) (n : Nat) (s : Nat → SHeld) (k : Nat) : St := ⟨mkT 23 [(2, .fn (.func 57) [.ptr (.o 0) 0 0 0 0] []), (13, hl n s), (14, .int .i64 n), (15, .int .i64 k)], wr 0 63 (l ++ (c9 [(n : Int)] ++ m6 s k)), 64, []⟩
def lpHl (l : List UInt8) (n : Nat) (s : Nat → SHeld) : Nat → St → List (Prop × Hint) := fun _ st => match B3 (.o 0) st.heap with
 | some (.flat (.sl a _ _ _ _ _ _ :: _), _) => [(True, .loop (n + 1) (B6 [(.o 63, a)] ⟨mkT 23 [(2, .fn (.func 57) [.ptr (.o 0) 0 0 0 0] []), (13, hl n s), (14, .int .i64 n), (15, .int .i64 (0 : Nat))], wr 0 63 (l ++ (c9 [(n : Int)] ++ m6 s 0)), 64, []⟩) (.exit 0) (aw4 l n s n))]
 | _ => []
def kpHl (l : List UInt8) (n : Nat) (s : Nat → SHeld) (k : Nat) : Exit → St → Option W := fun e st => match e with
 | .normal => match B3 (.o 0) st.heap with
  | some (.flat (.sl a _ _ _ _ _ _ :: _), _) => some (B6 [(.o 63, a)] (aw4 l n s (k + 1)))
  | _ => none
 | _ => some (wTo (aw4 l n s n))
noncomputable def bL0 (l : List UInt8) (n : Nat) (s : Nat → SHeld) : Bd := { f := Tryz.f56, args := [.ptr (.o 0) 0 0 0 0, hl n s, .fn (.func 57) [.ptr (.o 0) 0 0 0 0] []], pre := wr 0 1 l, base := 2, kb := { db := ab9 2 [(4, cW (l ++ c9 [(n : Int)]))], lp := lpHl l n s }, k := kWr (l ++ (c9 [(n : Int)] ++ m6 s n)) [], names := fun _ => [.o 0, .o 63] }
noncomputable def bM5 (l : List UInt8) (n : Nat) (s : Nat → SHeld) (k : Nat) : Pc := { c := cB (cB (cR (cR (f8 Tryz.f56)))), st := aw4 l n s k, p := 2, kb := { db := ab9 64 [(7, cW (l ++ (c9 [(n : Int)] ++ m6 s (k + 1))))] }, k := kpHl l n s k }
def aw5 (l : List UInt8) (n : Nat) (s : Nat → SEnv) (k : Nat) : St := ⟨mkT 23 [(2, .fn (.func 59) [.ptr (.o 0) 0 0 0 0] []), (13, nw n s), (14, .int .i64 n), (15, .int .i64 k)], wr 0 63 (l ++ (c9 [(n : Int)] ++ n9 s k)), 64, []⟩
def lpNw (l : List UInt8) (n : Nat) (s : Nat → SEnv) : Nat → St → List (Prop × Hint) := fun _ st => match B3 (.o 0) st.heap with
 | some (.flat (.sl a _ _ _ _ _ _ :: _), _) => [(True, .loop (n + 1) (B6 [(.o 63, a)] ⟨mkT 23 [(2, .fn (.func 59) [.ptr (.o 0) 0 0 0 0] []), (13, nw n s), (14, .int .i64 n), (15, .int .i64 (0 : Nat))], wr 0 63 (l ++ (c9 [(n : Int)] ++ n9 s 0)), 64, []⟩) (.exit 0) (aw5 l n s n))]
 | _ => []
def kpNw (l : List UInt8) (n : Nat) (s : Nat → SEnv) (k : Nat) : Exit → St → Option W := fun e st => match e with
 | .normal => match B3 (.o 0) st.heap with
  | some (.flat (.sl a _ _ _ _ _ _ :: _), _) => some (B6 [(.o 63, a)] (aw5 l n s (k + 1)))
  | _ => none
 | _ => some (wTo (aw5 l n s n))
noncomputable def bL1 (l : List UInt8) (n : Nat) (s : Nat → SEnv) : Bd := { f := Tryz.f58, args := [.ptr (.o 0) 0 0 0 0, nw n s, .fn (.func 59) [.ptr (.o 0) 0 0 0 0] []], pre := wr 0 1 l, base := 2, kb := { db := ab9 2 [(4, cW (l ++ c9 [(n : Int)]))], lp := lpNw l n s }, k := kWr (l ++ (c9 [(n : Int)] ++ n9 s n)) [], names := fun _ => [.o 0, .o 63] }
noncomputable def bM6 (l : List UInt8) (n : Nat) (s : Nat → SEnv) (k : Nat) : Pc := { c := cB (cB (cR (cR (f8 Tryz.f58)))), st := aw5 l n s k, p := 2, kb := { db := ab9 64 [(7, cW (l ++ (c9 [(n : Int)] ++ n9 s (k + 1))))] }, k := kpNw l n s k }
end Go.Proofs.YtnmccoincblecaaGreat
