/-
  A call's arguments, as they are handed in, as abstract values; a law's contract as its row wants it (own work of this seat).
-/
import Derived.Test.YthifjamdfpjilaaSy18
import Derived.OpenShut
import Derived.JoinedCond
import Derived.WalkKit
import Derived.ProofKit
namespace Sy
open Go

variable {P : Program}

/-- The cells that lie there. -/
def Uof (w : World) : Imm := fun b => match w.heap[b]? with
  | some (.cells c _ _) => some c
  | _ => none
theorem Uof_spec {w : World} {b : Nat} {c : Array Value} (h : Uof w b = some c) : ∃ el fr, w.heap[b]? = some (.cells c el fr) := by
  unfold Uof at h
  split at h
  · rename_i c' el fr e; cases h; exact ⟨el, fr, e⟩
  · cases h
theorem HRel_start (w : World) : HRel (Uof w) Env.none [] w :=
  ⟨fun n b h => absurd h List.not_mem_nil, fun n b n' b' l l' h => absurd h List.not_mem_nil, List.nodup_nil, fun b c h => Uof_spec h⟩

def opensFs (P : Program) (op : TypeId → Bool) (top : Nat) : Nat → List Field → Bool
  | pos, [] => Nat.beq pos top
  | pos, f :: fs => Nat.beq f.offset pos && (op f.type && opensFs P op top (pos + P.cellsOf f.type) fs)
/-- Types of values that can be opened. -/
def opens (P : Program) : Nat → TypeId → Bool
  | 0, _ => false
  | d + 1, t => match P.underlying t with
    | some .bool => true
    | some (.int _) => true
    | some .string => true
    | some (.slice e) => opens P d e && Nat.blt 0 (P.cellsOf e)
    | some (.struct fs) => opensFs P (opens P d) (P.cellsOf t) 0 fs.toList
    | some (.array n e) => (match P.underlying e with
      | some (.int _) => true
      | _ => false) && (Nat.beq (P.cellsOf e) 1 && Nat.beq (P.cellsOf t) n)
    | _ => false

def ShFs (sh : TypeId → List V → Prop) : List Field → List V → Prop
  | [], vs => vs = []
  | f :: fs, vs => ∃ a b, vs = a ++ b ∧ sh f.type a ∧ ShFs sh fs b
/-- The shape of a type's cells. -/
def ShC (P : Program) : Nat → TypeId → List V → Prop
  | 0, _, _ => False
  | d + 1, t, vs => match P.underlying t with
    | some .bool => ∃ b, vs = [.bool b]
    | some (.int k) => ∃ n, vs = [.int k n] ∧ InR k n
    | some .string => ∃ s : ByteArray, vs = [.str s] ∧ s.size ≤ maxLen
    | some (.slice e) => ∃ len f, vs = [.ros (P.cellsOf e) len f false] ∧ len ≤ maxLen ∧ ∀ i, i < len → ShC P d e (f i)
    | some (.struct fs) => ShFs (ShC P d) fs.toList vs
    | some (.array n e) => ∃ k xs, P.underlying e = some (.int k) ∧ vs = [.seg k n xs] ∧ xs.length = n ∧ ∀ x ∈ xs, InR k x
    | _ => False

theorem mapM_at {α β : Type} {f : α → Option β} : ∀ {l : List α} {r : List β}, l.mapM f = some r → r.length = l.length ∧ ∀ (i : Nat) (a : α), l[i]? = some a → ∃ y, r[i]? = some y ∧ f a = some y
  | [], r, h => by simp at h; subst h; simp
  | a :: l, r, h => by
    rw [List.mapM_cons] at h
    cases hf : f a with
    | none => simp [hf] at h
    | some y =>
      cases hr : l.mapM f with
      | none => simp [hf, hr] at h
      | some ys =>
        simp only [hf, hr, Option.bind_eq_bind, Option.bind_some, Option.pure_def, Option.some.injEq] at h
        subst h
        obtain ⟨h1, h2⟩ := mapM_at hr
        refine ⟨by simp [h1], fun i b hi => ?_⟩
        cases i with
        | zero => simp only [List.getElem?_cons_zero, Option.some.injEq] at hi; subst hi; exact ⟨y, by simp, hf⟩
        | succ i => simp only [List.getElem?_cons_succ] at hi ⊢; exact h2 i b hi

theorem wf_InR {k : IntKind} {n : Int} (h : (Lit.int k n).wf = true) : InR k n := by
  simp only [Lit.wf, Bool.and_eq_true, decide_eq_true_eq] at h; exact h

theorem cell_spot {w : World} {a : Addr} {v : Value} (h : w.cell? a = some v) : a.spot = none ∧ ∃ c el fr, w.heap[a.block]? = some (.cells c el fr) ∧ c[a.off]? = some v := by
  unfold World.cell? at h
  split at h
  · rename_i c el fr e
    cases hs : a.spot with
    | none => simp only [hs, Option.isSome_none, Bool.false_eq_true, if_false] at h; exact ⟨rfl, c, el, fr, e, h⟩
    | some s => simp [hs] at h
  · cases h

theorem parts_open {H : Type} {w : World} {tr : TypeId → List Value → Option (DataW H × List MemPlace)} {sh : TypeId → List V → Prop} {op : TypeId → Bool} {top : Nat}
    (hk : ∀ t cs x, tr t cs = some x → op t = true → ∃ vs, CsRel (Uof w) Env.none vs cs ∧ sh t vs) {cs : List Value} (hlen : cs.length = top) :
    ∀ (fs : List Field) (pos : Nat), opensFs P op top pos fs = true → (∀ f ∈ fs, ∃ y, tr f.type ((cs.drop f.offset).take (P.cellsOf f.type)) = some y) →
      ∃ vs, CsRel (Uof w) Env.none vs (cs.drop pos) ∧ ShFs sh fs vs
  | [], pos, ho, _ => by
    rw [opensFs] at ho
    have := Nat.eq_of_beq_eq_true ho
    refine ⟨[], ?_, rfl⟩
    rw [CsRel, List.drop_eq_nil_of_le (by omega)]
  | f :: fs, pos, ho, h => by
    rw [opensFs, Bool.and_eq_true, Bool.and_eq_true] at ho
    obtain ⟨h1, h2, h3⟩ := ho
    have e1 := Nat.eq_of_beq_eq_true h1
    obtain ⟨y, hf⟩ := h f (List.mem_cons_self ..)
    obtain ⟨a, ha, hsa⟩ := hk _ _ _ hf h2
    obtain ⟨b, hb, hsb⟩ := parts_open hk hlen fs _ h3 fun g hg => h g (List.mem_cons_of_mem _ hg)
    refine ⟨a ++ b, CsRel_append.2 ⟨_, _, ?_, ha, hb⟩, a, b, rfl, hsa, hsb⟩
    rw [e1, ← List.drop_drop, List.take_append_drop]

theorem cells_at {w : World} {base : Nat} {a : Addr} {n : Nat} {cs : List Value} (h : w.cells? base a n = some cs) : cs.length = n ∧ ∀ k, k < n → ∃ v, cs[k]? = some v ∧ w.cell? (a.add k) = some v := by
  unfold World.cells? at h
  split at h
  · obtain ⟨h1, h2⟩ := mapM_at h
    refine ⟨by simpa using h1, fun k hk => ?_⟩
    exact h2 k k (by simp [hk])
  · cases h

/-- The number that a cell holds. -/
def intAt : Option Value → Int
  | some (.int _ z) => z
  | _ => 0
theorem trod_open {H : Type} {enc : TypeId × Value → H} {w : World} {sp : Nat → Bool} : ∀ (fuel : Nat) (t : TypeId) (cs : List Value) (x : DataW H × List MemPlace), DataW.trod enc P w 0 sp true fuel t cs = some x → ∀ d, opens P d t = true →
    ∃ vs, CsRel (Uof w) Env.none vs cs ∧ ShC P fuel t vs
  | 0, t, cs, x, h, _, _ => by simp [DataW.trod] at h
  | fuel + 1, t, cs, x, h, 0, ho => by simp [opens] at ho
  | fuel + 1, t, cs, x, h, d + 1, ho => by
    unfold opens at ho
    have one : ∀ (v : V) (y : Value), v.cell = true → VRel (Uof w) Env.none v y → CsRel (Uof w) Env.none [v] [y] := fun v y hv hy => (CsRel_one hv).2 ⟨y, [], rfl, hy, by rw [CsRel]⟩
    split at ho
    · rename_i hu
      obtain ⟨b, rfl, _⟩ := DataW.trod_bool hu h
      exact ⟨[.bool b], one _ _ rfl (by rw [VRel]), by rw [ShC, hu]; exact ⟨b, rfl⟩⟩
    · rename_i k hu
      obtain ⟨n, rfl, _, hw⟩ := DataW.trod_int hu h
      exact ⟨[.int k n], one _ _ rfl (by rw [VRel]), by rw [ShC, hu]; exact ⟨n, rfl, wf_InR hw⟩⟩
    · rename_i hu
      obtain ⟨s, rfl, _, hs⟩ := DataW.trod_string hu h
      exact ⟨[.str s], one _ _ rfl (by rw [VRel]), by rw [ShC, hu]; exact ⟨s, rfl, hs⟩⟩
    · rename_i e hu
      rw [Bool.and_eq_true] at ho
      obtain ⟨ho1, ho2⟩ := ho
      have hes : 0 < P.cellsOf e := by rwa [Nat.blt_eq] at ho2
      rcases DataW.trod_slice hu h with ⟨rfl, _⟩ | ⟨a, len, cap, elems, rest, n, hn, rfl, _, _, hlc, hcm, hel, helem, _⟩
      · refine ⟨[.ros (P.cellsOf e) 0 (fun _ => []) false], one _ _ rfl ?_, ?_⟩
        · rw [VRel]; exact ⟨none, 0, rfl, Nat.le_refl _, fun _ => rfl, fun i hi => by omega⟩
        · rw [ShC, hu]; exact ⟨0, _, rfl, Nat.zero_le _, fun i hi => by omega⟩
      · cases hn
        have hat : ∀ i, i < len → ∃ vs l, CsRel (Uof w) Env.none vs l ∧ ShC P fuel e vs ∧ l.length = P.cellsOf e ∧ ∀ k, k < P.cellsOf e → ∃ v, l[k]? = some v ∧ w.cell? ((a.add (i * P.cellsOf e)).add k) = some v := by
          intro i hi
          have h1 := helem i hi
          rw [List.getElem?_eq_getElem (by omega)] at h1
          cases hc : w.cells? 0 (a.add (i * P.cellsOf e)) (P.cellsOf e) with
          | none => simp [hc] at h1
          | some l =>
            simp only [hc, Option.bind_some] at h1
            obtain ⟨vs, h2, h3⟩ := trod_open fuel e l _ h1 d ho1
            obtain ⟨h4, h5⟩ := cells_at hc
            exact ⟨vs, l, h2, h3, h4, h5⟩
        refine ⟨[.ros (P.cellsOf e) len (fun i => if hi : i < len then Classical.choose (hat i hi) else []) false], one _ _ rfl ?_, ?_⟩
        · rw [VRel]
          refine ⟨some a, cap, rfl, hlc, fun hh => absurd hh (by simp), fun i hi => ?_⟩
          rw [dif_pos hi]
          obtain ⟨l, h1, h2, h3, h4⟩ := Classical.choose_spec (hat i hi)
          -- the address has no spot
          obtain ⟨_, l0, _, _, _, h04⟩ := hat 0 (by omega)
          obtain ⟨v0, _, h05⟩ := h04 0 hes
          have hsp : a.spot = none := by
            have : (a.add (0 * P.cellsOf e)).add 0 = a := by simp [Addr.add]
            rw [this] at h05
            exact (cell_spot h05).1
          obtain ⟨ab, ao, as⟩ := a
          simp only at hsp; subst hsp
          obtain ⟨v1, _, h15⟩ := h4 0 hes
          rw [Addr.add_lit, Addr.add_lit] at h15
          obtain ⟨_, c, el, fr, hc, _⟩ := cell_spot h15
          refine ⟨ab, ao, c, rfl, by unfold Uof; simp only at hc; rw [hc], l, h1, h3, fun k hk => ?_⟩
          obtain ⟨v, h6, h7⟩ := h4 k (by omega)
          rw [Addr.add_lit, Addr.add_lit] at h7
          obtain ⟨_, c', el', fr', hc', hv⟩ := cell_spot h7
          simp only at hc hc'
          rw [hc] at hc'; cases hc'
          rw [h6, ← hv]
        · rw [ShC, hu]
          refine ⟨len, _, rfl, by omega, fun i hi => ?_⟩
          rw [dif_pos hi]
          obtain ⟨l, _, h2, _⟩ := Classical.choose_spec (hat i hi)
          exact h2
    · rename_i fs hu
      obtain ⟨xs, n, hn, _, hlen, hxl, hf⟩ := DataW.trod_struct hu h
      cases hn
      obtain ⟨vs, h1, h2⟩ := parts_open (P := P) (tr := DataW.trod enc P w 0 sp true fuel) (sh := ShC P fuel) (op := opens P d) (fun t cs x hh ho => trod_open fuel t cs x hh d ho) hlen fs.toList 0 ho fun f hfm => by
        obtain ⟨i, hi, e⟩ := List.mem_iff_getElem.1 hfm
        have hi' : i < fs.size := by simpa using hi
        have := hf i f (by rw [← Array.getElem?_toList, List.getElem?_eq_getElem hi, e])
        exact ⟨xs[i], by rw [this, List.getElem?_eq_getElem (by omega)]⟩
      rw [List.drop_zero] at h1
      exact ⟨vs, h1, by rw [ShC, hu]; exact h2⟩
    · rename_i n e hu
      rw [Bool.and_eq_true, Bool.and_eq_true] at ho
      obtain ⟨ho1, ho2, ho3⟩ := ho
      have e2 := Nat.eq_of_beq_eq_true ho2
      have e3 := Nat.eq_of_beq_eq_true ho3
      split at ho1
      · rename_i k hk
        obtain ⟨xs, m, hm, _, hlen, hxl, hx⟩ := DataW.trod_array hu h
        cases hm
        have hget : ∀ i, i < n → ∃ z, cs[i]? = some (.int k z) ∧ InR k z := by
          intro i hi
          have h1 := hx i hi
          rw [e2, Nat.mul_one, List.getElem?_eq_getElem (by omega)] at h1
          obtain ⟨z, h2, _, h3⟩ := DataW.trod_int hk h1
          refine ⟨z, ?_, wf_InR h3⟩
          have := congrArg (fun l => l[0]?) h2
          simpa [List.getElem?_take, List.getElem?_drop] using this
        have hval : ∀ i, i < n → cs[i]? = some (.int k (intAt cs[i]?)) := by
          intro i hi
          obtain ⟨z, h1, _⟩ := hget i hi
          rw [h1]; rfl
        refine ⟨[.seg k n ((List.range n).map fun i => intAt cs[i]?)], ?_, ?_⟩
        · rw [CsRel]
          refine ⟨cs, [], by simp, .inl ⟨k, n, _, rfl, by simp, ?_⟩, by rw [CsRel]⟩
          apply List.ext_getElem?
          intro i
          rcases Nat.lt_or_ge i n with hi | hi
          · rw [hval i hi]; simp [hi]
          · rw [List.getElem?_eq_none (by omega), List.getElem?_eq_none (by simpa using hi)]
        · rw [ShC, hu]
          refine ⟨k, _, hk, rfl, by simp, fun z hz => ?_⟩
          obtain ⟨i, hi, rfl⟩ := List.mem_map.1 hz
          obtain ⟨z, h1, h2⟩ := hget i (List.mem_range.1 hi)
          rw [h1]; exact h2
      · cases ho1
    · cases ho

theorem mapM_build {α β : Type} {g : α → Option β} : ∀ {l : List α} {xs : List β}, xs.length = l.length → (∀ (i : Nat) (a : α), l[i]? = some a → g a = xs[i]?) → l.mapM g = some xs
  | [], xs, hl, _ => by
    cases xs with
    | nil => rfl
    | cons x xs => simp at hl
  | a :: l, xs, hl, h => by
    cases xs with
    | nil => simp at hl
    | cons x xs =>
      have h0 := h 0 a (by simp)
      simp only [List.getElem?_cons_zero] at h0
      have hr := mapM_build (g := g) (l := l) (xs := xs) (by simpa using hl) fun i b hb => by
        have := h (i + 1) b (by simpa using hb)
        simpa using this
      rw [List.mapM_cons, h0, hr]; rfl

open ChangeShapes in
theorem trod_spare {H : Type} {enc : TypeId × Value → H} {w : World} {sp : Nat → Bool} : ∀ (fuel : Nat) (t : TypeId) (cs : List Value) (x : DataW H × List MemPlace), DataW.trod enc P w 0 (fun _ => true) true fuel t cs = some x → ∀ d, opens P d t = true →
    (∀ p ∈ x.2, sp p.block = true) → DataW.trod enc P w 0 sp true fuel t cs = some x
  | 0, t, cs, x, h, _, _, _ => by simp [DataW.trod] at h
  | fuel + 1, t, cs, x, h, 0, ho, _ => by simp [opens] at ho
  | fuel + 1, t, cs, x, h, d + 1, ho, hs => by
    unfold opens at ho
    split at ho
    · rename_i hu
      obtain ⟨b, rfl, rfl⟩ := DataW.trod_bool hu h
      unfold DataW.trod; rw [hu]
    · rename_i k hu
      obtain ⟨n, rfl, rfl, hw⟩ := DataW.trod_int hu h
      unfold DataW.trod; rw [hu]; simp [hw]
    · rename_i hu
      obtain ⟨s, rfl, rfl, hl⟩ := DataW.trod_string hu h
      unfold DataW.trod; rw [hu]; simp [hl]
    · rename_i e hu
      rw [Bool.and_eq_true] at ho
      obtain ⟨ho1, ho2⟩ := ho
      have hes : 0 < P.cellsOf e := by rwa [Nat.blt_eq] at ho2
      have h0 := h
      rcases DataW.trod_slice hu h0 with ⟨rfl, rfl⟩ | ⟨a, len, cap, elems, rest, n, hn, rfl, hx, _⟩
      · simp [DataW.trod, hu]
      · unfold DataW.trod at h ⊢
        rw [hu] at h ⊢
        simp only [if_true] at h ⊢
        split at h
        · rename_i hc
          rw [if_pos hc]
          obtain ⟨es, h1, h2⟩ := Option.bind_eq_some_iff.1 h
          obtain ⟨rs, h3, h4⟩ := Option.map_eq_some_iff.1 h2
          subst h4
          have hat : ∀ (i : Nat) (y : DataW H × List MemPlace), (∀ p ∈ y.2, sp p.block = true) → (w.cells? 0 (a.add (i * P.cellsOf e)) (P.cellsOf e)).bind (DataW.trod enc P w 0 (fun _ => true) true fuel e) = some y → (w.cells? 0 (a.add (i * P.cellsOf e)) (P.cellsOf e)).bind (DataW.trod enc P w 0 sp true fuel e) = some y := by
            intro i y hy hh
            obtain ⟨l, k1, k2⟩ := Option.bind_eq_some_iff.1 hh
            rw [k1, Option.bind_some]
            exact trod_spare fuel e l y k2 d ho1 hy
          have hmem : ∀ y ∈ es ++ rs, ∀ p ∈ y.2, sp p.block = true := fun y hy p hp => hs p (List.mem_append_right _ (List.mem_flatMap.2 ⟨y, hy, hp⟩))
          rw [mapM_carry h1 fun i y _ hy hh => hat i y (hmem y (List.mem_append_left _ hy)) hh, Option.bind_some]
          have hlr := (mapM_at h3).1
          have hle := (mapM_at h1).1
          simp only [List.length_range] at hlr hle
          have hrest : (if sp a.block = true then (List.range (cap - len)).mapM fun j => (w.cells? 0 (a.add ((len + j) * P.cellsOf e)) (P.cellsOf e)).bind (DataW.trod enc P w 0 sp true fuel e) else some []) = some rs := by
            split
            · exact mapM_carry h3 fun i y _ hy hh => hat (len + i) y (hmem y (List.mem_append_right _ hy)) hh
            · rename_i hsp
              have hz : (es.length + rs.length) * P.cellsOf e = 0 := by
                rcases Nat.eq_zero_or_pos ((es.length + rs.length) * P.cellsOf e) with hz | hz
                · exact hz
                · exact absurd (hs (.cell a.block (a.off + 0)) (List.mem_append_left _ (MemPlace.mem_row.2 ⟨0, hz, rfl⟩))) hsp
              have : es.length + rs.length = 0 := by
                rcases Nat.mul_eq_zero.1 hz with h | h
                · exact h
                · omega
              rw [List.eq_nil_of_length_eq_zero (show rs.length = 0 by omega)]
          rw [hrest, Option.map_some]
        · simp at h
    · rename_i fs hu
      obtain ⟨xs, n, hn, rfl, hlen, hxl, hx⟩ := DataW.trod_struct hu h
      cases hn
      have hop : ∀ f ∈ fs.toList, opens P d f.type = true := by
        have : ∀ (fs : List Field) (pos : Nat), opensFs P (opens P d) (P.cellsOf t) pos fs = true → ∀ f ∈ fs, opens P d f.type = true := by
          intro fs
          induction fs with
          | nil => intro _ _ f hf; cases hf
          | cons g fs ih =>
            intro pos hh f hf
            rw [opensFs, Bool.and_eq_true, Bool.and_eq_true] at hh
            rcases List.mem_cons.1 hf with rfl | hf
            · exact hh.2.1
            · exact ih _ hh.2.2 f hf
        exact this _ _ ho
      refine trod_struct_mk hu hlen (mapM_build (by simpa using hxl) fun i f hf => ?_)
      have hi : i < xs.length := by
        have := (List.getElem?_eq_some_iff.1 hf).1
        rw [hxl]; simpa using this
      have h1 := hx i f (by rw [← Array.getElem?_toList]; exact hf)
      rw [List.getElem?_eq_getElem hi] at h1 ⊢
      exact trod_spare fuel f.type _ _ h1 d (hop f (List.mem_of_getElem? hf)) fun p hp => hs p (List.mem_flatMap.2 ⟨xs[i], List.getElem_mem hi, hp⟩)
    · rename_i n e hu
      rw [Bool.and_eq_true] at ho
      obtain ⟨ho1, _⟩ := ho
      obtain ⟨xs, m, hm, rfl, hlen, hxl, hx⟩ := DataW.trod_array hu h
      cases hm
      split at ho1
      · rename_i k hk
        have hb : ((List.range n).mapM fun i => DataW.trod enc P w 0 sp true fuel e ((cs.drop (i * P.cellsOf e)).take (P.cellsOf e))) = some xs := by
          refine mapM_build (by simpa using hxl) fun i a ha => ?_
          have hi : i < n := by simpa using (List.getElem?_eq_some_iff.1 ha).1
          rw [List.getElem?_range hi] at ha
          cases ha
          have h1 := hx i hi
          rw [List.getElem?_eq_getElem (by omega)] at h1 ⊢
          obtain ⟨z, h2, h3, h4⟩ := DataW.trod_int hk h1
          rw [h2, h3]
          cases fuel with
          | zero => rw [h2] at h1; simp [DataW.trod] at h1
          | succ q => exact trod_int_mk q hk h4
        unfold DataW.trod
        rw [hu]
        split <;> simp_all
      · cases ho1
    · cases ho

/-- What was is as it was. -/
structure KeptW (W W' : World) : Prop where
  size : W.heap.size ≤ W'.heap.size
  block : ∀ k, k < W.heap.size → W'.heap[k]? = W.heap[k]?
  out : W'.os = W.os ∧ W'.output = W.output

theorem KeptW.frame {W W' : World} (h : KeptW W W') (may : MemPlace → Prop) : W.keptBut W' may := by
  refine ⟨h.out.1, h.out.2, fun i hi => ?_⟩
  rw [h.block i hi]
  cases W.heap[i]? with
  | none => trivial
  | some o => cases o <;> simp
theorem KeptW.same {W W' : World} (h : KeptW W W') {p : MemPlace} (hp : p.block < W.heap.size) : W.sameAt W' p := by
  cases p with
  | cell b off => exact World.cell?_of_block (w := W) (h.block b hp)
  | map b => 
    show W'.heap[b]? = W.heap[b]?
    exact h.block b hp

theorem law_calls {f : FuncId} {vs : List V} {args : Array Value} {W : World} (hT : T P f vs [] (.bool true) []) (hv : VsRel (Uof W) Env.none vs args.toList) :
    Calls P f args W fun e W' => e = .returned (.bool true) ∧ KeptW W W' := by
  refine Calls.mono (hT (Uof W) Env.none W args (HRel_start W) hv fun n ⟨b, hb⟩ => absurd hb List.not_mem_nil) ?_
  rintro e W' ⟨x, U', ρ', rfl, L⟩
  have := L.val
  rw [VRel] at this
  subst this
  exact ⟨rfl, L.ext.size, fun k hk => L.ext.frame k hk fun n l ⟨b, hb⟩ => absurd hb List.not_mem_nil, L.ext.out⟩

section
open ChangeShapes WideShapes ChangeAt RowKit
variable {H : Type} {enc : TypeId × Value → H}

/-- So many arguments, each of a type that can be opened. -/
def opensAll (P : Program) : List TypeId → Bool
  | [] => true
  | t :: ts => opens P 12 t && opensAll P ts
/-- A value of a type, as a value: one cell, or a struct's or an array's. -/
def ShV (P : Program) (t : TypeId) (v : V) : Prop := ∃ d vs, ShC P d t vs ∧ (match vs with
  | [u] => (u.cell = true ∧ v = u) ∨ v = .agg vs
  | vs => v = .agg vs)

theorem trodAll_keep {W W' : World} (hK : KeptW W W') {sp : Nat → Bool} : ∀ {ts : List TypeId} {vs : List Value} {ds : List (DataW H)} {ps : List MemPlace}, opensAll P ts = true → DataW.TrodAll enc P W 0 (fun _ => true) true ts vs ds ps → (∀ p ∈ ps, sp p.block = true) →
    DataW.TrodAll enc P W' 0 sp true ts vs ds ps
  | [], [], [], _, _, h, _ => h
  | t :: ts, v :: vs, d :: ds, ps, ho, h, hs => by
    obtain ⟨p, q, ⟨fuel, h1⟩, h2, rfl⟩ := h
    rw [opensAll, Bool.and_eq_true] at ho
    refine ⟨p, q, ⟨fuel, ?_⟩, trodAll_keep hK ho.2 h2 fun x hx => hs x (List.mem_append_right _ hx), rfl⟩
    have h3 := trod_spare fuel t _ _ h1 12 ho.1 (sp := sp) fun x hx => hs x (List.mem_append_left _ hx)
    exact DataW.trod_carry fuel t _ _ h3 fun x hx => hK.same (DataW.trod_lt fuel t _ _ h1 x hx)

theorem law_post {f : Func} {s : ChangeSpec} {apart fresh handsOn again : Bool} {W W' : World} {args : Array Value} {ds gs : List (DataW H)} {before : List MemPlace} {tb : TypeId}
    (hW : DataW.Whole enc P f.params.toList s.vars apart W args.toList ds gs before) (hvars : s.vars = []) (hfn : s.fn H (ds ++ gs) = { results := [.lit (.bool true)], args := ds }) (hres : f.resultTypes = #[tb]) (hb : P.underlying tb = some .bool)
    (ho : opensAll P f.params.toList = true) (hK : KeptW W W') : s.post enc P f apart fresh handsOn again W args (.bool true) W' := by
  have hW0 := hW
  obtain ⟨pa, pv, hA, hV, rfl, hz, hn⟩ := hW
  rw [hvars] at hV
  obtain ⟨rfl, rfl⟩ := trodVars_none hV
  have hlt : ∀ p ∈ pa ++ [], p.block < W.heap.size := fun p hp => hW0.lt p hp
  have hold : ∀ p ∈ pa, (fun b => decide (b < W.heap.size)) p.block = true := fun p hp => by simpa using hlt p (by simpa using hp)
  have hR : ∀ (b : Nat) (sp : Nat → Bool) (hd : Bool), DataW.TrodAll enc P W' b sp hd f.resultTypes.toList ((Value.bool true).resultList f.resultTypes.size) [DataW.lit (.bool true)] [] := by
    intro b sp hd
    rw [hres]
    exact trodAll_cons_mk (shut_bool hb true) trodAll_mk0
  refine ⟨ds, [], pa ++ [], [], pa, [], hW0, by rw [hfn]; exact hR _ _ _, by rw [hfn]; exact trodAll_keep hK ho hA hold, by rw [hfn, hvars]; exact rfl, World.keptBut_mono (fun p hp => hp.elim) (hK.frame (fun _ => False)), fun _ => ?_⟩
  refine ⟨ok_one hres rfl (okWide_bool_mk hb true), _, _, ([] ++ pa) ++ [], ⟨[] ++ pa, [], by simpa using trodAll_append (trodAll_keep hK ho hA fun _ _ => rfl) (hR _ _ _), (show DataW.TrodVars enc P W' (fun _ => true) s.vars [] [] by rw [hvars]; exact rfl), rfl, ?_, ?_⟩, ?_⟩
  · intro b off hp
    have hp' : MemPlace.cell b off ∈ pa ++ [] := by simpa using hp
    have := hz b off hp'
    rw [← this]
    exact World.frozen?_of_block (w := W) (hK.block b (hlt _ hp'))
  · intro ha
    have := hn ha
    simpa using this
  · intro p hp _
    simpa using hp
end
theorem law_walk {P : Program} {f : FuncId} {vs : List V} {args : Array Value} {W : World} {Q : Ending → World → Prop} (hT : T P f vs [] (.bool true) []) (hv : VsRel (Uof W) Env.none vs args.toList) (hQ : ∀ W', KeptW W W' → Q (.returned (.bool true)) W') : Calls P f args W Q :=
  Calls.mono (law_calls hT hv) fun e W' h => by obtain ⟨rfl, hK⟩ := h; exact hQ W' hK
end Sy
