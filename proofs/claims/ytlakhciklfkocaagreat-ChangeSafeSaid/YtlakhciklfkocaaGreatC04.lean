/-
  Contracts and laws that the claim's theorem leans on, joined out of the texts SyOpen SyRng SyData SyShape SyMore SyLend Lz SyCho Pa0D Pa0 Pa2D Pa2 Pa3D Pa3 Pa4D (own work of this seat): A call's arguments, as they are handed in, as abstract values; a law's contract as its row wants it; Ranges over a function: a round of a loop as what a call of its yield does; the statement, out of the iterator's contract; The values that the laws are told, as plain data, and their cells; The shapes of handed values, unfolded; what is known of their cells; Loops that look at each one of many; more glue; Blocks lent to a call that only looks at them; Small contracts; How many hold; nodes chosen by raw numbers until there are enough; Contracts: how many are a quorum, how many may be faulty; penalties; Contracts: how many are a quorum, how many may be faulty; penalties; Contracts: which configs may be; Contracts: which configs may be; Contracts: configs and epochs that may be; the nodes of which something holds; Contracts: configs and epochs that may be; the nodes of which something holds; Contracts: the leaders of an epoch.
-/
import Derived.OpenShut
import Derived.JoinedCond
import Derived.WalkKit
import Derived.ProofKit
import Derived.RangeFuncIn
import Derived.RangeFuncRecord
import Derived.Test.YtlakhciklfkocaaGreatProg
import Derived.Test.YtlakhciklfkocaaGreatC03
set_option linter.unusedVariables false
set_option linter.unusedSimpArgs false
set_option maxHeartbeats 1000000
namespace Sy
open Go

variable {P : Program}

/-- The cells that lie there. -/
def Uof (w : World) : Imm := fun b => match w.heap[b]? with
 | some (.cells c _ _) => some c
 | _ => none
theorem Uof_spec {w : World} {b : Nat} {c : Array Value} (h : Uof w b = some c) : ∃ el fr, w.heap[b]? = some (.cells c el fr) := by
 unfold Uof at h
 split at h
 ·rename_i c' el fr e; cases h; exact ⟨el, fr, e⟩
 ·cases h
theorem HRel_start (w : World) : HRel (Uof w) Env.none [] w :=
 ⟨fun n b h => absurd h List.not_mem_nil, fun n b n' b' l l' h => absurd h List.not_mem_nil, List.nodup_nil, fun b c h => Uof_spec h⟩

def opensFs (P : Program) (op : TypeId → Bool) (top : Nat) : Nat → List Field → Bool
 | pos, [] => Nat.beq pos top
 | pos, f :: fs => Nat.beq f.offset pos && (op f.type && opensFs P op top (pos + P.cellsOf f.type) fs)
/-- Types of values that can be opened. -/
def opens (P : Program) : Nat → TypeId → Bool
 | 0, _ => false
 | d + 1, t => match P.underlying t with
  | some .bool => true
  | some (.int _) => true
  | some .string => true
  | some (.slice e) => opens P d e && Nat.blt 0 (P.cellsOf e)
  | some (.struct fs) => opensFs P (opens P d) (P.cellsOf t) 0 fs.toList
  | some (.array n e) => (match P.underlying e with
   | some (.int _) => true
   | _ => false) && (Nat.beq (P.cellsOf e) 1 && Nat.beq (P.cellsOf t) n)
  | _ => false

def ShFs (sh : TypeId → List V → Prop) : List Field → List V → Prop
 | [], vs => vs = []
 | f :: fs, vs => ∃ a b, vs = a ++ b ∧ sh f.type a ∧ ShFs sh fs b
/-- The shape of a type's cells. -/
def ShC (P : Program) : Nat → TypeId → List V → Prop
 | 0, _, _ => False
 | d + 1, t, vs => match P.underlying t with
  | some .bool => ∃ b, vs = [.bool b]
  | some (.int k) => ∃ n, vs = [.int k n] ∧ InR k n
  | some .string => ∃ s : ByteArray, vs = [.str s] ∧ s.size ≤ maxLen
  | some (.slice e) => ∃ len f, vs = [.ros (P.cellsOf e) len f false] ∧ len ≤ maxLen ∧ ∀ i, i < len → ShC P d e (f i)
  | some (.struct fs) => ShFs (ShC P d) fs.toList vs
  | some (.array n e) => ∃ k xs, P.underlying e = some (.int k) ∧ vs = [.seg k n xs] ∧ xs.length = n ∧ ∀ x ∈ xs, InR k x
  | _ => False

theorem mapM_at {α β : Type} {f : α → Option β} : ∀ {l : List α} {r : List β}, l.mapM f = some r → r.length = l.length ∧ ∀ (i : Nat) (a : α), l[i]? = some a → ∃ y, r[i]? = some y ∧ f a = some y
 | [], r, h => by simp at h; subst h; simp
 | a :: l, r, h => by
  rw [List.mapM_cons] at h
  cases hf : f a with
  | none => simp [hf] at h
  | some y =>
   cases hr : l.mapM f with
   | none => simp [hf, hr] at h
   | some ys =>
    simp only [hf, hr, Option.bind_eq_bind, Option.bind_some, Option.pure_def, Option.some.injEq] at h
    subst h
    obtain ⟨h1, h2⟩ := mapM_at hr
    refine ⟨by simp [h1], fun i b hi => ?_⟩
    cases i with
    | zero => simp only [List.getElem?_cons_zero, Option.some.injEq] at hi; subst hi; exact ⟨y, by simp, hf⟩
    | succ i => simp only [List.getElem?_cons_succ] at hi ⊢; exact h2 i b hi

theorem wf_InR {k : IntKind} {n : Int} (h : (Lit.int k n).wf = true) : InR k n := by
 simp only [Lit.wf, Bool.and_eq_true, decide_eq_true_eq] at h; exact h

theorem cell_spot {w : World} {a : Addr} {v : Value} (h : w.cell? a = some v) : a.spot = none ∧ ∃ c el fr, w.heap[a.block]? = some (.cells c el fr) ∧ c[a.off]? = some v := by
 unfold World.cell? at h
 split at h
 ·rename_i c el fr e
  cases hs : a.spot with
  | none => simp only [hs, Option.isSome_none, Bool.false_eq_true, if_false] at h; exact ⟨rfl, c, el, fr, e, h⟩
  | some s => simp [hs] at h
 ·cases h

theorem parts_open {H : Type} {w : World} {tr : TypeId → List Value → Option (DataW H × List MemPlace)} {sh : TypeId → List V → Prop} {op : TypeId → Bool} {top : Nat}
  (hk : ∀ t cs x, tr t cs = some x → op t = true → ∃ vs, CsRel (Uof w) Env.none vs cs ∧ sh t vs) {cs : List Value} (hlen : cs.length = top) :
  ∀ (fs : List Field) (pos : Nat), opensFs P op top pos fs = true → (∀ f ∈ fs, ∃ y, tr f.type ((cs.drop f.offset).take (P.cellsOf f.type)) = some y) →
   ∃ vs, CsRel (Uof w) Env.none vs (cs.drop pos) ∧ ShFs sh fs vs
 | [], pos, ho, _ => by
  rw [opensFs] at ho
  have := Nat.eq_of_beq_eq_true ho
  refine ⟨[], ?_, rfl⟩
  rw [CsRel, List.drop_eq_nil_of_le (by omega)]
 | f :: fs, pos, ho, h => by
  rw [opensFs, Bool.and_eq_true, Bool.and_eq_true] at ho
  obtain ⟨h1, h2, h3⟩ := ho
  have e1 := Nat.eq_of_beq_eq_true h1
  obtain ⟨y, hf⟩ := h f (List.mem_cons_self ..)
  obtain ⟨a, ha, hsa⟩ := hk _ _ _ hf h2
  obtain ⟨b, hb, hsb⟩ := parts_open hk hlen fs _ h3 fun g hg => h g (List.mem_cons_of_mem _ hg)
  refine ⟨a ++ b, CsRel_append.2 ⟨_, _, ?_, ha, hb⟩, a, b, rfl, hsa, hsb⟩
  rw [e1, ← List.drop_drop, List.take_append_drop]

theorem cells_at {w : World} {base : Nat} {a : Addr} {n : Nat} {cs : List Value} (h : w.cells? base a n = some cs) : cs.length = n ∧ ∀ k, k < n → ∃ v, cs[k]? = some v ∧ w.cell? (a.add k) = some v := by
 unfold World.cells? at h
 split at h
 ·obtain ⟨h1, h2⟩ := mapM_at h
  refine ⟨by simpa using h1, fun k hk => ?_⟩
  exact h2 k k (by simp [hk])
 ·cases h

/-- The number that a cell holds. -/
def intAt : Option Value → Int
 | some (.int _ z) => z
 | _ => 0
theorem trod_open {H : Type} {enc : TypeId × Value → H} {w : World} {sp : Nat → Bool} : ∀ (fuel : Nat) (t : TypeId) (cs : List Value) (x : DataW H × List MemPlace), DataW.trod enc P w 0 sp true fuel t cs = some x → ∀ d, opens P d t = true →
  ∃ vs, CsRel (Uof w) Env.none vs cs ∧ ShC P fuel t vs
 | 0, t, cs, x, h, _, _ => by simp [DataW.trod] at h
 | fuel + 1, t, cs, x, h, 0, ho => by simp [opens] at ho
 | fuel + 1, t, cs, x, h, d + 1, ho => by
  unfold opens at ho
  have one : ∀ (v : V) (y : Value), v.cell = true → VRel (Uof w) Env.none v y → CsRel (Uof w) Env.none [v] [y] := fun v y hv hy => (CsRel_one hv).2 ⟨y, [], rfl, hy, by rw [CsRel]⟩
  split at ho
  ·rename_i hu
   obtain ⟨b, rfl, _⟩ := DataW.trod_bool hu h
   exact ⟨[.bool b], one _ _ rfl (by rw [VRel]), by rw [ShC, hu]; exact ⟨b, rfl⟩⟩
  ·rename_i k hu
   obtain ⟨n, rfl, _, hw⟩ := DataW.trod_int hu h
   exact ⟨[.int k n], one _ _ rfl (by rw [VRel]), by rw [ShC, hu]; exact ⟨n, rfl, wf_InR hw⟩⟩
  ·rename_i hu
   obtain ⟨s, rfl, _, hs⟩ := DataW.trod_string hu h
   exact ⟨[.str s], one _ _ rfl (by rw [VRel]), by rw [ShC, hu]; exact ⟨s, rfl, hs⟩⟩
  ·rename_i e hu
   rw [Bool.and_eq_true] at ho
   obtain ⟨ho1, ho2⟩ := ho
   have hes : 0 < P.cellsOf e := by rwa [Nat.blt_eq] at ho2
   rcases DataW.trod_slice hu h with ⟨rfl, _⟩ | ⟨a, len, cap, elems, rest, n, hn, rfl, _, _, hlc, hcm, hel, helem, _⟩
   ·refine ⟨[.ros (P.cellsOf e) 0 (fun _ => []) false], one _ _ rfl ?_, ?_⟩
    ·rw [VRel]; exact ⟨none, 0, rfl, Nat.le_refl _, fun _ => rfl, fun i hi => by omega⟩
    ·rw [ShC, hu]; exact ⟨0, _, rfl, Nat.zero_le _, fun i hi => by omega⟩
   ·cases hn
    have hat : ∀ i, i < len → ∃ vs l, CsRel (Uof w) Env.none vs l ∧ ShC P fuel e vs ∧ l.length = P.cellsOf e ∧ ∀ k, k < P.cellsOf e → ∃ v, l[k]? = some v ∧ w.cell? ((a.add (i * P.cellsOf e)).add k) = some v := by
     intro i hi
     have h1 := helem i hi
     rw [List.getElem?_eq_getElem (by omega)] at h1
     cases hc : w.cells? 0 (a.add (i * P.cellsOf e)) (P.cellsOf e) with
     | none => simp [hc] at h1
     | some l =>
      simp only [hc, Option.bind_some] at h1
      obtain ⟨vs, h2, h3⟩ := trod_open fuel e l _ h1 d ho1
      obtain ⟨h4, h5⟩ := cells_at hc
      exact ⟨vs, l, h2, h3, h4, h5⟩
    refine ⟨[.ros (P.cellsOf e) len (fun i => if hi : i < len then Classical.choose (hat i hi) else []) false], one _ _ rfl ?_, ?_⟩
    ·rw [VRel]
     refine ⟨some a, cap, rfl, hlc, fun hh => absurd hh (by simp), fun i hi => ?_⟩
     rw [dif_pos hi]
     obtain ⟨l, h1, h2, h3, h4⟩ := Classical.choose_spec (hat i hi)
     -- the address has no spot
     obtain ⟨_, l0, _, _, _, h04⟩ := hat 0 (by omega)
     obtain ⟨v0, _, h05⟩ := h04 0 hes
     have hsp : a.spot = none := by
      have : (a.add (0 * P.cellsOf e)).add 0 = a := by simp [Addr.add]
      rw [this] at h05
      exact (cell_spot h05).1
     obtain ⟨ab, ao, aS⟩ := a
     simp only at hsp; subst hsp
     obtain ⟨v1, _, h15⟩ := h4 0 hes
     rw [Addr.add_lit, Addr.add_lit] at h15
     obtain ⟨_, c, el, fr, hc, _⟩ := cell_spot h15
     refine ⟨ab, ao, c, rfl, by unfold Uof; simp only at hc; rw [hc], l, h1, h3, fun k hk => ?_⟩
     obtain ⟨v, h6, h7⟩ := h4 k (by omega)
     rw [Addr.add_lit, Addr.add_lit] at h7
     obtain ⟨_, c', el', fr', hc', hv⟩ := cell_spot h7
     simp only at hc hc'
     rw [hc] at hc'; cases hc'
     rw [h6, ← hv]
    ·rw [ShC, hu]
     refine ⟨len, _, rfl, by omega, fun i hi => ?_⟩
     rw [dif_pos hi]
     obtain ⟨l, _, h2, _⟩ := Classical.choose_spec (hat i hi)
     exact h2
  ·rename_i fs hu
   obtain ⟨xs, n, hn, _, hlen, hxl, hf⟩ := DataW.trod_struct hu h
   cases hn
   obtain ⟨vs, h1, h2⟩ := parts_open (P := P) (tr := DataW.trod enc P w 0 sp true fuel) (sh := ShC P fuel) (op := opens P d) (fun t cs x hh ho => trod_open fuel t cs x hh d ho) hlen fs.toList 0 ho fun f hfm => by
    obtain ⟨i, hi, e⟩ := List.mem_iff_getElem.1 hfm
    have hi' : i < fs.size := by simpa using hi
    have := hf i f (by rw [← Array.getElem?_toList, List.getElem?_eq_getElem hi, e])
    exact ⟨xs[i], by rw [this, List.getElem?_eq_getElem (by omega)]⟩
   rw [List.drop_zero] at h1
   exact ⟨vs, h1, by rw [ShC, hu]; exact h2⟩
  ·rename_i n e hu
   rw [Bool.and_eq_true, Bool.and_eq_true] at ho
   obtain ⟨ho1, ho2, ho3⟩ := ho
   have e2 := Nat.eq_of_beq_eq_true ho2
   have e3 := Nat.eq_of_beq_eq_true ho3
   split at ho1
   ·rename_i k hk
    obtain ⟨xs, m, hm, _, hlen, hxl, hx⟩ := DataW.trod_array hu h
    cases hm
    have hget : ∀ i, i < n → ∃ z, cs[i]? = some (.int k z) ∧ InR k z := by
     intro i hi
     have h1 := hx i hi
     rw [e2, Nat.mul_one, List.getElem?_eq_getElem (by omega)] at h1
     obtain ⟨z, h2, _, h3⟩ := DataW.trod_int hk h1
     refine ⟨z, ?_, wf_InR h3⟩
     have := congrArg (fun l => l[0]?) h2
     simpa [List.getElem?_take, List.getElem?_drop] using this
    have hval : ∀ i, i < n → cs[i]? = some (.int k (intAt cs[i]?)) := by
     intro i hi
     obtain ⟨z, h1, _⟩ := hget i hi
     rw [h1]; rfl
    refine ⟨[.seg k n ((List.range n).map fun i => intAt cs[i]?)], ?_, ?_⟩
    ·rw [CsRel]
     refine ⟨cs, [], by simp, .inl ⟨k, n, _, rfl, by simp, ?_⟩, by rw [CsRel]⟩
     apply List.ext_getElem?
     intro i
     rcases Nat.lt_or_ge i n with hi | hi
     ·rw [hval i hi]; simp [hi]
     ·rw [List.getElem?_eq_none (by omega), List.getElem?_eq_none (by simpa using hi)]
    ·rw [ShC, hu]
     refine ⟨k, _, hk, rfl, by simp, fun z hz => ?_⟩
     obtain ⟨i, hi, rfl⟩ := List.mem_map.1 hz
     obtain ⟨z, h1, h2⟩ := hget i (List.mem_range.1 hi)
     rw [h1]; exact h2
   ·cases ho1
  ·cases ho

theorem mapM_build {α β : Type} {g : α → Option β} : ∀ {l : List α} {xs : List β}, xs.length = l.length → (∀ (i : Nat) (a : α), l[i]? = some a → g a = xs[i]?) → l.mapM g = some xs
 | [], xs, hl, _ => by
  cases xs with
  | nil => rfl
  | cons x xs => simp at hl
 | a :: l, xs, hl, h => by
  cases xs with
  | nil => simp at hl
  | cons x xs =>
   have h0 := h 0 a (by simp)
   simp only [List.getElem?_cons_zero] at h0
   have hr := mapM_build (g := g) (l := l) (xs := xs) (by simpa using hl) fun i b hb => by
    have := h (i + 1) b (by simpa using hb)
    simpa using this
   rw [List.mapM_cons, h0, hr]; rfl

open ChangeShapes in
theorem trod_spare {H : Type} {enc : TypeId × Value → H} {w : World} {sp : Nat → Bool} : ∀ (fuel : Nat) (t : TypeId) (cs : List Value) (x : DataW H × List MemPlace), DataW.trod enc P w 0 (fun _ => true) true fuel t cs = some x → ∀ d, opens P d t = true →
  (∀ p ∈ x.2, sp p.block = true) → DataW.trod enc P w 0 sp true fuel t cs = some x
 | 0, t, cs, x, h, _, _, _ => by simp [DataW.trod] at h
 | fuel + 1, t, cs, x, h, 0, ho, _ => by simp [opens] at ho
 | fuel + 1, t, cs, x, h, d + 1, ho, hs => by
  unfold opens at ho
  split at ho
  ·rename_i hu
   obtain ⟨b, rfl, rfl⟩ := DataW.trod_bool hu h
   unfold DataW.trod; rw [hu]
  ·rename_i k hu
   obtain ⟨n, rfl, rfl, hw⟩ := DataW.trod_int hu h
   unfold DataW.trod; rw [hu]; simp [hw]
  ·rename_i hu
   obtain ⟨s, rfl, rfl, hl⟩ := DataW.trod_string hu h
   unfold DataW.trod; rw [hu]; simp [hl]
  ·rename_i e hu
   rw [Bool.and_eq_true] at ho
   obtain ⟨ho1, ho2⟩ := ho
   have hes : 0 < P.cellsOf e := by rwa [Nat.blt_eq] at ho2
   have h0 := h
   rcases DataW.trod_slice hu h0 with ⟨rfl, rfl⟩ | ⟨a, len, cap, elems, rest, n, hn, rfl, hx, _⟩
   ·simp [DataW.trod, hu]
   ·unfold DataW.trod at h ⊢
    rw [hu] at h ⊢
    simp only [if_true] at h ⊢
    split at h
    ·rename_i hc
     rw [if_pos hc]
     obtain ⟨es, h1, h2⟩ := Option.bind_eq_some_iff.1 h
     obtain ⟨rs, h3, h4⟩ := Option.map_eq_some_iff.1 h2
     subst h4
     have hat : ∀ (i : Nat) (y : DataW H × List MemPlace), (∀ p ∈ y.2, sp p.block = true) → (w.cells? 0 (a.add (i * P.cellsOf e)) (P.cellsOf e)).bind (DataW.trod enc P w 0 (fun _ => true) true fuel e) = some y → (w.cells? 0 (a.add (i * P.cellsOf e)) (P.cellsOf e)).bind (DataW.trod enc P w 0 sp true fuel e) = some y := by
      intro i y hy hh
      obtain ⟨l, k1, k2⟩ := Option.bind_eq_some_iff.1 hh
      rw [k1, Option.bind_some]
      exact trod_spare fuel e l y k2 d ho1 hy
     have hmem : ∀ y ∈ es ++ rs, ∀ p ∈ y.2, sp p.block = true := fun y hy p hp => hs p (List.mem_append_right _ (List.mem_flatMap.2 ⟨y, hy, hp⟩))
     rw [mapM_carry h1 fun i y _ hy hh => hat i y (hmem y (List.mem_append_left _ hy)) hh, Option.bind_some]
     have hlr := (mapM_at h3).1
     have hle := (mapM_at h1).1
     simp only [List.length_range] at hlr hle
     have hrest : (if sp a.block = true then (List.range (cap - len)).mapM fun j => (w.cells? 0 (a.add ((len + j) * P.cellsOf e)) (P.cellsOf e)).bind (DataW.trod enc P w 0 sp true fuel e) else some []) = some rs := by
      split
      ·exact mapM_carry h3 fun i y _ hy hh => hat (len + i) y (hmem y (List.mem_append_right _ hy)) hh
      ·rename_i hsp
       have hz : (es.length + rs.length) * P.cellsOf e = 0 := by
        rcases Nat.eq_zero_or_pos ((es.length + rs.length) * P.cellsOf e) with hz | hz
        ·exact hz
        ·exact absurd (hs (.cell a.block (a.off + 0)) (List.mem_append_left _ (MemPlace.mem_row.2 ⟨0, hz, rfl⟩))) hsp
       have : es.length + rs.length = 0 := by
        rcases Nat.mul_eq_zero.1 hz with h | h
        ·exact h
        ·omega
       rw [List.eq_nil_of_length_eq_zero (show rs.length = 0 by omega)]
     rw [hrest, Option.map_some]
    ·simp at h
  ·rename_i fs hu
   obtain ⟨xs, n, hn, rfl, hlen, hxl, hx⟩ := DataW.trod_struct hu h
   cases hn
   have hop : ∀ f ∈ fs.toList, opens P d f.type = true := by
    have : ∀ (fs : List Field) (pos : Nat), opensFs P (opens P d) (P.cellsOf t) pos fs = true → ∀ f ∈ fs, opens P d f.type = true := by
     intro fs
     induction fs with
     | nil => intro _ _ f hf; cases hf
     | cons g fs ih =>
      intro pos hh f hf
      rw [opensFs, Bool.and_eq_true, Bool.and_eq_true] at hh
      rcases List.mem_cons.1 hf with rfl | hf
      ·exact hh.2.1
      ·exact ih _ hh.2.2 f hf
    exact this _ _ ho
   refine trod_struct_mk hu hlen (mapM_build (by simpa using hxl) fun i f hf => ?_)
   have hi : i < xs.length := by
    have := (List.getElem?_eq_some_iff.1 hf).1
    rw [hxl]; simpa using this
   have h1 := hx i f (by rw [← Array.getElem?_toList]; exact hf)
   rw [List.getElem?_eq_getElem hi] at h1 ⊢
   exact trod_spare fuel f.type _ _ h1 d (hop f (List.mem_of_getElem? hf)) fun p hp => hs p (List.mem_flatMap.2 ⟨xs[i], List.getElem_mem hi, hp⟩)
  ·rename_i n e hu
   rw [Bool.and_eq_true] at ho
   obtain ⟨ho1, _⟩ := ho
   obtain ⟨xs, m, hm, rfl, hlen, hxl, hx⟩ := DataW.trod_array hu h
   cases hm
   split at ho1
   ·rename_i k hk
    have hb : ((List.range n).mapM fun i => DataW.trod enc P w 0 sp true fuel e ((cs.drop (i * P.cellsOf e)).take (P.cellsOf e))) = some xs := by
     refine mapM_build (by simpa using hxl) fun i a ha => ?_
     have hi : i < n := by simpa using (List.getElem?_eq_some_iff.1 ha).1
     rw [List.getElem?_range hi] at ha
     cases ha
     have h1 := hx i hi
     rw [List.getElem?_eq_getElem (by omega)] at h1 ⊢
     obtain ⟨z, h2, h3, h4⟩ := DataW.trod_int hk h1
     rw [h2, h3]
     cases fuel with
     | zero => rw [h2] at h1; simp [DataW.trod] at h1
     | succ q => exact trod_int_mk q hk h4
    unfold DataW.trod
    rw [hu]
    split <;> simp_all
   ·cases ho1
  ·cases ho

/-- What was is as it was. -/
structure KeptW (W W' : World) : Prop where
 size : W.heap.size ≤ W'.heap.size
 block : ∀ k, k < W.heap.size → W'.heap[k]? = W.heap[k]?
 out : W'.os = W.os ∧ W'.output = W.output

theorem KeptW.frame {W W' : World} (h : KeptW W W') (may : MemPlace → Prop) : W.keptBut W' may := by
 refine ⟨h.out.1, h.out.2, fun i hi => ?_⟩
 rw [h.block i hi]
 cases W.heap[i]? with
 | none => trivial
 | some o => cases o <;> simp
theorem KeptW.same {W W' : World} (h : KeptW W W') {p : MemPlace} (hp : p.block < W.heap.size) : W.sameAt W' p := by
 cases p with
 | cell b off => exact World.cell?_of_block (w := W) (h.block b hp)
 | map b => 
  show W'.heap[b]? = W.heap[b]?
  exact h.block b hp

theorem law_calls {f : FuncId} {vs : List V} {args : Array Value} {W : World} (hT : T P f vs [] (.bool true) []) (hv : VsRel (Uof W) Env.none vs args.toList) :
  Calls P f args W fun e W' => e = .returned (.bool true) ∧ KeptW W W' := by
 refine Calls.mono (hT (Uof W) Env.none W args (HRel_start W) hv fun n ⟨b, hb⟩ => absurd hb List.not_mem_nil) ?_
 rintro e W' ⟨x, U', ρ', rfl, L⟩
 have := L.val
 rw [VRel] at this
 subst this
 exact ⟨rfl, L.ext.size, fun k hk => L.ext.frame k hk fun n l ⟨b, hb⟩ => absurd hb List.not_mem_nil, L.ext.out⟩

section
open ChangeShapes WideShapes ChangeAt RowKit
variable {H : Type} {enc : TypeId × Value → H}

/-- So many arguments, each of a type that can be opened. -/
def opensAll (P : Program) : List TypeId → Bool
 | [] => true
 | t :: ts => opens P 12 t && opensAll P ts
theorem trodAll_keep {W W' : World} (hK : KeptW W W') {sp : Nat → Bool} : ∀ {ts : List TypeId} {vs : List Value} {ds : List (DataW H)} {ps : List MemPlace}, opensAll P ts = true → DataW.TrodAll enc P W 0 (fun _ => true) true ts vs ds ps → (∀ p ∈ ps, sp p.block = true) →
  DataW.TrodAll enc P W' 0 sp true ts vs ds ps
 | [], [], [], _, _, h, _ => h
 | t :: ts, v :: vs, d :: ds, ps, ho, h, hs => by
  obtain ⟨p, q, ⟨fuel, h1⟩, h2, rfl⟩ := h
  rw [opensAll, Bool.and_eq_true] at ho
  refine ⟨p, q, ⟨fuel, ?_⟩, trodAll_keep hK ho.2 h2 fun x hx => hs x (List.mem_append_right _ hx), rfl⟩
  have h3 := trod_spare fuel t _ _ h1 12 ho.1 (sp := sp) fun x hx => hs x (List.mem_append_left _ hx)
  exact DataW.trod_carry fuel t _ _ h3 fun x hx => hK.same (DataW.trod_lt fuel t _ _ h1 x hx)

theorem law_post {f : Func} {s : ChangeSpec} {apart fresh handsOn again : Bool} {W W' : World} {args : Array Value} {ds gs : List (DataW H)} {before : List MemPlace} {tb : TypeId}
  (hW : DataW.Whole enc P f.params.toList s.vars apart W args.toList ds gs before) (hvars : s.vars = []) (hfn : s.fn H (ds ++ gs) = { results := [.lit (.bool true)], args := ds }) (hres : f.resultTypes = #[tb]) (hb : P.underlying tb = some .bool)
  (ho : opensAll P f.params.toList = true) (hK : KeptW W W') : s.post enc P f apart fresh handsOn again W args (.bool true) W' := by
 have hW0 := hW
 obtain ⟨pa, pv, hA, hV, rfl, hz, hn⟩ := hW
 rw [hvars] at hV
 obtain ⟨rfl, rfl⟩ := trodVars_none hV
 have hlt : ∀ p ∈ pa ++ [], p.block < W.heap.size := fun p hp => hW0.lt p hp
 have hold : ∀ p ∈ pa, (fun b => decide (b < W.heap.size)) p.block = true := fun p hp => by simpa using hlt p (by simpa using hp)
 have hR : ∀ (b : Nat) (sp : Nat → Bool) (hd : Bool), DataW.TrodAll enc P W' b sp hd f.resultTypes.toList ((Value.bool true).resultList f.resultTypes.size) [DataW.lit (.bool true)] [] := by
  intro b sp hd
  rw [hres]
  exact trodAll_cons_mk (shut_bool hb true) trodAll_mk0
 refine ⟨ds, [], pa ++ [], [], pa, [], hW0, by rw [hfn]; exact hR _ _ _, by rw [hfn]; exact trodAll_keep hK ho hA hold, by rw [hfn, hvars]; exact rfl, World.keptBut_mono (fun p hp => hp.elim) (hK.frame (fun _ => False)), fun _ => ?_⟩
 refine ⟨ok_one hres rfl (okWide_bool_mk hb true), _, _, ([] ++ pa) ++ [], ⟨[] ++ pa, [], by simpa using trodAll_append (trodAll_keep hK ho hA fun _ _ => rfl) (hR _ _ _), (show DataW.TrodVars enc P W' (fun _ => true) s.vars [] [] by rw [hvars]; exact rfl), rfl, ?_, ?_⟩, ?_⟩
 ·intro b off hp
  have hp' : MemPlace.cell b off ∈ pa ++ [] := by simpa using hp
  have := hz b off hp'
  rw [← this]
  exact World.frozen?_of_block (w := W) (hK.block b (hlt _ hp'))
 ·intro ha
  have := hn ha
  simpa using this
 ·intro p hp _
  simpa using hp
end
theorem law_walk {P : Program} {f : FuncId} {vs : List V} {args : Array Value} {W : World} {Q : Ending → World → Prop} (hT : T P f vs [] (.bool true) []) (hv : VsRel (Uof W) Env.none vs args.toList) (hQ : ∀ W', KeptW W W' → Q (.returned (.bool true)) W') : Calls P f args W Q :=
 Calls.mono (law_calls hT hv) fun e W' h => by obtain ⟨rfl, hK⟩ := h; exact hQ W' hK
end Sy
namespace Sy
open Go
variable {P : Program}
variable {X : List Deferred}

/-- A step's own blocks turned, in the state. -/
theorem leaves_state {p : Nat} {U U' : Imm} {ρ ρ' : Env} {st : St} {a : Act} {w w' : World} {pre rest post : Heap} {val : V} {x : Value} {nx : Nat}
  (hs : StRel X U ρ st a w) (hperm : st.heap.Perm (pre ++ rest)) (hp : p ≤ st.next) (hnx : st.next ≤ nx)
  (hfresh : ∀ n, post.dom n → pre.dom n ∨ ∃ k, n = .o k ∧ st.next ≤ k ∧ k < nx) (L : Leaves U ρ pre w val post x U' ρ' w') :
  VRel U' (Env.both post ρ' ρ) val x ∧ StRel X U' (Env.both post ρ' ρ) ⟨st.tmps, post ++ rest, nx, st.dfs⟩ a w' ∧ Turn p U ρ st.heap w U' (Env.both post ρ' ρ) (post ++ rest) w' := by
 have H := hs.heap.perm hperm
 have hf : ∀ n, post.dom n → pre.dom n ∨ ρ n = none := fun n hd => (hfresh n hd).imp id fun ⟨k, hk, h1, _⟩ => by rw [hk]; exact hs.fresh k h1
 obtain ⟨h1, h2, h3, h4⟩ := L.frame H hf
 refine ⟨h2, ⟨VsRel.mono L.ext.imm h1 hs.tmps, DfRel.mono h1 hs.dfs, h3, fun k hk => ?_⟩, h4.perm hperm.symm (List.Perm.refl _), fun n hpn => ?_⟩
 ·have hnp : ¬ post.dom (.o k) := fun hd => by
   rcases hfresh _ hd with ⟨b, hb⟩ | ⟨k', e, _, h6⟩
   ·obtain ⟨l, e, _⟩ := H.left.blk _ _ hb; rw [hs.fresh k (Nat.le_trans hnx hk)] at e; cases e
   ·cases e; exact absurd hk (Nat.not_le.2 h6)
  simp only [Env.both, hnp, if_false]; exact hs.fresh k (Nat.le_trans hnx hk)
 ·constructor
  ·by_cases hpd : post.dom n
   ·rcases hfresh n hpd with hpre | ⟨k, rfl, h5, _⟩
    ·obtain ⟨l, hl⟩ := H.left.ex hpre
     rw [h1 _ _ hl, hl]
    ·simp only [Nm.pin, decide_eq_true_eq] at hpn; omega
   ·simp [Env.both, hpd]
  ·intro hd
   rcases dom_append.1 hd with hd | hd
   ·rcases hfresh n hd with hpre | ⟨k, rfl, h5, _⟩
    ·exact (perm_dom hperm n).2 (dom_append.2 (.inl hpre))
    ·simp only [Nm.pin, decide_eq_true_eq] at hpn; omega
   ·exact (perm_dom hperm n).2 (dom_append.2 (.inr hd))

theorem StRel.perm {U ρ} {st : St} {a : Act} {w : World} {h : Heap} (s : StRel X U ρ st a w) (hp : st.heap.Perm h) : StRel X U ρ ⟨st.tmps, h, st.next, st.dfs⟩ a w :=
 ⟨s.tmps, s.dfs, s.heap.perm hp, s.fresh⟩

/-- A block is let go. -/
theorem StRel.drop {p : Nat} {U ρ} {st : St} {a : Act} {w : World} {b rest : Heap} (s : StRel X U ρ st a w) (hp : st.heap.Perm (b ++ rest)) :
  StRel X U ρ ⟨st.tmps, rest, st.next, st.dfs⟩ a w ∧ Turn p U ρ st.heap w U ρ rest w :=
 ⟨⟨s.tmps, s.dfs, (s.heap.perm hp).right, s.fresh⟩, ⟨Nat.le_refl _, Imm.le_refl _, fun _ _ _ => rfl, fun n l hd e hr => .inr ⟨n, l, (perm_dom hp n).2 (dom_append.2 (.inr hd)), e, hr, rfl⟩, fun _ _ e => .inl e, rfl, rfl⟩,
  fun n _ => ⟨rfl, fun hd => (perm_dom hp n).2 (dom_append.2 (.inr hd))⟩⟩

/-- A loop's record, turned. -/
theorem loop_turn {p : Nat} {U : Imm} {ρ : Env} {st : St} {a : Act} {w : World} {n : Nm} {fn : FuncId} {ps : Array Tmp} {ts : List V} {assign body : Code} {s : LoopState} {pe : Option Code} {rest : Heap}
  (hs : StRel X U ρ st a w) (hperm : st.heap.Perm ((n, .loop fn ps ts assign body s pe) :: rest)) (hp : p ≤ st.next) :
  ∃ l r, ρ n = some l ∧ l.real = true ∧ w.heap[l.blk]? = some (.loop r) ∧ r.fn = fn ∧ r.params = ps ∧ r.assign = assign ∧ r.body = body ∧ r.state = s ∧ r.pending = pe ∧ VsRel U ρ ts r.tmps.toList ∧
   ∀ s' pe', ∃ ρ', StRel X U ρ' ⟨st.tmps, (n, .loop fn ps ts assign body s' pe') :: rest, st.next, st.dfs⟩ a (w.putObj l.blk (.loop { r with state := s', pending := pe' })) ∧
    Turn p U ρ st.heap w U ρ' ((n, .loop fn ps ts assign body s' pe') :: rest) (w.putObj l.blk (.loop { r with state := s', pending := pe' })) := by
 have H := hs.heap.perm hperm
 have hb : (n, B.loop fn ps ts assign body s pe) ∈ (n, .loop fn ps ts assign body s pe) :: rest := List.mem_cons_self ..
 obtain ⟨l, h1, h2⟩ := H.blk n _ hb
 have hr : l.real = true := by
  rcases h2 with ⟨h, _⟩ | ⟨_, es, f, h⟩
  ·exact h
  ·cases h
 obtain ⟨o, h3, h4, h5⟩ := H.real hb h1 hr
 obtain ⟨r, rfl, e1, e2, e3, e4, e5, e6, e7⟩ := h4
 refine ⟨l, r, h1, hr, h3, e1, e2, e4, e5, e6, e7, e3, fun s' pe' => ?_⟩
 have L := Leaves.set (w' := w.putObj l.blk (.loop { r with state := s', pending := pe' })) (val := V.any) (x := undef) (b' := .loop fn ps ts assign body s' pe') (o' := .loop { r with state := s', pending := pe' })
  (HRel.left (a := [(n, B.loop fn ps ts assign body s pe)]) (b := rest) H) h1 hr rfl ⟨_, rfl, e1, e2, e3, e4, e5, rfl, rfl⟩ (by rw [VRel]; trivial)
 obtain ⟨_, g1, g2⟩ := leaves_state (p := p) (nx := st.next) hs (pre := [(n, B.loop fn ps ts assign body s pe)]) (rest := rest) hperm hp (Nat.le_refl _)
  (fun m ⟨b, hm⟩ => .inl ⟨_, by simp only [List.mem_singleton, Prod.mk.injEq] at hm; rw [hm.1]; exact List.mem_cons_self ..⟩) L
 exact ⟨_, g1, g2⟩

/-! ### A round -/
def setMany : List V → List (Nat × V) → List V
 | l, [] => l
 | l, p :: r => setMany (setV l p.1 p.2) r
theorem setMany_rel {U : Imm} {ρ : Env} : ∀ {ps : List Tmp} {args : List V} {xs : List Value} {ts : List V} {t : Array Value}, VsRel U ρ ts t.toList → VsRel U ρ args xs → ps.length = args.length →
  VsRel U ρ (setMany ts (ps.zip args)) ((ps.zip xs).foldl (fun t (p, v) => t.setIfInBounds p v) t).toList
 | [], _, _, _, _, ht, _, _ => by simpa [setMany] using ht
 | p :: ps, [], _, _, _, _, _, hl => by simp at hl
 | p :: ps, v :: vs, xs, ts, t, ht, ha, hl => by
  rw [VsRel] at ha
  obtain ⟨x, r, rfl, h1, h2⟩ := ha
  simp only [List.zip_cons_cons, setMany, List.foldl_cons]
  refine setMany_rel ?_ h2 (by simpa using hl)
  have := setV_rel h1 p ht
  simpa using this
theorem VsRel.length_eq {U : Imm} {ρ : Env} : ∀ {vs : List V} {l : List Value}, VsRel U ρ vs l → l.length = vs.length
 | [], l, h => by rw [VsRel] at h; subst h; rfl
 | v :: vs, l, h => by rw [VsRel] at h; obtain ⟨x, r, rfl, _, h⟩ := h; simp [VsRel.length_eq h]

/-- How a round may end: the body's exit, what yield gives, the record's state, the pending jump. -/
inductive RoundEnd : Exit → V → LoopState → Option Code → Prop where
 | on : RoundEnd .normal (.bool true) .ready none
 | ret : RoundEnd .ret (.bool false) .done (some .ret)
 | exit (id : Nat) : RoundEnd (.exit id) (.bool false) .done (some (.exit id))

theorem TV_round {n : Nm} {p : Nat} {fn : FuncId} {ps : Array Tmp} {ts args : List V} {assign body : Code} {h0 h1 post rest2 : Heap} {st1 st2 : St} {e : Exit} {val : V} {s' : LoopState} {pe : Option Code}
  (hlen : ps.size = args.length) (hpin : PinH p ((n, .loop fn ps ts assign body .ready none) :: h0)) (hargs : V.withins (Nm.pin p) (setMany ts (ps.toList.zip args)) = true)
  (hA : ∀ l, R P (some l) p assign ⟨setMany ts (ps.toList.zip args), (n, .loop fn ps ts assign body .ready none) :: h0, p, []⟩ .normal st1)
  (hp1 : st1.heap.Perm ((n, .loop fn ps ts assign body .ready none) :: h1)) (hn1 : p ≤ st1.next)
  (hB : ∀ l, R P (some l) p body ⟨st1.tmps, (n, .loop fn ps ts assign body .busy none) :: h1, st1.next, st1.dfs⟩ e st2)
  (hp2 : st2.heap.Perm ((n, .loop fn ps ts assign body .busy none) :: (post ++ rest2))) (hn2 : p ≤ st2.next) (hends : RoundEnd e val s' pe)
  (hwp : ∀ q ∈ (n, B.loop fn ps ts assign body s' pe) :: post, ∃ S : Nm → Bool, q.2.within S = true ∧ ∀ m, S m = true → m.pin p = true ∨ Heap.dom ((n, B.loop fn ps ts assign body s' pe) :: post) m) :
  TV P (.yld n) args ((n, .loop fn ps ts assign body .ready none) :: h0) val ((n, .loop fn ps ts assign body s' pe) :: post) := by
 intro U ρ w x xs hh hx ha hfr
 rw [VRel] at hx
 obtain ⟨l, hl, hr, rfl⟩ := hx
 obtain ⟨o, g1, g2, _⟩ := hh.real (List.mem_cons_self ..) hl hr
 obtain ⟨r, rfl, e1, e2, e3, e4, e5, e6, e7⟩ := g2
 have hrun : (do let d ← Deferred.ofValue (.func (.yield l.blk) #[] #[]) xs; invoke d.target d.args : Sem Next).run P w = (Instr.yield l.blk xs).run P w := by
  simp [Deferred.ofValue, Sem.run_bind, Sem.run_pure, Result.andThen_ok, invoke]
 have hxs : xs.size = r.params.size := by rw [e2, hlen, ← VsRel.length_eq ha, Array.length_toList]
 rw [hrun, run_yield g1 hxs]
 have hpn : n.pin p = true := (hpin _ (List.mem_cons_self ..)).1
 rw [e4, e5]
 refine roundIn_of_wpIn trivial ?_
 have hs0 := start (k := 0) (p := p) (xs := (r.params.zip xs).foldl (fun t (p, v) => t.setIfInBounds p v) r.tmps) hh (by
  have := setMany_rel (ps := ps.toList) e3 ha (by rw [Array.length_toList]; exact hlen)
  rw [e2, ← Array.foldl_toList, Array.toList_zip]; exact this) hpin hargs
 simp only [List.replicate_zero, List.append_nil, Array.replicate_zero, Array.append_empty] at hs0
 refine hA l.blk U (restrict p ρ) _ w _ hs0 fun U1 ρ1 a1 w1 s1 t1 => ?_
 obtain ⟨l1, r1, k1, k2, k3, k4, k5, k6, k7, k8, k9, k10, k11⟩ := loop_turn (p := p) s1 hp1 hn1
 have hl1 : l1 = l := by
  have := (t1.pins n hpn).1
  rw [restrict_pin hpn, hl, k1] at this; exact Option.some.inj this
 subst hl1
 obtain ⟨ρ1', s1', t1'⟩ := k11 .busy none
 have hbr := run_beginRound (P := P) k3 k8
 rw [show ({ r1 with state := LoopState.busy } : Loop) = { r1 with state := .busy, pending := none } by rw [← k9]] at hbr
 refine ⟨_, hbr, hB l1.blk U1 ρ1' a1 _ _ s1' fun U2 ρ2 a2 w3 s2 t2 => ?_⟩
 have tt := t1.trans ((t1'.perm (List.Perm.refl _) (List.Perm.refl _)).trans t2)
 obtain ⟨l2, r2, m1, m2, m3, m4, m5, m6, m7, m8, m9, m10, m11⟩ := loop_turn (p := p) s2 hp2 hn2
 have hl2 : l2 = l1 := by
  have := (tt.pins n hpn).1
  rw [restrict_pin hpn, hl, m1] at this; exact Option.some.inj this
 subst hl2
 have fin : ∀ (jump : Option Code) (s' : LoopState), s' = (if jump.isNone then .ready else .done) → val = .bool jump.isNone → pe = jump →
   (∀ q ∈ (n, B.loop fn ps ts assign body s' pe) :: post, ∃ S : Nm → Bool, q.2.within S = true ∧ ∀ m, S m = true → m.pin p = true ∨ Heap.dom ((n, B.loop fn ps ts assign body s' pe) :: post) m) →
   (∀ m, Heap.dom ((n, B.loop fn ps ts assign body s' pe) :: post) m → Heap.dom ((n, B.loop fn ps ts assign body .ready none) :: h0) m ∨ ρ m = none) →
   ∃ v w', (Instr.endRound l2.blk jump).run P w3 = .ok v w' ∧ ∃ v', Ending.returned v = Ending.returned v' ∧ ∃ U' ρ', Leaves U ρ ((n, B.loop fn ps ts assign body .ready none) :: h0) w val ((n, B.loop fn ps ts assign body s' pe) :: post) v' U' ρ' w' := by
  intro jump s' hs' hv hpe hwp hfr
  subst hs' hv hpe
  obtain ⟨ρ3, s3, t3⟩ := m11 (if pe.isNone then .ready else .done) pe
  refine ⟨_, _, run_endRound pe m3, _, rfl, U2, Env.both ((n, B.loop fn ps ts assign body (if pe.isNone then .ready else .done) pe) :: post) ρ3 ρ, ?_⟩
  refine finish (heap' := (n, B.loop fn ps ts assign body (if pe.isNone then .ready else .done) pe) :: (post ++ rest2)) hpin hfr (by rw [VRel]) ?_ (tt.trans t3) (fun m ⟨b, hb⟩ => ⟨b, by
   rcases List.mem_cons.1 hb with h | h
   ·rw [h]; exact List.mem_cons_self ..
   ·exact List.mem_cons_of_mem _ (List.mem_append_left _ h)⟩) ⟨fun _ => false, by rfl, fun _ h => by cases h⟩ hwp
  exact HRel.left (a := (n, B.loop fn ps ts assign body (if pe.isNone then .ready else .done) pe) :: post) (b := rest2) s3.heap
 cases hends with
 | on => exact fin none .ready rfl rfl rfl hwp hfr
 | ret => exact fin (some .ret) .done rfl rfl rfl hwp hfr
 | exit id => exact fin (some (.exit id)) .done rfl rfl rfl hwp hfr

/-! ### The statement -/
inductive LoopEnd : Option Code → Exit → Prop where
 | on : LoopEnd none .normal
 | ret : LoopEnd (some .ret) .ret
 | exit (id : Nat) : LoopEnd (some (.exit id)) (.exit id)

theorem R_range (hng : NoNG P) {p : Nat} {st : St} {g : Operand} {ps : Array Tmp} {assign body : Code} {k : FuncId} {caps : List V} {pre rest post : Heap} {val : V} {s : LoopState} {pe : Option Code} {nx : Nat} {e : Exit}
  (hp : p ≤ st.next) (hg : evV st.tmps g = .fn (.func k) [] caps) (hcall : callable P k = true) (hperm : st.heap.Perm (pre ++ rest))
  (hT : ∀ fn, T P k (.yld (.o (st.next + 1)) :: caps) ((.o (st.next + 1), .loop fn ps st.tmps assign body .ready none) :: pre) val ((.o (st.next + 1), .loop fn ps st.tmps assign body s pe) :: post))
  (hs : s ≠ .busy) (hnew : ∀ n, Heap.dom post n → Heap.dom pre n ∨ ∃ k, n = .o k ∧ st.next + 2 ≤ k ∧ k < nx) (hnx : st.next + 2 ≤ nx) (he : LoopEnd pe e) :
  R P none p (.rangeFunc g ps assign body) st e ⟨st.tmps, post ++ ((.o st.next, .dfr) :: rest), nx, .o st.next :: st.dfs⟩ := by
 intro X U ρ a w Q hst hQ
 have hgv := evV_rel hst.tmps g
 rw [hg, VRel] at hgv
 obtain ⟨l0, lb, hge, hl0, hlb⟩ := hgv
 rw [VsRel] at hl0
 have hl0' : l0 = #[] := by apply Array.ext'; simpa using hl0
 subst hl0'
 -- the mark's block
 have L1 := Leaves.new (w' := w.alloc (.deferred (some []))) (val := V.any) (x := undef) (m := .o st.next) (b := .dfr) (o := .deferred (some [])) (sz := 0) (hst.heap) (hst.fresh _ (Nat.le_refl _)) rfl rfl (by rw [VRel]; trivial)
 have hne0 : ∀ {h : Heap} {n : Nm} {b : B}, Heap.dom ((n, b) :: h) n := fun {h n b} => ⟨b, List.mem_cons_self ..⟩
 obtain ⟨_, s1, t1⟩ := leaves_state (p := p) (nx := st.next + 1) hst (pre := st.heap) (rest := []) (by simp) hp (by omega) (fun m hm => by
  obtain ⟨b, hb⟩ := hm
  rcases List.mem_cons.1 hb with h | h
  ·cases h; exact .inr ⟨_, rfl, by omega, by omega⟩
  ·exact .inl ⟨b, h⟩) L1
 rw [List.append_nil] at s1 t1
 obtain ⟨ρ1, hρ1⟩ : ∃ ρ1, Env.both ((Nm.o st.next, B.dfr) :: st.heap) (ρ.add (.o st.next) ⟨w.heap.size, 0, true⟩) ρ = ρ1 := ⟨_, rfl⟩
 have hD : ρ1 (.o st.next) = some ⟨w.heap.size, 0, true⟩ := by rw [← hρ1]; simp only [Env.both, hne0, if_true]; exact Env.add_self
 rw [hρ1] at s1 t1
 obtain ⟨a', ha'⟩ : ∃ a', ({ a with defers := { target := .collected w.heap.size, args := #[] } :: a.defers } : Act) = a' := ⟨_, rfl⟩
 have s1' : StRel X U ρ1 ⟨st.tmps, (.o st.next, .dfr) :: st.heap, st.next + 1, .o st.next :: st.dfs⟩ a' (w.alloc (.deferred (some []))) := by
  refine ⟨by rw [← ha']; exact s1.tmps, ?_, s1.heap, s1.fresh⟩
  rw [← ha']
  exact ⟨_, _, hD, rfl, s1.dfs⟩
 refine wpIn_rangeFunc fun fn _ => ?_
 -- the loop's record
 obtain ⟨rec, hrec⟩ : ∃ rec : Loop, ({ state := .ready, pending := none, fn, tmps := a.tmps, params := ps, assign, body, defers := w.heap.size } : Loop) = rec := ⟨_, rfl⟩
 have hts : VsRel U ρ st.tmps a.tmps.toList := hst.tmps
 have hts1 : VsRel U ρ1 st.tmps a.tmps.toList := s1.tmps
 have hfrL : ρ1 (.o (st.next + 1)) = none := s1.fresh _ (Nat.le_refl _)
 have L2 := Leaves.new (w' := (w.alloc (.deferred (some []))).alloc (.loop rec)) (val := V.any) (x := undef) (m := .o (st.next + 1)) (b := .loop fn ps st.tmps assign body .ready none) (o := .loop rec) (sz := 0) s1'.heap hfrL rfl
  (by rw [← hrec]; exact ⟨_, rfl, rfl, rfl, VsRel.mono (Imm.le_refl _) (Env.le_add hfrL _) hts1, rfl, rfl, rfl, rfl⟩) (by rw [VRel]; trivial)
 obtain ⟨_, s2, t2⟩ := leaves_state (p := p) (nx := st.next + 2) s1' (pre := (.o st.next, .dfr) :: st.heap) (rest := []) (by simp) (by show p ≤ st.next + 1; omega) (by show st.next + 1 ≤ st.next + 2; omega) (fun m hm => by
  obtain ⟨b, hb⟩ := hm
  rcases List.mem_cons.1 hb with h | h
  ·cases h; exact .inr ⟨_, rfl, by show st.next + 1 ≤ st.next + 1; omega, by omega⟩
  ·exact .inl ⟨b, h⟩) L2
 rw [List.append_nil] at s2 t2
 obtain ⟨ρ2, hρ2⟩ : ∃ ρ2, Env.both ((Nm.o (st.next + 1), B.loop fn ps st.tmps assign body .ready none) :: (Nm.o st.next, B.dfr) :: st.heap) (ρ1.add (.o (st.next + 1)) ⟨(w.alloc (.deferred (some []))).heap.size, 0, true⟩) ρ1 = ρ2 := ⟨_, rfl⟩
 have hL : ρ2 (.o (st.next + 1)) = some ⟨(w.alloc (.deferred (some []))).heap.size, 0, true⟩ := by rw [← hρ2]; simp only [Env.both, hne0, if_true]; exact Env.add_self
 rw [hρ2] at s2 t2
 have hlb2 : VsRel U ρ2 caps lb.toList := by
  have h1 : ρ.le ρ1 := by
   have := (Leaves.frame (rest := []) (by simpa using hst.heap) (fun n hd => by
    obtain ⟨b, hb⟩ := hd
    rcases List.mem_cons.1 hb with h | h
    ·cases h; exact .inr (hst.fresh _ (Nat.le_refl _))
    ·exact .inl ⟨b, h⟩) L1).1
   rwa [hρ1] at this
  have h2 : ρ1.le ρ2 := by
   have := (Leaves.frame (rest := []) (by simpa using s1'.heap) (fun n hd => by
    obtain ⟨b, hb⟩ := hd
    rcases List.mem_cons.1 hb with h | h
    ·cases h; exact .inr hfrL
    ·exact .inl ⟨b, h⟩) L2).1
   rwa [hρ2] at this
  exact VsRel.mono (Imm.le_refl _) (Env.le_trans h1 h2) hlb
 have hfn : ∃ f0, P.funcs[k]? = some f0 ∧ f0.body.isSome = true := by
  unfold callable at hcall
  cases hf : P.funcs[k]? with
  | none => simp [hf] at hcall
  | some f0 => simp only [hf] at hcall; exact ⟨f0, rfl, hcall⟩
 obtain ⟨f0, hf0, hb0⟩ := hfn
 have hn0 := hng k f0 hf0 hb0
 have hb1 : f0.body.isNone = false := by cases hbo : f0.body <;> simp [hbo] at hb0 ⊢
 have hperm2 : ((Nm.o (st.next + 1), B.loop fn ps st.tmps assign body .ready none) :: (Nm.o st.next, B.dfr) :: st.heap).Perm (((Nm.o (st.next + 1), B.loop fn ps st.tmps assign body .ready none) :: pre) ++ ((.o st.next, .dfr) :: rest)) := by
  rw [List.cons_append]
  refine List.Perm.cons _ ((List.Perm.cons _ hperm).trans ?_)
  exact List.perm_middle.symm
 have hnew2 : ∀ n, Heap.dom ((Nm.o (st.next + 1), B.loop fn ps st.tmps assign body s pe) :: post) n → Heap.dom ((Nm.o (st.next + 1), B.loop fn ps st.tmps assign body .ready none) :: pre) n ∨ ∃ k, n = .o k ∧ st.next + 2 ≤ k ∧ k < nx := by
  rintro n ⟨b, hb⟩
  rcases List.mem_cons.1 hb with h | h
  ·cases h; exact .inl hne0
  ·rcases hnew n ⟨b, h⟩ with ⟨b', hb'⟩ | h'
   ·exact .inl ⟨b', List.mem_cons_of_mem _ hb'⟩
   ·exact .inr h'
 have hsz : (w.alloc (.deferred (some []))).heap.size = w.heap.size + 1 := World.size_alloc ..
 refine ⟨w.heap.size + 1, [{ target := .collected w.heap.size, args := #[] }], (w.alloc (.deferred (some []))).alloc (.loop rec), { target := .fn (.func k) lb, args := #[.func (.yield (w.heap.size + 1)) #[] #[]] }, (w.alloc (.deferred (some []))).alloc (.loop rec), k,
  #[.func (.yield (w.heap.size + 1)) #[] #[]] ++ lb, (w.alloc (.deferred (some []))).alloc (.loop rec), ?_, ?_, fun _ _ => trivial, ?_, Fw_depth none, ?_⟩
 ·rw [← hrec]; exact run_enterLoop_outer _ _ _ _ _
 ·simp only [resolve, hge]
  simp [go_sem]
 ·simp only [invoke, callFunc, Sem.run_bind, run_program, Result.andThen_ok, hf0, hn0, hb1, Bool.false_eq_true, if_false, Sem.run_pure]
 have hcl := hT fn U ρ2 _ (#[.func (.yield (w.heap.size + 1)) #[] #[]] ++ lb) (HRel.left (s2.heap.perm hperm2)) (by
  rw [Array.toList_append]
  show VsRel U ρ2 (.yld (.o (st.next + 1)) :: caps) (Value.func (.yield (w.heap.size + 1)) #[] #[] :: lb.toList)
  rw [VsRel]
  refine ⟨_, _, rfl, ?_, hlb2⟩
  rw [VRel]
  exact ⟨_, hL, rfl, by rw [hsz]⟩) (fun n hd => (hnew2 n hd).imp id fun ⟨k, hk, h1, _⟩ => by rw [hk]; exact s2.fresh k h1)
 have h1 : CallsIn Fence.wide (0 - 1) P k _ _ _ := callsIn_wide.2 hcl
 refine CallsIn.mono (F := Fw none) h1 ?_
 rintro e' w3 ⟨x, U', ρ', rfl, L3⟩
 obtain ⟨_, s3, t3⟩ := leaves_state (p := p) (nx := nx) s2 hperm2 (by show p ≤ st.next + 2; omega) (by show st.next + 2 ≤ nx; omega) hnew2 L3
 obtain ⟨ρ3, hρ3⟩ : ∃ ρ3, Env.both ((Nm.o (st.next + 1), B.loop fn ps st.tmps assign body s pe) :: post) ρ' ρ2 = ρ3 := ⟨_, rfl⟩
 have hL3 : ρ3 (.o (st.next + 1)) = some ⟨(w.alloc (.deferred (some []))).heap.size, 0, true⟩ := by
  rw [← hρ3]; simp only [Env.both, hne0, if_true]
  exact L3.keep _ _ hne0 hL
 rw [hρ3] at s3 t3
 obtain ⟨l4, r4, k1, k2, k3, k4, k5, k6, k7, k8, k9, k10, k11⟩ := loop_turn (p := p) s3 (rest := post ++ ((.o st.next, .dfr) :: rest)) (List.Perm.refl _) (by show p ≤ nx; omega)
 rw [hL3] at k1
 cases k1
 obtain ⟨ρ4, s4, t4⟩ := k11 .exhausted pe
 rw [hsz] at k3 s4 t4
 obtain ⟨s5, t5⟩ := StRel.drop (p := p) (b := [(Nm.o (st.next + 1), B.loop fn ps st.tmps assign body .exhausted pe)]) (rest := post ++ ((.o st.next, .dfr) :: rest)) s4 (List.Perm.refl _)
 have hend := run_endLoop (P := P) k3 (by rw [k8]; exact hs)
 rw [show ({ r4 with state := LoopState.exhausted } : Loop) = { r4 with state := .exhausted, pending := pe } by rw [← k9], k9] at hend
 have hfin := hQ U' ρ4 a' _ s5 (t1.trans (t2.trans (t3.trans (t4.trans t5))))
 refine ⟨pe, _, hend, ?_⟩
 have ha2 : ({ a with defers := [{ target := .collected w.heap.size, args := #[] }] ++ a.defers } : Act) = a' := ha'
 cases he with
 | on => show Q .normal _ _; rw [ha2]; exact hfin
 | ret => rw [ha2]; exact wpIn_ret hfin
 | exit id => rw [ha2]; exact wpIn_exit hfin
end Sy
namespace Sy
open Go

structure SReq where
 client : Int := 0
 num : Int := 0
 data : ByteArray := .empty
 tag : List Int := []
structure SSign where
 node : Int := 0
 tag : List Int := []
structure SVote where
 kind : Int := 0
 epoch : Int := 0
 view : Int := 0
 slot : Int := 0
 digest : List Int := []
structure SBatch where
 noop : Bool := false
 n : Nat := 0
 req : Nat → SReq := fun _ => {}
structure SCert where
 vote : SVote := {}
 n : Nat := 0
 sig : Nat → SSign := fun _ => {}
structure SRec where
 kind : Int := 0
 leader : Int := 0
 view : Int := 0
 slot : Int := 0
 batch : SBatch := {}
 cert : SCert := {}
 state : ByteArray := .empty
 n : Nat := 0
 sig : Nat → SSign := fun _ => {}
structure SHeld where
 batch : SBatch := {}
 cert : SCert := {}
structure SEnv where
 src : Int := 0
 body : ByteArray := .empty
 tag : List Int := []
structure SMsg where
 kind : Int := 0
 epoch : Int := 0
 leader : Int := 0
 view : Int := 0
 slot : Int := 0
 batch : SBatch := {}
 vote : SVote := {}
 cepoch : Int := 0
 cleader : Int := 0
 cview : Int := 0
 nheld : Nat := 0
 held : Nat → SHeld := fun _ => {}
 nnews : Nat := 0
 news : Nat → SEnv := fun _ => {}
 digest : List Int := []
 cert : SCert := {}
 state : ByteArray := .empty
 n : Nat := 0
 sig : Nat → SSign := fun _ => {}

def SReq.c (r : SReq) : List V := [.int .i64 r.client, .int .i64 r.num, .str r.data, .seg .u8 16 r.tag]
def SSign.c (s : SSign) : List V := [.int .i64 s.node, .seg .u8 16 s.tag]
def SVote.c (v : SVote) : List V := [.int .i64 v.kind, .int .i64 v.epoch, .int .i64 v.view, .int .i64 v.slot, .seg .u8 32 v.digest]
def rq (n : Nat) (r : Nat → SReq) : V := .ros 19 n (fun i => (r i).c) false
def sg (n : Nat) (s : Nat → SSign) : V := .ros 17 n (fun i => (s i).c) false
def SBatch.c (b : SBatch) : List V := [.bool b.noop, rq b.n b.req]
def SCert.c (c : SCert) : List V := c.vote.c ++ [sg c.n c.sig]
def SRec.c (r : SRec) : List V := [.int .i64 r.kind, .int .i64 r.leader, .int .i64 r.view, .int .i64 r.slot] ++ (r.batch.c ++ (r.cert.c ++ [.str r.state, sg r.n r.sig]))
def SHeld.c (h : SHeld) : List V := h.batch.c ++ h.cert.c
def SEnv.c (e : SEnv) : List V := [.int .i64 e.src, .str e.body, .seg .u8 16 e.tag]
def hl (n : Nat) (h : Nat → SHeld) : V := .ros 39 n (fun i => (h i).c) false
def nw (n : Nat) (e : Nat → SEnv) : V := .ros 18 n (fun i => (e i).c) false
def SMsg.c (m : SMsg) : List V := [.int .i64 m.kind, .int .i64 m.epoch, .int .i64 m.leader, .int .i64 m.view, .int .i64 m.slot] ++ (m.batch.c ++ (m.vote.c ++ ([.int .i64 m.cepoch, .int .i64 m.cleader, .int .i64 m.cview, hl m.nheld m.held, nw m.nnews m.news, .seg .u8 32 m.digest] ++ (m.cert.c ++ [.str m.state, sg m.n m.sig]))))
theorem InR64 {n : Int} : InR .i64 n ↔ -9223372036854775808 ≤ n ∧ n ≤ 9223372036854775807 := by
 simp [InR, IntKind.min, IntKind.max, IntKind.signed, IntKind.bits]
theorem InR8 {n : Int} : InR .u8 n ↔ 0 ≤ n ∧ n ≤ 255 := by
 simp [InR, IntKind.min, IntKind.max, IntKind.signed, IntKind.bits]

theorem T.conv {P : Program} {f : FuncId} {args args' : List V} {pre pre' : Heap} {val val' : V} {post post' : Heap} (h : T P f args pre val post) (ea : args = args') (ep : pre = pre') (ev : val = val') (eq : post = post') : T P f args' pre' val' post' := by
 subst ea; subst ep; subst ev; subst eq; exact h
theorem T.val {P : Program} {f : FuncId} {args : List V} {pre : Heap} {val val' : V} {post : Heap} (h : T P f args pre val post) (ev : val = val') : T P f args pre val' post := by
 subst ev; exact h
theorem T.le {P : Program} {f : FuncId} {args : List V} {pre : Heap} {val val' : V} {post : Heap} {cs : List Prop} (h : T P f args pre val post) (hl : leV [] val val' = some cs) (hc : All cs) : T P f args pre val' post := by
 intro U ρ w xs hh ha hf
 refine Calls.mono (h U ρ w xs hh ha hf) ?_
 rintro e w' ⟨x, U', ρ', he, L⟩
 exact ⟨x, U', ρ', he, leV_ok (Imm.le_refl U') (fun n b hb => absurd hb List.not_mem_nil) _ _ _ _ hl hc L.val, L.heap, L.keep, L.only, L.ext⟩
theorem T.bool {P : Program} {f : FuncId} {args : List V} {pre : Heap} {b b' : Bool} {post : Heap} (h : T P f args pre (.bool b) post) (ev : b = b') : T P f args pre (.bool b') post := by
 subst ev; exact h
def z32 : List Int := [0, 0, 0, 0, 0, 0, 0, 0, 0, 0, 0, 0, 0, 0, 0, 0, 0, 0, 0, 0, 0, 0, 0, 0, 0, 0, 0, 0, 0, 0, 0, 0]
/-- What is so by itself. -/
abbrev q {α : Type} (a : α) : Prop := a = a
abbrev q0 : Prop := (0 : Nat) = 0
abbrev q1 : Prop := (0 : Int) = 0
abbrev q2 : Prop := true = true
end Sy
namespace Sy
open Go

variable {P : Program}
theorem sh_struct {d : Nat} {t : TypeId} {vs : List V} {fs : Array Field} (h : ShC P d t vs) (hu : P.underlying t = some (.struct fs)) : ∃ d', ShFs (ShC P d') fs.toList vs := by
 cases d with
 | zero => exact h.elim
 | succ d => rw [ShC, hu] at h; exact ⟨d, h⟩
theorem sh_slice {d : Nat} {t e : TypeId} {vs : List V} (h : ShC P d t vs) (hu : P.underlying t = some (.slice e)) : ∃ d' len f, vs = [.ros (P.cellsOf e) len f false] ∧ len ≤ maxLen ∧ ∀ i, i < len → ShC P d' e (f i) := by
 cases d with
 | zero => exact h.elim
 | succ d => rw [ShC, hu] at h; obtain ⟨len, f, h1, h2, h3⟩ := h; exact ⟨d, len, f, h1, h2, h3⟩
theorem sh_int {d : Nat} {t : TypeId} {vs : List V} {k : IntKind} (h : ShC P d t vs) (hu : P.underlying t = some (.int k)) : ∃ n, vs = [.int k n] ∧ InR k n := by
 cases d with
 | zero => exact h.elim
 | succ d => rw [ShC, hu] at h; exact h
theorem sh_bool {d : Nat} {t : TypeId} {vs : List V} (h : ShC P d t vs) (hu : P.underlying t = some .bool) : ∃ b, vs = [.bool b] := by
 cases d with
 | zero => exact h.elim
 | succ d => rw [ShC, hu] at h; exact h
theorem sh_str {d : Nat} {t : TypeId} {vs : List V} (h : ShC P d t vs) (hu : P.underlying t = some .string) : ∃ s : ByteArray, vs = [.str s] ∧ s.size ≤ maxLen := by
 cases d with
 | zero => exact h.elim
 | succ d => rw [ShC, hu] at h; exact h
theorem sh_arr {d : Nat} {t e : TypeId} {n : Nat} {k : IntKind} {vs : List V} (h : ShC P d t vs) (hu : P.underlying t = some (.array n e)) (he : P.underlying e = some (.int k)) : ∃ xs, vs = [.seg k n xs] ∧ xs.length = n ∧ ∀ x ∈ xs, InR k x := by
 cases d with
 | zero => exact h.elim
 | succ d =>
  rw [ShC, hu] at h
  obtain ⟨k', xs, h1, h2, h3, h4⟩ := h
  rw [he] at h1; cases h1
  exact ⟨xs, h2, h3, h4⟩

/-- What these cells are, those are too. -/
def CsLe (U : Imm) (a b : List V) : Prop := ∀ l, CsRel U Env.none a l → CsRel U Env.none b l
theorem CsLe.refl (U : Imm) (a : List V) : CsLe U a a := fun _ h => h
theorem CsLe.app {U : Imm} {a a' b b' : List V} (h1 : CsLe U a a') (h2 : CsLe U b b') : CsLe U (a ++ b) (a' ++ b') := fun l h => by
 obtain ⟨la, lb, rfl, h3, h4⟩ := CsRel_append.1 h
 exact CsRel_append.2 ⟨la, lb, rfl, h1 _ h3, h2 _ h4⟩
theorem VRel_ros {U : Imm} {ρ : Env} {es n : Nat} {f g : Nat → List V} {c : Bool} (h : ∀ i, i < n → CsLe U (f i) (g i)) {x : Value} (hx : VRel U ρ (.ros es n f c) x) : VRel U ρ (.ros es n g c) x := by
 rw [VRel] at hx ⊢
 obtain ⟨a, cp, h1, h2, h3, h4⟩ := hx
 refine ⟨a, cp, h1, h2, h3, fun i hi => ?_⟩
 obtain ⟨b, base, c0, g1, g2, l, g3, g4⟩ := h4 i hi
 exact ⟨b, base, c0, g1, g2, l, h i hi l g3, g4⟩
theorem CsLe.ros {U : Imm} {es n : Nat} {f g : Nat → List V} {c : Bool} (h : ∀ i, i < n → CsLe U (f i) (g i)) : CsLe U [.ros es n f c] [.ros es n g c] := fun l hl => by
 obtain ⟨x, r, rfl, h1, h2⟩ := (CsRel_one rfl).1 hl
 exact (CsRel_one rfl).2 ⟨x, r, rfl, VRel_ros h h1, h2⟩
/-- An argument that is one cell. -/
def oneT (P : Program) (t : TypeId) : Bool := match P.underlying t with
 | some .bool => true
 | some (.int _) => true
 | some .string => true
 | some (.slice _) => true
 | _ => false
theorem arg_one {W : World} {base : Nat} {t : TypeId} {v : Value} (h : Value.okWide P W .any base t v) (ho : oneT P t = true) : v.cells.toList = [v] := by
 unfold oneT at ho
 cases v <;> first | rfl | skip
 rename_i cs
 exfalso
 split at ho <;> first | (cases ho; done) | skip
 all_goals
  rename_i hu
  simp [Value.okWide, hu, Cell.okWide, Cell.ok] at h
theorem args_one {W : World} {base : Nat} {ps : Array TypeId} {args : Array Value} (hval : ∀ (j : Nat) t v, ps[j]? = some t → args[j]? = some v → Value.okWide P W .any base t v) {j : Nat} {t : TypeId} {v : Value} (h1 : ps[j]? = some t) (h2 : args[j]? = some v) (ho : oneT P t = true) : v.cells.toList = [v] :=
 arg_one (hval j t v h1 h2) ho
/-- An argument that is a struct. -/
theorem arg_struct {W : World} {base : Nat} {t : TypeId} {fs : Array Field} {v : Value} (h : Value.okWide P W .any base t v) (hu : P.underlying t = some (.struct fs)) : ∃ cs, v = .agg cs := by
 unfold Value.okWide at h
 rw [hu] at h
 obtain ⟨cs, h1, _⟩ := h
 exact ⟨cs, h1⟩
theorem args_struct {W : World} {base : Nat} {ps : Array TypeId} {args : Array Value} (hval : ∀ (j : Nat) t v, ps[j]? = some t → args[j]? = some v → Value.okWide P W .any base t v) {j : Nat} {t : TypeId} {fs : Array Field} {v : Value} (h1 : ps[j]? = some t) (h2 : args[j]? = some v) (hu : P.underlying t = some (.struct fs)) : ∃ cs, v = .agg cs :=
 arg_struct (hval j t v h1 h2) hu
theorem VRel_one {U : Imm} {u : V} {v : Value} (hu : u.cell = true) (hv : v.cells.toList = [v]) (h : CsRel U Env.none [u] v.cells.toList) : VRel U Env.none u v := by
 rw [hv] at h
 obtain ⟨x, l, h1, h2, h3⟩ := (CsRel_one hu).1 h
 cases h1
 exact h2
theorem VRel_agg {U : Imm} {vs : List V} {cs : Array Value} (h : CsRel U Env.none vs (Value.agg cs).cells.toList) : VRel U Env.none (.agg vs) (.agg cs) := by
 rw [VRel]; exact ⟨cs, rfl, h⟩
/-- Many at once. -/
theorem choose_fn {α : Type} [Inhabited α] {n : Nat} {p : Nat → α → Prop} (h : ∀ i, i < n → ∃ a, p i a) : ∃ f : Nat → α, ∀ i, i < n → p i (f i) := by
 classical
 refine ⟨fun i => if hi : i < n then Classical.choose (h i hi) else default, fun i hi => ?_⟩
 simp only [dif_pos hi]
 exact Classical.choose_spec (h i hi)
instance : Inhabited SSign := ⟨{}⟩
instance : Inhabited SReq := ⟨{}⟩
instance : Inhabited SRec := ⟨{}⟩
instance : Inhabited SHeld := ⟨{}⟩
instance : Inhabited SEnv := ⟨{}⟩
end Sy
namespace Sy
open Go

theorem first_bad (p : Nat → Prop) : ∀ n, (∀ k, k < n → p k) ∨ ∃ m, m < n ∧ (∀ k, k < m → p k) ∧ ¬ p m
 | 0 => .inl fun k h => absurd h (Nat.not_lt_zero k)
 | n + 1 => by
  rcases first_bad p n with h | ⟨m, h1, h2, h3⟩
  ·by_cases hp : p n
   ·exact .inl fun k hk => by
     rcases Nat.lt_or_ge k n with h1 | h1
     ·exact h k h1
     ·obtain rfl : k = n := by omega
      exact hp
   ·exact .inr ⟨n, Nat.lt_succ_self n, h, hp⟩
  ·exact .inr ⟨m, Nat.lt_succ_of_lt h1, h2, h3⟩
/-- A loop that goes on as long as something holds. -/
theorem loop_all {P : Program} {ro : Option Nat} {p : Nat} {c : Code} {I : Nat → St} {F : Nat → St} {e : Nat → Exit} {x : Exit} {G : St} {n : Nat} {q : Nat → Prop}
  (step : ∀ k, k < n → q k → R P ro p c (I k) .normal (I (k + 1))) (bad : ∀ k, k < n → ¬ q k → R P ro p c (I k) (e k) (F k)) (he : ∀ k, e k ≠ .normal) (out : R P ro p c (I n) x G) (hx : x ≠ .normal) :
  ((∀ k, k < n → q k) ∧ RLoop P ro p c (n + 1) (I 0) x G) ∨ ∃ m, m < n ∧ (∀ k, k < m → q k) ∧ ¬ q m ∧ RLoop P ro p c (m + 1) (I 0) (e m) (F m) := by
 rcases first_bad q n with h | ⟨m, h1, h2, h3⟩
 ·exact .inl ⟨h, RLoop.inv I n (fun k hk => step k hk (h k hk)) out hx⟩
 ·exact .inr ⟨m, h1, h2, h3, RLoop.inv I m (fun k hk => step k (by omega) (h2 k hk)) (bad m h1 h3) (he m)⟩
end Sy
namespace Sy
theorem neg_t {b : Bool} (h : b = true) : (!b) = false := by subst h; rfl
theorem neg_f' {b : Bool} (h : b = false) : (!b) = true := by subst h; rfl
end Sy
namespace Sy
end Sy
namespace Sy
open Go
/-- What is known of the arguments may be more. -/
theorem T.args {P : Program} {f : FuncId} {args args' : List V} {pre : Heap} {val : V} {post : Heap} {cs : List Prop} (h : T P f args pre val post) (hl : leVs [] args' args = some cs) (hc : All cs) : T P f args' pre val post := by
 intro U ρ w xs hh ha hf
 exact h U ρ w xs hh (leVs_ok (Imm.le_refl U) (fun n b hb => absurd hb List.not_mem_nil) _ _ _ _ hl hc ha) hf
end Sy
namespace Sy
open Go
/-- A value that says the same whatever can't be turned. -/
def FreeV (v : V) : Prop := ∀ U U' ρ x, VRel U ρ v x → VRel U' ρ v x
def FreeB (b : B) : Prop := ∀ U U' ρ sz o, BRel U ρ sz b o → BRel U' ρ sz b o
theorem FreeV.int (k : IntKind) (n : Int) : FreeV (.int k n) := fun _ _ _ _ h => by rw [VRel] at h ⊢; exact h
theorem FreeV.bool (b : Bool) : FreeV (.bool b) := fun _ _ _ _ h => by rw [VRel] at h ⊢; exact h
theorem FreeV.snil : FreeV .snil := fun _ _ _ _ h => by rw [VRel] at h ⊢; exact h
theorem FreeV.sl (n : Nm) (es i o j len : Nat) (cap : Option Nat) : FreeV (.sl n es i o j len cap) := fun _ _ _ _ h => by rw [VRel] at h ⊢; exact h
theorem FreeV.ptr (n : Nm) (es i o j : Nat) : FreeV (.ptr n es i o j) := fun _ _ _ _ h => by rw [VRel] at h ⊢; exact h
/-- Blocks lent to a call that makes blocks of its own. -/
theorem T.lendG {P : Program} {f : FuncId} {args args' : List V} {pre post : Heap} {val : V} {cs : List Prop} (h : T P f args [] val post) (hl : leVs pre args' args = some cs) (hc : All cs)
  (hv : FreeV val) (hp : ∀ q ∈ post, FreeB q.2) (hd : ∀ n, Heap.dom post n → ¬ Heap.dom pre n) : T P f args' pre val (post ++ pre) := by
 intro U ρ w xs hh ha hf
 have hfU : ∀ n b l, (n, b) ∈ pre → ρ n = some l → l.real = true → U l.blk = none := fun n b l hm e hr => by
  obtain ⟨_, _, _, h⟩ := hh.real hm e hr; exact h
 have hU : U.le (freeze U ρ pre w) := fun k c e => by
  unfold freeze
  split
  ·rename_i hx
   obtain ⟨n, b, l, h1, h2, h3, rfl⟩ := hx
   rw [hfU n b l h1 h2 h3] at e; cases e
  ·exact e
 have hF : Frozen U (freeze U ρ pre w) ρ pre := fun n b hm l e hr => by
  have hex : ∃ n b l', (n, b) ∈ pre ∧ ρ n = some l' ∧ l'.real = true ∧ l'.blk = l.blk := ⟨n, b, l, hm, e, hr, rfl⟩
  obtain ⟨o, h1, h2, h3⟩ := hh.real hm e hr
  constructor
  ·rintro cs rfl
   obtain ⟨c, el, lo, hi, rfl, _, _, h4⟩ := h2
   exact ⟨c, by unfold freeze; rw [if_pos hex, h1], h4⟩
  ·rintro es m f g rfl
   obtain ⟨c, el, lo, hi, rfl, _, _, _, _, h4⟩ := h2
   exact ⟨c, by unfold freeze; rw [if_pos hex, h1], h4⟩
 have h0 : HRel (freeze U ρ pre w) ρ [] w := by
  refine ⟨fun n b hm => absurd hm List.not_mem_nil, fun n b n' b' l l' hm => absurd hm List.not_mem_nil, List.nodup_nil, fun k c hk => ?_⟩
  unfold freeze at hk
  split at hk
  ·split at hk
   ·rename_i c' el fr hx
    simp only [Option.some.injEq] at hk; subst hk
    exact ⟨el, fr, hx⟩
   ·cases hk
  ·exact hh.imm k c hk
 have hnone : ∀ n, Heap.dom post n → ρ n = none := fun n hn => (hf n (dom_append.2 (.inl hn))).resolve_left (hd n hn)
 refine Calls.mono (h _ ρ w xs h0 (leVs_ok hU hF _ _ _ _ hl hc ha) fun n hn => .inr (hnone n hn)) ?_
 rintro e w' ⟨x, U', ρ', he, L⟩
 have hk : ∀ k, k < w.heap.size → w'.heap[k]? = w.heap[k]? := fun k hk => L.ext.frame k hk fun n l ⟨b, hb⟩ => absurd hb List.not_mem_nil
 have hUU : U.le U' := Imm.le_trans hU L.ext.imm
 have hpp : ∀ n, post.dom n → Env.both post ρ' ρ n = ρ' n := fun n h => by simp [Env.both, h]
 have hqq : ∀ n, ¬ post.dom n → Env.both post ρ' ρ n = ρ n := fun n h => by simp [Env.both, h]
 have hle' : ρ'.le (Env.both post ρ' ρ) := fun n l e => by
  by_cases h : post.dom n
  ·rw [hpp n h]; exact e
  ·rw [hqq n h]; exact (L.only n l e).resolve_left h
 have hle : ρ.le (Env.both post ρ' ρ) := fun n l e => by
  by_cases h : post.dom n
  ·rw [hnone n h] at e; cases e
  ·rw [hqq n h]; exact e
 have hnp : ∀ n, Heap.dom pre n → ¬ Heap.dom post n := fun n h h' => hd n h' h
 have hnew : ∀ n b l, (n, b) ∈ post → ρ' n = some l → l.real = true → w.heap.size ≤ l.blk := fun n b l hm e hr => by
  rcases L.ext.new n l ⟨b, hm⟩ e hr with h | ⟨n0, _, ⟨b0, hb0⟩, _⟩
  ·exact h
  ·exact absurd hb0 List.not_mem_nil
 have hold : ∀ n b l, (n, b) ∈ pre → ρ n = some l → l.real = true → l.blk < w.heap.size := fun n b l hm e hr => by
  obtain ⟨o, h1, _⟩ := hh.real hm e hr; exact lt_size h1
 refine ⟨x, U, Env.both post ρ' ρ, he, ⟨VRel.mono (Imm.le_refl _) hle' (hv _ _ _ _ L.val), ⟨fun n b hm => ?_, fun n b n' b' l l' m m' e1 e2 r1 r2 e3 => ?_, ?_, fun k c e => ?_⟩, fun n l hn e => ?_, fun n l e => ?_,
  ⟨L.ext.size, Imm.le_refl _, fun k hk' _ => hk k hk', fun n l hn e hr => ?_, fun b c e => .inl e, L.ext.out⟩⟩⟩
 ·rcases List.mem_append.1 hm with hm | hm
  ·obtain ⟨l, g1, g2⟩ := L.heap.blk n b hm
   refine ⟨l, by rw [hpp n ⟨b, hm⟩]; exact g1, ?_⟩
   rcases g2 with ⟨hr, o, g3, g4, g5⟩ | g2
   ·refine .inl ⟨hr, o, g3, BRel.mono (Imm.le_refl _) hle' (hp _ hm _ U _ _ _ g4), ?_⟩
    cases hUl : U l.blk with
    | none => rfl
    | some c => rw [hUU _ _ hUl] at g5; cases g5
   ·exact .inr g2
  ·obtain ⟨l, g1, g2⟩ := hh.blk n b hm
   refine ⟨l, by rw [hqq n (hnp n ⟨b, hm⟩)]; exact g1, ?_⟩
   rcases g2 with ⟨hr, o, g3, g4, g5⟩ | g2
   ·exact .inl ⟨hr, o, by rw [hk _ (lt_size g3)]; exact g3, BRel.mono (Imm.le_refl _) hle g4, g5⟩
   ·exact .inr g2
 ·rcases List.mem_append.1 m with m | m <;> rcases List.mem_append.1 m' with m' | m'
  ·rw [hpp n ⟨b, m⟩] at e1; rw [hpp n' ⟨b', m'⟩] at e2
   exact L.heap.inj n b n' b' l l' m m' e1 e2 r1 r2 e3
  ·rw [hpp n ⟨b, m⟩] at e1; rw [hqq n' (hnp n' ⟨b', m'⟩)] at e2
   have h1 := hnew n b l m e1 r1; have h2 := hold n' b' l' m' e2 r2; omega
  ·rw [hqq n (hnp n ⟨b, m⟩)] at e1; rw [hpp n' ⟨b', m'⟩] at e2
   have h1 := hnew n' b' l' m' e2 r2; have h2 := hold n b l m e1 r1; omega
  ·rw [hqq n (hnp n ⟨b, m⟩)] at e1; rw [hqq n' (hnp n' ⟨b', m'⟩)] at e2
   exact hh.inj n b n' b' l l' m m' e1 e2 r1 r2 e3
 ·rw [List.map_append, List.nodup_append]
  refine ⟨L.heap.nd, hh.nd, fun n hn n' hn' e => ?_⟩
  subst e
  obtain ⟨⟨_, b⟩, hb, rfl⟩ := List.mem_map.1 hn
  obtain ⟨⟨m, b'⟩, hb', e⟩ := List.mem_map.1 hn'
  cases e
  exact hd _ ⟨b, hb⟩ ⟨b', hb'⟩
 ·obtain ⟨el, fr, g⟩ := hh.imm k c e
  exact ⟨el, fr, by rw [hk _ (lt_size g)]; exact g⟩
 ·exact hle n l e
 ·by_cases h : post.dom n
  ·exact .inl (dom_append.2 (.inl h))
  ·rw [hqq n h] at e; exact .inr e
 ·rcases dom_append.1 hn with ⟨b, hb⟩ | ⟨b, hb⟩
  ·rw [hpp n ⟨b, hb⟩] at e
   exact .inl (hnew n b l hb e hr)
  ·rw [hqq n (hnp n ⟨b, hb⟩)] at e
   exact .inr ⟨n, l, ⟨b, hb⟩, e, hr, rfl⟩
theorem dom_map {h : Heap} {n : Nm} : h.dom n ↔ n ∈ h.map Prod.fst := by
 constructor
 ·rintro ⟨b, hb⟩; exact List.mem_map.2 ⟨_, hb, rfl⟩
 ·intro hm
  obtain ⟨⟨_, b⟩, hb, rfl⟩ := List.mem_map.1 hm
  exact ⟨b, hb⟩
theorem FreeB.cells {cs : List V} (h : ∀ U U' ρ x, CsRel U ρ cs x → CsRel U' ρ cs x) : FreeB (.flat cs) := fun U U' ρ sz o hb => by
 obtain ⟨c, el, lo, hi, h1, h2, h3, h4⟩ := hb
 exact ⟨c, el, lo, hi, h1, h2, h3, h _ _ _ _ h4⟩
/-- Cells of numbers and such say the same whatever can't be turned. -/
def V.fre : V → Bool
 | .seg .. | .int .. | .bool _ | .sl .. | .ptr .. | .str _ | .mp _ | .mpnil | .snil | .pnil => true
 | _ => false
def freeC : List V → Bool
 | [] => true
 | v :: r => v.fre && freeC r
theorem freeC_ok : ∀ {cs : List V}, freeC cs = true → ∀ U U' ρ x, CsRel U ρ cs x → CsRel U' ρ cs x
 | [], _, U, U', ρ, x, h => by rw [CsRel] at h ⊢; exact h
 | v :: r, hf, U, U', ρ, x, h => by
  rw [freeC, Bool.and_eq_true] at hf
  rw [CsRel] at h ⊢
  obtain ⟨l1, l2, rfl, h1, h2⟩ := h
  refine ⟨l1, l2, rfl, ?_, freeC_ok hf.2 _ _ _ _ h2⟩
  rcases h1 with h1 | ⟨hc, y, rfl, hy⟩
  ·exact .inl h1
  ·refine .inr ⟨hc, y, rfl, ?_⟩
   cases v <;> first
    | (rw [VRel] at hy ⊢; exact hy)
    | exact absurd hf.1 (by simp [V.fre])
theorem FreeB.flat {cs : List V} (h : freeC cs = true) : FreeB (.flat cs) := FreeB.cells (freeC_ok h)
theorem FreeV.agg {cs : List V} (h : freeC cs = true) : FreeV (.agg cs) := fun U U' ρ x hx => by
 rw [VRel] at hx ⊢
 obtain ⟨l, rfl, h1⟩ := hx
 exact ⟨l, rfl, freeC_ok h _ _ _ _ h1⟩
end Sy
namespace Go.Proofs.YtlakhciklfkocaaGreat
open Go Sy Go.Proofs
theorem MO : Tryz.prog.follows .mixedOrders = true := by kernel_rfl
def ngB (P : Program) : Bool := P.funcs.toList.all fun fn => !fn.body.isSome || !(fn.name == "runtime.NumGoroutine")
theorem NG_of {P : Program} (h : ngB P = true) : NoNG P := by
 intro f fn hf hb
 have := List.all_eq_true.1 h fn (by
  rw [← Array.getElem?_toList] at hf
  exact List.mem_of_getElem? hf)
 rw [hb] at this; simpa using this
theorem NG : NoNG Tryz.prog := NG_of (by kernel_rfl)
theorem T_al {f : FuncId} {b : Bd} {path : List Bool} {val : V} {post : Heap} {cs : List Prop} (h : along Tryz.prog b path = some (val, post, cs)) (hf : Tryz.prog.funcs[f]? = some b.f) (hc : All cs) (hb : b.f.body = some (bodyOf b.f) := by kernel_rfl) (hpin : PinH b.base b.pre := by exact pinH_ok (by kernel_rfl)) (hargs : V.withins (Nm.pin b.base) b.args = true := by kernel_rfl) : T Tryz.prog f b.args b.pre val post :=
 T_along NG MO path h hf hb hc hpin hargs
def kb0 : Kb := { db := fun _ _ _ _ => [] }
/-- What called functions give, by their numbers. -/
def lookF : List (Nat × (List V → Heap → Nat → List Cl)) → Nat → Option (List V → Heap → Nat → List Cl)
 | [], _ => none
 | p :: r, k => bif Nat.beq p.1 k then some p.2 else lookF r k
def dbQ (l : List (Nat × (List V → Heap → Nat → List Cl))) : Nat → List V → Heap → Nat → List Cl := fun k args h lo => match lookF l k with
 | some f => f args h lo
 | none => []
def cVal (v : V) : List V → Heap → Nat → List Cl := fun _ _ _ => [{ val := v }]
theorem exists_perm : ∀ (l l' : List Nm), l.Nodup → l'.Nodup → l.length = l'.length → ∃ σ τ : Nm → Nm, (∀ n, σ (τ n) = n) ∧ (∀ n, τ (σ n) = n) ∧ l.map σ = l'
 | [], [], _, _, _ => ⟨id, id, fun _ => rfl, fun _ => rfl, rfl⟩
 | a :: l, a' :: l', h, h', hl => by
  rw [List.nodup_cons] at h h'
  obtain ⟨σ, τ, h1, h2, h3⟩ := exists_perm l l' h.2 h'.2 (by simpa using hl)
  refine ⟨fun n => Nm.swap (σ a) a' (σ n), fun n => τ (Nm.swap (σ a) a' n), fun n => by simp only [h1, Nm.swap_swap], fun n => by simp only [Nm.swap_swap, h2], ?_⟩
  rw [List.map_cons]
  congr 1
  ·simp [Nm.swap]
  ·rw [← h3]
   apply List.map_congr_left
   intro x hx
   have e1 : σ x ≠ σ a := fun e => h.1 (by have := congrArg τ e; rw [h2, h2] at this; exact this ▸ hx)
   have e2 : σ x ≠ a' := fun e => h'.1 (by rw [← h3, ← e]; exact List.mem_map_of_mem hx)
   simp [Nm.swap, e1, e2]
/-- A contract under other names. -/
theorem T.at {P : Program} {f : FuncId} {args : List V} {pre : Heap} {val : V} {post : Heap} (H : T P f args pre val post) (l l' : List Nm) (h : l.Nodup) (h' : l'.Nodup) (hl : l.length = l'.length) :
  ∃ σ : Nm → Nm, l.map σ = l' ∧ T P f (V.rens σ args) (pre.ren σ) (V.ren σ val) (post.ren σ) := by
 obtain ⟨σ, τ, h1, h2, h3⟩ := exists_perm l l' h h' hl
 exact ⟨σ, h3, T.ren σ τ h1 h2 H⟩
/-- The block that a value names. -/
def nmV : V → Nm
 | .ptr n _ _ _ _ => n
 | .sl n _ _ _ _ _ _ => n
 | _ => .g 0
end Go.Proofs.YtlakhciklfkocaaGreat
namespace Sy
open Go
def cntX (N : Nat) (X : Nat → Bool) : Nat := (List.range N).countP X
theorem cntX_succ (N : Nat) (X : Nat → Bool) : cntX (N + 1) X = cntX N X + (if X N = true then 1 else 0) := by
 rw [cntX, List.range_succ, List.countP_append, List.countP_singleton]; rfl
theorem cntX_le (N : Nat) (X : Nat → Bool) : cntX N X ≤ N := by
 have := List.countP_le_length (p := X) (l := List.range N)
 rwa [List.length_range] at this
theorem cntX_congr {N : Nat} {X Y : Nat → Bool} (h : ∀ q, q < N → X q = Y q) : cntX N X = cntX N Y := by
 induction N with
 | zero => rfl
 | succ n ih => rw [cntX_succ, cntX_succ, ih fun q hq => h q (by omega), h n (by omega)]
theorem cntX_none {N : Nat} : cntX N (fun _ => false) = 0 := by
 induction N with
 | zero => rfl
 | succ n ih => rw [cntX_succ, ih]; rfl
theorem cntX_all {N : Nat} {X : Nat → Bool} (h : ∀ q, q < N → X q = true) : cntX N X = N := by
 induction N with
 | zero => rfl
 | succ n ih => rw [cntX_succ, ih fun q hq => h q (by omega), h n (by omega)]; rfl
theorem cntX_far {N a : Nat} {X : Nat → Bool} (h : N ≤ a) : cntX N (fun q => X q || decide (q = a)) = cntX N X :=
 cntX_congr fun q hq => by rw [decide_eq_false (by omega), Bool.or_false]
theorem cntX_set {N a : Nat} {X : Nat → Bool} (h : a < N) (hx : X a = false) : cntX N (fun q => X q || decide (q = a)) = cntX N X + 1 := by
 induction N with
 | zero => omega
 | succ n ih =>
  rw [cntX_succ, cntX_succ]
  rcases Nat.lt_or_ge a n with h1 | h1
  ·rw [ih h1, decide_eq_false (by omega), Bool.or_false]; omega
  ·obtain rfl : a = n := by omega
   rw [cntX_far (Nat.le_refl _), hx]; simp
theorem cntX_and (N : Nat) (X Y : Nat → Bool) : cntX N X + cntX N Y ≤ N + cntX N (fun q => X q && Y q) := by
 induction N with
 | zero => exact Nat.le_refl _
 | succ n ih =>
  rw [cntX_succ, cntX_succ, cntX_succ]
  cases X n <;> cases Y n <;> simp <;> omega
/-- The node that comes at a place. -/
def atN (N : Nat) (l : List Int) (i : Nat) : Nat := if i < l.length then (IntKind.wrap .u64 (l.getD i 0) % (N : Int)).toNat else ((i : Int) % (N : Int)).toNat
def chX (N : Nat) (l : List Int) : Nat → Nat → Bool
 | 0 => fun _ => false
 | i + 1 => fun q => chX N l i q || decide (q = atN N l i)
theorem chX_succ (N : Nat) (l : List Int) (i q : Nat) : chX N l (i + 1) q = (chX N l i q || decide (q = atN N l i)) := rfl
theorem atN_lt {N : Nat} (h : 0 < N) (l : List Int) (i : Nat) : atN N l i < N := by
 unfold atN
 have h1 := Int.emod_lt_of_pos (IntKind.wrap .u64 (l.getD i 0)) (b := (N : Int)) (by omega)
 have h2 := Int.emod_nonneg (IntKind.wrap .u64 (l.getD i 0)) (b := (N : Int)) (by omega)
 have h3 := Int.emod_lt_of_pos (i : Int) (b := (N : Int)) (by omega)
 have h4 := Int.emod_nonneg (i : Int) (b := (N : Int)) (by omega)
 split <;> omega
theorem chX_old {N : Nat} {l : List Int} {i : Nat} (h : chX N l i (atN N l i) = true) (q : Nat) : chX N l (i + 1) q = chX N l i q := by
 rw [chX_succ]
 by_cases hq : q = atN N l i
 ·subst hq; rw [h]; rfl
 ·rw [decide_eq_false hq, Bool.or_false]
theorem chX_cnt_old {N : Nat} {l : List Int} {i : Nat} (h : chX N l i (atN N l i) = true) : cntX N (chX N l (i + 1)) = cntX N (chX N l i) := cntX_congr fun q _ => chX_old h q
theorem chX_cnt_new {N : Nat} (h0 : 0 < N) {l : List Int} {i : Nat} (h : chX N l i (atN N l i) = false) : cntX N (chX N l (i + 1)) = cntX N (chX N l i) + 1 := cntX_set (atN_lt h0 l i) h
theorem chX_mono {N : Nat} {l : List Int} {i j q : Nat} (h : i ≤ j) (hx : chX N l i q = true) : chX N l j q = true := by
 induction j with
 | zero =>
  obtain rfl : i = 0 := by omega
  exact hx
 | succ j ih =>
  rcases Nat.lt_or_ge i (j + 1) with h1 | h1
  ·rw [chX_succ, ih (by omega)]; rfl
  ·obtain rfl : i = j + 1 := by omega
   exact hx
theorem chX_full {N : Nat} (h0 : 0 < N) (l : List Int) : cntX N (chX N l (l.length + N)) = N := by
 refine cntX_all fun q hq => ?_
 obtain ⟨i, h1, h2, h3⟩ : ∃ i, l.length ≤ i ∧ i < l.length + N ∧ i % N = q := by
  refine ⟨l.length + (q + N - l.length % N) % N, by omega, ?_, ?_⟩
  ·have := Nat.mod_lt (q + N - l.length % N) h0; omega
  ·have h1 := Nat.mod_lt l.length h0
   rw [Nat.add_mod_mod, show l.length + (q + N - l.length % N) = q + N + N * (l.length / N) by have := Nat.div_add_mod l.length N; omega, Nat.add_mul_mod_self_left, Nat.add_mod_right, Nat.mod_eq_of_lt hq]
 refine chX_mono (i := i + 1) (by omega) ?_
 have : atN N l i = q := by
  rw [atN, if_neg (by omega), ← h3]
  exact Int.toNat_natCast (i % N)
 rw [chX_succ, this, decide_eq_true rfl, Bool.or_true]
theorem chX_stop {N M : Nat} (h0 : 0 < M) (h1 : M ≤ N) (l : List Int) : ∃ m, m ≤ l.length + N ∧ (∀ k, k < m → cntX N (chX N l k) < M) ∧ cntX N (chX N l m) = M := by
 rcases first_bad (fun k => cntX N (chX N l k) < M) (l.length + N + 1) with h | ⟨m, h2, h3, h4⟩
 ·have := h (l.length + N) (by omega)
  rw [chX_full (by omega) l] at this
  omega
 ·refine ⟨m, by omega, h3, ?_⟩
  cases m with
  | zero =>
   have : cntX N (chX N l 0) = 0 := cntX_none
   omega
  | succ m =>
   have h5 := h3 m (by omega)
   cases hc : chX N l m (atN N l m) with
   | true => rw [chX_cnt_old hc] at h4; omega
   | false => rw [chX_cnt_new (by omega) hc] at h4 ⊢; omega
end Sy
namespace Go.Proofs.YtlakhciklfkocaaGreat
open Go Sy Go.Proofs
/-- A list of numbers: its cells, as one that can't be turned, as an own one. -/
def li (l : List Int) : Nat → List V := fun i => [.int .i64 (l.getD i 0)]
def lr (l : List Int) : V := .ros 1 l.length (li l) false
def ls (m : Nat) (l : List Int) : V := .sl (.o m) 1 0 0 0 l.length none
def lb (l : List Int) : B := .rows 1 l.length (li l) true
noncomputable def bdGn (n : Int) : Bd := { f := Tryz.f72, args := [.int .i64 n], kb := kb0 }
def goodN (n : Int) : Bool := decide (4 ≤ n) && (decide (n ≤ 64) && decide (Int.tmod n 3 = 1))
noncomputable def bdSh (n t : Int) (g : Bool) : Bd := { f := Tryz.f54, args := [.int .i64 n, .int .i64 t], kb := { db := dbQ [(72, cVal (.bool g))] } }
noncomputable def bdSm (n v : Int) : Bd := { f := Tryz.f124, args := [.int .i64 n], kb := { db := dbQ [(54, cVal (.int .i64 v))] } }
noncomputable def bdMo (n v : Int) : Bd := { f := Tryz.f53, args := [.int .i64 n], kb := { db := dbQ [(54, cVal (.int .i64 v))] } }
noncomputable def bdFa (n v : Int) : Bd := { f := Tryz.f15, args := [.int .i64 n], kb := { db := dbQ [(54, cVal (.int .i64 v))] } }
noncomputable def bdPn (l : List Int) (n : Int) : Bd := { f := Tryz.f123, args := [lr l, .int .i64 n], kb := kb0 }
end Go.Proofs.YtlakhciklfkocaaGreat
namespace Go.Proofs.YtlakhciklfkocaaGreat
open Go Sy Go.Proofs
theorem bdGn_p11 (n : Int) :
  along Tryz.prog (bdGn n) [true, true] = (some (.bool (decide (n % (3 : Int) = (1 : Int))), [], [decide ((4 : Int) ≤ n) = true, decide (n ≤ (64 : Int)) = true, (0 : Int) ≤ n ∧ (0 : Int) < (3 : Int)]) : Option (V × Heap × List Prop)) := by kernel_rfl
theorem bdGn_p10 (n : Int) :
  along Tryz.prog (bdGn n) [true, false] = (some (.bool false, [], [decide ((4 : Int) ≤ n) = true, decide (n ≤ (64 : Int)) = false]) : Option (V × Heap × List Prop)) := by kernel_rfl
theorem bdGn_p00 (n : Int) :
  along Tryz.prog (bdGn n) [false, false] = (some (.bool false, [], [decide ((4 : Int) ≤ n) = false, q false]) : Option (V × Heap × List Prop)) := by kernel_rfl

theorem bdSh_p1 (n : Int) (t : Int) (g : Bool) :
  along Tryz.prog (bdSh n t g) [true] = (some (.int .i64 0, [], [T Tryz.prog 72 [.int .i64 n] [] (.bool g) [], (!g) = true]) : Option (V × Heap × List Prop)) := by kernel_rfl
theorem bdSh_p0 (n : Int) (t : Int) (g : Bool) :
  along Tryz.prog (bdSh n t g) [false] = (some (.int .i64 (t * (n / (3 : Int)) + (1 : Int)), [], [T Tryz.prog 72 [.int .i64 n] [] (.bool g) [], (!g) = false, (0 : Int) ≤ n ∧ (0 : Int) < (3 : Int) ∧ InR IntKind.i64 (n / (3 : Int)), InR IntKind.i64 (t * (n / (3 : Int))), InR IntKind.i64 (t * (n / (3 : Int)) + (1 : Int))]) : Option (V × Heap × List Prop)) := by kernel_rfl

theorem bdSm_p (n : Int) (v : Int) :
  along Tryz.prog (bdSm n v) [] = (some (.int .i64 v, [], [T Tryz.prog 54 [.int .i64 n, .int .i64 1] [] (.int .i64 v) []]) : Option (V × Heap × List Prop)) := by kernel_rfl

theorem bdMo_p (n : Int) (v : Int) :
  along Tryz.prog (bdMo n v) [] = (some (.int .i64 v, [], [T Tryz.prog 54 [.int .i64 n, .int .i64 2] [] (.int .i64 v) []]) : Option (V × Heap × List Prop)) := by kernel_rfl

theorem bdFa_p (n : Int) (v : Int) :
  along Tryz.prog (bdFa n v) [] = (some (.int .i64 (imax (0 : Int) (v - (1 : Int))), [], [T Tryz.prog 54 [.int .i64 n, .int .i64 1] [] (.int .i64 v) [], InR IntKind.i64 (v - (1 : Int))]) : Option (V × Heap × List Prop)) := by kernel_rfl

theorem bdPn_p1 (l : List Int) (n : Int) :
  along Tryz.prog (bdPn l n) [true] = (some (.int .i64 0, [], [decide ((↑(List.length l) : Int) ≤ n) = true]) : Option (V × Heap × List Prop)) := by kernel_rfl
theorem bdPn_p0 (l : List Int) (n : Int) :
  along Tryz.prog (bdPn l n) [false] = (some (.int .i64 (List.getD l (Int.toNat n) (0 : Int)), [], [decide ((↑(List.length l) : Int) ≤ n) = false, (0 : Int) ≤ n ∧ n < (↑(List.length l) : Int)]) : Option (V × Heap × List Prop)) := by kernel_rfl

theorem mem_getD {l : List Int} {n : Int} : n ∈ l ↔ ∃ k, k < l.length ∧ l.getD k 0 = n := by
 constructor
 ·intro h
  obtain ⟨k, hk, e⟩ := List.getElem_of_mem h
  exact ⟨k, hk, by rw [List.getD_eq_getElem?_getD, List.getElem?_eq_getElem hk]; exact e⟩
 ·rintro ⟨k, hk, rfl⟩
  rw [List.getD_eq_getElem?_getD, List.getElem?_eq_getElem hk]; exact List.getElem_mem hk
theorem T_gn (n : Int) : T Tryz.prog 72 [.int .i64 n] [] (.bool (goodN n)) [] := by
 by_cases h1 : 4 ≤ n
 ·by_cases h2 : n ≤ 64
  ·refine T.val (T_al (bdGn_p11 n) Tryz.func72 ⟨decide_eq_true h1, decide_eq_true h2, ⟨by omega, by omega⟩, trivial⟩) ?_
   rw [goodN, decide_eq_true h1, decide_eq_true h2, Int.tmod_eq_emod_of_nonneg (by omega)]; rfl
  ·refine T.val (T_al (bdGn_p10 n) Tryz.func72 ⟨decide_eq_true h1, decide_eq_false h2, trivial⟩) ?_
   rw [goodN, decide_eq_true h1, decide_eq_false h2]; rfl
 ·refine T.val (T_al (bdGn_p00 n) Tryz.func72 ⟨decide_eq_false h1, rfl, trivial⟩) ?_
  rw [goodN, decide_eq_false h1]; rfl
theorem goodN_iff {n : Int} : goodN n = true ↔ 4 ≤ n ∧ n ≤ 64 ∧ n % 3 = 1 := by
 simp only [goodN, Bool.and_eq_true, decide_eq_true_eq]
 constructor
 ·rintro ⟨h1, h2, h3⟩; rw [Int.tmod_eq_emod_of_nonneg (by omega)] at h3; exact ⟨h1, h2, h3⟩
 ·rintro ⟨h1, h2, h3⟩; rw [Int.tmod_eq_emod_of_nonneg (by omega)]; exact ⟨h1, h2, h3⟩
def shareS (n t : Int) : Int := if goodN n = true then t * (n / 3) + 1 else 0
theorem T_sh {n t : Int} (h1 : 0 ≤ t) (h2 : t ≤ 2) : T Tryz.prog 54 [.int .i64 n, .int .i64 t] [] (.int .i64 (shareS n t)) [] := by
 have hG := T_gn n
 cases hg : goodN n with
 | false =>
  rw [hg] at hG
  exact T.val (T_al (bdSh_p1 n t false) Tryz.func54 ⟨hG, rfl, trivial⟩) (by simp [shareS, hg])
 | true =>
  rw [hg] at hG
  obtain ⟨g1, g2, g3⟩ := goodN_iff.1 hg
  have e : t = 0 ∨ t = 1 ∨ t = 2 := by omega
  refine T.val (T_al (bdSh_p0 n t true) Tryz.func54 ⟨hG, rfl, ⟨by omega, by omega, by rw [InR64]; omega⟩, ?_, ?_, trivial⟩) (by simp [shareS, hg])
  ·rw [InR64]; rcases e with rfl | rfl | rfl <;> omega
  ·rw [InR64]; rcases e with rfl | rfl | rfl <;> omega
def someS (n : Int) : Int := shareS n 1
theorem T_sm (n : Int) : T Tryz.prog 124 [.int .i64 n] [] (.int .i64 (someS n)) [] :=
 T_al (bdSm_p n (someS n)) Tryz.func124 ⟨T_sh (by decide) (by decide), trivial⟩
def mostS (n : Int) : Int := shareS n 2
theorem T_mo (n : Int) : T Tryz.prog 53 [.int .i64 n] [] (.int .i64 (mostS n)) [] :=
 T_al (bdMo_p n (mostS n)) Tryz.func53 ⟨T_sh (by decide) (by decide), trivial⟩
def fauS (n : Int) : Int := if goodN n = true then n / 3 else 0
theorem share_le {n t : Int} (h1 : 0 ≤ t) (h2 : t ≤ 2) : 0 ≤ shareS n t ∧ shareS n t ≤ 64 := by
 unfold shareS
 split
 ·rename_i hg
  obtain ⟨g1, g2, g3⟩ := goodN_iff.1 hg
  have e : t = 0 ∨ t = 1 ∨ t = 2 := by omega
  rcases e with rfl | rfl | rfl <;> omega
 ·omega
theorem T_fa (n : Int) : T Tryz.prog 15 [.int .i64 n] [] (.int .i64 (fauS n)) [] := by
 have hS : T Tryz.prog 54 [.int .i64 n, .int .i64 1] [] (.int .i64 (shareS n 1)) [] := T_sh (by decide) (by decide)
 have hb := share_le (n := n) (t := 1) (by decide) (by decide)
 refine T.val (T_al (bdFa_p n (shareS n 1)) Tryz.func15 ?_) ?_
 ·simp only [All]; and_intros
  all_goals first
   | exact hS
   | trivial
   | (simp only [IntKind.min, IntKind.max, IntKind.signed, IntKind.bits, if_true]; omega)
   | omega
 ·unfold fauS shareS imax
  unfold shareS at hb
  congr 1
  cases hg : goodN n with
  | false => rfl
  | true =>
   rw [hg] at hb
   obtain ⟨g1, g2, g3⟩ := goodN_iff.1 hg
   simp only [if_true] at hb ⊢
   split <;> omega
def penS (l : List Int) (n : Int) : Int := l.getD n.toNat 0
theorem T_pn (l : List Int) {n : Int} (h : 0 ≤ n) : T Tryz.prog 123 [lr l, .int .i64 n] [] (.int .i64 (penS l n)) [] := by
 by_cases h1 : (l.length : Int) ≤ n
 ·refine T.val (T_al (bdPn_p1 l n) Tryz.func123 ⟨decide_eq_true h1, trivial⟩) ?_
  rw [penS, List.getD_eq_getElem?_getD, List.getElem?_eq_none (by omega)]; rfl
 ·exact T_al (bdPn_p0 l n) Tryz.func123 ⟨decide_eq_false h1, ⟨h, by omega⟩, trivial⟩
end Go.Proofs.YtlakhciklfkocaaGreat
namespace Go.Proofs.YtlakhciklfkocaaGreat
open Go Sy Go.Proofs
structure SCfg where
 nodes : Int := 0
 clients : Int := 0
 window : Int := 0
 buckets : Int := 0
 cap : Int := 0
 slots : Int := 0
 requests : Int := 0
 timeout : Int := 0
 penalty : Int := 0
 last : Int := 0
def SCfg.c (c : SCfg) : List V := [.int .i64 c.nodes, .int .i64 c.clients, .int .i64 c.window, .int .i64 c.buckets, .int .i64 c.cap, .int .i64 c.slots, .int .i64 c.requests, .int .i64 c.timeout, .int .i64 c.penalty, .int .i64 c.last]
def goodC (c : SCfg) : Bool := goodN c.nodes && (decide (1 ≤ c.clients ∧ c.clients ≤ 8) && (decide (1 ≤ c.window ∧ c.window ≤ 64) && (decide (1 ≤ c.buckets ∧ c.buckets ≤ c.nodes) && (decide (1 ≤ c.cap ∧ c.cap ≤ 16) && (decide (1 ≤ c.slots ∧ c.slots ≤ 4) && (decide (1 ≤ c.requests ∧ c.requests ≤ 4) && (decide (12 ≤ c.timeout ∧ c.timeout ≤ 64) && (decide (0 ≤ c.penalty ∧ c.penalty ≤ 8) && decide (1 ≤ c.last ∧ c.last ≤ 1048576)))))))))
noncomputable def bdCg (c : SCfg) (g : Bool) : Bd := { f := Tryz.f44, args := [.agg c.c], kb := { db := dbQ [(72, cVal (.bool g))], lp := fun _ _ => [(True, .rounds 10)] } }
end Go.Proofs.YtlakhciklfkocaaGreat
namespace Go.Proofs.YtlakhciklfkocaaGreat
open Go Sy Go.Proofs
noncomputable def bdCg_c (c : SCfg) (g : Bool) : Nat → List Prop
 | 0 => [decide ((8 : Int) < SCfg.clients c) = false, InR IntKind.i64 (1 : Int), q2, (0 : Int) ≤ (1 : Int) ∧ (1 : Int) < (9 : Int)]
 | 1 => [decide ((64 : Int) < SCfg.window c) = false, InR IntKind.i64 (2 : Int), q2, (0 : Int) ≤ (2 : Int) ∧ (2 : Int) < (9 : Int)]
 | 2 => [decide (SCfg.nodes c < SCfg.buckets c) = false, InR IntKind.i64 (3 : Int), q2, (0 : Int) ≤ (3 : Int) ∧ (3 : Int) < (9 : Int)]
 | 3 => [decide ((16 : Int) < SCfg.cap c) = false, InR IntKind.i64 (4 : Int), q2, (0 : Int) ≤ (4 : Int) ∧ (4 : Int) < (9 : Int)]
 | 4 => [decide ((4 : Int) < SCfg.slots c) = false, InR IntKind.i64 (5 : Int), q2, (0 : Int) ≤ (5 : Int) ∧ (5 : Int) < (9 : Int)]
 | 5 => [decide ((4 : Int) < SCfg.requests c) = false, InR IntKind.i64 (6 : Int), q2, (0 : Int) ≤ (6 : Int) ∧ (6 : Int) < (9 : Int)]
 | 6 => [decide ((64 : Int) < SCfg.timeout c) = false, InR IntKind.i64 (7 : Int), q2, (0 : Int) ≤ (7 : Int) ∧ (7 : Int) < (9 : Int)]
 | 7 => [decide ((8 : Int) < SCfg.penalty c) = false, InR IntKind.i64 (8 : Int), q2, (0 : Int) ≤ (8 : Int) ∧ (8 : Int) < (9 : Int)]
 | _ => []
theorem bdCg_p1 (c : SCfg) (g : Bool) :
 along Tryz.prog (bdCg c g) [true] = (some (.int .i64 110, [], [T Tryz.prog 72 [.int .i64 (SCfg.nodes c)] [] (.bool g) [], (!g) = true]) : Option (V × Heap × List Prop)) := by kernel_rfl

theorem bdCg_p0111 (c : SCfg) (g : Bool) :
 along Tryz.prog (bdCg c g) [false, true, true, true] = (some (.int .i64 110, [], [T Tryz.prog 72 [.int .i64 (SCfg.nodes c)] [] (.bool g) [], (!g) = false, q2, (0 : Int) ≤ (0 : Int) ∧ (0 : Int) < (9 : Int), decide (SCfg.clients c < (1 : Int)) = true, q2]) : Option (V × Heap × List Prop)) := by kernel_rfl

theorem bdCg_p0101 (c : SCfg) (g : Bool) :
 along Tryz.prog (bdCg c g) [false, true, false, true] = (some (.int .i64 110, [], [T Tryz.prog 72 [.int .i64 (SCfg.nodes c)] [] (.bool g) [], (!g) = false, q2, (0 : Int) ≤ (0 : Int) ∧ (0 : Int) < (9 : Int), decide (SCfg.clients c < (1 : Int)) = false, decide ((8 : Int) < SCfg.clients c) = true]) : Option (V × Heap × List Prop)) := by kernel_rfl

theorem bdCg_p0100111 (c : SCfg) (g : Bool) :
 along Tryz.prog (bdCg c g) [false, true, false, false, true, true, true] = (some (.int .i64 110, [], [T Tryz.prog 72 [.int .i64 (SCfg.nodes c)] [] (.bool g) [], (!g) = false, q2, (0 : Int) ≤ (0 : Int) ∧ (0 : Int) < (9 : Int), decide (SCfg.clients c < (1 : Int)) = false] ++ (bdCg_c c g 0 ++ [decide (SCfg.window c < (1 : Int)) = true, q2])) : Option (V × Heap × List Prop)) := by kernel_rfl

theorem bdCg_p0100101 (c : SCfg) (g : Bool) :
 along Tryz.prog (bdCg c g) [false, true, false, false, true, false, true] = (some (.int .i64 110, [], [T Tryz.prog 72 [.int .i64 (SCfg.nodes c)] [] (.bool g) [], (!g) = false, q2, (0 : Int) ≤ (0 : Int) ∧ (0 : Int) < (9 : Int), decide (SCfg.clients c < (1 : Int)) = false] ++ (bdCg_c c g 0 ++ [decide (SCfg.window c < (1 : Int)) = false, decide ((64 : Int) < SCfg.window c) = true])) : Option (V × Heap × List Prop)) := by kernel_rfl

theorem bdCg_p0100100111 (c : SCfg) (g : Bool) :
 along Tryz.prog (bdCg c g) [false, true, false, false, true, false, false, true, true, true] = (some (.int .i64 110, [], [T Tryz.prog 72 [.int .i64 (SCfg.nodes c)] [] (.bool g) [], (!g) = false, q2, (0 : Int) ≤ (0 : Int) ∧ (0 : Int) < (9 : Int), decide (SCfg.clients c < (1 : Int)) = false] ++ (bdCg_c c g 0 ++ ([decide (SCfg.window c < (1 : Int)) = false] ++ (bdCg_c c g 1 ++ [decide (SCfg.buckets c < (1 : Int)) = true, q2])))) : Option (V × Heap × List Prop)) := by kernel_rfl

theorem bdCg_p0100100101 (c : SCfg) (g : Bool) :
 along Tryz.prog (bdCg c g) [false, true, false, false, true, false, false, true, false, true] = (some (.int .i64 110, [], [T Tryz.prog 72 [.int .i64 (SCfg.nodes c)] [] (.bool g) [], (!g) = false, q2, (0 : Int) ≤ (0 : Int) ∧ (0 : Int) < (9 : Int), decide (SCfg.clients c < (1 : Int)) = false] ++ (bdCg_c c g 0 ++ ([decide (SCfg.window c < (1 : Int)) = false] ++ (bdCg_c c g 1 ++ [decide (SCfg.buckets c < (1 : Int)) = false, decide (SCfg.nodes c < SCfg.buckets c) = true])))) : Option (V × Heap × List Prop)) := by kernel_rfl

theorem bdCg_p0100100100111 (c : SCfg) (g : Bool) :
 along Tryz.prog (bdCg c g) [false, true, false, false, true, false, false, true, false, false, true, true, true] = (some (.int .i64 110, [], [T Tryz.prog 72 [.int .i64 (SCfg.nodes c)] [] (.bool g) [], (!g) = false, q2, (0 : Int) ≤ (0 : Int) ∧ (0 : Int) < (9 : Int), decide (SCfg.clients c < (1 : Int)) = false] ++ (bdCg_c c g 0 ++ ([decide (SCfg.window c < (1 : Int)) = false] ++ (bdCg_c c g 1 ++ ([decide (SCfg.buckets c < (1 : Int)) = false] ++ (bdCg_c c g 2 ++ [decide (SCfg.cap c < (1 : Int)) = true, q2])))))) : Option (V × Heap × List Prop)) := by kernel_rfl

theorem bdCg_p0100100100101 (c : SCfg) (g : Bool) :
 along Tryz.prog (bdCg c g) [false, true, false, false, true, false, false, true, false, false, true, false, true] = (some (.int .i64 110, [], [T Tryz.prog 72 [.int .i64 (SCfg.nodes c)] [] (.bool g) [], (!g) = false, q2, (0 : Int) ≤ (0 : Int) ∧ (0 : Int) < (9 : Int), decide (SCfg.clients c < (1 : Int)) = false] ++ (bdCg_c c g 0 ++ ([decide (SCfg.window c < (1 : Int)) = false] ++ (bdCg_c c g 1 ++ ([decide (SCfg.buckets c < (1 : Int)) = false] ++ (bdCg_c c g 2 ++ [decide (SCfg.cap c < (1 : Int)) = false, decide ((16 : Int) < SCfg.cap c) = true])))))) : Option (V × Heap × List Prop)) := by kernel_rfl

theorem bdCg_p0100100100100111 (c : SCfg) (g : Bool) :
 along Tryz.prog (bdCg c g) [false, true, false, false, true, false, false, true, false, false, true, false, false, true, true, true] = (some (.int .i64 110, [], [T Tryz.prog 72 [.int .i64 (SCfg.nodes c)] [] (.bool g) [], (!g) = false, q2, (0 : Int) ≤ (0 : Int) ∧ (0 : Int) < (9 : Int), decide (SCfg.clients c < (1 : Int)) = false] ++ (bdCg_c c g 0 ++ ([decide (SCfg.window c < (1 : Int)) = false] ++ (bdCg_c c g 1 ++ ([decide (SCfg.buckets c < (1 : Int)) = false] ++ (bdCg_c c g 2 ++ ([decide (SCfg.cap c < (1 : Int)) = false] ++ (bdCg_c c g 3 ++ [decide (SCfg.slots c < (1 : Int)) = true, q2])))))))) : Option (V × Heap × List Prop)) := by kernel_rfl

theorem bdCg_p0100100100100101 (c : SCfg) (g : Bool) :
 along Tryz.prog (bdCg c g) [false, true, false, false, true, false, false, true, false, false, true, false, false, true, false, true] = (some (.int .i64 110, [], [T Tryz.prog 72 [.int .i64 (SCfg.nodes c)] [] (.bool g) [], (!g) = false, q2, (0 : Int) ≤ (0 : Int) ∧ (0 : Int) < (9 : Int), decide (SCfg.clients c < (1 : Int)) = false] ++ (bdCg_c c g 0 ++ ([decide (SCfg.window c < (1 : Int)) = false] ++ (bdCg_c c g 1 ++ ([decide (SCfg.buckets c < (1 : Int)) = false] ++ (bdCg_c c g 2 ++ ([decide (SCfg.cap c < (1 : Int)) = false] ++ (bdCg_c c g 3 ++ [decide (SCfg.slots c < (1 : Int)) = false, decide ((4 : Int) < SCfg.slots c) = true])))))))) : Option (V × Heap × List Prop)) := by kernel_rfl

theorem bdCg_p0100100100100100111 (c : SCfg) (g : Bool) :
 along Tryz.prog (bdCg c g) [false, true, false, false, true, false, false, true, false, false, true, false, false, true, false, false, true, true, true] = (some (.int .i64 110, [], [T Tryz.prog 72 [.int .i64 (SCfg.nodes c)] [] (.bool g) [], (!g) = false, q2, (0 : Int) ≤ (0 : Int) ∧ (0 : Int) < (9 : Int), decide (SCfg.clients c < (1 : Int)) = false] ++ (bdCg_c c g 0 ++ ([decide (SCfg.window c < (1 : Int)) = false] ++ (bdCg_c c g 1 ++ ([decide (SCfg.buckets c < (1 : Int)) = false] ++ (bdCg_c c g 2 ++ ([decide (SCfg.cap c < (1 : Int)) = false] ++ (bdCg_c c g 3 ++ ([decide (SCfg.slots c < (1 : Int)) = false] ++ (bdCg_c c g 4 ++ [decide (SCfg.requests c < (1 : Int)) = true, q2])))))))))) : Option (V × Heap × List Prop)) := by kernel_rfl

theorem bdCg_p0100100100100100101 (c : SCfg) (g : Bool) :
 along Tryz.prog (bdCg c g) [false, true, false, false, true, false, false, true, false, false, true, false, false, true, false, false, true, false, true] = (some (.int .i64 110, [], [T Tryz.prog 72 [.int .i64 (SCfg.nodes c)] [] (.bool g) [], (!g) = false, q2, (0 : Int) ≤ (0 : Int) ∧ (0 : Int) < (9 : Int), decide (SCfg.clients c < (1 : Int)) = false] ++ (bdCg_c c g 0 ++ ([decide (SCfg.window c < (1 : Int)) = false] ++ (bdCg_c c g 1 ++ ([decide (SCfg.buckets c < (1 : Int)) = false] ++ (bdCg_c c g 2 ++ ([decide (SCfg.cap c < (1 : Int)) = false] ++ (bdCg_c c g 3 ++ ([decide (SCfg.slots c < (1 : Int)) = false] ++ (bdCg_c c g 4 ++ [decide (SCfg.requests c < (1 : Int)) = false, decide ((4 : Int) < SCfg.requests c) = true])))))))))) : Option (V × Heap × List Prop)) := by kernel_rfl

theorem bdCg_p0100100100100100100111 (c : SCfg) (g : Bool) :
 along Tryz.prog (bdCg c g) [false, true, false, false, true, false, false, true, false, false, true, false, false, true, false, false, true, false, false, true, true, true] = (some (.int .i64 110, [], [T Tryz.prog 72 [.int .i64 (SCfg.nodes c)] [] (.bool g) [], (!g) = false, q2, (0 : Int) ≤ (0 : Int) ∧ (0 : Int) < (9 : Int), decide (SCfg.clients c < (1 : Int)) = false] ++ (bdCg_c c g 0 ++ ([decide (SCfg.window c < (1 : Int)) = false] ++ (bdCg_c c g 1 ++ ([decide (SCfg.buckets c < (1 : Int)) = false] ++ (bdCg_c c g 2 ++ ([decide (SCfg.cap c < (1 : Int)) = false] ++ (bdCg_c c g 3 ++ ([decide (SCfg.slots c < (1 : Int)) = false] ++ (bdCg_c c g 4 ++ ([decide (SCfg.requests c < (1 : Int)) = false] ++ (bdCg_c c g 5 ++ [decide (SCfg.timeout c < (12 : Int)) = true, q2])))))))))))) : Option (V × Heap × List Prop)) := by kernel_rfl

theorem bdCg_p0100100100100100100101 (c : SCfg) (g : Bool) :
 along Tryz.prog (bdCg c g) [false, true, false, false, true, false, false, true, false, false, true, false, false, true, false, false, true, false, false, true, false, true] = (some (.int .i64 110, [], [T Tryz.prog 72 [.int .i64 (SCfg.nodes c)] [] (.bool g) [], (!g) = false, q2, (0 : Int) ≤ (0 : Int) ∧ (0 : Int) < (9 : Int), decide (SCfg.clients c < (1 : Int)) = false] ++ (bdCg_c c g 0 ++ ([decide (SCfg.window c < (1 : Int)) = false] ++ (bdCg_c c g 1 ++ ([decide (SCfg.buckets c < (1 : Int)) = false] ++ (bdCg_c c g 2 ++ ([decide (SCfg.cap c < (1 : Int)) = false] ++ (bdCg_c c g 3 ++ ([decide (SCfg.slots c < (1 : Int)) = false] ++ (bdCg_c c g 4 ++ ([decide (SCfg.requests c < (1 : Int)) = false] ++ (bdCg_c c g 5 ++ [decide (SCfg.timeout c < (12 : Int)) = false, decide ((64 : Int) < SCfg.timeout c) = true])))))))))))) : Option (V × Heap × List Prop)) := by kernel_rfl

theorem bdCg_p0100100100100100100100111 (c : SCfg) (g : Bool) :
 along Tryz.prog (bdCg c g) [false, true, false, false, true, false, false, true, false, false, true, false, false, true, false, false, true, false, false, true, false, false, true, true, true] = (some (.int .i64 110, [], [T Tryz.prog 72 [.int .i64 (SCfg.nodes c)] [] (.bool g) [], (!g) = false, q2, (0 : Int) ≤ (0 : Int) ∧ (0 : Int) < (9 : Int), decide (SCfg.clients c < (1 : Int)) = false] ++ (bdCg_c c g 0 ++ ([decide (SCfg.window c < (1 : Int)) = false] ++ (bdCg_c c g 1 ++ ([decide (SCfg.buckets c < (1 : Int)) = false] ++ (bdCg_c c g 2 ++ ([decide (SCfg.cap c < (1 : Int)) = false] ++ (bdCg_c c g 3 ++ ([decide (SCfg.slots c < (1 : Int)) = false] ++ (bdCg_c c g 4 ++ ([decide (SCfg.requests c < (1 : Int)) = false] ++ (bdCg_c c g 5 ++ ([decide (SCfg.timeout c < (12 : Int)) = false] ++ (bdCg_c c g 6 ++ [decide (SCfg.penalty c < (0 : Int)) = true, q2])))))))))))))) : Option (V × Heap × List Prop)) := by kernel_rfl

theorem bdCg_p0100100100100100100100101 (c : SCfg) (g : Bool) :
 along Tryz.prog (bdCg c g) [false, true, false, false, true, false, false, true, false, false, true, false, false, true, false, false, true, false, false, true, false, false, true, false, true] = (some (.int .i64 110, [], [T Tryz.prog 72 [.int .i64 (SCfg.nodes c)] [] (.bool g) [], (!g) = false, q2, (0 : Int) ≤ (0 : Int) ∧ (0 : Int) < (9 : Int), decide (SCfg.clients c < (1 : Int)) = false] ++ (bdCg_c c g 0 ++ ([decide (SCfg.window c < (1 : Int)) = false] ++ (bdCg_c c g 1 ++ ([decide (SCfg.buckets c < (1 : Int)) = false] ++ (bdCg_c c g 2 ++ ([decide (SCfg.cap c < (1 : Int)) = false] ++ (bdCg_c c g 3 ++ ([decide (SCfg.slots c < (1 : Int)) = false] ++ (bdCg_c c g 4 ++ ([decide (SCfg.requests c < (1 : Int)) = false] ++ (bdCg_c c g 5 ++ ([decide (SCfg.timeout c < (12 : Int)) = false] ++ (bdCg_c c g 6 ++ [decide (SCfg.penalty c < (0 : Int)) = false, decide ((8 : Int) < SCfg.penalty c) = true])))))))))))))) : Option (V × Heap × List Prop)) := by kernel_rfl

theorem bdCg_p0100100100100100100100100111 (c : SCfg) (g : Bool) :
 along Tryz.prog (bdCg c g) [false, true, false, false, true, false, false, true, false, false, true, false, false, true, false, false, true, false, false, true, false, false, true, false, false, true, true, true] = (some (.int .i64 110, [], [T Tryz.prog 72 [.int .i64 (SCfg.nodes c)] [] (.bool g) [], (!g) = false, q2, (0 : Int) ≤ (0 : Int) ∧ (0 : Int) < (9 : Int), decide (SCfg.clients c < (1 : Int)) = false] ++ (bdCg_c c g 0 ++ ([decide (SCfg.window c < (1 : Int)) = false] ++ (bdCg_c c g 1 ++ ([decide (SCfg.buckets c < (1 : Int)) = false] ++ (bdCg_c c g 2 ++ ([decide (SCfg.cap c < (1 : Int)) = false] ++ (bdCg_c c g 3 ++ ([decide (SCfg.slots c < (1 : Int)) = false] ++ (bdCg_c c g 4 ++ ([decide (SCfg.requests c < (1 : Int)) = false] ++ (bdCg_c c g 5 ++ ([decide (SCfg.timeout c < (12 : Int)) = false] ++ (bdCg_c c g 6 ++ ([decide (SCfg.penalty c < (0 : Int)) = false] ++ (bdCg_c c g 7 ++ [decide (SCfg.last c < (1 : Int)) = true, q2])))))))))))))))) : Option (V × Heap × List Prop)) := by kernel_rfl

theorem bdCg_p0100100100100100100100100101 (c : SCfg) (g : Bool) :
 along Tryz.prog (bdCg c g) [false, true, false, false, true, false, false, true, false, false, true, false, false, true, false, false, true, false, false, true, false, false, true, false, false, true, false, true] = (some (.int .i64 110, [], [T Tryz.prog 72 [.int .i64 (SCfg.nodes c)] [] (.bool g) [], (!g) = false, q2, (0 : Int) ≤ (0 : Int) ∧ (0 : Int) < (9 : Int), decide (SCfg.clients c < (1 : Int)) = false] ++ (bdCg_c c g 0 ++ ([decide (SCfg.window c < (1 : Int)) = false] ++ (bdCg_c c g 1 ++ ([decide (SCfg.buckets c < (1 : Int)) = false] ++ (bdCg_c c g 2 ++ ([decide (SCfg.cap c < (1 : Int)) = false] ++ (bdCg_c c g 3 ++ ([decide (SCfg.slots c < (1 : Int)) = false] ++ (bdCg_c c g 4 ++ ([decide (SCfg.requests c < (1 : Int)) = false] ++ (bdCg_c c g 5 ++ ([decide (SCfg.timeout c < (12 : Int)) = false] ++ (bdCg_c c g 6 ++ ([decide (SCfg.penalty c < (0 : Int)) = false] ++ (bdCg_c c g 7 ++ [decide (SCfg.last c < (1 : Int)) = false, decide ((1048576 : Int) < SCfg.last c) = true])))))))))))))))) : Option (V × Heap × List Prop)) := by kernel_rfl

theorem bdCg_p01001001001001001001001001000 (c : SCfg) (g : Bool) :
 along Tryz.prog (bdCg c g) [false, true, false, false, true, false, false, true, false, false, true, false, false, true, false, false, true, false, false, true, false, false, true, false, false, true, false, false, false] = (some (.int .i64 0, [], [T Tryz.prog 72 [.int .i64 (SCfg.nodes c)] [] (.bool g) [], (!g) = false, q2, (0 : Int) ≤ (0 : Int) ∧ (0 : Int) < (9 : Int), decide (SCfg.clients c < (1 : Int)) = false] ++ (bdCg_c c g 0 ++ ([decide (SCfg.window c < (1 : Int)) = false] ++ (bdCg_c c g 1 ++ ([decide (SCfg.buckets c < (1 : Int)) = false] ++ (bdCg_c c g 2 ++ ([decide (SCfg.cap c < (1 : Int)) = false] ++ (bdCg_c c g 3 ++ ([decide (SCfg.slots c < (1 : Int)) = false] ++ (bdCg_c c g 4 ++ ([decide (SCfg.requests c < (1 : Int)) = false] ++ (bdCg_c c g 5 ++ ([decide (SCfg.timeout c < (12 : Int)) = false] ++ (bdCg_c c g 6 ++ ([decide (SCfg.penalty c < (0 : Int)) = false] ++ (bdCg_c c g 7 ++ [decide (SCfg.last c < (1 : Int)) = false, decide ((1048576 : Int) < SCfg.last c) = false, InR IntKind.i64 (9 : Int), q false])))))))))))))))) : Option (V × Heap × List Prop)) := by kernel_rfl

def goodE (c : SCfg) : Int := if goodC c = true then 0 else 110
theorem goodC_iff {c : SCfg} : goodC c = true ↔ goodN c.nodes = true ∧ (1 ≤ c.clients ∧ c.clients ≤ 8) ∧ (1 ≤ c.window ∧ c.window ≤ 64) ∧ (1 ≤ c.buckets ∧ c.buckets ≤ c.nodes) ∧ (1 ≤ c.cap ∧ c.cap ≤ 16) ∧ (1 ≤ c.slots ∧ c.slots ≤ 4) ∧ (1 ≤ c.requests ∧ c.requests ≤ 4) ∧ (12 ≤ c.timeout ∧ c.timeout ≤ 64) ∧ (0 ≤ c.penalty ∧ c.penalty ≤ 8) ∧ (1 ≤ c.last ∧ c.last ≤ 1048576) := by
 simp only [goodC, Bool.and_eq_true, decide_eq_true_eq]
theorem T_cg (c : SCfg) : T Tryz.prog 44 [.agg c.c] [] (.int .i64 (goodE c)) [] := by
 have hG := T_gn c.nodes
 cases hg : goodN c.nodes with
 | false =>
  rw [hg] at hG
  refine T.val (T_al (bdCg_p1 c false) Tryz.func44 ⟨hG, rfl, trivial⟩) ?_
  rw [goodE, if_neg (fun hh => by rw [(goodC_iff.1 hh).1] at hg; cases hg)]
 | true =>
  rw [hg] at hG
  by_cases l0 : c.clients < 1
  ·
   refine T.val (T_al (bdCg_p0111 c true) Tryz.func44 ?_) (by rw [goodE, if_neg (fun hh => by have := goodC_iff.1 hh; omega)])
   simp only [All, All_append, bdCg_c]; and_intros
   all_goals first
    | exact hG
    | rfl
    | decide
    | (rw [decide_eq_true_eq]; omega)
    | (rw [decide_eq_false_iff_not]; omega)
    | (simp; done)
    | omega
  by_cases g0 : 8 < c.clients
  ·
   refine T.val (T_al (bdCg_p0101 c true) Tryz.func44 ?_) (by rw [goodE, if_neg (fun hh => by have := goodC_iff.1 hh; omega)])
   simp only [All, All_append, bdCg_c]; and_intros
   all_goals first
    | exact hG
    | rfl
    | decide
    | (rw [decide_eq_true_eq]; omega)
    | (rw [decide_eq_false_iff_not]; omega)
    | (simp; done)
    | omega
  by_cases l1 : c.window < 1
  ·
   refine T.val (T_al (bdCg_p0100111 c true) Tryz.func44 ?_) (by rw [goodE, if_neg (fun hh => by have := goodC_iff.1 hh; omega)])
   simp only [All, All_append, bdCg_c]; and_intros
   all_goals first
    | exact hG
    | rfl
    | decide
    | (rw [decide_eq_true_eq]; omega)
    | (rw [decide_eq_false_iff_not]; omega)
    | (simp; done)
    | omega
  by_cases g1 : 64 < c.window
  ·
   refine T.val (T_al (bdCg_p0100101 c true) Tryz.func44 ?_) (by rw [goodE, if_neg (fun hh => by have := goodC_iff.1 hh; omega)])
   simp only [All, All_append, bdCg_c]; and_intros
   all_goals first
    | exact hG
    | rfl
    | decide
    | (rw [decide_eq_true_eq]; omega)
    | (rw [decide_eq_false_iff_not]; omega)
    | (simp; done)
    | omega
  by_cases l2 : c.buckets < 1
  ·
   refine T.val (T_al (bdCg_p0100100111 c true) Tryz.func44 ?_) (by rw [goodE, if_neg (fun hh => by have := goodC_iff.1 hh; omega)])
   simp only [All, All_append, bdCg_c]; and_intros
   all_goals first
    | exact hG
    | rfl
    | decide
    | (rw [decide_eq_true_eq]; omega)
    | (rw [decide_eq_false_iff_not]; omega)
    | (simp; done)
    | omega
  by_cases g2 : c.nodes < c.buckets
  ·
   refine T.val (T_al (bdCg_p0100100101 c true) Tryz.func44 ?_) (by rw [goodE, if_neg (fun hh => by have := goodC_iff.1 hh; omega)])
   simp only [All, All_append, bdCg_c]; and_intros
   all_goals first
    | exact hG
    | rfl
    | decide
    | (rw [decide_eq_true_eq]; omega)
    | (rw [decide_eq_false_iff_not]; omega)
    | (simp; done)
    | omega
  by_cases l3 : c.cap < 1
  ·
   refine T.val (T_al (bdCg_p0100100100111 c true) Tryz.func44 ?_) (by rw [goodE, if_neg (fun hh => by have := goodC_iff.1 hh; omega)])
   simp only [All, All_append, bdCg_c]; and_intros
   all_goals first
    | exact hG
    | rfl
    | decide
    | (rw [decide_eq_true_eq]; omega)
    | (rw [decide_eq_false_iff_not]; omega)
    | (simp; done)
    | omega
  by_cases g3 : 16 < c.cap
  ·
   refine T.val (T_al (bdCg_p0100100100101 c true) Tryz.func44 ?_) (by rw [goodE, if_neg (fun hh => by have := goodC_iff.1 hh; omega)])
   simp only [All, All_append, bdCg_c]; and_intros
   all_goals first
    | exact hG
    | rfl
    | decide
    | (rw [decide_eq_true_eq]; omega)
    | (rw [decide_eq_false_iff_not]; omega)
    | (simp; done)
    | omega
  by_cases l4 : c.slots < 1
  ·
   refine T.val (T_al (bdCg_p0100100100100111 c true) Tryz.func44 ?_) (by rw [goodE, if_neg (fun hh => by have := goodC_iff.1 hh; omega)])
   simp only [All, All_append, bdCg_c]; and_intros
   all_goals first
    | exact hG
    | rfl
    | decide
    | (rw [decide_eq_true_eq]; omega)
    | (rw [decide_eq_false_iff_not]; omega)
    | (simp; done)
    | omega
  by_cases g4 : 4 < c.slots
  ·
   refine T.val (T_al (bdCg_p0100100100100101 c true) Tryz.func44 ?_) (by rw [goodE, if_neg (fun hh => by have := goodC_iff.1 hh; omega)])
   simp only [All, All_append, bdCg_c]; and_intros
   all_goals first
    | exact hG
    | rfl
    | decide
    | (rw [decide_eq_true_eq]; omega)
    | (rw [decide_eq_false_iff_not]; omega)
    | (simp; done)
    | omega
  by_cases l5 : c.requests < 1
  ·
   refine T.val (T_al (bdCg_p0100100100100100111 c true) Tryz.func44 ?_) (by rw [goodE, if_neg (fun hh => by have := goodC_iff.1 hh; omega)])
   simp only [All, All_append, bdCg_c]; and_intros
   all_goals first
    | exact hG
    | rfl
    | decide
    | (rw [decide_eq_true_eq]; omega)
    | (rw [decide_eq_false_iff_not]; omega)
    | (simp; done)
    | omega
  by_cases g5 : 4 < c.requests
  ·
   refine T.val (T_al (bdCg_p0100100100100100101 c true) Tryz.func44 ?_) (by rw [goodE, if_neg (fun hh => by have := goodC_iff.1 hh; omega)])
   simp only [All, All_append, bdCg_c]; and_intros
   all_goals first
    | exact hG
    | rfl
    | decide
    | (rw [decide_eq_true_eq]; omega)
    | (rw [decide_eq_false_iff_not]; omega)
    | (simp; done)
    | omega
  by_cases l6 : c.timeout < 12
  ·
   refine T.val (T_al (bdCg_p0100100100100100100111 c true) Tryz.func44 ?_) (by rw [goodE, if_neg (fun hh => by have := goodC_iff.1 hh; omega)])
   simp only [All, All_append, bdCg_c]; and_intros
   all_goals first
    | exact hG
    | rfl
    | decide
    | (rw [decide_eq_true_eq]; omega)
    | (rw [decide_eq_false_iff_not]; omega)
    | (simp; done)
    | omega
  by_cases g6 : 64 < c.timeout
  ·
   refine T.val (T_al (bdCg_p0100100100100100100101 c true) Tryz.func44 ?_) (by rw [goodE, if_neg (fun hh => by have := goodC_iff.1 hh; omega)])
   simp only [All, All_append, bdCg_c]; and_intros
   all_goals first
    | exact hG
    | rfl
    | decide
    | (rw [decide_eq_true_eq]; omega)
    | (rw [decide_eq_false_iff_not]; omega)
    | (simp; done)
    | omega
  by_cases l7 : c.penalty < 0
  ·
   refine T.val (T_al (bdCg_p0100100100100100100100111 c true) Tryz.func44 ?_) (by rw [goodE, if_neg (fun hh => by have := goodC_iff.1 hh; omega)])
   simp only [All, All_append, bdCg_c]; and_intros
   all_goals first
    | exact hG
    | rfl
    | decide
    | (rw [decide_eq_true_eq]; omega)
    | (rw [decide_eq_false_iff_not]; omega)
    | (simp; done)
    | omega
  by_cases g7 : 8 < c.penalty
  ·
   refine T.val (T_al (bdCg_p0100100100100100100100101 c true) Tryz.func44 ?_) (by rw [goodE, if_neg (fun hh => by have := goodC_iff.1 hh; omega)])
   simp only [All, All_append, bdCg_c]; and_intros
   all_goals first
    | exact hG
    | rfl
    | decide
    | (rw [decide_eq_true_eq]; omega)
    | (rw [decide_eq_false_iff_not]; omega)
    | (simp; done)
    | omega
  by_cases l8 : c.last < 1
  ·
   refine T.val (T_al (bdCg_p0100100100100100100100100111 c true) Tryz.func44 ?_) (by rw [goodE, if_neg (fun hh => by have := goodC_iff.1 hh; omega)])
   simp only [All, All_append, bdCg_c]; and_intros
   all_goals first
    | exact hG
    | rfl
    | decide
    | (rw [decide_eq_true_eq]; omega)
    | (rw [decide_eq_false_iff_not]; omega)
    | (simp; done)
    | omega
  by_cases g8 : 1048576 < c.last
  ·
   refine T.val (T_al (bdCg_p0100100100100100100100100101 c true) Tryz.func44 ?_) (by rw [goodE, if_neg (fun hh => by have := goodC_iff.1 hh; omega)])
   simp only [All, All_append, bdCg_c]; and_intros
   all_goals first
    | exact hG
    | rfl
    | decide
    | (rw [decide_eq_true_eq]; omega)
    | (rw [decide_eq_false_iff_not]; omega)
    | (simp; done)
    | omega
  have hc : goodC c = true := goodC_iff.2 (by refine ⟨hg, ?_⟩; omega)
  refine T.val (T_al (bdCg_p01001001001001001001001001000 c true) Tryz.func44 ?_) (by rw [goodE, if_pos hc])
  simp only [All, All_append, bdCg_c]; and_intros
  all_goals first
   | exact hG
   | rfl
   | decide
   | (rw [decide_eq_true_eq]; omega)
   | (rw [decide_eq_false_iff_not]; omega)
   | (simp; done)
   | omega
end Go.Proofs.YtlakhciklfkocaaGreat
namespace Go.Proofs.YtlakhciklfkocaaGreat
open Go Sy Go.Proofs
noncomputable def bdMy (c : SCfg) (e g : Int) : Bd := { f := Tryz.f120, args := [.agg c.c, .int .i64 e], kb := { db := dbQ [(44, cVal (.int .i64 g))] } }
def hpE (pen : List Int) (e : Int) : Heap := [(.o 0, .flat [lr pen]), (.o 1, .flat [.int .i64 e])]
noncomputable def bdL1 (pen : List Int) (e n p : Int) : Bd := { f := Tryz.f122, args := [.int .i64 n, .ptr (.o 0) 0 0 0 0, .ptr (.o 1) 0 0 0 0], pre := hpE pen e, base := 2, kb := { db := dbQ [(123, cVal (.int .i64 p))] }, names := fun _ => [.o 0, .o 1] }
noncomputable def bdL2 (n : Int) : Bd := { f := Tryz.f125, args := [.int .i64 n], kb := kb0 }
/-- The numbers below, of which something holds. -/
def filS (q : Nat → Bool) : Nat → List Int
 | 0 => []
 | k + 1 => if q k = true then filS q k ++ [(k : Int)] else filS q k
def smAI (pen : List Int) (e : Int) (n k : Nat) : St := ⟨mkT 19 [(1, .fn (.func 122) [] [.ptr (.o 0) 0 0 0 0, .ptr (.o 1) 0 0 0 0]), (4, ls 2 (filS (fun i => decide (penS pen i ≤ e)) k)), (6, .int .i64 n), (7, .int .i64 k)], hpE pen e ++ [(.o 2, lb (filS (fun i => decide (penS pen i ≤ e)) k))], 3, []⟩
noncomputable def bdSmA (pen : List Int) (e : Int) (n : Nat) : Bd := { f := Tryz.f121, args := [.int .i64 n, .fn (.func 122) [] [.ptr (.o 0) 0 0 0 0, .ptr (.o 1) 0 0 0 0]], pre := hpE pen e, base := 2, kb := { db := fun _ _ _ _ => [], lp := fun _ t => match getV t.tmps 4 with | .sl a _ _ _ _ _ _ => [(True, .loop (n + 1) (wToS [(.o 2, a)] (smAI pen e n 0)) (.exit 0) (smAI pen e n n))] | _ => [], fx := fun id _ => bif Nat.beq id 1 then [.virt 4 1] else [] }, names := fun _ => [.o 0, .o 1], k := fun _ t => some ⟨[], [(4, .set (lr (filS (fun i => decide (penS pen i ≤ e)) n)))], hsetsOf (hpE pen e), none, t.next⟩ }
noncomputable def pcSmA (pen : List Int) (e : Int) (n k : Nat) (b : Bool) : Pc := { c := cB (cB (cR (cL (cR (bodyOf Tryz.f121))))), st := smAI pen e n k, p := 2, kb := { db := dbQ [(122, fun _ _ _ => [{ pre := [.o 0, .o 1], val := .bool b, post := hpE pen e }])] }, k := fun x_ t => match x_ with
 | .normal => match getV t.tmps 4 with | .sl a _ _ _ _ _ _ => some (wToS [(.o 2, a)] (smAI pen e n (k + 1))) | _ => none
 | _ => some (wTo (smAI pen e n n)) }
def smBI  (n k : Nat) : St := ⟨mkT 19 [(1, .fn (.func 125) [] []), (4, ls 0 (filS (fun _ => true) k)), (6, .int .i64 n), (7, .int .i64 k)], [] ++ [(.o 0, lb (filS (fun _ => true) k))], 1, []⟩
noncomputable def bdSmB  (n : Nat) : Bd := { f := Tryz.f121, args := [.int .i64 n, .fn (.func 125) [] []], pre := [], base := 0, kb := { db := fun _ _ _ _ => [], lp := fun _ t => match getV t.tmps 4 with | .sl a _ _ _ _ _ _ => [(True, .loop (n + 1) (wToS [(.o 0, a)] (smBI  n 0)) (.exit 0) (smBI  n n))] | _ => [], fx := fun id _ => bif Nat.beq id 1 then [.virt 4 1] else [] }, names := fun _ => [], k := fun _ t => some ⟨[], [(4, .set (lr (filS (fun _ => true) n)))], hsetsOf ([]), none, t.next⟩ }
noncomputable def pcSmB  (n k : Nat) (b : Bool) : Pc := { c := cB (cB (cR (cL (cR (bodyOf Tryz.f121))))), st := smBI  n k, p := 0, kb := { db := dbQ [(125, fun _ _ _ => [{ pre := [], val := .bool b, post := [] }])] }, k := fun x_ t => match x_ with
 | .normal => match getV t.tmps 4 with | .sl a _ _ _ _ _ _ => some (wToS [(.o 0, a)] (smBI  n (k + 1))) | _ => none
 | _ => some (wTo (smBI  n n)) }
end Go.Proofs.YtlakhciklfkocaaGreat
namespace Go.Proofs.YtlakhciklfkocaaGreat
open Go Sy Go.Proofs
noncomputable def bdMy_c (c : SCfg) (e : Int) (g : Int) : Nat → List Prop
 | 0 => [T Tryz.prog 44 [.agg [.int .i64 (SCfg.nodes c), .int .i64 (SCfg.clients c), .int .i64 (SCfg.window c), .int .i64 (SCfg.buckets c), .int .i64 (SCfg.cap c), .int .i64 (SCfg.slots c), .int .i64 (SCfg.requests c), .int .i64 (SCfg.timeout c), .int .i64 (SCfg.penalty c), .int .i64 (SCfg.last c)]] [] (.int .i64 g) []]
 | _ => []
theorem bdMy_p11 (c : SCfg) (e : Int) (g : Int) :
 along Tryz.prog (bdMy c e g) [true, true] = (some (.bool (decide (e ≤ (1048576 : Int))), [], bdMy_c c e g 0 ++ [decide (g = (0 : Int)) = true, decide ((1 : Int) ≤ e) = true]) : Option (V × Heap × List Prop)) := by kernel_rfl
theorem bdMy_p10 (c : SCfg) (e : Int) (g : Int) :
 along Tryz.prog (bdMy c e g) [true, false] = (some (.bool false, [], bdMy_c c e g 0 ++ [decide (g = (0 : Int)) = true, decide ((1 : Int) ≤ e) = false]) : Option (V × Heap × List Prop)) := by kernel_rfl
theorem bdMy_p00 (c : SCfg) (e : Int) (g : Int) :
 along Tryz.prog (bdMy c e g) [false, false] = (some (.bool false, [], bdMy_c c e g 0 ++ [decide (g = (0 : Int)) = false, q false]) : Option (V × Heap × List Prop)) := by kernel_rfl

theorem bdL1_p (pen : List Int) (e : Int) (n : Int) (p : Int) :
  along Tryz.prog (bdL1 pen e n p) [] = (some (.bool (decide (p ≤ e)), [(.o 0, .flat [.ros 1 (List.length pen) (li pen) false]), (.o 1, .flat [.int .i64 e])], [T Tryz.prog 123 [.ros 1 (List.length pen) (li pen) false, .int .i64 n] [] (.int .i64 p) []]) : Option (V × Heap × List Prop)) := by kernel_rfl

theorem bdL2_p (n : Int) :
  along Tryz.prog (bdL2 n) [] = (some (.bool true, [], []) : Option (V × Heap × List Prop)) := by kernel_rfl

theorem bdSmA_p (pen : List Int) (e : Int) (n : Nat) :
  along Tryz.prog (bdSmA pen e n) [] = some (V.ros (1 : Nat) (List.length (filS (fun i => decide (penS pen (↑i : Int) ≤ e)) n)) (li (filS (fun i => decide (penS pen (↑i : Int) ≤ e)) n)) false, [(Nm.o (0 : Nat), B.flat [V.ros (1 : Nat) (List.length pen) (li pen) false]), (Nm.o (1 : Nat), B.flat [V.int IntKind.i64 e])], [RLoop Tryz.prog none (2 : Nat) (cB (cB (cR (cL (cR (bodyOf (Bd.f (bdSmA pen e n)))))))) (n + (1 : Nat)) (St.mk [V.any, V.fn (Fn.func (122 : FuncId)) [] [V.ptr (Nm.o (0 : Nat)) (0 : Nat) (0 : Nat) (0 : Nat) (0 : Nat), V.ptr (Nm.o (1 : Nat)) (0 : Nat) (0 : Nat) (0 : Nat) (0 : Nat)], V.any, V.any, V.sl (Nm.o (2 : Nat)) (1 : Nat) (0 : Nat) (0 : Nat) (0 : Nat) (nat_lit 0) none, V.any, V.int IntKind.i64 (↑n : Int), V.int IntKind.i64 (0 : Int), V.any, V.any, V.any, V.any, V.any, V.any, V.any, V.any, V.any, V.any, V.any] [(Nm.o (0 : Nat), B.flat [V.ros (1 : Nat) (List.length pen) (li pen) false]), (Nm.o (1 : Nat), B.flat [V.int IntKind.i64 e]), (Nm.o (2 : Nat), B.rows (1 : Nat) (nat_lit 0) (li []) true)] (3 : Nat) []) (Exit.exit (0 : Nat)) (St.mk [V.any, V.fn (Fn.func (122 : FuncId)) [] [V.ptr (Nm.o (0 : Nat)) (0 : Nat) (0 : Nat) (0 : Nat) (0 : Nat), V.ptr (Nm.o (1 : Nat)) (0 : Nat) (0 : Nat) (0 : Nat) (0 : Nat)], V.any, V.any, V.sl (Nm.o (2 : Nat)) (1 : Nat) (0 : Nat) (0 : Nat) (0 : Nat) (List.length (filS (fun i => decide (penS pen (↑i : Int) ≤ e)) n)) none, V.any, V.int IntKind.i64 (↑n : Int), V.int IntKind.i64 (↑n : Int), V.any, V.any, V.any, V.any, V.any, V.any, V.any, V.any, V.any, V.any, V.any] [(Nm.o (0 : Nat), B.flat [V.ros (1 : Nat) (List.length pen) (li pen) false]), (Nm.o (1 : Nat), B.flat [V.int IntKind.i64 e]), (Nm.o (2 : Nat), B.rows (1 : Nat) (List.length (filS (fun i => decide (penS pen (↑i : Int) ≤ e)) n)) (li (filS (fun i => decide (penS pen (↑i : Int) ≤ e)) n)) true)] (3 : Nat) []), List.length pen = List.length pen, ∀ (k : Nat), k < List.length pen → [V.int IntKind.i64 (List.getD pen k (0 : Int))] = [V.int IntKind.i64 (List.getD pen k (0 : Int))], false = true → false = true, e = e, (0 : Nat) = nat_lit 0, ∀ (k : Nat), k < (0 : Nat) → [] = [V.int IntKind.i64 (0 : Int)], true = false → true = false, (0 : Nat) = (0 : Nat), (0 : Nat) = (0 : Nat), (0 : Nat) = (0 : Nat), (0 : Nat) = (0 : Nat), (0 : Nat) = (0 : Nat), (0 : Nat) = (0 : Nat), (0 : Nat) = (0 : Nat), (0 : Nat) = (0 : Nat), (0 : Nat) = (0 : Nat), (0 : Nat) = nat_lit 0, (none : Option Nat) = none ∨ (none : Option Nat) = none, (↑n : Int) = (↑n : Int), (0 : Int) = (0 : Int), List.length pen = List.length pen, ∀ (k : Nat), k < List.length pen → [V.int IntKind.i64 (List.getD pen k (0 : Int))] = [V.int IntKind.i64 (List.getD pen k (0 : Int))], false = true → false = true, e = e, List.length (filS (fun i => decide (penS pen (↑i : Int) ≤ e)) n) = List.length (filS (fun i => decide (penS pen (↑i : Int) ≤ e)) n), (0 : Nat) + List.length (filS (fun i => decide (penS pen (↑i : Int) ≤ e)) n) ≤ List.length (filS (fun i => decide (penS pen (↑i : Int) ≤ e)) n), ∀ (k : Nat), k < List.length (filS (fun i => decide (penS pen (↑i : Int) ≤ e)) n) → [V.int IntKind.i64 (List.getD (filS (fun i => decide (penS pen (↑i : Int) ≤ e)) n) ((0 : Nat) + k) (0 : Int))] = [V.int IntKind.i64 (List.getD (filS (fun i => decide (penS pen (↑i : Int) ≤ e)) n) k (0 : Int))], false = true → none = some (List.length (filS (fun i => decide (penS pen (↑i : Int) ≤ e)) n))]) := by kernel_rfl

theorem pcSmA_p11 (pen : List Int) (e : Int) (n : Nat) (k : Nat) (b : Bool) :
  alongPc Tryz.prog (pcSmA pen e n k b) [true, true] = (some (.normal, St.mk [.any, .fn (.func (122 : FuncId)) [] [.ptr (.o 0) 0 0 0 0, .ptr (.o 1) 0 0 0 0], .any, .any, .sl (.o 2) 1 0 0 0 (List.length (filS (fun i => decide (penS pen (↑i : Int) ≤ e)) (k + 1))) none, .any, .int .i64 ↑n, .int .i64 (↑(k + 1) : Int), .any, .any, .any, .any, .any, .any, .any, .any, .any, .any, .any] [(.o 0, .flat [.ros 1 (List.length pen) (li pen) false]), (.o 1, .flat [.int .i64 e]), (.o 2, .rows 1 (List.length (filS (fun i => decide (penS pen (↑i : Int) ≤ e)) (k + 1))) (li (filS (fun i => decide (penS pen (↑i : Int) ≤ e)) (k + 1))) true)] 3 [], [decide ((↑k : Int) < (↑n : Int)) = true, T Tryz.prog (122 : FuncId) [.int .i64 ↑k, .ptr (.o 0) 0 0 0 0, .ptr (.o 1) 0 0 0 0] [(.o 0, .flat [.ros 1 (List.length pen) (li pen) false]), (.o 1, .flat [.int .i64 e])] (.bool b) [(.o 0, .flat [.ros 1 (List.length pen) (li pen) false]), (.o 1, .flat [.int .i64 e])], b = true, q (List.length (filS (fun i => decide (penS pen (↑i : Int) ≤ e)) k)), nat_lit 1 ≤ (1 : Nat), ∀ (k_1 : Nat), k_1 < (1 : Nat) → solid (getL [[V.int IntKind.i64 (↑k : Int)]] ((0 : Nat) + k_1)) = true, (List.length (filS (fun i => decide (penS pen (↑i : Int) ≤ e)) k) + (1 : Nat)) * (8 : Nat) ≤ (140737488355328 : Nat), InR IntKind.i64 ((↑k : Int) + (1 : Int)), q (List.length pen), ∀ (k : Nat), k < List.length pen → [V.int IntKind.i64 (List.getD pen k (0 : Int))] = [V.int IntKind.i64 (List.getD pen k (0 : Int))], false = true → false = true, q e, List.length (filS (fun i => decide (penS pen (↑i : Int) ≤ e)) k) + (1 : Nat) = List.length (filS (fun i => decide (penS pen (↑i : Int) ≤ e)) (k + (1 : Nat))), ∀ (k_1 : Nat), k_1 < List.length (filS (fun i => decide (penS pen (↑i : Int) ≤ e)) k) + (1 : Nat) → catF (List.length (filS (fun i => decide (penS pen (↑i : Int) ≤ e)) k)) (li (filS (fun i => decide (penS pen (↑i : Int) ≤ e)) k)) (fun k_2 => getL [[V.int IntKind.i64 (↑k : Int)]] ((0 : Nat) + k_2)) k_1 = [V.int IntKind.i64 (List.getD (filS (fun i => decide (penS pen (↑i : Int) ≤ e)) (k + (1 : Nat))) k_1 (0 : Int))], true = false → true = false, q0, q0, q0, q0, q0, q0, q0, q0, q0, List.length (filS (fun i => decide (penS pen (↑i : Int) ≤ e)) k) + (1 : Nat) = List.length (filS (fun i => decide (penS pen (↑i : Int) ≤ e)) (k + (1 : Nat))), (none : Option Nat) = none ∨ (none : Option Nat) = none, q (↑n : Int), (↑k : Int) + (1 : Int) = (↑(k + (1 : Nat)) : Int)]) : Option (Exit × St × List Prop)) := by kernel_rfl
theorem pcSmA_p10 (pen : List Int) (e : Int) (n : Nat) (k : Nat) (b : Bool) :
  alongPc Tryz.prog (pcSmA pen e n k b) [true, false] = (some (.normal, St.mk [.any, .fn (.func (122 : FuncId)) [] [.ptr (.o 0) 0 0 0 0, .ptr (.o 1) 0 0 0 0], .any, .any, .sl (.o 2) 1 0 0 0 (List.length (filS (fun i => decide (penS pen (↑i : Int) ≤ e)) (k + 1))) none, .any, .int .i64 ↑n, .int .i64 (↑(k + 1) : Int), .any, .any, .any, .any, .any, .any, .any, .any, .any, .any, .any] [(.o 0, .flat [.ros 1 (List.length pen) (li pen) false]), (.o 1, .flat [.int .i64 e]), (.o 2, .rows 1 (List.length (filS (fun i => decide (penS pen (↑i : Int) ≤ e)) (k + 1))) (li (filS (fun i => decide (penS pen (↑i : Int) ≤ e)) (k + 1))) true)] 3 [], [decide ((↑k : Int) < (↑n : Int)) = true, T Tryz.prog (122 : FuncId) [.int .i64 ↑k, .ptr (.o 0) 0 0 0 0, .ptr (.o 1) 0 0 0 0] [(.o 0, .flat [.ros 1 (List.length pen) (li pen) false]), (.o 1, .flat [.int .i64 e])] (.bool b) [(.o 0, .flat [.ros 1 (List.length pen) (li pen) false]), (.o 1, .flat [.int .i64 e])], b = false, InR IntKind.i64 ((↑k : Int) + (1 : Int)), q (List.length pen), ∀ (k : Nat), k < List.length pen → [V.int IntKind.i64 (List.getD pen k (0 : Int))] = [V.int IntKind.i64 (List.getD pen k (0 : Int))], false = true → false = true, q e, List.length (filS (fun i => decide (penS pen (↑i : Int) ≤ e)) k) = List.length (filS (fun i => decide (penS pen (↑i : Int) ≤ e)) (k + (1 : Nat))), ∀ (k_1 : Nat), k_1 < List.length (filS (fun i => decide (penS pen (↑i : Int) ≤ e)) k) → [V.int IntKind.i64 (List.getD (filS (fun i => decide (penS pen (↑i : Int) ≤ e)) k) k_1 (0 : Int))] = [V.int IntKind.i64 (List.getD (filS (fun i => decide (penS pen (↑i : Int) ≤ e)) (k + (1 : Nat))) k_1 (0 : Int))], true = false → true = false, q0, q0, q0, q0, q0, q0, q0, q0, q0, List.length (filS (fun i => decide (penS pen (↑i : Int) ≤ e)) k) = List.length (filS (fun i => decide (penS pen (↑i : Int) ≤ e)) (k + (1 : Nat))), (none : Option Nat) = none ∨ (none : Option Nat) = none, q (↑n : Int), (↑k : Int) + (1 : Int) = (↑(k + (1 : Nat)) : Int)]) : Option (Exit × St × List Prop)) := by kernel_rfl
theorem pcSmA_p0 (pen : List Int) (e : Int) (n : Nat) (k : Nat) (b : Bool) :
  alongPc Tryz.prog (pcSmA pen e n k b) [false] = (some (.exit 0, St.mk [.any, .fn (.func (122 : FuncId)) [] [.ptr (.o 0) 0 0 0 0, .ptr (.o 1) 0 0 0 0], .any, .any, .sl (.o 2) 1 0 0 0 (List.length (filS (fun i => decide (penS pen (↑i : Int) ≤ e)) n)) none, .any, .int .i64 ↑n, .int .i64 ↑n, .any, .any, .any, .any, .any, .any, .any, .any, .any, .any, .any] [(.o 0, .flat [.ros 1 (List.length pen) (li pen) false]), (.o 1, .flat [.int .i64 e]), (.o 2, .rows 1 (List.length (filS (fun i => decide (penS pen (↑i : Int) ≤ e)) n)) (li (filS (fun i => decide (penS pen (↑i : Int) ≤ e)) n)) true)] 3 [], [decide ((↑k : Int) < (↑n : Int)) = false, q (List.length pen), ∀ (k : Nat), k < List.length pen → [V.int IntKind.i64 (List.getD pen k (0 : Int))] = [V.int IntKind.i64 (List.getD pen k (0 : Int))], false = true → false = true, q e, List.length (filS (fun i => decide (penS pen (↑i : Int) ≤ e)) k) = List.length (filS (fun i => decide (penS pen (↑i : Int) ≤ e)) n), ∀ (k_1 : Nat), k_1 < List.length (filS (fun i => decide (penS pen (↑i : Int) ≤ e)) k) → [V.int IntKind.i64 (List.getD (filS (fun i => decide (penS pen (↑i : Int) ≤ e)) k) k_1 (0 : Int))] = [V.int IntKind.i64 (List.getD (filS (fun i => decide (penS pen (↑i : Int) ≤ e)) n) k_1 (0 : Int))], true = false → true = false, q0, q0, q0, q0, q0, q0, q0, q0, q0, List.length (filS (fun i => decide (penS pen (↑i : Int) ≤ e)) k) = List.length (filS (fun i => decide (penS pen (↑i : Int) ≤ e)) n), (none : Option Nat) = none ∨ (none : Option Nat) = none, q (↑n : Int), (↑k : Int) = (↑n : Int)]) : Option (Exit × St × List Prop)) := by kernel_rfl

theorem bdSmB_p (n : Nat) :
  along Tryz.prog (bdSmB n) [] = some (V.ros (1 : Nat) (List.length (filS (fun x => true) n)) (li (filS (fun x => true) n)) false, [], [RLoop Tryz.prog none (0 : Nat) (cB (cB (cR (cL (cR (bodyOf (Bd.f (bdSmB n)))))))) (n + (1 : Nat)) (St.mk [V.any, V.fn (Fn.func (125 : FuncId)) [] [], V.any, V.any, V.sl (Nm.o (0 : Nat)) (1 : Nat) (0 : Nat) (0 : Nat) (0 : Nat) (nat_lit 0) none, V.any, V.int IntKind.i64 (↑n : Int), V.int IntKind.i64 (0 : Int), V.any, V.any, V.any, V.any, V.any, V.any, V.any, V.any, V.any, V.any, V.any] [(Nm.o (0 : Nat), B.rows (1 : Nat) (nat_lit 0) (li []) true)] (1 : Nat) []) (Exit.exit (0 : Nat)) (St.mk [V.any, V.fn (Fn.func (125 : FuncId)) [] [], V.any, V.any, V.sl (Nm.o (0 : Nat)) (1 : Nat) (0 : Nat) (0 : Nat) (0 : Nat) (List.length (filS (fun x => true) n)) none, V.any, V.int IntKind.i64 (↑n : Int), V.int IntKind.i64 (↑n : Int), V.any, V.any, V.any, V.any, V.any, V.any, V.any, V.any, V.any, V.any, V.any] [(Nm.o (0 : Nat), B.rows (1 : Nat) (List.length (filS (fun x => true) n)) (li (filS (fun x => true) n)) true)] (1 : Nat) []), (0 : Nat) = nat_lit 0, ∀ (k : Nat), k < (0 : Nat) → [] = [V.int IntKind.i64 (0 : Int)], true = false → true = false, (0 : Nat) = (0 : Nat), (0 : Nat) = (0 : Nat), (0 : Nat) = (0 : Nat), (0 : Nat) = nat_lit 0, (none : Option Nat) = none ∨ (none : Option Nat) = none, (↑n : Int) = (↑n : Int), (0 : Int) = (0 : Int), List.length (filS (fun x => true) n) = List.length (filS (fun x => true) n), (0 : Nat) + List.length (filS (fun x => true) n) ≤ List.length (filS (fun x => true) n), ∀ (k : Nat), k < List.length (filS (fun x => true) n) → [V.int IntKind.i64 (List.getD (filS (fun x => true) n) ((0 : Nat) + k) (0 : Int))] = [V.int IntKind.i64 (List.getD (filS (fun x => true) n) k (0 : Int))], false = true → none = some (List.length (filS (fun x => true) n))]) := by kernel_rfl

theorem pcSmB_p11 (n : Nat) (k : Nat) (b : Bool) :
  alongPc Tryz.prog (pcSmB n k b) [true, true] = (some (.normal, St.mk [.any, .fn (.func (125 : FuncId)) [] [], .any, .any, .sl (.o 0) 1 0 0 0 (List.length (filS (fun x => true) (k + 1))) none, .any, .int .i64 ↑n, .int .i64 (↑(k + 1) : Int), .any, .any, .any, .any, .any, .any, .any, .any, .any, .any, .any] [(.o 0, .rows 1 (List.length (filS (fun x => true) (k + 1))) (li (filS (fun x => true) (k + 1))) true)] 1 [], [decide ((↑k : Int) < (↑n : Int)) = true, T Tryz.prog (125 : FuncId) [.int .i64 ↑k] [] (.bool b) [], b = true, q (List.length (filS (fun x => true) k)), nat_lit 1 ≤ (1 : Nat), ∀ (k_1 : Nat), k_1 < (1 : Nat) → solid (getL [[V.int IntKind.i64 (↑k : Int)]] ((0 : Nat) + k_1)) = true, (List.length (filS (fun x => true) k) + (1 : Nat)) * (8 : Nat) ≤ (140737488355328 : Nat), InR IntKind.i64 ((↑k : Int) + (1 : Int)), List.length (filS (fun x => true) k) + (1 : Nat) = List.length (filS (fun x => true) (k + (1 : Nat))), ∀ (k_1 : Nat), k_1 < List.length (filS (fun x => true) k) + (1 : Nat) → catF (List.length (filS (fun x => true) k)) (li (filS (fun x => true) k)) (fun k_2 => getL [[V.int IntKind.i64 (↑k : Int)]] ((0 : Nat) + k_2)) k_1 = [V.int IntKind.i64 (List.getD (filS (fun x => true) (k + (1 : Nat))) k_1 (0 : Int))], true = false → true = false, q0, q0, q0, List.length (filS (fun x => true) k) + (1 : Nat) = List.length (filS (fun x => true) (k + (1 : Nat))), (none : Option Nat) = none ∨ (none : Option Nat) = none, q (↑n : Int), (↑k : Int) + (1 : Int) = (↑(k + (1 : Nat)) : Int)]) : Option (Exit × St × List Prop)) := by kernel_rfl
theorem pcSmB_p10 (n : Nat) (k : Nat) (b : Bool) :
  alongPc Tryz.prog (pcSmB n k b) [true, false] = (some (.normal, St.mk [.any, .fn (.func (125 : FuncId)) [] [], .any, .any, .sl (.o 0) 1 0 0 0 (List.length (filS (fun x => true) (k + 1))) none, .any, .int .i64 ↑n, .int .i64 (↑(k + 1) : Int), .any, .any, .any, .any, .any, .any, .any, .any, .any, .any, .any] [(.o 0, .rows 1 (List.length (filS (fun x => true) (k + 1))) (li (filS (fun x => true) (k + 1))) true)] 1 [], [decide ((↑k : Int) < (↑n : Int)) = true, T Tryz.prog (125 : FuncId) [.int .i64 ↑k] [] (.bool b) [], b = false, InR IntKind.i64 ((↑k : Int) + (1 : Int)), List.length (filS (fun x => true) k) = List.length (filS (fun x => true) (k + (1 : Nat))), ∀ (k_1 : Nat), k_1 < List.length (filS (fun x => true) k) → [V.int IntKind.i64 (List.getD (filS (fun x => true) k) k_1 (0 : Int))] = [V.int IntKind.i64 (List.getD (filS (fun x => true) (k + (1 : Nat))) k_1 (0 : Int))], true = false → true = false, q0, q0, q0, List.length (filS (fun x => true) k) = List.length (filS (fun x => true) (k + (1 : Nat))), (none : Option Nat) = none ∨ (none : Option Nat) = none, q (↑n : Int), (↑k : Int) + (1 : Int) = (↑(k + (1 : Nat)) : Int)]) : Option (Exit × St × List Prop)) := by kernel_rfl
theorem pcSmB_p0 (n : Nat) (k : Nat) (b : Bool) :
  alongPc Tryz.prog (pcSmB n k b) [false] = (some (.exit 0, St.mk [.any, .fn (.func (125 : FuncId)) [] [], .any, .any, .sl (.o 0) 1 0 0 0 (List.length (filS (fun x => true) n)) none, .any, .int .i64 ↑n, .int .i64 ↑n, .any, .any, .any, .any, .any, .any, .any, .any, .any, .any, .any] [(.o 0, .rows 1 (List.length (filS (fun x => true) n)) (li (filS (fun x => true) n)) true)] 1 [], [decide ((↑k : Int) < (↑n : Int)) = false, List.length (filS (fun x => true) k) = List.length (filS (fun x => true) n), ∀ (k_1 : Nat), k_1 < List.length (filS (fun x => true) k) → [V.int IntKind.i64 (List.getD (filS (fun x => true) k) k_1 (0 : Int))] = [V.int IntKind.i64 (List.getD (filS (fun x => true) n) k_1 (0 : Int))], true = false → true = false, q0, q0, q0, List.length (filS (fun x => true) k) = List.length (filS (fun x => true) n), (none : Option Nat) = none ∨ (none : Option Nat) = none, q (↑n : Int), (↑k : Int) = (↑n : Int)]) : Option (Exit × St × List Prop)) := by kernel_rfl

theorem filS_len (q : Nat → Bool) : ∀ k, (filS q k).length ≤ k
 | 0 => Nat.le_refl _
 | k + 1 => by
  have := filS_len q k
  rw [filS]; split
  ·rw [List.length_append]; simp; omega
  ·omega
theorem catF_li {l m : List Int} {x : Int} (e : m = l ++ [x]) : ∀ j, j < l.length + 1 → catF l.length (li l) (fun q => getL [[V.int .i64 x]] (0 + q)) j = li m j := by
 intro j hj
 subst e
 unfold catF li
 cases hb : Nat.blt j l.length with
 | true =>
  have h1 : j < l.length := by rw [← Nat.blt_eq]; exact hb
  simp only [cond_true]
  rw [List.getD_eq_getElem?_getD, List.getD_eq_getElem?_getD, List.getElem?_append_left h1]
 | false =>
  have h1 : l.length ≤ j := by
   rcases Nat.lt_or_ge j l.length with h2 | h2
   ·rw [← Nat.blt_eq] at h2; rw [h2] at hb; cases hb
   ·exact h2
  obtain rfl : j = l.length := by omega
  simp [getL]
def mayS (c : SCfg) (e : Int) : Bool := goodC c && (decide (1 ≤ e) && decide (e ≤ 1048576))
theorem goodE_zero {c : SCfg} : goodE c = 0 ↔ goodC c = true := by
 unfold goodE
 split
 ·simp [*]
 ·simp [*]
theorem T_my (c : SCfg) (e : Int) : T Tryz.prog 120 [.agg c.c, .int .i64 e] [] (.bool (mayS c e)) [] := by
 have hG := T_cg c
 by_cases h0 : goodE c = 0
 ·have hc := goodE_zero.1 h0
  by_cases h1 : 1 ≤ e
  ·refine T.val (T_al (bdMy_p11 c e (goodE c)) Tryz.func120 ⟨hG, decide_eq_true h0, decide_eq_true h1, trivial⟩) ?_
   rw [mayS, hc, decide_eq_true h1]; rfl
  ·refine T.val (T_al (bdMy_p10 c e (goodE c)) Tryz.func120 ⟨hG, decide_eq_true h0, decide_eq_false h1, trivial⟩) ?_
   rw [mayS, hc, decide_eq_false h1]; rfl
 ·have hc : goodC c = false := Bool.eq_false_iff.mpr fun h => h0 (goodE_zero.2 h)
  refine T.val (T_al (bdMy_p00 c e (goodE c)) Tryz.func120 ⟨hG, decide_eq_false h0, rfl, trivial⟩) ?_
  rw [mayS, hc]; rfl
theorem T_l1 (pen : List Int) (e : Int) {n : Int} (h : 0 ≤ n) : T Tryz.prog 122 [.int .i64 n, .ptr (.o 0) 0 0 0 0, .ptr (.o 1) 0 0 0 0] (hpE pen e) (.bool (decide (penS pen n ≤ e))) (hpE pen e) :=
 T_al (bdL1_p pen e n (penS pen n)) Tryz.func122 ⟨T_pn pen h, trivial⟩
theorem T_l2 (n : Int) : T Tryz.prog 125 [.int .i64 n] [] (.bool true) [] :=
 T_along NG MO _ (bdL2_p n) Tryz.func125 (by kernel_rfl) trivial (pinH_ok (by kernel_rfl)) (by kernel_rfl)
theorem T_smA (pen : List Int) (e : Int) (n : Nat) (hn : n ≤ 1000000) : T Tryz.prog 121 [.int .i64 n, .fn (.func 122) [] [.ptr (.o 0) 0 0 0 0, .ptr (.o 1) 0 0 0 0]] (hpE pen e) (lr (filS (fun i => decide (penS pen i ≤ e)) n)) (hpE pen e) := by
 have hstep : ∀ k, k < n → R Tryz.prog none 2 (cB (cB (cR (cL (cR (bodyOf Tryz.f121)))))) (smAI pen e n k) .normal (smAI pen e n (k + 1)) := fun k hk => by
  have hT := T_l1 pen e (n := (k : Int)) (by omega)
  have hlen := filS_len (fun i => decide (penS pen i ≤ e)) k
  cases hb : (fun i => decide (penS pen i ≤ e)) k with
  | true =>
   have ee : filS (fun i => decide (penS pen i ≤ e)) (k + 1) = filS (fun i => decide (penS pen i ≤ e)) k ++ [(k : Int)] := by rw [filS, if_pos hb]
   refine R_alongPc NG MO _ (pcSmA_p11 pen e n k true) ?_ (by show 2 ≤ 3; decide)
   simp only [All, All_append, bdMy_c]; and_intros
   all_goals first
    | exact hT.bool hb
    | exact hT
    | rfl
    | trivial
    | (rw [decide_eq_true_eq]; omega)
    | exact catF_li ee
    | (intro _ _; rfl)
    | (intro _ _; trivial)
    | (intro j hj; obtain rfl : j = 0 := by omega
       rfl)
    | (intro h; exact h)
    | exact .inl rfl
    | (rw [ee, List.length_append]; rfl)
    | omega
    | exact InR64.2 (by omega)
    | (simp [IntKind.min, IntKind.max, IntKind.signed, IntKind.bits] <;> omega)
  | false =>
   have ee : filS (fun i => decide (penS pen i ≤ e)) (k + 1) = filS (fun i => decide (penS pen i ≤ e)) k := by rw [filS, if_neg (Bool.eq_false_iff.mp hb)]
   refine R_alongPc NG MO _ (pcSmA_p10 pen e n k false) ?_ (by show 2 ≤ 3; decide)
   simp only [All, All_append, bdMy_c, ee]; and_intros
   all_goals first
    | exact hT.bool hb
    | exact hT
    | rfl
    | trivial
    | (rw [decide_eq_true_eq]; omega)
    | (intro _ _; rfl)
    | (intro _ _; trivial)
    | (intro j hj; obtain rfl : j = 0 := by omega
       rfl)
    | (intro h; exact h)
    | exact .inl rfl
    | omega
    | exact InR64.2 (by omega)
    | (simp [IntKind.min, IntKind.max, IntKind.signed, IntKind.bits] <;> omega)
 have hend : R Tryz.prog none 2 (cB (cB (cR (cL (cR (bodyOf Tryz.f121)))))) (smAI pen e n n) (.exit 0) (smAI pen e n n) := by
  refine R_alongPc NG MO _ (pcSmA_p0 pen e n n true) ?_ (by show 2 ≤ 3; decide)
  simp only [All, All_append, bdMy_c]; and_intros
  all_goals first
   | rfl
   | trivial
   | (rw [decide_eq_false_iff_not]; omega)
   | (intro _ _; rfl)
   | (intro _ _; trivial)
   | (intro h; exact h)
   | exact .inl rfl
 have hL := RLoop.inv (smAI pen e n) n hstep hend (by simp)
 refine T_al (bdSmA_p pen e n) Tryz.func121 ?_
 simp only [All, All_append, bdMy_c]; and_intros
 all_goals first
  | exact hL
  | rfl
  | trivial
  | (intro k hk; exact absurd hk (Nat.not_lt_zero k))
  | (intro h; cases h; done)
  | (intro k hk; simp only [Nat.zero_add]; done)
  | (intro h; exact h)
  | exact .inl rfl
  | omega
theorem T_smB  (n : Nat) (hn : n ≤ 1000000) : T Tryz.prog 121 [.int .i64 n, .fn (.func 125) [] []] ([]) (lr (filS (fun _ => true) n)) ([]) := by
 have hstep : ∀ k, k < n → R Tryz.prog none 0 (cB (cB (cR (cL (cR (bodyOf Tryz.f121)))))) (smBI n k) .normal (smBI n (k + 1)) := fun k hk => by
  have hT := T_l2 (k : Int)
  have hlen := filS_len (fun _ => true) k
  cases hb : (fun _ => true) k with
  | true =>
   have ee : filS (fun _ => true) (k + 1) = filS (fun _ => true) k ++ [(k : Int)] := by rw [filS, if_pos hb]
   refine R_alongPc NG MO _ (pcSmB_p11 n k true) ?_ (by show 0 ≤ 1; decide)
   simp only [All, All_append, bdMy_c]; and_intros
   all_goals first
    | exact hT.bool hb
    | exact hT
    | rfl
    | trivial
    | (rw [decide_eq_true_eq]; omega)
    | exact catF_li ee
    | (intro _ _; rfl)
    | (intro _ _; trivial)
    | (intro j hj; obtain rfl : j = 0 := by omega
       rfl)
    | (intro h; exact h)
    | exact .inl rfl
    | (rw [ee, List.length_append]; rfl)
    | omega
    | exact InR64.2 (by omega)
    | (simp [IntKind.min, IntKind.max, IntKind.signed, IntKind.bits] <;> omega)
  | false =>
   have ee : filS (fun _ => true) (k + 1) = filS (fun _ => true) k := by rw [filS, if_neg (Bool.eq_false_iff.mp hb)]
   refine R_alongPc NG MO _ (pcSmB_p10 n k false) ?_ (by show 0 ≤ 1; decide)
   simp only [All, All_append, bdMy_c, ee]; and_intros
   all_goals first
    | exact hT.bool hb
    | exact hT
    | rfl
    | trivial
    | (rw [decide_eq_true_eq]; omega)
    | (intro _ _; rfl)
    | (intro _ _; trivial)
    | (intro j hj; obtain rfl : j = 0 := by omega
       rfl)
    | (intro h; exact h)
    | exact .inl rfl
    | omega
    | exact InR64.2 (by omega)
    | (simp [IntKind.min, IntKind.max, IntKind.signed, IntKind.bits] <;> omega)
 have hend : R Tryz.prog none 0 (cB (cB (cR (cL (cR (bodyOf Tryz.f121)))))) (smBI n n) (.exit 0) (smBI n n) := by
  refine R_alongPc NG MO _ (pcSmB_p0 n n true) ?_ (by show 0 ≤ 1; decide)
  simp only [All, All_append, bdMy_c]; and_intros
  all_goals first
   | rfl
   | trivial
   | (rw [decide_eq_false_iff_not]; omega)
   | (intro _ _; rfl)
   | (intro _ _; trivial)
   | (intro h; exact h)
   | exact .inl rfl
 have hL := RLoop.inv (smBI n) n hstep hend (by simp)
 refine T_al (bdSmB_p n) Tryz.func121 ?_
 simp only [All, All_append, bdMy_c]; and_intros
 all_goals first
  | exact hL
  | rfl
  | trivial
  | (intro k hk; exact absurd hk (Nat.not_lt_zero k))
  | (intro h; cases h; done)
  | (intro k hk; simp only [Nat.zero_add]; done)
  | (intro h; exact h)
  | exact .inl rfl
  | omega
end Go.Proofs.YtlakhciklfkocaaGreat
namespace Go.Proofs.YtlakhciklfkocaaGreat
open Go Sy Go.Proofs
def someA (pen : List Int) (e : Int) (n : Nat) : List V → Heap → Nat → List Cl := fun args _ _ => match args with
 | [_, .fn _ _ [.ptr a _ _ _ _, .ptr b _ _ _ _]] => [{ pre := [a, b], val := lr (filS (fun i => decide (penS pen i ≤ e)) n), post := [(a, .flat [lr pen]), (b, .flat [.int .i64 e])] }]
 | _ => [{ val := lr (filS (fun _ => true) n) }]
noncomputable def bdLs (c : SCfg) (e : Int) (pen : List Int) (g : Bool) (n : Nat) (s : Int) (r : List Int) : Bd := { f := Tryz.f82, args := [.agg c.c, .int .i64 e, lr pen], kb := { db := dbQ [(120, cVal (.bool g)), (121, someA pen e n), (124, cVal (.int .i64 s))] }, k := fun _ t => some ⟨[], [(6, .set (lr r))], [], none, t.next⟩ }
noncomputable def bdLs0 (c : SCfg) (e : Int) (pen : List Int) : Bd := bdLs c e pen false 0 0 []
noncomputable def bdLsA (c : SCfg) (e : Int) (pen : List Int) (n : Nat) (s : Int) : Bd := bdLs c e pen true n s (filS (fun _ => true) n)
noncomputable def bdLsS (c : SCfg) (e : Int) (pen : List Int) (n : Nat) (s : Int) : Bd := bdLs c e pen true n s (filS (fun i => decide (penS pen i ≤ e)) n)
end Go.Proofs.YtlakhciklfkocaaGreat
