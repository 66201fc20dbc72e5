/-
  Contracts and laws that the claim's theorem leans on, joined out of the texts SyOpen SyRng SyData SyShape SyMore SyLend Lz SySort SySlice SyNth Ma0D Ma0 Ma1 Ma2D (own work of this seat): A call's arguments, as they are handed in, as abstract values; a law's contract as its row wants it; Ranges over a function: a round of a loop as what a call of its yield does; the statement, out of the iterator's contract; The values that the laws are told, as plain data, and their cells; The shapes of handed values, unfolded; what is known of their cells; Loops that look at each one of many; more glue; Blocks lent to a call that only looks at them; Small contracts; What the library's sort asks of reflectlite: a slice's Value, its length, the function that swaps two elements; sort.Slice of a list of numbers through a closure that looks at the list's own variable: the library's contract (the kit's) turned into one of this executor; The i-th greatest of some numbers, two ways; Contracts: numbers of nodes, and of quorums, by the program and by the document; lists of numbers that are alike; Contracts: numbers of nodes, and of quorums, by the program and by the document; lists of numbers that are alike; Contracts: sort.Slice of numbers, the greatest first (own work of this seat; the layings' plain text was printed by the kit's tool); Contracts: the i-th greatest.
-/
import Derived.OpenShut
import Derived.JoinedCond
import Derived.WalkKit
import Derived.ProofKit
import Derived.RangeFuncIn
import Derived.RangeFuncRecord
import Derived.Test.YtpallipnhmoipaaProg
import Derived.Lib.ReflectliteSwap
import Derived.Laws.Externs
import Derived.Shelf.GgSortFunc.Whole
import Derived.Shelf.GgSortFunc.Tiny
import Derived.Sort.LotA
import Derived.Deep.QuietTactic
import Derived.Lib.RowBridge
import Derived.Test.YtpallipnhmoipaaC03
set_option linter.unusedVariables false
set_option linter.unusedSimpArgs false
set_option maxHeartbeats 1000000
namespace Sy
open Go

variable {P : Program}

/-- The cells that lie there. -/
def Uof (w : World) : Imm := fun b => match w.heap[b]? with
 | some (.cells c _ _) => some c
 | _ => none
theorem Uof_spec {w : World} {b : Nat} {c : Array Value} (h : Uof w b = some c) : ∃ el fr, w.heap[b]? = some (.cells c el fr) := by
 unfold Uof at h
 split at h
 ·rename_i c' el fr e; cases h; exact ⟨el, fr, e⟩
 ·cases h
theorem HRel_start (w : World) : HRel (Uof w) Env.none [] w :=
 ⟨fun n b h => absurd h List.not_mem_nil, fun n b n' b' l l' h => absurd h List.not_mem_nil, List.nodup_nil, fun b c h => Uof_spec h⟩

def opensFs (P : Program) (op : TypeId → Bool) (top : Nat) : Nat → List Field → Bool
 | pos, [] => Nat.beq pos top
 | pos, f :: fs => Nat.beq f.offset pos && (op f.type && opensFs P op top (pos + P.cellsOf f.type) fs)
/-- Types of values that can be opened. -/
def opens (P : Program) : Nat → TypeId → Bool
 | 0, _ => false
 | d + 1, t => match P.underlying t with
  | some .bool => true
  | some (.int _) => true
  | some .string => true
  | some (.slice e) => opens P d e && Nat.blt 0 (P.cellsOf e)
  | some (.struct fs) => opensFs P (opens P d) (P.cellsOf t) 0 fs.toList
  | some (.array n e) => (match P.underlying e with
   | some (.int _) => true
   | _ => false) && (Nat.beq (P.cellsOf e) 1 && Nat.beq (P.cellsOf t) n)
  | _ => false

def ShFs (sh : TypeId → List V → Prop) : List Field → List V → Prop
 | [], vs => vs = []
 | f :: fs, vs => ∃ a b, vs = a ++ b ∧ sh f.type a ∧ ShFs sh fs b
/-- The shape of a type's cells. -/
def ShC (P : Program) : Nat → TypeId → List V → Prop
 | 0, _, _ => False
 | d + 1, t, vs => match P.underlying t with
  | some .bool => ∃ b, vs = [.bool b]
  | some (.int k) => ∃ n, vs = [.int k n] ∧ InR k n
  | some .string => ∃ s : ByteArray, vs = [.str s] ∧ s.size ≤ maxLen
  | some (.slice e) => ∃ len f, vs = [.ros (P.cellsOf e) len f false] ∧ len ≤ maxLen ∧ ∀ i, i < len → ShC P d e (f i)
  | some (.struct fs) => ShFs (ShC P d) fs.toList vs
  | some (.array n e) => ∃ k xs, P.underlying e = some (.int k) ∧ vs = [.seg k n xs] ∧ xs.length = n ∧ ∀ x ∈ xs, InR k x
  | _ => False

theorem mapM_at {α β : Type} {f : α → Option β} : ∀ {l : List α} {r : List β}, l.mapM f = some r → r.length = l.length ∧ ∀ (i : Nat) (a : α), l[i]? = some a → ∃ y, r[i]? = some y ∧ f a = some y
 | [], r, h => by simp at h; subst h; simp
 | a :: l, r, h => by
  rw [List.mapM_cons] at h
  cases hf : f a with
  | none => simp [hf] at h
  | some y =>
   cases hr : l.mapM f with
   | none => simp [hf, hr] at h
   | some ys =>
    simp only [hf, hr, Option.bind_eq_bind, Option.bind_some, Option.pure_def, Option.some.injEq] at h
    subst h
    obtain ⟨h1, h2⟩ := mapM_at hr
    refine ⟨by simp [h1], fun i b hi => ?_⟩
    cases i with
    | zero => simp only [List.getElem?_cons_zero, Option.some.injEq] at hi; subst hi; exact ⟨y, by simp, hf⟩
    | succ i => simp only [List.getElem?_cons_succ] at hi ⊢; exact h2 i b hi

theorem wf_InR {k : IntKind} {n : Int} (h : (Lit.int k n).wf = true) : InR k n := by
 simp only [Lit.wf, Bool.and_eq_true, decide_eq_true_eq] at h; exact h

theorem cell_spot {w : World} {a : Addr} {v : Value} (h : w.cell? a = some v) : a.spot = none ∧ ∃ c el fr, w.heap[a.block]? = some (.cells c el fr) ∧ c[a.off]? = some v := by
 unfold World.cell? at h
 split at h
 ·rename_i c el fr e
  cases hs : a.spot with
  | none => simp only [hs, Option.isSome_none, Bool.false_eq_true, if_false] at h; exact ⟨rfl, c, el, fr, e, h⟩
  | some s => simp [hs] at h
 ·cases h

theorem parts_open {H : Type} {w : World} {tr : TypeId → List Value → Option (DataW H × List MemPlace)} {sh : TypeId → List V → Prop} {op : TypeId → Bool} {top : Nat}
  (hk : ∀ t cs x, tr t cs = some x → op t = true → ∃ vs, CsRel (Uof w) Env.none vs cs ∧ sh t vs) {cs : List Value} (hlen : cs.length = top) :
  ∀ (fs : List Field) (pos : Nat), opensFs P op top pos fs = true → (∀ f ∈ fs, ∃ y, tr f.type ((cs.drop f.offset).take (P.cellsOf f.type)) = some y) →
   ∃ vs, CsRel (Uof w) Env.none vs (cs.drop pos) ∧ ShFs sh fs vs
 | [], pos, ho, _ => by
  rw [opensFs] at ho
  have := Nat.eq_of_beq_eq_true ho
  refine ⟨[], ?_, rfl⟩
  rw [CsRel, List.drop_eq_nil_of_le (by omega)]
 | f :: fs, pos, ho, h => by
  rw [opensFs, Bool.and_eq_true, Bool.and_eq_true] at ho
  obtain ⟨h1, h2, h3⟩ := ho
  have e1 := Nat.eq_of_beq_eq_true h1
  obtain ⟨y, hf⟩ := h f (List.mem_cons_self ..)
  obtain ⟨a, ha, hsa⟩ := hk _ _ _ hf h2
  obtain ⟨b, hb, hsb⟩ := parts_open hk hlen fs _ h3 fun g hg => h g (List.mem_cons_of_mem _ hg)
  refine ⟨a ++ b, CsRel_append.2 ⟨_, _, ?_, ha, hb⟩, a, b, rfl, hsa, hsb⟩
  rw [e1, ← List.drop_drop, List.take_append_drop]

theorem cells_at {w : World} {base : Nat} {a : Addr} {n : Nat} {cs : List Value} (h : w.cells? base a n = some cs) : cs.length = n ∧ ∀ k, k < n → ∃ v, cs[k]? = some v ∧ w.cell? (a.add k) = some v := by
 unfold World.cells? at h
 split at h
 ·obtain ⟨h1, h2⟩ := mapM_at h
  refine ⟨by simpa using h1, fun k hk => ?_⟩
  exact h2 k k (by simp [hk])
 ·cases h

/-- The number that a cell holds. -/
def intAt : Option Value → Int
 | some (.int _ z) => z
 | _ => 0
theorem trod_open {H : Type} {enc : TypeId × Value → H} {w : World} {sp : Nat → Bool} : ∀ (fuel : Nat) (t : TypeId) (cs : List Value) (x : DataW H × List MemPlace), DataW.trod enc P w 0 sp true fuel t cs = some x → ∀ d, opens P d t = true →
  ∃ vs, CsRel (Uof w) Env.none vs cs ∧ ShC P fuel t vs
 | 0, t, cs, x, h, _, _ => by simp [DataW.trod] at h
 | fuel + 1, t, cs, x, h, 0, ho => by simp [opens] at ho
 | fuel + 1, t, cs, x, h, d + 1, ho => by
  unfold opens at ho
  have one : ∀ (v : V) (y : Value), v.cell = true → VRel (Uof w) Env.none v y → CsRel (Uof w) Env.none [v] [y] := fun v y hv hy => (CsRel_one hv).2 ⟨y, [], rfl, hy, by rw [CsRel]⟩
  split at ho
  ·rename_i hu
   obtain ⟨b, rfl, _⟩ := DataW.trod_bool hu h
   exact ⟨[.bool b], one _ _ rfl (by rw [VRel]), by rw [ShC, hu]; exact ⟨b, rfl⟩⟩
  ·rename_i k hu
   obtain ⟨n, rfl, _, hw⟩ := DataW.trod_int hu h
   exact ⟨[.int k n], one _ _ rfl (by rw [VRel]), by rw [ShC, hu]; exact ⟨n, rfl, wf_InR hw⟩⟩
  ·rename_i hu
   obtain ⟨s, rfl, _, hs⟩ := DataW.trod_string hu h
   exact ⟨[.str s], one _ _ rfl (by rw [VRel]), by rw [ShC, hu]; exact ⟨s, rfl, hs⟩⟩
  ·rename_i e hu
   rw [Bool.and_eq_true] at ho
   obtain ⟨ho1, ho2⟩ := ho
   have hes : 0 < P.cellsOf e := by rwa [Nat.blt_eq] at ho2
   rcases DataW.trod_slice hu h with ⟨rfl, _⟩ | ⟨a, len, cap, elems, rest, n, hn, rfl, _, _, hlc, hcm, hel, helem, _⟩
   ·refine ⟨[.ros (P.cellsOf e) 0 (fun _ => []) false], one _ _ rfl ?_, ?_⟩
    ·rw [VRel]; exact ⟨none, 0, rfl, Nat.le_refl _, fun _ => rfl, fun i hi => by omega⟩
    ·rw [ShC, hu]; exact ⟨0, _, rfl, Nat.zero_le _, fun i hi => by omega⟩
   ·cases hn
    have hat : ∀ i, i < len → ∃ vs l, CsRel (Uof w) Env.none vs l ∧ ShC P fuel e vs ∧ l.length = P.cellsOf e ∧ ∀ k, k < P.cellsOf e → ∃ v, l[k]? = some v ∧ w.cell? ((a.add (i * P.cellsOf e)).add k) = some v := by
     intro i hi
     have h1 := helem i hi
     rw [List.getElem?_eq_getElem (by omega)] at h1
     cases hc : w.cells? 0 (a.add (i * P.cellsOf e)) (P.cellsOf e) with
     | none => simp [hc] at h1
     | some l =>
      simp only [hc, Option.bind_some] at h1
      obtain ⟨vs, h2, h3⟩ := trod_open fuel e l _ h1 d ho1
      obtain ⟨h4, h5⟩ := cells_at hc
      exact ⟨vs, l, h2, h3, h4, h5⟩
    refine ⟨[.ros (P.cellsOf e) len (fun i => if hi : i < len then Classical.choose (hat i hi) else []) false], one _ _ rfl ?_, ?_⟩
    ·rw [VRel]
     refine ⟨some a, cap, rfl, hlc, fun hh => absurd hh (by simp), fun i hi => ?_⟩
     rw [dif_pos hi]
     obtain ⟨l, h1, h2, h3, h4⟩ := Classical.choose_spec (hat i hi)
     -- the address has no spot
     obtain ⟨_, l0, _, _, _, h04⟩ := hat 0 (by omega)
     obtain ⟨v0, _, h05⟩ := h04 0 hes
     have hsp : a.spot = none := by
      have : (a.add (0 * P.cellsOf e)).add 0 = a := by simp [Addr.add]
      rw [this] at h05
      exact (cell_spot h05).1
     obtain ⟨ab, ao, aS⟩ := a
     simp only at hsp; subst hsp
     obtain ⟨v1, _, h15⟩ := h4 0 hes
     rw [Addr.add_lit, Addr.add_lit] at h15
     obtain ⟨_, c, el, fr, hc, _⟩ := cell_spot h15
     refine ⟨ab, ao, c, rfl, by unfold Uof; simp only at hc; rw [hc], l, h1, h3, fun k hk => ?_⟩
     obtain ⟨v, h6, h7⟩ := h4 k (by omega)
     rw [Addr.add_lit, Addr.add_lit] at h7
     obtain ⟨_, c', el', fr', hc', hv⟩ := cell_spot h7
     simp only at hc hc'
     rw [hc] at hc'; cases hc'
     rw [h6, ← hv]
    ·rw [ShC, hu]
     refine ⟨len, _, rfl, by omega, fun i hi => ?_⟩
     rw [dif_pos hi]
     obtain ⟨l, _, h2, _⟩ := Classical.choose_spec (hat i hi)
     exact h2
  ·rename_i fs hu
   obtain ⟨xs, n, hn, _, hlen, hxl, hf⟩ := DataW.trod_struct hu h
   cases hn
   obtain ⟨vs, h1, h2⟩ := parts_open (P := P) (tr := DataW.trod enc P w 0 sp true fuel) (sh := ShC P fuel) (op := opens P d) (fun t cs x hh ho => trod_open fuel t cs x hh d ho) hlen fs.toList 0 ho fun f hfm => by
    obtain ⟨i, hi, e⟩ := List.mem_iff_getElem.1 hfm
    have hi' : i < fs.size := by simpa using hi
    have := hf i f (by rw [← Array.getElem?_toList, List.getElem?_eq_getElem hi, e])
    exact ⟨xs[i], by rw [this, List.getElem?_eq_getElem (by omega)]⟩
   rw [List.drop_zero] at h1
   exact ⟨vs, h1, by rw [ShC, hu]; exact h2⟩
  ·rename_i n e hu
   rw [Bool.and_eq_true, Bool.and_eq_true] at ho
   obtain ⟨ho1, ho2, ho3⟩ := ho
   have e2 := Nat.eq_of_beq_eq_true ho2
   have e3 := Nat.eq_of_beq_eq_true ho3
   split at ho1
   ·rename_i k hk
    obtain ⟨xs, m, hm, _, hlen, hxl, hx⟩ := DataW.trod_array hu h
    cases hm
    have hget : ∀ i, i < n → ∃ z, cs[i]? = some (.int k z) ∧ InR k z := by
     intro i hi
     have h1 := hx i hi
     rw [e2, Nat.mul_one, List.getElem?_eq_getElem (by omega)] at h1
     obtain ⟨z, h2, _, h3⟩ := DataW.trod_int hk h1
     refine ⟨z, ?_, wf_InR h3⟩
     have := congrArg (fun l => l[0]?) h2
     simpa [List.getElem?_take, List.getElem?_drop] using this
    have hval : ∀ i, i < n → cs[i]? = some (.int k (intAt cs[i]?)) := by
     intro i hi
     obtain ⟨z, h1, _⟩ := hget i hi
     rw [h1]; rfl
    refine ⟨[.seg k n ((List.range n).map fun i => intAt cs[i]?)], ?_, ?_⟩
    ·rw [CsRel]
     refine ⟨cs, [], by simp, .inl ⟨k, n, _, rfl, by simp, ?_⟩, by rw [CsRel]⟩
     apply List.ext_getElem?
     intro i
     rcases Nat.lt_or_ge i n with hi | hi
     ·rw [hval i hi]; simp [hi]
     ·rw [List.getElem?_eq_none (by omega), List.getElem?_eq_none (by simpa using hi)]
    ·rw [ShC, hu]
     refine ⟨k, _, hk, rfl, by simp, fun z hz => ?_⟩
     obtain ⟨i, hi, rfl⟩ := List.mem_map.1 hz
     obtain ⟨z, h1, h2⟩ := hget i (List.mem_range.1 hi)
     rw [h1]; exact h2
   ·cases ho1
  ·cases ho

theorem mapM_build {α β : Type} {g : α → Option β} : ∀ {l : List α} {xs : List β}, xs.length = l.length → (∀ (i : Nat) (a : α), l[i]? = some a → g a = xs[i]?) → l.mapM g = some xs
 | [], xs, hl, _ => by
  cases xs with
  | nil => rfl
  | cons x xs => simp at hl
 | a :: l, xs, hl, h => by
  cases xs with
  | nil => simp at hl
  | cons x xs =>
   have h0 := h 0 a (by simp)
   simp only [List.getElem?_cons_zero] at h0
   have hr := mapM_build (g := g) (l := l) (xs := xs) (by simpa using hl) fun i b hb => by
    have := h (i + 1) b (by simpa using hb)
    simpa using this
   rw [List.mapM_cons, h0, hr]; rfl

open ChangeShapes in
theorem trod_spare {H : Type} {enc : TypeId × Value → H} {w : World} {sp : Nat → Bool} : ∀ (fuel : Nat) (t : TypeId) (cs : List Value) (x : DataW H × List MemPlace), DataW.trod enc P w 0 (fun _ => true) true fuel t cs = some x → ∀ d, opens P d t = true →
  (∀ p ∈ x.2, sp p.block = true) → DataW.trod enc P w 0 sp true fuel t cs = some x
 | 0, t, cs, x, h, _, _, _ => by simp [DataW.trod] at h
 | fuel + 1, t, cs, x, h, 0, ho, _ => by simp [opens] at ho
 | fuel + 1, t, cs, x, h, d + 1, ho, hs => by
  unfold opens at ho
  split at ho
  ·rename_i hu
   obtain ⟨b, rfl, rfl⟩ := DataW.trod_bool hu h
   unfold DataW.trod; rw [hu]
  ·rename_i k hu
   obtain ⟨n, rfl, rfl, hw⟩ := DataW.trod_int hu h
   unfold DataW.trod; rw [hu]; simp [hw]
  ·rename_i hu
   obtain ⟨s, rfl, rfl, hl⟩ := DataW.trod_string hu h
   unfold DataW.trod; rw [hu]; simp [hl]
  ·rename_i e hu
   rw [Bool.and_eq_true] at ho
   obtain ⟨ho1, ho2⟩ := ho
   have hes : 0 < P.cellsOf e := by rwa [Nat.blt_eq] at ho2
   have h0 := h
   rcases DataW.trod_slice hu h0 with ⟨rfl, rfl⟩ | ⟨a, len, cap, elems, rest, n, hn, rfl, hx, _⟩
   ·simp [DataW.trod, hu]
   ·unfold DataW.trod at h ⊢
    rw [hu] at h ⊢
    simp only [if_true] at h ⊢
    split at h
    ·rename_i hc
     rw [if_pos hc]
     obtain ⟨es, h1, h2⟩ := Option.bind_eq_some_iff.1 h
     obtain ⟨rs, h3, h4⟩ := Option.map_eq_some_iff.1 h2
     subst h4
     have hat : ∀ (i : Nat) (y : DataW H × List MemPlace), (∀ p ∈ y.2, sp p.block = true) → (w.cells? 0 (a.add (i * P.cellsOf e)) (P.cellsOf e)).bind (DataW.trod enc P w 0 (fun _ => true) true fuel e) = some y → (w.cells? 0 (a.add (i * P.cellsOf e)) (P.cellsOf e)).bind (DataW.trod enc P w 0 sp true fuel e) = some y := by
      intro i y hy hh
      obtain ⟨l, k1, k2⟩ := Option.bind_eq_some_iff.1 hh
      rw [k1, Option.bind_some]
      exact trod_spare fuel e l y k2 d ho1 hy
     have hmem : ∀ y ∈ es ++ rs, ∀ p ∈ y.2, sp p.block = true := fun y hy p hp => hs p (List.mem_append_right _ (List.mem_flatMap.2 ⟨y, hy, hp⟩))
     rw [mapM_carry h1 fun i y _ hy hh => hat i y (hmem y (List.mem_append_left _ hy)) hh, Option.bind_some]
     have hlr := (mapM_at h3).1
     have hle := (mapM_at h1).1
     simp only [List.length_range] at hlr hle
     have hrest : (if sp a.block = true then (List.range (cap - len)).mapM fun j => (w.cells? 0 (a.add ((len + j) * P.cellsOf e)) (P.cellsOf e)).bind (DataW.trod enc P w 0 sp true fuel e) else some []) = some rs := by
      split
      ·exact mapM_carry h3 fun i y _ hy hh => hat (len + i) y (hmem y (List.mem_append_right _ hy)) hh
      ·rename_i hsp
       have hz : (es.length + rs.length) * P.cellsOf e = 0 := by
        rcases Nat.eq_zero_or_pos ((es.length + rs.length) * P.cellsOf e) with hz | hz
        ·exact hz
        ·exact absurd (hs (.cell a.block (a.off + 0)) (List.mem_append_left _ (MemPlace.mem_row.2 ⟨0, hz, rfl⟩))) hsp
       have : es.length + rs.length = 0 := by
        rcases Nat.mul_eq_zero.1 hz with h | h
        ·exact h
        ·omega
       rw [List.eq_nil_of_length_eq_zero (show rs.length = 0 by omega)]
     rw [hrest, Option.map_some]
    ·simp at h
  ·rename_i fs hu
   obtain ⟨xs, n, hn, rfl, hlen, hxl, hx⟩ := DataW.trod_struct hu h
   cases hn
   have hop : ∀ f ∈ fs.toList, opens P d f.type = true := by
    have : ∀ (fs : List Field) (pos : Nat), opensFs P (opens P d) (P.cellsOf t) pos fs = true → ∀ f ∈ fs, opens P d f.type = true := by
     intro fs
     induction fs with
     | nil => intro _ _ f hf; cases hf
     | cons g fs ih =>
      intro pos hh f hf
      rw [opensFs, Bool.and_eq_true, Bool.and_eq_true] at hh
      rcases List.mem_cons.1 hf with rfl | hf
      ·exact hh.2.1
      ·exact ih _ hh.2.2 f hf
    exact this _ _ ho
   refine trod_struct_mk hu hlen (mapM_build (by simpa using hxl) fun i f hf => ?_)
   have hi : i < xs.length := by
    have := (List.getElem?_eq_some_iff.1 hf).1
    rw [hxl]; simpa using this
   have h1 := hx i f (by rw [← Array.getElem?_toList]; exact hf)
   rw [List.getElem?_eq_getElem hi] at h1 ⊢
   exact trod_spare fuel f.type _ _ h1 d (hop f (List.mem_of_getElem? hf)) fun p hp => hs p (List.mem_flatMap.2 ⟨xs[i], List.getElem_mem hi, hp⟩)
  ·rename_i n e hu
   rw [Bool.and_eq_true] at ho
   obtain ⟨ho1, _⟩ := ho
   obtain ⟨xs, m, hm, rfl, hlen, hxl, hx⟩ := DataW.trod_array hu h
   cases hm
   split at ho1
   ·rename_i k hk
    have hb : ((List.range n).mapM fun i => DataW.trod enc P w 0 sp true fuel e ((cs.drop (i * P.cellsOf e)).take (P.cellsOf e))) = some xs := by
     refine mapM_build (by simpa using hxl) fun i a ha => ?_
     have hi : i < n := by simpa using (List.getElem?_eq_some_iff.1 ha).1
     rw [List.getElem?_range hi] at ha
     cases ha
     have h1 := hx i hi
     rw [List.getElem?_eq_getElem (by omega)] at h1 ⊢
     obtain ⟨z, h2, h3, h4⟩ := DataW.trod_int hk h1
     rw [h2, h3]
     cases fuel with
     | zero => rw [h2] at h1; simp [DataW.trod] at h1
     | succ q => exact trod_int_mk q hk h4
    unfold DataW.trod
    rw [hu]
    split <;> simp_all
   ·cases ho1
  ·cases ho

/-- What was is as it was. -/
structure KeptW (W W' : World) : Prop where
 size : W.heap.size ≤ W'.heap.size
 block : ∀ k, k < W.heap.size → W'.heap[k]? = W.heap[k]?
 out : W'.os = W.os ∧ W'.output = W.output

theorem KeptW.frame {W W' : World} (h : KeptW W W') (may : MemPlace → Prop) : W.keptBut W' may := by
 refine ⟨h.out.1, h.out.2, fun i hi => ?_⟩
 rw [h.block i hi]
 cases W.heap[i]? with
 | none => trivial
 | some o => cases o <;> simp
theorem KeptW.same {W W' : World} (h : KeptW W W') {p : MemPlace} (hp : p.block < W.heap.size) : W.sameAt W' p := by
 cases p with
 | cell b off => exact World.cell?_of_block (w := W) (h.block b hp)
 | map b => 
  show W'.heap[b]? = W.heap[b]?
  exact h.block b hp

theorem law_calls {f : FuncId} {vs : List V} {args : Array Value} {W : World} (hT : T P f vs [] (.bool true) []) (hv : VsRel (Uof W) Env.none vs args.toList) :
  Calls P f args W fun e W' => e = .returned (.bool true) ∧ KeptW W W' := by
 refine Calls.mono (hT (Uof W) Env.none W args (HRel_start W) hv fun n ⟨b, hb⟩ => absurd hb List.not_mem_nil) ?_
 rintro e W' ⟨x, U', ρ', rfl, L⟩
 have := L.val
 rw [VRel] at this
 subst this
 exact ⟨rfl, L.ext.size, fun k hk => L.ext.frame k hk fun n l ⟨b, hb⟩ => absurd hb List.not_mem_nil, L.ext.out⟩

section
open ChangeShapes WideShapes ChangeAt RowKit
variable {H : Type} {enc : TypeId × Value → H}

/-- So many arguments, each of a type that can be opened. -/
def opensAll (P : Program) : List TypeId → Bool
 | [] => true
 | t :: ts => opens P 12 t && opensAll P ts
/-- A value of a type, as a value: one cell, or a struct's or an array's. -/
def ShV (P : Program) (t : TypeId) (v : V) : Prop := ∃ d vs, ShC P d t vs ∧ (match vs with
 | [u] => (u.cell = true ∧ v = u) ∨ v = .agg vs
 | vs => v = .agg vs)

theorem trodAll_keep {W W' : World} (hK : KeptW W W') {sp : Nat → Bool} : ∀ {ts : List TypeId} {vs : List Value} {ds : List (DataW H)} {ps : List MemPlace}, opensAll P ts = true → DataW.TrodAll enc P W 0 (fun _ => true) true ts vs ds ps → (∀ p ∈ ps, sp p.block = true) →
  DataW.TrodAll enc P W' 0 sp true ts vs ds ps
 | [], [], [], _, _, h, _ => h
 | t :: ts, v :: vs, d :: ds, ps, ho, h, hs => by
  obtain ⟨p, q, ⟨fuel, h1⟩, h2, rfl⟩ := h
  rw [opensAll, Bool.and_eq_true] at ho
  refine ⟨p, q, ⟨fuel, ?_⟩, trodAll_keep hK ho.2 h2 fun x hx => hs x (List.mem_append_right _ hx), rfl⟩
  have h3 := trod_spare fuel t _ _ h1 12 ho.1 (sp := sp) fun x hx => hs x (List.mem_append_left _ hx)
  exact DataW.trod_carry fuel t _ _ h3 fun x hx => hK.same (DataW.trod_lt fuel t _ _ h1 x hx)

theorem law_post {f : Func} {s : ChangeSpec} {apart fresh handsOn again : Bool} {W W' : World} {args : Array Value} {ds gs : List (DataW H)} {before : List MemPlace} {tb : TypeId}
  (hW : DataW.Whole enc P f.params.toList s.vars apart W args.toList ds gs before) (hvars : s.vars = []) (hfn : s.fn H (ds ++ gs) = { results := [.lit (.bool true)], args := ds }) (hres : f.resultTypes = #[tb]) (hb : P.underlying tb = some .bool)
  (ho : opensAll P f.params.toList = true) (hK : KeptW W W') : s.post enc P f apart fresh handsOn again W args (.bool true) W' := by
 have hW0 := hW
 obtain ⟨pa, pv, hA, hV, rfl, hz, hn⟩ := hW
 rw [hvars] at hV
 obtain ⟨rfl, rfl⟩ := trodVars_none hV
 have hlt : ∀ p ∈ pa ++ [], p.block < W.heap.size := fun p hp => hW0.lt p hp
 have hold : ∀ p ∈ pa, (fun b => decide (b < W.heap.size)) p.block = true := fun p hp => by simpa using hlt p (by simpa using hp)
 have hR : ∀ (b : Nat) (sp : Nat → Bool) (hd : Bool), DataW.TrodAll enc P W' b sp hd f.resultTypes.toList ((Value.bool true).resultList f.resultTypes.size) [DataW.lit (.bool true)] [] := by
  intro b sp hd
  rw [hres]
  exact trodAll_cons_mk (shut_bool hb true) trodAll_mk0
 refine ⟨ds, [], pa ++ [], [], pa, [], hW0, by rw [hfn]; exact hR _ _ _, by rw [hfn]; exact trodAll_keep hK ho hA hold, by rw [hfn, hvars]; exact rfl, World.keptBut_mono (fun p hp => hp.elim) (hK.frame (fun _ => False)), fun _ => ?_⟩
 refine ⟨ok_one hres rfl (okWide_bool_mk hb true), _, _, ([] ++ pa) ++ [], ⟨[] ++ pa, [], by simpa using trodAll_append (trodAll_keep hK ho hA fun _ _ => rfl) (hR _ _ _), (show DataW.TrodVars enc P W' (fun _ => true) s.vars [] [] by rw [hvars]; exact rfl), rfl, ?_, ?_⟩, ?_⟩
 ·intro b off hp
  have hp' : MemPlace.cell b off ∈ pa ++ [] := by simpa using hp
  have := hz b off hp'
  rw [← this]
  exact World.frozen?_of_block (w := W) (hK.block b (hlt _ hp'))
 ·intro ha
  have := hn ha
  simpa using this
 ·intro p hp _
  simpa using hp
end
theorem law_walk {P : Program} {f : FuncId} {vs : List V} {args : Array Value} {W : World} {Q : Ending → World → Prop} (hT : T P f vs [] (.bool true) []) (hv : VsRel (Uof W) Env.none vs args.toList) (hQ : ∀ W', KeptW W W' → Q (.returned (.bool true)) W') : Calls P f args W Q :=
 Calls.mono (law_calls hT hv) fun e W' h => by obtain ⟨rfl, hK⟩ := h; exact hQ W' hK
end Sy
namespace Sy
open Go
variable {P : Program}

/-- A step's own blocks turned, in the state. -/
theorem leaves_state {p : Nat} {U U' : Imm} {ρ ρ' : Env} {st : St} {a : Act} {w w' : World} {pre rest post : Heap} {val : V} {x : Value} {nx : Nat}
  (hs : StRel U ρ st a w) (hperm : st.heap.Perm (pre ++ rest)) (hp : p ≤ st.next) (hnx : st.next ≤ nx)
  (hfresh : ∀ n, post.dom n → pre.dom n ∨ ∃ k, n = .o k ∧ st.next ≤ k ∧ k < nx) (L : Leaves U ρ pre w val post x U' ρ' w') :
  VRel U' (Env.both post ρ' ρ) val x ∧ StRel U' (Env.both post ρ' ρ) ⟨st.tmps, post ++ rest, nx, st.dfs⟩ a w' ∧ Turn p U ρ st.heap w U' (Env.both post ρ' ρ) (post ++ rest) w' := by
 have H := hs.heap.perm hperm
 have hf : ∀ n, post.dom n → pre.dom n ∨ ρ n = none := fun n hd => (hfresh n hd).imp id fun ⟨k, hk, h1, _⟩ => by rw [hk]; exact hs.fresh k h1
 obtain ⟨h1, h2, h3, h4⟩ := L.frame H hf
 refine ⟨h2, ⟨VsRel.mono L.ext.imm h1 hs.tmps, DfRel.mono h1 hs.dfs, h3, fun k hk => ?_⟩, h4.perm hperm.symm (List.Perm.refl _), fun n hpn => ?_⟩
 ·have hnp : ¬ post.dom (.o k) := fun hd => by
   rcases hfresh _ hd with ⟨b, hb⟩ | ⟨k', e, _, h6⟩
   ·obtain ⟨l, e, _⟩ := H.left.blk _ _ hb; rw [hs.fresh k (Nat.le_trans hnx hk)] at e; cases e
   ·cases e; exact absurd hk (Nat.not_le.2 h6)
  simp only [Env.both, hnp, if_false]; exact hs.fresh k (Nat.le_trans hnx hk)
 ·constructor
  ·by_cases hpd : post.dom n
   ·rcases hfresh n hpd with hpre | ⟨k, rfl, h5, _⟩
    ·obtain ⟨l, hl⟩ := H.left.ex hpre
     rw [h1 _ _ hl, hl]
    ·simp only [Nm.pin, decide_eq_true_eq] at hpn; omega
   ·simp [Env.both, hpd]
  ·intro hd
   rcases dom_append.1 hd with hd | hd
   ·rcases hfresh n hd with hpre | ⟨k, rfl, h5, _⟩
    ·exact (perm_dom hperm n).2 (dom_append.2 (.inl hpre))
    ·simp only [Nm.pin, decide_eq_true_eq] at hpn; omega
   ·exact (perm_dom hperm n).2 (dom_append.2 (.inr hd))

theorem StRel.perm {U ρ} {st : St} {a : Act} {w : World} {h : Heap} (s : StRel U ρ st a w) (hp : st.heap.Perm h) : StRel U ρ ⟨st.tmps, h, st.next, st.dfs⟩ a w :=
 ⟨s.tmps, s.dfs, s.heap.perm hp, s.fresh⟩

/-- A block is let go. -/
theorem StRel.drop {p : Nat} {U ρ} {st : St} {a : Act} {w : World} {b rest : Heap} (s : StRel U ρ st a w) (hp : st.heap.Perm (b ++ rest)) :
  StRel U ρ ⟨st.tmps, rest, st.next, st.dfs⟩ a w ∧ Turn p U ρ st.heap w U ρ rest w :=
 ⟨⟨s.tmps, s.dfs, (s.heap.perm hp).right, s.fresh⟩, ⟨Nat.le_refl _, Imm.le_refl _, fun _ _ _ => rfl, fun n l hd e hr => .inr ⟨n, l, (perm_dom hp n).2 (dom_append.2 (.inr hd)), e, hr, rfl⟩, fun _ _ e => .inl e, rfl, rfl⟩,
  fun n _ => ⟨rfl, fun hd => (perm_dom hp n).2 (dom_append.2 (.inr hd))⟩⟩

/-- A loop's record, turned. -/
theorem loop_turn {p : Nat} {U : Imm} {ρ : Env} {st : St} {a : Act} {w : World} {n : Nm} {fn : FuncId} {ps : Array Tmp} {ts : List V} {assign body : Code} {s : LoopState} {pe : Option Code} {rest : Heap}
  (hs : StRel U ρ st a w) (hperm : st.heap.Perm ((n, .loop fn ps ts assign body s pe) :: rest)) (hp : p ≤ st.next) :
  ∃ l r, ρ n = some l ∧ l.real = true ∧ w.heap[l.blk]? = some (.loop r) ∧ r.fn = fn ∧ r.params = ps ∧ r.assign = assign ∧ r.body = body ∧ r.state = s ∧ r.pending = pe ∧ VsRel U ρ ts r.tmps.toList ∧
   ∀ s' pe', ∃ ρ', StRel U ρ' ⟨st.tmps, (n, .loop fn ps ts assign body s' pe') :: rest, st.next, st.dfs⟩ a (w.putObj l.blk (.loop { r with state := s', pending := pe' })) ∧
    Turn p U ρ st.heap w U ρ' ((n, .loop fn ps ts assign body s' pe') :: rest) (w.putObj l.blk (.loop { r with state := s', pending := pe' })) := by
 have H := hs.heap.perm hperm
 have hb : (n, B.loop fn ps ts assign body s pe) ∈ (n, .loop fn ps ts assign body s pe) :: rest := List.mem_cons_self ..
 obtain ⟨l, h1, h2⟩ := H.blk n _ hb
 have hr : l.real = true := by
  rcases h2 with ⟨h, _⟩ | ⟨_, es, f, h⟩
  ·exact h
  ·cases h
 obtain ⟨o, h3, h4, h5⟩ := H.real hb h1 hr
 obtain ⟨r, rfl, e1, e2, e3, e4, e5, e6, e7⟩ := h4
 refine ⟨l, r, h1, hr, h3, e1, e2, e4, e5, e6, e7, e3, fun s' pe' => ?_⟩
 have L := Leaves.set (w' := w.putObj l.blk (.loop { r with state := s', pending := pe' })) (val := V.any) (x := undef) (b' := .loop fn ps ts assign body s' pe') (o' := .loop { r with state := s', pending := pe' })
  (HRel.left (a := [(n, B.loop fn ps ts assign body s pe)]) (b := rest) H) h1 hr rfl ⟨_, rfl, e1, e2, e3, e4, e5, rfl, rfl⟩ (by rw [VRel]; trivial)
 obtain ⟨_, g1, g2⟩ := leaves_state (p := p) (nx := st.next) hs (pre := [(n, B.loop fn ps ts assign body s pe)]) (rest := rest) hperm hp (Nat.le_refl _)
  (fun m ⟨b, hm⟩ => .inl ⟨_, by simp only [List.mem_singleton, Prod.mk.injEq] at hm; rw [hm.1]; exact List.mem_cons_self ..⟩) L
 exact ⟨_, g1, g2⟩

/-! ### A round -/
def setMany : List V → List (Nat × V) → List V
 | l, [] => l
 | l, p :: r => setMany (setV l p.1 p.2) r
theorem setMany_rel {U : Imm} {ρ : Env} : ∀ {ps : List Tmp} {args : List V} {xs : List Value} {ts : List V} {t : Array Value}, VsRel U ρ ts t.toList → VsRel U ρ args xs → ps.length = args.length →
  VsRel U ρ (setMany ts (ps.zip args)) ((ps.zip xs).foldl (fun t (p, v) => t.setIfInBounds p v) t).toList
 | [], _, _, _, _, ht, _, _ => by simpa [setMany] using ht
 | p :: ps, [], _, _, _, _, _, hl => by simp at hl
 | p :: ps, v :: vs, xs, ts, t, ht, ha, hl => by
  rw [VsRel] at ha
  obtain ⟨x, r, rfl, h1, h2⟩ := ha
  simp only [List.zip_cons_cons, setMany, List.foldl_cons]
  refine setMany_rel ?_ h2 (by simpa using hl)
  have := setV_rel h1 p ht
  simpa using this
theorem VsRel.length_eq {U : Imm} {ρ : Env} : ∀ {vs : List V} {l : List Value}, VsRel U ρ vs l → l.length = vs.length
 | [], l, h => by rw [VsRel] at h; subst h; rfl
 | v :: vs, l, h => by rw [VsRel] at h; obtain ⟨x, r, rfl, _, h⟩ := h; simp [VsRel.length_eq h]

/-- How a round may end: the body's exit, what yield gives, the record's state, the pending jump. -/
inductive RoundEnd : Exit → V → LoopState → Option Code → Prop where
 | on : RoundEnd .normal (.bool true) .ready none
 | ret : RoundEnd .ret (.bool false) .done (some .ret)
 | exit (id : Nat) : RoundEnd (.exit id) (.bool false) .done (some (.exit id))

theorem TV_round {n : Nm} {p : Nat} {fn : FuncId} {ps : Array Tmp} {ts args : List V} {assign body : Code} {h0 h1 post rest2 : Heap} {st1 st2 : St} {e : Exit} {val : V} {s' : LoopState} {pe : Option Code}
  (hlen : ps.size = args.length) (hpin : PinH p ((n, .loop fn ps ts assign body .ready none) :: h0)) (hargs : V.withins (Nm.pin p) (setMany ts (ps.toList.zip args)) = true)
  (hA : ∀ l, R P (some l) p assign ⟨setMany ts (ps.toList.zip args), (n, .loop fn ps ts assign body .ready none) :: h0, p, []⟩ .normal st1)
  (hp1 : st1.heap.Perm ((n, .loop fn ps ts assign body .ready none) :: h1)) (hn1 : p ≤ st1.next)
  (hB : ∀ l, R P (some l) p body ⟨st1.tmps, (n, .loop fn ps ts assign body .busy none) :: h1, st1.next, st1.dfs⟩ e st2)
  (hp2 : st2.heap.Perm ((n, .loop fn ps ts assign body .busy none) :: (post ++ rest2))) (hn2 : p ≤ st2.next) (hends : RoundEnd e val s' pe)
  (hwp : ∀ q ∈ (n, B.loop fn ps ts assign body s' pe) :: post, ∃ S : Nm → Bool, q.2.within S = true ∧ ∀ m, S m = true → m.pin p = true ∨ Heap.dom ((n, B.loop fn ps ts assign body s' pe) :: post) m) :
  TV P (.yld n) args ((n, .loop fn ps ts assign body .ready none) :: h0) val ((n, .loop fn ps ts assign body s' pe) :: post) := by
 intro U ρ w x xs hh hx ha hfr
 rw [VRel] at hx
 obtain ⟨l, hl, hr, rfl⟩ := hx
 obtain ⟨o, g1, g2, _⟩ := hh.real (List.mem_cons_self ..) hl hr
 obtain ⟨r, rfl, e1, e2, e3, e4, e5, e6, e7⟩ := g2
 have hrun : (do let d ← Deferred.ofValue (.func (.yield l.blk) #[] #[]) xs; invoke d.target d.args : Sem Next).run P w = (Instr.yield l.blk xs).run P w := by
  simp [Deferred.ofValue, Sem.run_bind, Sem.run_pure, Result.andThen_ok, invoke]
 have hxs : xs.size = r.params.size := by rw [e2, hlen, ← VsRel.length_eq ha, Array.length_toList]
 rw [hrun, run_yield g1 hxs]
 have hpn : n.pin p = true := (hpin _ (List.mem_cons_self ..)).1
 rw [e4, e5]
 refine roundIn_of_wpIn trivial ?_
 have hs0 := start (k := 0) (p := p) (xs := (r.params.zip xs).foldl (fun t (p, v) => t.setIfInBounds p v) r.tmps) hh (by
  have := setMany_rel (ps := ps.toList) e3 ha (by rw [Array.length_toList]; exact hlen)
  rw [e2, ← Array.foldl_toList, Array.toList_zip]; exact this) hpin hargs
 simp only [List.replicate_zero, List.append_nil, Array.replicate_zero, Array.append_empty] at hs0
 refine hA l.blk U (restrict p ρ) _ w _ hs0 fun U1 ρ1 a1 w1 s1 t1 => ?_
 obtain ⟨l1, r1, k1, k2, k3, k4, k5, k6, k7, k8, k9, k10, k11⟩ := loop_turn (p := p) s1 hp1 hn1
 have hl1 : l1 = l := by
  have := (t1.pins n hpn).1
  rw [restrict_pin hpn, hl, k1] at this; exact Option.some.inj this
 subst hl1
 obtain ⟨ρ1', s1', t1'⟩ := k11 .busy none
 have hbr := run_beginRound (P := P) k3 k8
 rw [show ({ r1 with state := LoopState.busy } : Loop) = { r1 with state := .busy, pending := none } by rw [← k9]] at hbr
 refine ⟨_, hbr, hB l1.blk U1 ρ1' a1 _ _ s1' fun U2 ρ2 a2 w3 s2 t2 => ?_⟩
 have tt := t1.trans ((t1'.perm (List.Perm.refl _) (List.Perm.refl _)).trans t2)
 obtain ⟨l2, r2, m1, m2, m3, m4, m5, m6, m7, m8, m9, m10, m11⟩ := loop_turn (p := p) s2 hp2 hn2
 have hl2 : l2 = l1 := by
  have := (tt.pins n hpn).1
  rw [restrict_pin hpn, hl, m1] at this; exact Option.some.inj this
 subst hl2
 have fin : ∀ (jump : Option Code) (s' : LoopState), s' = (if jump.isNone then .ready else .done) → val = .bool jump.isNone → pe = jump →
   (∀ q ∈ (n, B.loop fn ps ts assign body s' pe) :: post, ∃ S : Nm → Bool, q.2.within S = true ∧ ∀ m, S m = true → m.pin p = true ∨ Heap.dom ((n, B.loop fn ps ts assign body s' pe) :: post) m) →
   (∀ m, Heap.dom ((n, B.loop fn ps ts assign body s' pe) :: post) m → Heap.dom ((n, B.loop fn ps ts assign body .ready none) :: h0) m ∨ ρ m = none) →
   ∃ v w', (Instr.endRound l2.blk jump).run P w3 = .ok v w' ∧ ∃ v', Ending.returned v = Ending.returned v' ∧ ∃ U' ρ', Leaves U ρ ((n, B.loop fn ps ts assign body .ready none) :: h0) w val ((n, B.loop fn ps ts assign body s' pe) :: post) v' U' ρ' w' := by
  intro jump s' hs' hv hpe hwp hfr
  subst hs' hv hpe
  obtain ⟨ρ3, s3, t3⟩ := m11 (if pe.isNone then .ready else .done) pe
  refine ⟨_, _, run_endRound pe m3, _, rfl, U2, Env.both ((n, B.loop fn ps ts assign body (if pe.isNone then .ready else .done) pe) :: post) ρ3 ρ, ?_⟩
  refine finish (heap' := (n, B.loop fn ps ts assign body (if pe.isNone then .ready else .done) pe) :: (post ++ rest2)) hpin hfr (by rw [VRel]) ?_ (tt.trans t3) (fun m ⟨b, hb⟩ => ⟨b, by
   rcases List.mem_cons.1 hb with h | h
   ·rw [h]; exact List.mem_cons_self ..
   ·exact List.mem_cons_of_mem _ (List.mem_append_left _ h)⟩) ⟨fun _ => false, by rfl, fun _ h => by cases h⟩ hwp
  exact HRel.left (a := (n, B.loop fn ps ts assign body (if pe.isNone then .ready else .done) pe) :: post) (b := rest2) s3.heap
 cases hends with
 | on => exact fin none .ready rfl rfl rfl hwp hfr
 | ret => exact fin (some .ret) .done rfl rfl rfl hwp hfr
 | exit id => exact fin (some (.exit id)) .done rfl rfl rfl hwp hfr

/-! ### The statement -/
inductive LoopEnd : Option Code → Exit → Prop where
 | on : LoopEnd none .normal
 | ret : LoopEnd (some .ret) .ret
 | exit (id : Nat) : LoopEnd (some (.exit id)) (.exit id)

theorem R_range (hng : NoNG P) {p : Nat} {st : St} {g : Operand} {ps : Array Tmp} {assign body : Code} {k : FuncId} {caps : List V} {pre rest post : Heap} {val : V} {s : LoopState} {pe : Option Code} {nx : Nat} {e : Exit}
  (hp : p ≤ st.next) (hg : evV st.tmps g = .fn (.func k) [] caps) (hcall : callable P k = true) (hperm : st.heap.Perm (pre ++ rest))
  (hT : ∀ fn, T P k (.yld (.o (st.next + 1)) :: caps) ((.o (st.next + 1), .loop fn ps st.tmps assign body .ready none) :: pre) val ((.o (st.next + 1), .loop fn ps st.tmps assign body s pe) :: post))
  (hs : s ≠ .busy) (hnew : ∀ n, Heap.dom post n → Heap.dom pre n ∨ ∃ k, n = .o k ∧ st.next + 2 ≤ k ∧ k < nx) (hnx : st.next + 2 ≤ nx) (he : LoopEnd pe e) :
  R P none p (.rangeFunc g ps assign body) st e ⟨st.tmps, post ++ ((.o st.next, .dfr) :: rest), nx, .o st.next :: st.dfs⟩ := by
 intro U ρ a w Q hst hQ
 have hgv := evV_rel hst.tmps g
 rw [hg, VRel] at hgv
 obtain ⟨l0, lb, hge, hl0, hlb⟩ := hgv
 rw [VsRel] at hl0
 have hl0' : l0 = #[] := by apply Array.ext'; simpa using hl0
 subst hl0'
 -- the mark's block
 have L1 := Leaves.new (w' := w.alloc (.deferred (some []))) (val := V.any) (x := undef) (m := .o st.next) (b := .dfr) (o := .deferred (some [])) (sz := 0) (hst.heap) (hst.fresh _ (Nat.le_refl _)) rfl rfl (by rw [VRel]; trivial)
 have hne0 : ∀ {h : Heap} {n : Nm} {b : B}, Heap.dom ((n, b) :: h) n := fun {h n b} => ⟨b, List.mem_cons_self ..⟩
 obtain ⟨_, s1, t1⟩ := leaves_state (p := p) (nx := st.next + 1) hst (pre := st.heap) (rest := []) (by simp) hp (by omega) (fun m hm => by
  obtain ⟨b, hb⟩ := hm
  rcases List.mem_cons.1 hb with h | h
  ·cases h; exact .inr ⟨_, rfl, by omega, by omega⟩
  ·exact .inl ⟨b, h⟩) L1
 rw [List.append_nil] at s1 t1
 obtain ⟨ρ1, hρ1⟩ : ∃ ρ1, Env.both ((Nm.o st.next, B.dfr) :: st.heap) (ρ.add (.o st.next) ⟨w.heap.size, 0, true⟩) ρ = ρ1 := ⟨_, rfl⟩
 have hD : ρ1 (.o st.next) = some ⟨w.heap.size, 0, true⟩ := by rw [← hρ1]; simp only [Env.both, hne0, if_true]; exact Env.add_self
 rw [hρ1] at s1 t1
 obtain ⟨a', ha'⟩ : ∃ a', ({ a with defers := { target := .collected w.heap.size, args := #[] } :: a.defers } : Act) = a' := ⟨_, rfl⟩
 have s1' : StRel U ρ1 ⟨st.tmps, (.o st.next, .dfr) :: st.heap, st.next + 1, .o st.next :: st.dfs⟩ a' (w.alloc (.deferred (some []))) := by
  refine ⟨by rw [← ha']; exact s1.tmps, ?_, s1.heap, s1.fresh⟩
  rw [← ha']
  exact ⟨_, _, hD, rfl, s1.dfs⟩
 refine wpIn_rangeFunc fun fn _ => ?_
 -- the loop's record
 obtain ⟨rec, hrec⟩ : ∃ rec : Loop, ({ state := .ready, pending := none, fn, tmps := a.tmps, params := ps, assign, body, defers := w.heap.size } : Loop) = rec := ⟨_, rfl⟩
 have hts : VsRel U ρ st.tmps a.tmps.toList := hst.tmps
 have hts1 : VsRel U ρ1 st.tmps a.tmps.toList := s1.tmps
 have hfrL : ρ1 (.o (st.next + 1)) = none := s1.fresh _ (Nat.le_refl _)
 have L2 := Leaves.new (w' := (w.alloc (.deferred (some []))).alloc (.loop rec)) (val := V.any) (x := undef) (m := .o (st.next + 1)) (b := .loop fn ps st.tmps assign body .ready none) (o := .loop rec) (sz := 0) s1'.heap hfrL rfl
  (by rw [← hrec]; exact ⟨_, rfl, rfl, rfl, VsRel.mono (Imm.le_refl _) (Env.le_add hfrL _) hts1, rfl, rfl, rfl, rfl⟩) (by rw [VRel]; trivial)
 obtain ⟨_, s2, t2⟩ := leaves_state (p := p) (nx := st.next + 2) s1' (pre := (.o st.next, .dfr) :: st.heap) (rest := []) (by simp) (by show p ≤ st.next + 1; omega) (by show st.next + 1 ≤ st.next + 2; omega) (fun m hm => by
  obtain ⟨b, hb⟩ := hm
  rcases List.mem_cons.1 hb with h | h
  ·cases h; exact .inr ⟨_, rfl, by show st.next + 1 ≤ st.next + 1; omega, by omega⟩
  ·exact .inl ⟨b, h⟩) L2
 rw [List.append_nil] at s2 t2
 obtain ⟨ρ2, hρ2⟩ : ∃ ρ2, Env.both ((Nm.o (st.next + 1), B.loop fn ps st.tmps assign body .ready none) :: (Nm.o st.next, B.dfr) :: st.heap) (ρ1.add (.o (st.next + 1)) ⟨(w.alloc (.deferred (some []))).heap.size, 0, true⟩) ρ1 = ρ2 := ⟨_, rfl⟩
 have hL : ρ2 (.o (st.next + 1)) = some ⟨(w.alloc (.deferred (some []))).heap.size, 0, true⟩ := by rw [← hρ2]; simp only [Env.both, hne0, if_true]; exact Env.add_self
 rw [hρ2] at s2 t2
 have hlb2 : VsRel U ρ2 caps lb.toList := by
  have h1 : ρ.le ρ1 := by
   have := (Leaves.frame (rest := []) (by simpa using hst.heap) (fun n hd => by
    obtain ⟨b, hb⟩ := hd
    rcases List.mem_cons.1 hb with h | h
    ·cases h; exact .inr (hst.fresh _ (Nat.le_refl _))
    ·exact .inl ⟨b, h⟩) L1).1
   rwa [hρ1] at this
  have h2 : ρ1.le ρ2 := by
   have := (Leaves.frame (rest := []) (by simpa using s1'.heap) (fun n hd => by
    obtain ⟨b, hb⟩ := hd
    rcases List.mem_cons.1 hb with h | h
    ·cases h; exact .inr hfrL
    ·exact .inl ⟨b, h⟩) L2).1
   rwa [hρ2] at this
  exact VsRel.mono (Imm.le_refl _) (Env.le_trans h1 h2) hlb
 have hfn : ∃ f0, P.funcs[k]? = some f0 ∧ f0.body.isSome = true := by
  unfold callable at hcall
  cases hf : P.funcs[k]? with
  | none => simp [hf] at hcall
  | some f0 => simp only [hf] at hcall; exact ⟨f0, rfl, hcall⟩
 obtain ⟨f0, hf0, hb0⟩ := hfn
 have hn0 := hng k f0 hf0 hb0
 have hb1 : f0.body.isNone = false := by cases hbo : f0.body <;> simp [hbo] at hb0 ⊢
 have hperm2 : ((Nm.o (st.next + 1), B.loop fn ps st.tmps assign body .ready none) :: (Nm.o st.next, B.dfr) :: st.heap).Perm (((Nm.o (st.next + 1), B.loop fn ps st.tmps assign body .ready none) :: pre) ++ ((.o st.next, .dfr) :: rest)) := by
  rw [List.cons_append]
  refine List.Perm.cons _ ((List.Perm.cons _ hperm).trans ?_)
  exact List.perm_middle.symm
 have hnew2 : ∀ n, Heap.dom ((Nm.o (st.next + 1), B.loop fn ps st.tmps assign body s pe) :: post) n → Heap.dom ((Nm.o (st.next + 1), B.loop fn ps st.tmps assign body .ready none) :: pre) n ∨ ∃ k, n = .o k ∧ st.next + 2 ≤ k ∧ k < nx := by
  rintro n ⟨b, hb⟩
  rcases List.mem_cons.1 hb with h | h
  ·cases h; exact .inl hne0
  ·rcases hnew n ⟨b, h⟩ with ⟨b', hb'⟩ | h'
   ·exact .inl ⟨b', List.mem_cons_of_mem _ hb'⟩
   ·exact .inr h'
 have hsz : (w.alloc (.deferred (some []))).heap.size = w.heap.size + 1 := World.size_alloc ..
 refine ⟨w.heap.size + 1, [{ target := .collected w.heap.size, args := #[] }], (w.alloc (.deferred (some []))).alloc (.loop rec), { target := .fn (.func k) lb, args := #[.func (.yield (w.heap.size + 1)) #[] #[]] }, (w.alloc (.deferred (some []))).alloc (.loop rec), k,
  #[.func (.yield (w.heap.size + 1)) #[] #[]] ++ lb, (w.alloc (.deferred (some []))).alloc (.loop rec), ?_, ?_, fun _ _ => trivial, ?_, Fw_depth none, ?_⟩
 ·rw [← hrec]; exact run_enterLoop_outer _ _ _ _ _
 ·simp only [resolve, hge]
  simp [go_sem]
 ·simp only [invoke, callFunc, Sem.run_bind, run_program, Result.andThen_ok, hf0, hn0, hb1, Bool.false_eq_true, if_false, Sem.run_pure]
 have hcl := hT fn U ρ2 _ (#[.func (.yield (w.heap.size + 1)) #[] #[]] ++ lb) (HRel.left (s2.heap.perm hperm2)) (by
  rw [Array.toList_append]
  show VsRel U ρ2 (.yld (.o (st.next + 1)) :: caps) (Value.func (.yield (w.heap.size + 1)) #[] #[] :: lb.toList)
  rw [VsRel]
  refine ⟨_, _, rfl, ?_, hlb2⟩
  rw [VRel]
  exact ⟨_, hL, rfl, by rw [hsz]⟩) (fun n hd => (hnew2 n hd).imp id fun ⟨k, hk, h1, _⟩ => by rw [hk]; exact s2.fresh k h1)
 have h1 : CallsIn Fence.wide (0 - 1) P k _ _ _ := callsIn_wide.2 hcl
 refine CallsIn.mono (F := Fw none) h1 ?_
 rintro e' w3 ⟨x, U', ρ', rfl, L3⟩
 obtain ⟨_, s3, t3⟩ := leaves_state (p := p) (nx := nx) s2 hperm2 (by show p ≤ st.next + 2; omega) (by show st.next + 2 ≤ nx; omega) hnew2 L3
 obtain ⟨ρ3, hρ3⟩ : ∃ ρ3, Env.both ((Nm.o (st.next + 1), B.loop fn ps st.tmps assign body s pe) :: post) ρ' ρ2 = ρ3 := ⟨_, rfl⟩
 have hL3 : ρ3 (.o (st.next + 1)) = some ⟨(w.alloc (.deferred (some []))).heap.size, 0, true⟩ := by
  rw [← hρ3]; simp only [Env.both, hne0, if_true]
  exact L3.keep _ _ hne0 hL
 rw [hρ3] at s3 t3
 obtain ⟨l4, r4, k1, k2, k3, k4, k5, k6, k7, k8, k9, k10, k11⟩ := loop_turn (p := p) s3 (rest := post ++ ((.o st.next, .dfr) :: rest)) (List.Perm.refl _) (by show p ≤ nx; omega)
 rw [hL3] at k1
 cases k1
 obtain ⟨ρ4, s4, t4⟩ := k11 .exhausted pe
 rw [hsz] at k3 s4 t4
 obtain ⟨s5, t5⟩ := StRel.drop (p := p) (b := [(Nm.o (st.next + 1), B.loop fn ps st.tmps assign body .exhausted pe)]) (rest := post ++ ((.o st.next, .dfr) :: rest)) s4 (List.Perm.refl _)
 have hend := run_endLoop (P := P) k3 (by rw [k8]; exact hs)
 rw [show ({ r4 with state := LoopState.exhausted } : Loop) = { r4 with state := .exhausted, pending := pe } by rw [← k9], k9] at hend
 have hfin := hQ U' ρ4 a' _ s5 (t1.trans (t2.trans (t3.trans (t4.trans t5))))
 refine ⟨pe, _, hend, ?_⟩
 have ha2 : ({ a with defers := [{ target := .collected w.heap.size, args := #[] }] ++ a.defers } : Act) = a' := ha'
 cases he with
 | on => show Q .normal _ _; rw [ha2]; exact hfin
 | ret => rw [ha2]; exact wpIn_ret hfin
 | exit id => rw [ha2]; exact wpIn_exit hfin
end Sy
namespace Sy
open Go

structure SReq where
 client : Int := 0
 num : Int := 0
 data : ByteArray := .empty
 tag : List Int := []
structure SSign where
 node : Int := 0
 tag : List Int := []
structure SVote where
 kind : Int := 0
 epoch : Int := 0
 view : Int := 0
 slot : Int := 0
 digest : List Int := []
structure SBatch where
 noop : Bool := false
 n : Nat := 0
 req : Nat → SReq := fun _ => {}
structure SCert where
 vote : SVote := {}
 n : Nat := 0
 sig : Nat → SSign := fun _ => {}
structure SRec where
 kind : Int := 0
 leader : Int := 0
 view : Int := 0
 slot : Int := 0
 batch : SBatch := {}
 cert : SCert := {}
 state : ByteArray := .empty
 n : Nat := 0
 sig : Nat → SSign := fun _ => {}
structure SHeld where
 batch : SBatch := {}
 cert : SCert := {}
structure SEnv where
 src : Int := 0
 body : ByteArray := .empty
 tag : List Int := []
structure SMsg where
 kind : Int := 0
 epoch : Int := 0
 leader : Int := 0
 view : Int := 0
 slot : Int := 0
 batch : SBatch := {}
 vote : SVote := {}
 cepoch : Int := 0
 cleader : Int := 0
 cview : Int := 0
 nheld : Nat := 0
 held : Nat → SHeld := fun _ => {}
 nnews : Nat := 0
 news : Nat → SEnv := fun _ => {}
 digest : List Int := []
 cert : SCert := {}
 state : ByteArray := .empty
 n : Nat := 0
 sig : Nat → SSign := fun _ => {}

def SReq.c (r : SReq) : List V := [.int .i64 r.client, .int .i64 r.num, .str r.data, .seg .u8 16 r.tag]
def SSign.c (s : SSign) : List V := [.int .i64 s.node, .seg .u8 16 s.tag]
def SVote.c (v : SVote) : List V := [.int .i64 v.kind, .int .i64 v.epoch, .int .i64 v.view, .int .i64 v.slot, .seg .u8 32 v.digest]
def rq (n : Nat) (r : Nat → SReq) : V := .ros 19 n (fun i => (r i).c) false
def sg (n : Nat) (s : Nat → SSign) : V := .ros 17 n (fun i => (s i).c) false
def SBatch.c (b : SBatch) : List V := [.bool b.noop, rq b.n b.req]
def SCert.c (c : SCert) : List V := c.vote.c ++ [sg c.n c.sig]
def SRec.c (r : SRec) : List V := [.int .i64 r.kind, .int .i64 r.leader, .int .i64 r.view, .int .i64 r.slot] ++ (r.batch.c ++ (r.cert.c ++ [.str r.state, sg r.n r.sig]))
def SHeld.c (h : SHeld) : List V := h.batch.c ++ h.cert.c
def SEnv.c (e : SEnv) : List V := [.int .i64 e.src, .str e.body, .seg .u8 16 e.tag]
def hl (n : Nat) (h : Nat → SHeld) : V := .ros 39 n (fun i => (h i).c) false
def nw (n : Nat) (e : Nat → SEnv) : V := .ros 18 n (fun i => (e i).c) false
def SMsg.c (m : SMsg) : List V := [.int .i64 m.kind, .int .i64 m.epoch, .int .i64 m.leader, .int .i64 m.view, .int .i64 m.slot] ++ (m.batch.c ++ (m.vote.c ++ ([.int .i64 m.cepoch, .int .i64 m.cleader, .int .i64 m.cview, hl m.nheld m.held, nw m.nnews m.news, .seg .u8 32 m.digest] ++ (m.cert.c ++ [.str m.state, sg m.n m.sig]))))
def rc (n : Nat) (r : Nat → SRec) : V := .ros 45 n (fun i => (r i).c) false

theorem InR64 {n : Int} : InR .i64 n ↔ -9223372036854775808 ≤ n ∧ n ≤ 9223372036854775807 := by
 simp [InR, IntKind.min, IntKind.max, IntKind.signed, IntKind.bits]
theorem InR8 {n : Int} : InR .u8 n ↔ 0 ≤ n ∧ n ≤ 255 := by
 simp [InR, IntKind.min, IntKind.max, IntKind.signed, IntKind.bits]

theorem T.conv {P : Program} {f : FuncId} {args args' : List V} {pre pre' : Heap} {val val' : V} {post post' : Heap} (h : T P f args pre val post) (ea : args = args') (ep : pre = pre') (ev : val = val') (eq : post = post') : T P f args' pre' val' post' := by
 subst ea; subst ep; subst ev; subst eq; exact h
theorem T.val {P : Program} {f : FuncId} {args : List V} {pre : Heap} {val val' : V} {post : Heap} (h : T P f args pre val post) (ev : val = val') : T P f args pre val' post := by
 subst ev; exact h
theorem T.le {P : Program} {f : FuncId} {args : List V} {pre : Heap} {val val' : V} {post : Heap} {cs : List Prop} (h : T P f args pre val post) (hl : leV [] val val' = some cs) (hc : All cs) : T P f args pre val' post := by
 intro U ρ w xs hh ha hf
 refine Calls.mono (h U ρ w xs hh ha hf) ?_
 rintro e w' ⟨x, U', ρ', he, L⟩
 exact ⟨x, U', ρ', he, leV_ok (Imm.le_refl U') (fun n b hb => absurd hb List.not_mem_nil) _ _ _ _ hl hc L.val, L.heap, L.keep, L.only, L.ext⟩
theorem T.bool {P : Program} {f : FuncId} {args : List V} {pre : Heap} {b b' : Bool} {post : Heap} (h : T P f args pre (.bool b) post) (ev : b = b') : T P f args pre (.bool b') post := by
 subst ev; exact h
def z32 : List Int := [0, 0, 0, 0, 0, 0, 0, 0, 0, 0, 0, 0, 0, 0, 0, 0, 0, 0, 0, 0, 0, 0, 0, 0, 0, 0, 0, 0, 0, 0, 0, 0]
def z16 : List Int := [0, 0, 0, 0, 0, 0, 0, 0, 0, 0, 0, 0, 0, 0, 0, 0]
/-- What is so by itself. -/
abbrev q {α : Type} (a : α) : Prop := a = a
abbrev q0 : Prop := (0 : Nat) = 0
abbrev q1 : Prop := (0 : Int) = 0
abbrev q2 : Prop := true = true
end Sy
namespace Sy
open Go

variable {P : Program}
theorem sh_struct {d : Nat} {t : TypeId} {vs : List V} {fs : Array Field} (h : ShC P d t vs) (hu : P.underlying t = some (.struct fs)) : ∃ d', ShFs (ShC P d') fs.toList vs := by
 cases d with
 | zero => exact h.elim
 | succ d => rw [ShC, hu] at h; exact ⟨d, h⟩
theorem sh_slice {d : Nat} {t e : TypeId} {vs : List V} (h : ShC P d t vs) (hu : P.underlying t = some (.slice e)) : ∃ d' len f, vs = [.ros (P.cellsOf e) len f false] ∧ len ≤ maxLen ∧ ∀ i, i < len → ShC P d' e (f i) := by
 cases d with
 | zero => exact h.elim
 | succ d => rw [ShC, hu] at h; obtain ⟨len, f, h1, h2, h3⟩ := h; exact ⟨d, len, f, h1, h2, h3⟩
theorem sh_int {d : Nat} {t : TypeId} {vs : List V} {k : IntKind} (h : ShC P d t vs) (hu : P.underlying t = some (.int k)) : ∃ n, vs = [.int k n] ∧ InR k n := by
 cases d with
 | zero => exact h.elim
 | succ d => rw [ShC, hu] at h; exact h
theorem sh_bool {d : Nat} {t : TypeId} {vs : List V} (h : ShC P d t vs) (hu : P.underlying t = some .bool) : ∃ b, vs = [.bool b] := by
 cases d with
 | zero => exact h.elim
 | succ d => rw [ShC, hu] at h; exact h
theorem sh_str {d : Nat} {t : TypeId} {vs : List V} (h : ShC P d t vs) (hu : P.underlying t = some .string) : ∃ s : ByteArray, vs = [.str s] ∧ s.size ≤ maxLen := by
 cases d with
 | zero => exact h.elim
 | succ d => rw [ShC, hu] at h; exact h
theorem sh_arr {d : Nat} {t e : TypeId} {n : Nat} {k : IntKind} {vs : List V} (h : ShC P d t vs) (hu : P.underlying t = some (.array n e)) (he : P.underlying e = some (.int k)) : ∃ xs, vs = [.seg k n xs] ∧ xs.length = n ∧ ∀ x ∈ xs, InR k x := by
 cases d with
 | zero => exact h.elim
 | succ d =>
  rw [ShC, hu] at h
  obtain ⟨k', xs, h1, h2, h3, h4⟩ := h
  rw [he] at h1; cases h1
  exact ⟨xs, h2, h3, h4⟩

/-- What these cells are, those are too. -/
def CsLe (U : Imm) (a b : List V) : Prop := ∀ l, CsRel U Env.none a l → CsRel U Env.none b l
theorem CsLe.refl (U : Imm) (a : List V) : CsLe U a a := fun _ h => h
theorem CsLe.app {U : Imm} {a a' b b' : List V} (h1 : CsLe U a a') (h2 : CsLe U b b') : CsLe U (a ++ b) (a' ++ b') := fun l h => by
 obtain ⟨la, lb, rfl, h3, h4⟩ := CsRel_append.1 h
 exact CsRel_append.2 ⟨la, lb, rfl, h1 _ h3, h2 _ h4⟩
theorem VRel_ros {U : Imm} {ρ : Env} {es n : Nat} {f g : Nat → List V} {c : Bool} (h : ∀ i, i < n → CsLe U (f i) (g i)) {x : Value} (hx : VRel U ρ (.ros es n f c) x) : VRel U ρ (.ros es n g c) x := by
 rw [VRel] at hx ⊢
 obtain ⟨a, cp, h1, h2, h3, h4⟩ := hx
 refine ⟨a, cp, h1, h2, h3, fun i hi => ?_⟩
 obtain ⟨b, base, c0, g1, g2, l, g3, g4⟩ := h4 i hi
 exact ⟨b, base, c0, g1, g2, l, h i hi l g3, g4⟩
theorem CsLe.ros {U : Imm} {es n : Nat} {f g : Nat → List V} {c : Bool} (h : ∀ i, i < n → CsLe U (f i) (g i)) : CsLe U [.ros es n f c] [.ros es n g c] := fun l hl => by
 obtain ⟨x, r, rfl, h1, h2⟩ := (CsRel_one rfl).1 hl
 exact (CsRel_one rfl).2 ⟨x, r, rfl, VRel_ros h h1, h2⟩
/-- An argument that is one cell. -/
def oneT (P : Program) (t : TypeId) : Bool := match P.underlying t with
 | some .bool => true
 | some (.int _) => true
 | some .string => true
 | some (.slice _) => true
 | _ => false
theorem arg_one {W : World} {base : Nat} {t : TypeId} {v : Value} (h : Value.okWide P W .any base t v) (ho : oneT P t = true) : v.cells.toList = [v] := by
 unfold oneT at ho
 cases v <;> first | rfl | skip
 rename_i cs
 exfalso
 split at ho <;> first | (cases ho; done) | skip
 all_goals
  rename_i hu
  simp [Value.okWide, hu, Cell.okWide, Cell.ok] at h
theorem args_one {W : World} {base : Nat} {ps : Array TypeId} {args : Array Value} (hval : ∀ (j : Nat) t v, ps[j]? = some t → args[j]? = some v → Value.okWide P W .any base t v) {j : Nat} {t : TypeId} {v : Value} (h1 : ps[j]? = some t) (h2 : args[j]? = some v) (ho : oneT P t = true) : v.cells.toList = [v] :=
 arg_one (hval j t v h1 h2) ho
/-- An argument that is a struct. -/
theorem arg_struct {W : World} {base : Nat} {t : TypeId} {fs : Array Field} {v : Value} (h : Value.okWide P W .any base t v) (hu : P.underlying t = some (.struct fs)) : ∃ cs, v = .agg cs := by
 unfold Value.okWide at h
 rw [hu] at h
 obtain ⟨cs, h1, _⟩ := h
 exact ⟨cs, h1⟩
theorem args_struct {W : World} {base : Nat} {ps : Array TypeId} {args : Array Value} (hval : ∀ (j : Nat) t v, ps[j]? = some t → args[j]? = some v → Value.okWide P W .any base t v) {j : Nat} {t : TypeId} {fs : Array Field} {v : Value} (h1 : ps[j]? = some t) (h2 : args[j]? = some v) (hu : P.underlying t = some (.struct fs)) : ∃ cs, v = .agg cs :=
 arg_struct (hval j t v h1 h2) hu
theorem VRel_one {U : Imm} {u : V} {v : Value} (hu : u.cell = true) (hv : v.cells.toList = [v]) (h : CsRel U Env.none [u] v.cells.toList) : VRel U Env.none u v := by
 rw [hv] at h
 obtain ⟨x, l, h1, h2, h3⟩ := (CsRel_one hu).1 h
 cases h1
 exact h2
theorem VRel_agg {U : Imm} {vs : List V} {cs : Array Value} (h : CsRel U Env.none vs (Value.agg cs).cells.toList) : VRel U Env.none (.agg vs) (.agg cs) := by
 rw [VRel]; exact ⟨cs, rfl, h⟩
/-- Many at once. -/
theorem choose_fn {α : Type} [Inhabited α] {n : Nat} {p : Nat → α → Prop} (h : ∀ i, i < n → ∃ a, p i a) : ∃ f : Nat → α, ∀ i, i < n → p i (f i) := by
 classical
 refine ⟨fun i => if hi : i < n then Classical.choose (h i hi) else default, fun i hi => ?_⟩
 simp only [dif_pos hi]
 exact Classical.choose_spec (h i hi)
instance : Inhabited SSign := ⟨{}⟩
instance : Inhabited SReq := ⟨{}⟩
instance : Inhabited SRec := ⟨{}⟩
instance : Inhabited SHeld := ⟨{}⟩
instance : Inhabited SEnv := ⟨{}⟩
end Sy
namespace Sy
open Go

theorem first_bad (p : Nat → Prop) : ∀ n, (∀ k, k < n → p k) ∨ ∃ m, m < n ∧ (∀ k, k < m → p k) ∧ ¬ p m
 | 0 => .inl fun k h => absurd h (Nat.not_lt_zero k)
 | n + 1 => by
  rcases first_bad p n with h | ⟨m, h1, h2, h3⟩
  ·by_cases hp : p n
   ·exact .inl fun k hk => by
     rcases Nat.lt_or_ge k n with h1 | h1
     ·exact h k h1
     ·obtain rfl : k = n := by omega
      exact hp
   ·exact .inr ⟨n, Nat.lt_succ_self n, h, hp⟩
  ·exact .inr ⟨m, Nat.lt_succ_of_lt h1, h2, h3⟩
/-- A loop that goes on as long as something holds. -/
theorem loop_all {P : Program} {ro : Option Nat} {p : Nat} {c : Code} {I : Nat → St} {F : Nat → St} {e : Nat → Exit} {x : Exit} {G : St} {n : Nat} {q : Nat → Prop}
  (step : ∀ k, k < n → q k → R P ro p c (I k) .normal (I (k + 1))) (bad : ∀ k, k < n → ¬ q k → R P ro p c (I k) (e k) (F k)) (he : ∀ k, e k ≠ .normal) (out : R P ro p c (I n) x G) (hx : x ≠ .normal) :
  ((∀ k, k < n → q k) ∧ RLoop P ro p c (n + 1) (I 0) x G) ∨ ∃ m, m < n ∧ (∀ k, k < m → q k) ∧ ¬ q m ∧ RLoop P ro p c (m + 1) (I 0) (e m) (F m) := by
 rcases first_bad q n with h | ⟨m, h1, h2, h3⟩
 ·exact .inl ⟨h, RLoop.inv I n (fun k hk => step k hk (h k hk)) out hx⟩
 ·exact .inr ⟨m, h1, h2, h3, RLoop.inv I m (fun k hk => step k (by omega) (h2 k hk)) (bad m h1 h3) (he m)⟩
end Sy
namespace Sy
theorem neg_t {b : Bool} (h : b = true) : (!b) = false := by subst h; rfl
theorem neg_f {b : Bool} (h : ¬ b = true) : (!b) = true := by rw [Bool.eq_false_iff.mpr h]; rfl
theorem neg_f' {b : Bool} (h : b = false) : (!b) = true := by subst h; rfl
end Sy
namespace Sy
theorem not_t {b : Bool} (h : (!b) = true) : b = false := by cases b <;> simp_all
theorem not_f {b : Bool} (h : (!b) = false) : b = true := by cases b <;> simp_all
end Sy
namespace Sy
open Go
/-- What is known of the arguments may be more. -/
theorem T.args {P : Program} {f : FuncId} {args args' : List V} {pre : Heap} {val : V} {post : Heap} {cs : List Prop} (h : T P f args pre val post) (hl : leVs [] args' args = some cs) (hc : All cs) : T P f args' pre val post := by
 intro U ρ w xs hh ha hf
 exact h U ρ w xs hh (leVs_ok (Imm.le_refl U) (fun n b hb => absurd hb List.not_mem_nil) _ _ _ _ hl hc ha) hf
end Sy
namespace Sy
open Go
/-- What holds of what can't be turned holds of blocks that are lent: they stay as they are. -/
theorem T.lend {P : Program} {f : FuncId} {args args' : List V} {pre : Heap} {b : Bool} {cs : List Prop} (h : T P f args [] (.bool b) []) (hl : leVs pre args' args = some cs) (hc : All cs) : T P f args' pre (.bool b) pre := by
 intro U ρ w xs hh ha hf
 have hfU : ∀ n b l, (n, b) ∈ pre → ρ n = some l → l.real = true → U l.blk = none := fun n b l hm e hr => by
  obtain ⟨_, _, _, h⟩ := hh.real hm e hr; exact h
 have hU : U.le (freeze U ρ pre w) := fun k c e => by
  unfold freeze
  split
  ·rename_i hx
   obtain ⟨n, b, l, h1, h2, h3, rfl⟩ := hx
   rw [hfU n b l h1 h2 h3] at e; cases e
  ·exact e
 have hF : Frozen U (freeze U ρ pre w) ρ pre := fun n b hm l e hr => by
  have hex : ∃ n b l', (n, b) ∈ pre ∧ ρ n = some l' ∧ l'.real = true ∧ l'.blk = l.blk := ⟨n, b, l, hm, e, hr, rfl⟩
  obtain ⟨o, h1, h2, h3⟩ := hh.real hm e hr
  constructor
  ·rintro cs rfl
   obtain ⟨c, el, lo, hi, rfl, _, _, h4⟩ := h2
   exact ⟨c, by unfold freeze; rw [if_pos hex, h1], h4⟩
  ·rintro es m f g rfl
   obtain ⟨c, el, lo, hi, rfl, _, _, _, _, h4⟩ := h2
   exact ⟨c, by unfold freeze; rw [if_pos hex, h1], h4⟩
 have h0 : HRel (freeze U ρ pre w) ρ [] w := by
  refine ⟨fun n b hm => absurd hm List.not_mem_nil, fun n b n' b' l l' hm => absurd hm List.not_mem_nil, List.nodup_nil, fun k c hk => ?_⟩
  unfold freeze at hk
  split at hk
  ·split at hk
   ·rename_i c' el fr hx
    simp only [Option.some.injEq] at hk; subst hk
    exact ⟨el, fr, hx⟩
   ·cases hk
  ·exact hh.imm k c hk
 refine Calls.mono (h _ ρ w xs h0 (leVs_ok hU hF _ _ _ _ hl hc ha) fun n ⟨b, hb⟩ => absurd hb List.not_mem_nil) ?_
 rintro e w' ⟨x, U', ρ', he, L⟩
 have hx : x = .bool b := by have := L.val; rwa [VRel] at this
 have hk : ∀ k, k < w.heap.size → w'.heap[k]? = w.heap[k]? := fun k hk => L.ext.frame k hk fun n l ⟨b, hb⟩ => absurd hb List.not_mem_nil
 refine ⟨x, U, ρ, he, ⟨by rw [VRel]; exact hx, ⟨fun n b hm => ?_, hh.inj, hh.nd, fun k c e => ?_⟩, fun n l _ e => e, fun n l e => .inr e, ⟨L.ext.size, Imm.le_refl _, fun k hk' _ => hk k hk', fun n l hd e hr => .inr ⟨n, l, hd, e, hr, rfl⟩, fun b c e => .inl e, L.ext.out⟩⟩⟩
 ·obtain ⟨l, g1, g2⟩ := hh.blk n b hm
  refine ⟨l, g1, ?_⟩
  rcases g2 with ⟨hr, o, g3, g4⟩ | g2
  ·exact .inl ⟨hr, o, by rw [hk _ (lt_size g3)]; exact g3, g4⟩
  ·exact .inr g2
 ·obtain ⟨el, fr, g⟩ := hh.imm k c e
  exact ⟨el, fr, by rw [hk _ (lt_size g)]; exact g⟩
/-- A value that says the same whatever can't be turned. -/
def FreeV (v : V) : Prop := ∀ U U' ρ x, VRel U ρ v x → VRel U' ρ v x
def FreeB (b : B) : Prop := ∀ U U' ρ sz o, BRel U ρ sz b o → BRel U' ρ sz b o
theorem FreeV.int (k : IntKind) (n : Int) : FreeV (.int k n) := fun _ _ _ _ h => by rw [VRel] at h ⊢; exact h
theorem FreeV.bool (b : Bool) : FreeV (.bool b) := fun _ _ _ _ h => by rw [VRel] at h ⊢; exact h
theorem FreeV.snil : FreeV .snil := fun _ _ _ _ h => by rw [VRel] at h ⊢; exact h
theorem FreeV.sl (n : Nm) (es i o j len : Nat) (cap : Option Nat) : FreeV (.sl n es i o j len cap) := fun _ _ _ _ h => by rw [VRel] at h ⊢; exact h
theorem FreeV.ptr (n : Nm) (es i o j : Nat) : FreeV (.ptr n es i o j) := fun _ _ _ _ h => by rw [VRel] at h ⊢; exact h
theorem FreeB.ints {n : Nat} {f : Nat → Int} {g : Bool} : FreeB (.rows 1 n (fun i => [.int .i64 (f i)]) g) := fun U U' ρ sz o h => by
 obtain ⟨c, el, lo, hi, h1, h2, h3, h4, h5, h6⟩ := h
 refine ⟨c, el, lo, hi, h1, h2, h3, h4, h5, fun i hi' => ?_⟩
 obtain ⟨r, h7, h8, h9⟩ := h6 i hi'
 refine ⟨r, ?_, h8, h9⟩
 obtain ⟨x, t, rfl, hx, ht⟩ := (CsRel_one rfl).1 h7
 refine (CsRel_one rfl).2 ⟨x, t, rfl, FreeV.int _ _ _ _ _ _ hx, ?_⟩
 rw [CsRel] at ht ⊢; exact ht
/-- Blocks lent to a call that makes blocks of its own. -/
theorem T.lendG {P : Program} {f : FuncId} {args args' : List V} {pre post : Heap} {val : V} {cs : List Prop} (h : T P f args [] val post) (hl : leVs pre args' args = some cs) (hc : All cs)
  (hv : FreeV val) (hp : ∀ q ∈ post, FreeB q.2) (hd : ∀ n, Heap.dom post n → ¬ Heap.dom pre n) : T P f args' pre val (post ++ pre) := by
 intro U ρ w xs hh ha hf
 have hfU : ∀ n b l, (n, b) ∈ pre → ρ n = some l → l.real = true → U l.blk = none := fun n b l hm e hr => by
  obtain ⟨_, _, _, h⟩ := hh.real hm e hr; exact h
 have hU : U.le (freeze U ρ pre w) := fun k c e => by
  unfold freeze
  split
  ·rename_i hx
   obtain ⟨n, b, l, h1, h2, h3, rfl⟩ := hx
   rw [hfU n b l h1 h2 h3] at e; cases e
  ·exact e
 have hF : Frozen U (freeze U ρ pre w) ρ pre := fun n b hm l e hr => by
  have hex : ∃ n b l', (n, b) ∈ pre ∧ ρ n = some l' ∧ l'.real = true ∧ l'.blk = l.blk := ⟨n, b, l, hm, e, hr, rfl⟩
  obtain ⟨o, h1, h2, h3⟩ := hh.real hm e hr
  constructor
  ·rintro cs rfl
   obtain ⟨c, el, lo, hi, rfl, _, _, h4⟩ := h2
   exact ⟨c, by unfold freeze; rw [if_pos hex, h1], h4⟩
  ·rintro es m f g rfl
   obtain ⟨c, el, lo, hi, rfl, _, _, _, _, h4⟩ := h2
   exact ⟨c, by unfold freeze; rw [if_pos hex, h1], h4⟩
 have h0 : HRel (freeze U ρ pre w) ρ [] w := by
  refine ⟨fun n b hm => absurd hm List.not_mem_nil, fun n b n' b' l l' hm => absurd hm List.not_mem_nil, List.nodup_nil, fun k c hk => ?_⟩
  unfold freeze at hk
  split at hk
  ·split at hk
   ·rename_i c' el fr hx
    simp only [Option.some.injEq] at hk; subst hk
    exact ⟨el, fr, hx⟩
   ·cases hk
  ·exact hh.imm k c hk
 have hnone : ∀ n, Heap.dom post n → ρ n = none := fun n hn => (hf n (dom_append.2 (.inl hn))).resolve_left (hd n hn)
 refine Calls.mono (h _ ρ w xs h0 (leVs_ok hU hF _ _ _ _ hl hc ha) fun n hn => .inr (hnone n hn)) ?_
 rintro e w' ⟨x, U', ρ', he, L⟩
 have hk : ∀ k, k < w.heap.size → w'.heap[k]? = w.heap[k]? := fun k hk => L.ext.frame k hk fun n l ⟨b, hb⟩ => absurd hb List.not_mem_nil
 have hUU : U.le U' := Imm.le_trans hU L.ext.imm
 have hpp : ∀ n, post.dom n → Env.both post ρ' ρ n = ρ' n := fun n h => by simp [Env.both, h]
 have hqq : ∀ n, ¬ post.dom n → Env.both post ρ' ρ n = ρ n := fun n h => by simp [Env.both, h]
 have hle' : ρ'.le (Env.both post ρ' ρ) := fun n l e => by
  by_cases h : post.dom n
  ·rw [hpp n h]; exact e
  ·rw [hqq n h]; exact (L.only n l e).resolve_left h
 have hle : ρ.le (Env.both post ρ' ρ) := fun n l e => by
  by_cases h : post.dom n
  ·rw [hnone n h] at e; cases e
  ·rw [hqq n h]; exact e
 have hnp : ∀ n, Heap.dom pre n → ¬ Heap.dom post n := fun n h h' => hd n h' h
 have hnew : ∀ n b l, (n, b) ∈ post → ρ' n = some l → l.real = true → w.heap.size ≤ l.blk := fun n b l hm e hr => by
  rcases L.ext.new n l ⟨b, hm⟩ e hr with h | ⟨n0, _, ⟨b0, hb0⟩, _⟩
  ·exact h
  ·exact absurd hb0 List.not_mem_nil
 have hold : ∀ n b l, (n, b) ∈ pre → ρ n = some l → l.real = true → l.blk < w.heap.size := fun n b l hm e hr => by
  obtain ⟨o, h1, _⟩ := hh.real hm e hr; exact lt_size h1
 refine ⟨x, U, Env.both post ρ' ρ, he, ⟨VRel.mono (Imm.le_refl _) hle' (hv _ _ _ _ L.val), ⟨fun n b hm => ?_, fun n b n' b' l l' m m' e1 e2 r1 r2 e3 => ?_, ?_, fun k c e => ?_⟩, fun n l hn e => ?_, fun n l e => ?_,
  ⟨L.ext.size, Imm.le_refl _, fun k hk' _ => hk k hk', fun n l hn e hr => ?_, fun b c e => .inl e, L.ext.out⟩⟩⟩
 ·rcases List.mem_append.1 hm with hm | hm
  ·obtain ⟨l, g1, g2⟩ := L.heap.blk n b hm
   refine ⟨l, by rw [hpp n ⟨b, hm⟩]; exact g1, ?_⟩
   rcases g2 with ⟨hr, o, g3, g4, g5⟩ | g2
   ·refine .inl ⟨hr, o, g3, BRel.mono (Imm.le_refl _) hle' (hp _ hm _ U _ _ _ g4), ?_⟩
    cases hUl : U l.blk with
    | none => rfl
    | some c => rw [hUU _ _ hUl] at g5; cases g5
   ·exact .inr g2
  ·obtain ⟨l, g1, g2⟩ := hh.blk n b hm
   refine ⟨l, by rw [hqq n (hnp n ⟨b, hm⟩)]; exact g1, ?_⟩
   rcases g2 with ⟨hr, o, g3, g4, g5⟩ | g2
   ·exact .inl ⟨hr, o, by rw [hk _ (lt_size g3)]; exact g3, BRel.mono (Imm.le_refl _) hle g4, g5⟩
   ·exact .inr g2
 ·rcases List.mem_append.1 m with m | m <;> rcases List.mem_append.1 m' with m' | m'
  ·rw [hpp n ⟨b, m⟩] at e1; rw [hpp n' ⟨b', m'⟩] at e2
   exact L.heap.inj n b n' b' l l' m m' e1 e2 r1 r2 e3
  ·rw [hpp n ⟨b, m⟩] at e1; rw [hqq n' (hnp n' ⟨b', m'⟩)] at e2
   have h1 := hnew n b l m e1 r1; have h2 := hold n' b' l' m' e2 r2; omega
  ·rw [hqq n (hnp n ⟨b, m⟩)] at e1; rw [hpp n' ⟨b', m'⟩] at e2
   have h1 := hnew n' b' l' m' e2 r2; have h2 := hold n b l m e1 r1; omega
  ·rw [hqq n (hnp n ⟨b, m⟩)] at e1; rw [hqq n' (hnp n' ⟨b', m'⟩)] at e2
   exact hh.inj n b n' b' l l' m m' e1 e2 r1 r2 e3
 ·rw [List.map_append, List.nodup_append]
  refine ⟨L.heap.nd, hh.nd, fun n hn n' hn' e => ?_⟩
  subst e
  obtain ⟨⟨_, b⟩, hb, rfl⟩ := List.mem_map.1 hn
  obtain ⟨⟨m, b'⟩, hb', e⟩ := List.mem_map.1 hn'
  cases e
  exact hd _ ⟨b, hb⟩ ⟨b', hb'⟩
 ·obtain ⟨el, fr, g⟩ := hh.imm k c e
  exact ⟨el, fr, by rw [hk _ (lt_size g)]; exact g⟩
 ·exact hle n l e
 ·by_cases h : post.dom n
  ·exact .inl (dom_append.2 (.inl h))
  ·rw [hqq n h] at e; exact .inr e
 ·rcases dom_append.1 hn with ⟨b, hb⟩ | ⟨b, hb⟩
  ·rw [hpp n ⟨b, hb⟩] at e
   exact .inl (hnew n b l hb e hr)
  ·rw [hqq n (hnp n ⟨b, hb⟩)] at e
   exact .inr ⟨n, l, ⟨b, hb⟩, e, hr, rfl⟩
/-- Blocks as they lie, taken for weaker ones. -/
def leHs (dr : Heap) : Heap → Heap → Option (List Prop)
 | [], h => match h with
  | [] => some []
  | _ => none
 | p :: r, h => match h with
  | [] => none
  | q :: s => bif p.1.beq q.1 then match leB dr p.2 q.2 with
   | some c1 => match leHs dr r s with
    | some c2 => some (c1 ++ c2)
    | none => none
   | none => none
   else none
theorem leHs_ok {dr : Heap} : ∀ {h h' : Heap} {cs : List Prop}, leHs dr h h' = some cs → All cs → (h.map Prod.fst = h'.map Prod.fst) ∧ ∀ n b', (n, b') ∈ h' → ∃ b c, (n, b) ∈ h ∧ leB dr b b' = some c ∧ All c
 | [], h', cs, h, hc => by
  unfold leHs at h
  cases h' with
  | nil => exact ⟨rfl, fun n b' hm => absurd hm List.not_mem_nil⟩
  | cons q s => cases h
 | p :: r, h', cs, h, hc => by
  unfold leHs at h
  cases h' with
  | nil => cases h
  | cons q s =>
   simp only at h
   cases hn : p.1.beq q.1 <;> simp only [hn, cond_true, cond_false, reduceCtorEq] at h
   have e := Nm.beq_iff.1 hn
   cases h1 : leB dr p.2 q.2 with
   | none => simp [h1] at h
   | some c1 =>
    simp only [h1] at h
    cases h2 : leHs dr r s with
    | none => simp [h2] at h
    | some c2 =>
     simp only [h2, Option.some.injEq] at h
     subst h
     obtain ⟨k1, k2⟩ := All_append.1 hc
     obtain ⟨g1, g2⟩ := leHs_ok h2 k2
     refine ⟨by rw [List.map_cons, List.map_cons, e, g1], fun n b' hm => ?_⟩
     rcases List.mem_cons.1 hm with hm | hm
     ·refine ⟨p.2, c1, ?_, by rw [← h1, ← hm], k1⟩
      have : n = p.1 := by rw [e, ← hm]
      rw [this]; exact List.mem_cons_self ..
     ·obtain ⟨b, c, m1, m2, m3⟩ := g2 n b' hm
      exact ⟨b, c, List.mem_cons_of_mem _ m1, m2, m3⟩
theorem dom_map {h : Heap} {n : Nm} : h.dom n ↔ n ∈ h.map Prod.fst := by
 constructor
 ·rintro ⟨b, hb⟩; exact List.mem_map.2 ⟨_, hb, rfl⟩
 ·intro hm
  obtain ⟨⟨_, b⟩, hb, rfl⟩ := List.mem_map.1 hm
  exact ⟨b, hb⟩
/-- Blocks lent to a call that turns others. -/
theorem T.lendH {P : Program} {f : FuncId} {args args' : List V} {pre0 pre0' pre1 post : Heap} {val : V} {cs cs2 : List Prop} (h : T P f args pre0 val post) (hl : leVs pre1 args' args = some cs) (hc : All cs)
  (hb : leHs pre1 pre0' pre0 = some cs2) (hc2 : All cs2) (hv : FreeV val) (hp : ∀ q ∈ post, FreeB q.2) (hd : ∀ n, Heap.dom post n → ¬ Heap.dom pre1 n) : T P f args' (pre0' ++ pre1) val (post ++ pre1) := by
 intro U ρ w xs hh ha hf
 obtain ⟨en, eb⟩ := leHs_ok hb hc2
 have hdm : ∀ n, Heap.dom pre0 n ↔ Heap.dom pre0' n := fun n => by rw [dom_map, dom_map, en]
 have hhl := hh.left
 have hhr := hh.right
 have hdis : ∀ n, Heap.dom pre0' n → ¬ Heap.dom pre1 n := fun n h1 h2 => by
  have := hh.nd
  rw [List.map_append, List.nodup_append] at this
  exact this.2.2 n (dom_map.1 h1) n (dom_map.1 h2) rfl
 have hfU : ∀ n b l, (n, b) ∈ pre1 → ρ n = some l → l.real = true → U l.blk = none := fun n b l hm e hr => by
  obtain ⟨_, _, _, h⟩ := hhr.real hm e hr; exact h
 have hU : U.le (freeze U ρ pre1 w) := fun k c e => by
  unfold freeze
  split
  ·rename_i hx
   obtain ⟨n, b, l, h1, h2, h3, rfl⟩ := hx
   rw [hfU n b l h1 h2 h3] at e; cases e
  ·exact e
 have hF : Frozen U (freeze U ρ pre1 w) ρ pre1 := fun n b hm l e hr => by
  have hex : ∃ n b l', (n, b) ∈ pre1 ∧ ρ n = some l' ∧ l'.real = true ∧ l'.blk = l.blk := ⟨n, b, l, hm, e, hr, rfl⟩
  obtain ⟨o, h1, h2, h3⟩ := hhr.real hm e hr
  constructor
  ·rintro cs rfl
   obtain ⟨c, el, lo, hi, rfl, _, _, h4⟩ := h2
   exact ⟨c, by unfold freeze; rw [if_pos hex, h1], h4⟩
  ·rintro es m f g rfl
   obtain ⟨c, el, lo, hi, rfl, _, _, _, _, h4⟩ := h2
   exact ⟨c, by unfold freeze; rw [if_pos hex, h1], h4⟩
 have h0 : HRel (freeze U ρ pre1 w) ρ pre0 w := by
  refine ⟨fun n b' hm => ?_, fun n b n' b' l l' m m' => ?_, by rw [← en]; exact hhl.nd, fun k c hk => ?_⟩
  ·obtain ⟨b, c, m1, m2, m3⟩ := eb n b' hm
   obtain ⟨l, g1, g2⟩ := hhl.blk n b m1
   refine ⟨l, g1, ?_⟩
   rcases g2 with ⟨hr, o, g3, g4, g5⟩ | ⟨hr, es, f0, rfl⟩
   ·refine .inl ⟨hr, o, g3, leB_ok hU hF m2 m3 g4, ?_⟩
    unfold freeze
    rw [if_neg]
    ·exact g5
    ·rintro ⟨n1, b1, l1, k1, k2, k3, k4⟩
     have := hh.inj n b n1 b1 l l1 (List.mem_append_left _ m1) (List.mem_append_right _ k1) g1 k2 hr k3 k4.symm
     subst this
     exact hdis n ⟨b, m1⟩ ⟨b1, k1⟩
   ·refine .inr ⟨hr, ?_⟩
    cases b' <;> simp only [leB, reduceCtorEq] at m2
    rename_i es' n' f' g'
    cases hes : Nat.beq es es' <;> simp only [hes, cond_true, cond_false, reduceCtorEq, Option.some.injEq] at m2
    subst m2
    obtain ⟨q1, _, q3, _⟩ := m3
    subst q1
    cases g' with
    | true => exact ⟨es', f', rfl⟩
    | false => exact absurd (q3 rfl) (by decide)
  ·obtain ⟨b0, c0, m0, _⟩ := eb n b m
   obtain ⟨b1, c1, m1, _⟩ := eb n' b' m'
   exact hhl.inj n b0 n' b1 l l' m0 m1
  ·unfold freeze at hk
   split at hk
   ·split at hk
    ·rename_i c' el fr hx
     simp only [Option.some.injEq] at hk; subst hk
     exact ⟨el, fr, hx⟩
    ·cases hk
   ·exact hh.imm k c hk
 have hnone : ∀ n, Heap.dom post n → Heap.dom pre0 n ∨ ρ n = none := fun n hn => by
  rcases hf n (dom_append.2 (.inl hn)) with h1 | h1
  ·rcases dom_append.1 h1 with h1 | h1
   ·exact .inl ((hdm n).2 h1)
   ·exact absurd h1 (hd n hn)
  ·exact .inr h1
 refine Calls.mono (h _ ρ w xs h0 (leVs_ok hU hF _ _ _ _ hl hc ha) hnone) ?_
 rintro e w' ⟨x, U', ρ', he, L⟩
 have hold : ∀ n b l, (n, b) ∈ pre1 → ρ n = some l → l.real = true → l.blk < w.heap.size := fun n b l hm e hr => by
  obtain ⟨o, h1, _⟩ := hhr.real hm e hr; exact lt_size h1
 have hk1 : ∀ n b l, (n, b) ∈ pre1 → ρ n = some l → l.real = true → w'.heap[l.blk]? = w.heap[l.blk]? := fun n b l hm e hr => by
  refine L.ext.frame _ (hold n b l hm e hr) fun n0 l0 hd0 e0 hr0 he0 => ?_
  obtain ⟨b0, hb0⟩ := (hdm n0).1 hd0
  have := hh.inj n0 b0 n b l0 l (List.mem_append_left _ hb0) (List.mem_append_right _ hm) e0 e hr0 hr he0
  subst this
  exact hdis n0 ⟨b0, hb0⟩ ⟨b, hm⟩
 have hUU : U.le U' := Imm.le_trans hU L.ext.imm
 have hpp : ∀ n, post.dom n → Env.both post ρ' ρ n = ρ' n := fun n h => by simp [Env.both, h]
 have hqq : ∀ n, ¬ post.dom n → Env.both post ρ' ρ n = ρ n := fun n h => by simp [Env.both, h]
 have hle' : ρ'.le (Env.both post ρ' ρ) := fun n l e => by
  by_cases h : post.dom n
  ·rw [hpp n h]; exact e
  ·rw [hqq n h]; exact (L.only n l e).resolve_left h
 have hle : ρ.le (Env.both post ρ' ρ) := fun n l e => by
  by_cases h : post.dom n
  ·rw [hpp n h]; exact L.keep n l h e
  ·rw [hqq n h]; exact e
 have hnp : ∀ n, Heap.dom pre1 n → ¬ Heap.dom post n := fun n h h' => hd n h' h
 have cross : ∀ n b n' b' l l', (n, b) ∈ post → (n', b') ∈ pre1 → ρ' n = some l → ρ n' = some l' → l.real = true → l'.real = true → l.blk = l'.blk → False := fun n b n' b' l l' m m' e1 e2 r1 r2 e3 => by
  rcases L.ext.new n l ⟨b, m⟩ e1 r1 with h | ⟨n0, l0, hd0, e0, hr0, he0⟩
  ·have := hold n' b' l' m' e2 r2; omega
  ·obtain ⟨b0, hb0⟩ := (hdm n0).1 hd0
   have := hh.inj n0 b0 n' b' l0 l' (List.mem_append_left _ hb0) (List.mem_append_right _ m') e0 e2 hr0 r2 (he0.trans e3)
   subst this
   exact hdis n0 ⟨b0, hb0⟩ ⟨b', m'⟩
 refine ⟨x, U, Env.both post ρ' ρ, he, ⟨VRel.mono (Imm.le_refl _) hle' (hv _ _ _ _ L.val), ⟨fun n b hm => ?_, fun n b n' b' l l' m m' e1 e2 r1 r2 e3 => ?_, ?_, fun k c e => ?_⟩, fun n l hn e => ?_, fun n l e => ?_,
  ⟨L.ext.size, Imm.le_refl _, fun k hk' hk2 => L.ext.frame k hk' fun n l hd0 e hr => hk2 n l (dom_append.2 (.inl ((hdm n).1 hd0))) e hr, fun n l hn e hr => ?_, fun b c e => .inl e, L.ext.out⟩⟩⟩
 ·rcases List.mem_append.1 hm with hm | hm
  ·obtain ⟨l, g1, g2⟩ := L.heap.blk n b hm
   refine ⟨l, by rw [hpp n ⟨b, hm⟩]; exact g1, ?_⟩
   rcases g2 with ⟨hr, o, g3, g4, g5⟩ | g2
   ·refine .inl ⟨hr, o, g3, BRel.mono (Imm.le_refl _) hle' (hp _ hm _ U _ _ _ g4), ?_⟩
    cases hUl : U l.blk with
    | none => rfl
    | some c => rw [hUU _ _ hUl] at g5; cases g5
   ·exact .inr g2
  ·obtain ⟨l, g1, g2⟩ := hhr.blk n b hm
   refine ⟨l, by rw [hqq n (hnp n ⟨b, hm⟩)]; exact g1, ?_⟩
   rcases g2 with ⟨hr, o, g3, g4, g5⟩ | g2
   ·exact .inl ⟨hr, o, by rw [hk1 n b l hm g1 hr]; exact g3, BRel.mono (Imm.le_refl _) hle g4, g5⟩
   ·exact .inr g2
 ·rcases List.mem_append.1 m with m | m <;> rcases List.mem_append.1 m' with m' | m'
  ·rw [hpp n ⟨b, m⟩] at e1; rw [hpp n' ⟨b', m'⟩] at e2
   exact L.heap.inj n b n' b' l l' m m' e1 e2 r1 r2 e3
  ·rw [hpp n ⟨b, m⟩] at e1; rw [hqq n' (hnp n' ⟨b', m'⟩)] at e2
   exact (cross n b n' b' l l' m m' e1 e2 r1 r2 e3).elim
  ·rw [hqq n (hnp n ⟨b, m⟩)] at e1; rw [hpp n' ⟨b', m'⟩] at e2
   exact (cross n' b' n b l' l m' m e2 e1 r2 r1 e3.symm).elim
  ·rw [hqq n (hnp n ⟨b, m⟩)] at e1; rw [hqq n' (hnp n' ⟨b', m'⟩)] at e2
   exact hhr.inj n b n' b' l l' m m' e1 e2 r1 r2 e3
 ·rw [List.map_append, List.nodup_append]
  refine ⟨L.heap.nd, hhr.nd, fun n hn n' hn' e => ?_⟩
  subst e
  exact hd _ (dom_map.2 hn) (dom_map.2 hn')
 ·obtain ⟨el, fr, g⟩ := L.heap.imm k c (hUU k c e)
  exact ⟨el, fr, g⟩
 ·exact hle n l e
 ·by_cases h : post.dom n
  ·exact .inl (dom_append.2 (.inl h))
  ·rw [hqq n h] at e; exact .inr e
 ·rcases dom_append.1 hn with ⟨b, hb⟩ | ⟨b, hb⟩
  ·rw [hpp n ⟨b, hb⟩] at e
   rcases L.ext.new n l ⟨b, hb⟩ e hr with h | ⟨n0, l0, hd0, h2⟩
   ·exact .inl h
   ·exact .inr ⟨n0, l0, dom_append.2 (.inl ((hdm n0).1 hd0)), h2⟩
  ·rw [hqq n (hnp n ⟨b, hb⟩)] at e
   exact .inr ⟨n, l, dom_append.2 (.inr ⟨b, hb⟩), e, hr, rfl⟩
theorem FreeB.cells {cs : List V} (h : ∀ U U' ρ x, CsRel U ρ cs x → CsRel U' ρ cs x) : FreeB (.flat cs) := fun U U' ρ sz o hb => by
 obtain ⟨c, el, lo, hi, h1, h2, h3, h4⟩ := hb
 exact ⟨c, el, lo, hi, h1, h2, h3, h _ _ _ _ h4⟩
theorem FreeV.tup0 : FreeV (.tup []) := fun U U' ρ x h => by
 rw [VRel] at h ⊢
 obtain ⟨l, rfl, h⟩ := h
 exact ⟨l, rfl, by rw [VsRel] at h ⊢; exact h⟩
/-- Cells of numbers and such say the same whatever can't be turned. -/
def V.fre : V → Bool
 | .seg .. | .int .. | .bool _ | .sl .. | .ptr .. | .str _ | .mp _ | .mpnil | .snil | .pnil => true
 | _ => false
def freeC : List V → Bool
 | [] => true
 | v :: r => v.fre && freeC r
theorem freeC_ok : ∀ {cs : List V}, freeC cs = true → ∀ U U' ρ x, CsRel U ρ cs x → CsRel U' ρ cs x
 | [], _, U, U', ρ, x, h => by rw [CsRel] at h ⊢; exact h
 | v :: r, hf, U, U', ρ, x, h => by
  rw [freeC, Bool.and_eq_true] at hf
  rw [CsRel] at h ⊢
  obtain ⟨l1, l2, rfl, h1, h2⟩ := h
  refine ⟨l1, l2, rfl, ?_, freeC_ok hf.2 _ _ _ _ h2⟩
  rcases h1 with h1 | ⟨hc, y, rfl, hy⟩
  ·exact .inl h1
  ·refine .inr ⟨hc, y, rfl, ?_⟩
   cases v <;> first
    | (rw [VRel] at hy ⊢; exact hy)
    | exact absurd hf.1 (by simp [V.fre])
theorem FreeB.flat {cs : List V} (h : freeC cs = true) : FreeB (.flat cs) := FreeB.cells (freeC_ok h)
theorem FreeV.agg {cs : List V} (h : freeC cs = true) : FreeV (.agg cs) := fun U U' ρ x hx => by
 rw [VRel] at hx ⊢
 obtain ⟨l, rfl, h1⟩ := hx
 exact ⟨l, rfl, freeC_ok h _ _ _ _ h1⟩
end Sy
namespace Go.Proofs.Ytpallipnhmoipaa
open Go Sy Go.Proofs
theorem MO : Try.prog.follows .mixedOrders = true := by kernel_rfl
def ngB (P : Program) : Bool := P.funcs.toList.all fun fn => !fn.body.isSome || !(fn.name == "runtime.NumGoroutine")
theorem NG_of {P : Program} (h : ngB P = true) : NoNG P := by
 intro f fn hf hb
 have := List.all_eq_true.1 h fn (by
  rw [← Array.getElem?_toList] at hf
  exact List.mem_of_getElem? hf)
 rw [hb] at this; simpa using this
theorem NG : NoNG Try.prog := NG_of (by kernel_rfl)
theorem T_al {f : FuncId} {b : Bd} {path : List Bool} {val : V} {post : Heap} {cs : List Prop} (h : along Try.prog b path = some (val, post, cs)) (hf : Try.prog.funcs[f]? = some b.f) (hc : All cs) (hb : b.f.body = some (bodyOf b.f) := by kernel_rfl) (hpin : PinH b.base b.pre := by exact pinH_ok (by kernel_rfl)) (hargs : V.withins (Nm.pin b.base) b.args = true := by kernel_rfl) : T Try.prog f b.args b.pre val post :=
 T_along NG MO path h hf hb hc hpin hargs
def kb0 : Kb := { db := fun _ _ _ _ => [] }
/-- What called functions give, by their numbers. -/
def lookF : List (Nat × (List V → Heap → Nat → List Cl)) → Nat → Option (List V → Heap → Nat → List Cl)
 | [], _ => none
 | p :: r, k => bif Nat.beq p.1 k then some p.2 else lookF r k
def dbQ (l : List (Nat × (List V → Heap → Nat → List Cl))) : Nat → List V → Heap → Nat → List Cl := fun k args h lo => match lookF l k with
 | some f => f args h lo
 | none => []
def cVal (v : V) : List V → Heap → Nat → List Cl := fun _ _ _ => [{ val := v }]
theorem exists_perm : ∀ (l l' : List Nm), l.Nodup → l'.Nodup → l.length = l'.length → ∃ σ τ : Nm → Nm, (∀ n, σ (τ n) = n) ∧ (∀ n, τ (σ n) = n) ∧ l.map σ = l'
 | [], [], _, _, _ => ⟨id, id, fun _ => rfl, fun _ => rfl, rfl⟩
 | a :: l, a' :: l', h, h', hl => by
  rw [List.nodup_cons] at h h'
  obtain ⟨σ, τ, h1, h2, h3⟩ := exists_perm l l' h.2 h'.2 (by simpa using hl)
  refine ⟨fun n => Nm.swap (σ a) a' (σ n), fun n => τ (Nm.swap (σ a) a' n), fun n => by simp only [h1, Nm.swap_swap], fun n => by simp only [Nm.swap_swap, h2], ?_⟩
  rw [List.map_cons]
  congr 1
  ·simp [Nm.swap]
  ·rw [← h3]
   apply List.map_congr_left
   intro x hx
   have e1 : σ x ≠ σ a := fun e => h.1 (by have := congrArg τ e; rw [h2, h2] at this; exact this ▸ hx)
   have e2 : σ x ≠ a' := fun e => h'.1 (by rw [← h3, ← e]; exact List.mem_map_of_mem hx)
   simp [Nm.swap, e1, e2]
/-- A contract under other names. -/
theorem T.at {P : Program} {f : FuncId} {args : List V} {pre : Heap} {val : V} {post : Heap} (H : T P f args pre val post) (l l' : List Nm) (h : l.Nodup) (h' : l'.Nodup) (hl : l.length = l'.length) :
  ∃ σ : Nm → Nm, l.map σ = l' ∧ T P f (V.rens σ args) (pre.ren σ) (V.ren σ val) (post.ren σ) := by
 obtain ⟨σ, τ, h1, h2, h3⟩ := exists_perm l l' h h' hl
 exact ⟨σ, h3, T.ren σ τ h1 h2 H⟩
/-- The block that a value names. -/
def nmV : V → Nm
 | .ptr n _ _ _ _ => n
 | .sl n _ _ _ _ _ _ => n
 | _ => .g 0
end Go.Proofs.Ytpallipnhmoipaa
namespace Sy
open Go Go.Lib
variable {P : Program}

/-- A function for which the model stands in. -/
theorem TV_extern {f : FuncId} {e : Array Value → Sem Value} {b args : List V} {pre post : Heap} {val : V}
  (hx : ∀ zs w, (callFunc f zs).run P w = ((e zs).run P w).andThen fun v w' => .ok (.value v) w')
  (h : ∀ U ρ (w : World) (xs m : Array Value), HRel U ρ pre w → VsRel U ρ args xs.toList → VsRel U ρ b m.toList → (∀ n, Heap.dom post n → Heap.dom pre n ∨ ρ n = none) →
   ∃ y w' U' ρ', (e (xs ++ m)).run P w = .ok y w' ∧ Leaves U ρ pre w val post y U' ρ' w') : TV P (.fn (.func f) [] b) args pre val post := by
 intro U ρ w x xs hh hv ha hf
 rw [VRel] at hv
 obtain ⟨l, m, rfl, h1, h2⟩ := hv
 rw [VsRel] at h1
 have hl : l = #[] := by apply Array.ext'; simpa using h1
 subst hl
 obtain ⟨y, w', U', ρ', g1, g2⟩ := h U ρ w xs m hh ha h2 hf
 simp only [Deferred.ofValue, Sem.run_bind, Sem.run_pure, Result.andThen_ok, invoke]
 rw [show (#[] : Array Value) ++ xs ++ m = xs ++ m by simp, hx, g1]
 exact ⟨U', ρ', g2⟩

theorem VsRel_1 {U : Imm} {ρ : Env} {v : V} {l : Array Value} (h : VsRel U ρ [v] l.toList) : ∃ x, l = #[x] ∧ VRel U ρ v x := by
 rw [VsRel] at h
 obtain ⟨x, r, e, h1, h2⟩ := h
 rw [VsRel] at h2
 subst h2
 exact ⟨x, by apply Array.ext'; simpa using e, h1⟩
theorem VsRel_2 {U : Imm} {ρ : Env} {u v : V} {l : Array Value} (h : VsRel U ρ [u, v] l.toList) : ∃ x y, l = #[x, y] ∧ VRel U ρ u x ∧ VRel U ρ v y := by
 rw [VsRel] at h
 obtain ⟨x, r, e, h1, h2⟩ := h
 rw [VsRel] at h2
 obtain ⟨y, r', rfl, h3, h4⟩ := h2
 rw [VsRel] at h4
 subst h4
 exact ⟨x, y, by apply Array.ext'; simpa using e, h1, h3⟩
theorem VRel_sl {U : Imm} {ρ : Env} {n : Nm} {es i o j len : Nat} {cap : Option Nat} {x : Value} (h : VRel U ρ (.sl n es i o j len cap) x) : ∃ p cp, x = .slice p len cp := by
 rw [VRel] at h
 obtain ⟨l, cp, _, _, _, ⟨_, rfl, _⟩ | ⟨_, rfl, rfl, rfl⟩⟩ := h
 ·exact ⟨_, _, rfl⟩
 ·exact ⟨_, _, rfl⟩

/-- reflectlite.ValueOf, of a slice. -/
theorem TV_valueOf {f : FuncId} (hx : ∀ zs w, (callFunc f zs).run P w = ((Extern.ReflectliteValue.unpack (zs.getD 0 (.tuple #[]))).run P w).andThen fun v w' => .ok (.value v) w')
  {t e : TypeId} {ti : TypeInfo} (hi : P.info? t = some ti) (hd : ti.desc = .slice e) {n : Nm} {es i o j len : Nat} {cap : Option Nat} (q : Nat) :
  TV P (.fn (.func f) [] []) [.ifc t (.sl n es i o j len cap)] [] (.agg [.abs P.globals.size t, .ptr (.o q) 0 0 0 0, .int .u64 151]) [(.o q, .flat [.sl n es i o j len cap])] := by
 refine TV_extern (e := fun zs => Extern.ReflectliteValue.unpack (zs.getD 0 (.tuple #[]))) hx fun U ρ w xs m hh ha hm hf => ?_
 obtain ⟨x, rfl, hv⟩ := VsRel_1 ha
 rw [VRel] at hv
 obtain ⟨y, rfl, hy⟩ := hv
 obtain ⟨p, cp, rfl⟩ := VRel_sl hy
 have hq : ρ (.o q) = none := (hf (.o q) ⟨_, List.mem_cons_self ..⟩).resolve_left fun ⟨b, hb⟩ => absurd hb List.not_mem_nil
 have hle := Env.le_add hq ⟨w.heap.size, 1, true⟩
 refine ⟨.agg #[typeHandle P t, .pointer (some ⟨w.heap.size, 0, none⟩), .int .u64 151], _, U, _, ?_, Leaves.new (b := .flat [.sl n es i o j len cap]) (sz := 1) hh hq (w' := w.alloc (.cells #[.slice p len cp] t)) rfl ⟨#[.slice p len cp], t, 0, 0, rfl, rfl, .inl (Nat.le_refl _), ?_⟩ ?_⟩
 ·have := run_valueOf_slice (P := P) t e ti hi hd p len cp w
  have e1 : (#[Value.iface t (.slice p len cp)] ++ m).getD 0 (.tuple #[]) = .iface t (.slice p len cp) := by
   rw [VsRel] at hm
   have hm' : m = #[] := by apply Array.ext'; simpa using hm
   subst hm'; rfl
  simp only [e1]
  exact this
 ·exact (CsRel_one rfl).2 ⟨_, [], rfl, VRel.mono (Imm.le_refl _) hle hy, by rw [CsRel]⟩
 ·rw [VRel]
  refine ⟨_, rfl, ?_⟩
  refine (CsRel_one rfl).2 ⟨_, _, rfl, by rw [VRel]; rfl, (CsRel_one rfl).2 ⟨_, _, rfl, ?_, (CsRel_one rfl).2 ⟨_, _, rfl, by rw [VRel], by rw [CsRel]⟩⟩⟩
  rw [VRel]
  exact ⟨_, Env.add_self, rfl, by simp⟩

/-- Its length. -/
theorem TV_vlen {f : FuncId} (hx : ∀ zs w, (callFunc f zs).run P w = ((Extern.ReflectliteValue.method (Extern.ReflectliteValue.valueError "reflectlite.Value.Len" 0) Extern.ReflectliteValue.len zs).run P w).andThen fun v w' => .ok (.value v) w')
  {t e : TypeId} {ti : TypeInfo} (hi : P.info? t = some ti) (hd : ti.desc = .slice e) (hpk : P.packed t = false) {n : Nm} {es i o j len : Nat} {cap : Option Nat} (q : Nat) :
  TV P (.fn (.func f) [] []) [.agg [.abs P.globals.size t, .ptr (.o q) 0 0 0 0, .int .u64 151]] [(.o q, .flat [.sl n es i o j len cap])] (.int .i64 len) [(.o q, .flat [.sl n es i o j len cap])] := by
 refine TV_extern (e := Extern.ReflectliteValue.method (Extern.ReflectliteValue.valueError "reflectlite.Value.Len" 0) Extern.ReflectliteValue.len) hx fun U ρ w xs m hh ha hm hf => ?_
 obtain ⟨x, rfl, hv⟩ := VsRel_1 ha
 rw [VsRel] at hm
 have hm' : m = #[] := by apply Array.ext'; simpa using hm
 subst hm'
 rw [VRel] at hv
 obtain ⟨c, rfl, hc⟩ := hv
 obtain ⟨x0, r0, e0, h0, hc⟩ := (CsRel_one rfl).1 hc
 obtain ⟨x1, r1, rfl, h1, hc⟩ := (CsRel_one rfl).1 hc
 obtain ⟨x2, r2, rfl, h2, hc⟩ := (CsRel_one rfl).1 hc
 rw [CsRel] at hc; subst hc
 rw [VRel] at h0
 rw [VRel] at h1
 rw [VRel] at h2
 subst h0 h2
 obtain ⟨l, hl, hr, rfl⟩ := h1
 obtain ⟨ob, g1, ⟨cc, el, lo, hi', rfl, g2, g3, g4⟩, _⟩ := hh.real (List.mem_cons_self ..) hl hr
 obtain ⟨y, r, ey, hy, hr2⟩ := (CsRel_one rfl).1 g4
 rw [CsRel] at hr2; subst hr2
 obtain ⟨p, cp, rfl⟩ := VRel_sl hy
 have hcell : w.cell? ⟨l.blk, 0, none⟩ = some (.slice p len cp) := by
  simp only [World.cell?, g1]
  rw [← Array.getElem?_toList, ey]; rfl
 have ec : c = #[typeHandle P t, .pointer (some ⟨l.blk, 0, none⟩), .int .u64 151] := by
  apply Array.ext'
  rw [e0]; simp [typeHandle]
 subst ec
 refine ⟨_, w, U, ρ, ?_, Leaves.same hh (by rw [VRel]) rfl⟩
 rw [show (#[Value.agg #[typeHandle P t, .pointer (some ⟨l.blk, 0, none⟩), .int .u64 151]] ++ #[] : Array Value) = #[.agg #[typeHandle P t, .pointer (some ⟨l.blk, 0, none⟩), .int .u64 151]] by simp]
 exact run_valueLen_slice (P := P) t e ti hi hd hpk ⟨l.blk, 0, none⟩ p len cp w hcell

/-- reflectlite.Swapper, of a slice of two or more elements, of none, of one. -/
theorem TV_swapper {f : FuncId} (hx : ∀ zs w, (callFunc f zs).run P w = ((Extern.ReflectliteSwapper.swapper "internal/reflectlite" (Extern.ReflectliteValue.valueError "Swapper") zs).run P w).andThen fun v w' => .ok (.value v) w')
  {t e : TypeId} {ti ie : TypeInfo} (hi : P.info? t = some ti) (hd : ti.desc = .slice e) (hie : P.info? e = some ie) {ke : Nat} (hke : ∀ w, (Extern.Rtype.kind e).run P w = .ok ke w)
  {n : Nm} {es i o j len k : Nat} {cap : Option Nat} {g : FuncId} (hk : swapperK len ie ke = k) (hf : P.funcs.findIdx? (·.name == "internal/reflectlite" ++ ".Swapper$" ++ toString k) = some g) {bs : List V} (hbs : bs = if k ≤ 2 then [] else [.sl n es i o j len cap, .abs P.globals.size e]) :
  TV P (.fn (.func f) [] []) [.ifc t (.sl n es i o j len cap)] [] (.fn (.func g) [] bs) [] := by
 refine TV_extern (e := Extern.ReflectliteSwapper.swapper "internal/reflectlite" (Extern.ReflectliteValue.valueError "Swapper")) hx fun U ρ w xs m hh ha hm _ => ?_
 obtain ⟨x, rfl, hv⟩ := VsRel_1 ha
 rw [VsRel] at hm
 have hm' : m = #[] := by apply Array.ext'; simpa using hm
 subst hm'
 rw [VRel] at hv
 obtain ⟨y, rfl, hy⟩ := hv
 have hy0 := hy
 obtain ⟨p, cp, rfl⟩ := VRel_sl hy
 refine ⟨_, w, U, ρ, ?_, Leaves.same (val := .fn (.func g) [] bs) (x := .func (.func g) #[] (if swapperK len ie ke ≤ 2 then #[] else #[.slice p len cp, typeHandle P e])) hh ?_ rfl⟩
 ·have := run_swapper_slice (P := P) t e ti ie hi hd hie ke hke p len cp g (by rw [hk]; exact hf) w
  rw [show (#[Value.iface t (.slice p len cp)] ++ #[] : Array Value) = #[.iface t (.slice p len cp)] by simp]
  exact this
 ·rw [VRel]
  refine ⟨_, _, rfl, by simp [VsRel], ?_⟩
  rw [hk, hbs]
  split
  ·simp [VsRel]
  ·rw [VsRel]
   refine ⟨_, _, rfl, hy0, ?_⟩
   rw [VsRel]
   exact ⟨_, _, rfl, by rw [VRel]; rfl, by rw [VsRel]⟩

/-- Two elements change places. -/
def swF (f : Nat → Int) (i j : Nat) : Nat → Int := fun k => if k = i then f j else if k = j then f i else f k
theorem TV_swap {f : FuncId} (hx : ∀ zs w, (callFunc f zs).run P w = ((Extern.ReflectliteSwapper.swap true zs).run P w).andThen fun v w' => .ok (.value v) w')
  {e : TypeId} {ie : TypeInfo} (hie : P.info? e = some ie) (hs : ie.size = 1) (hagg : ∀ w, (isAgg e).run P w = .ok false w) {q n i j : Nat} (hi : i < n) (hj : j < n) (F : Nat → Int) (cap : Option Nat) :
  TV P (.fn (.func f) [] [.sl (.o q) 1 0 0 0 n cap, .abs P.globals.size e]) [.int .i64 i, .int .i64 j] [(.o q, .rows 1 n (fun k => [.int .i64 (F k)]) true)] (.tup []) [(.o q, .rows 1 n (fun k => [.int .i64 (swF F i j k)]) true)] := by
 refine TV_extern (e := Extern.ReflectliteSwapper.swap true) hx fun U ρ w xs m hh ha hm _ => ?_
 obtain ⟨x1, x2, rfl, h1, h2⟩ := VsRel_2 ha
 obtain ⟨m1, m2, rfl, h3, h4⟩ := VsRel_2 hm
 rw [VRel] at h1
 rw [VRel] at h2
 rw [VRel] at h3
 rw [VRel] at h4
 subst h1 h2 h4
 obtain ⟨l, cp, hl, _, _, h3⟩ := h3
 rcases h3 with ⟨hr, rfl, _⟩ | ⟨_, _, rfl, _⟩
 ·obtain ⟨ob, g1, ⟨c, el, lo, hi', rfl, g2, g3, g4, _, g5⟩, _⟩ := hh.real (List.mem_cons_self ..) hl hr
  have cell : ∀ k, k < n → c[k]? = some (.int .i64 (F k)) := fun k hk => by
   obtain ⟨r, r1, r2, r3⟩ := g5 k hk
   obtain ⟨y, t, rfl, hy, ht⟩ := (CsRel_one rfl).1 r1
   rw [CsRel] at ht; subst ht
   rw [VRel] at hy; subst hy
   have := r3 0 (by simp)
   simpa using this
  have hsz : n ≤ c.size := by omega
  have fr : ∀ k, k < n → w.frozen? ⟨l.blk, 0 + k, none⟩ = false := fun k hk => by
   rw [Nat.zero_add]; exact frozen_of g1 g3 (by omega)
  have ce : ∀ k, k < n → w.cell? ⟨l.blk, 0 + k, none⟩ = some (.int .i64 (F k)) := fun k hk => by
   rw [Nat.zero_add]; simp only [World.cell?, g1]; exact cell k hk
  have hrun := run_swap_one (P := P) true e ie hie hs hagg l.blk 0 n cp i j hi hj (.int .i64 (F i)) (.int .i64 (F j)) rfl rfl w (ce i hi) (ce j hj) (fr i hi) (fr j hj)
  have hw1 := setCell_put (off := 0 + i) g1 (.int .i64 (F j))
  have hlt := lt_size g1
  have g1' : (w.setCell ⟨l.blk, 0 + i, none⟩ (.int .i64 (F j))).heap[l.blk]? = some (.cells (c.setIfInBounds (0 + i) (.int .i64 (F j))) el (lo, hi')) := by
   rw [hw1]; simp [hlt]
  have hw2 := setCell_put (off := 0 + j) g1' (.int .i64 (F i))
  refine ⟨.tuple #[], (w.setCell ⟨l.blk, 0 + i, none⟩ (.int .i64 (F j))).setCell ⟨l.blk, 0 + j, none⟩ (.int .i64 (F i)), U, ρ, ?_, Leaves.set (b' := .rows 1 n (fun k => [.int .i64 (swF F i j k)]) true) (o' := .cells ((c.setIfInBounds (0 + i) (.int .i64 (F j))).setIfInBounds (0 + j) (.int .i64 (F i))) el (lo, hi')) hh hl hr ?_ ⟨_, el, lo, hi', rfl, ?_, ?_, ?_, ?_, ?_⟩ (by rw [VRel]; exact ⟨#[], rfl, by simp [VsRel]⟩) ?_⟩
  ·rw [show (#[Value.int .i64 (i : Int), .int .i64 (j : Int)] ++ #[.slice (some ⟨l.blk, 0 * 1 + 0 + 0, none⟩) n cp, .pointer (some ⟨P.globals.size, e, none⟩)] : Array Value) = #[.int .i64 i, .int .i64 j, .slice (some ⟨l.blk, 0, none⟩) n cp, typeHandle P e] by simp [typeHandle]]
   exact hrun
  ·rw [hw2, hw1]; simp
  ·simp only [Array.size_setIfInBounds]; exact g2
  ·simp only [Array.size_setIfInBounds]; exact g3
  ·simp only [Array.size_setIfInBounds]; omega
  ·intro h; cases h
  ·intro k hk
   refine ⟨[.int .i64 (swF F i j k)], (CsRel_one rfl).2 ⟨_, _, rfl, by rw [VRel], by rw [CsRel]⟩, rfl, fun t ht => ?_⟩
   obtain rfl : t = 0 := by simpa using ht
   simp only [Nat.mul_one, Nat.add_zero, List.getElem?_cons_zero, Nat.zero_add]
   rw [Array.getElem?_setIfInBounds, Array.getElem?_setIfInBounds]
   unfold swF
   by_cases hkj : k = j
   ·subst hkj
    by_cases hki : k = i
    ·subst hki; simp [show k < c.size by omega]
    ·simp [Ne.symm hki, show k < c.size by omega, hki]
   ·by_cases hki : k = i
    ·subst hki; simp [Ne.symm hkj, show k < c.size by omega]
    ·simp [Ne.symm hkj, Ne.symm hki, hki, hkj, cell k hk]
  ·rw [hw2, hw1]; exact ⟨rfl, rfl⟩
 ·omega
end Sy
namespace Sy
open Go Go.Lib Go.Sort Go.Proofs Go.Shelf
variable {P : Program}

/-- The greatest first. -/
def gtI (x y : Int) : Bool := decide (y < x)
theorem swo_gtI : SWO gtI where
 irrefl := fun x => by simp [gtI]
 trans := fun x y z h1 h2 => by simp only [gtI, decide_eq_true_eq] at *; omega
 ntrans := fun x y z h1 h2 => by simp only [gtI, decide_eq_true_eq, decide_eq_false_iff_not] at *; omega
def srtD (l : List Int) : List Int := l.mergeSort fun x y => !gtI y x
theorem srtD_len (l : List Int) : (srtD l).length = l.length := by simp [srtD]
theorem srtD_eq (d d' : Array Int) (hp : PermIn 0 d.size d d') (hs : SortedIn gtI 0 d.size d') : d' = (srtD d.toList).toArray := by
 have h := sorted_unique_holds (lt := gtI) swo_gtI (fun x y h1 h2 => by simp only [gtI, decide_eq_false_iff_not] at h1 h2; omega) d d' hp hs
 rw [srtD, ← h]
def liC (l : List Int) : Nat → List V := fun i => [.int .i64 (l.getD i 0)]

/-- The world where one block's cells are others and new blocks lie behind. -/
theorem Leaves.setGrow {U ρ} {w w' : World} {val : V} {x : Value} {n : Nm} {b b' : B} {l : Loc} {o' : Obj} {rest : Heap} (H : HRel U ρ ((n, b) :: rest) w) (hl : ρ n = some l) (hr : l.real = true)
  (hsz : w.heap.size ≤ w'.heap.size) (hat : w'.heap[l.blk]? = some o') (hold : ∀ k, k < w.heap.size → k ≠ l.blk → w'.heap[k]? = w.heap[k]?)
  (hb : BRel U ρ l.sz b' o') (hv : VRel U ρ val x) (eo : w'.os = w.os ∧ w'.output = w.output) : Leaves U ρ ((n, b) :: rest) w val ((n, b') :: rest) x U ρ w' := by
 obtain ⟨o, h2, h3, h4⟩ := H.real (b := b) (by simp) hl hr
 have hlt := lt_size h2
 have hnd := H.nd
 rw [List.map_cons, List.nodup_cons] at hnd
 have hdom : ∀ m, Heap.dom ((n, b') :: rest) m → Heap.dom ((n, b) :: rest) m := fun m ⟨c, hc⟩ => by
  rcases List.mem_cons.1 hc with h | h
  ·cases h; exact ⟨b, by simp⟩
  ·exact ⟨c, List.mem_cons_of_mem _ h⟩
 have hmem : ∀ m c, (m, c) ∈ ((n, b') :: rest : Heap) → ∃ c', (m, c') ∈ ((n, b) :: rest : Heap) := fun m c h => hdom m ⟨c, h⟩
 refine ⟨hv, ⟨fun m b1 h => ?_, fun m b1 m' b2 l1 l2 h1 h2 e1 e2 r1 r2 e => ?_, ?_, fun k c hk => ?_⟩, fun _ _ _ h => h, fun _ _ h => .inr h, ⟨hsz, Imm.le_refl _, fun k hk hn => hold k hk ?_, fun m l1 hd e1 hr1 => ?_, fun _ _ h => .inl h, eo⟩⟩
 ·rcases List.mem_cons.1 h with h9 | h9
  ·cases h9
   exact ⟨l, hl, .inl ⟨hr, o', hat, hb, h4⟩⟩
  ·obtain ⟨l1, g1, g2⟩ := H.blk m b1 (List.mem_cons_of_mem _ h9)
   refine ⟨l1, g1, ?_⟩
   rcases g2 with ⟨g3, o1, g4, g5, g6⟩ | g2
   ·refine .inl ⟨g3, o1, ?_, g5, g6⟩
    rw [hold _ (lt_size g4) (fun e => hnd.1 ?_)]
    ·exact g4
    ·have := H.inj m b1 n b l1 l (List.mem_cons_of_mem _ h9) (by simp) g1 hl g3 hr e
     rw [← this]
     exact List.mem_map.2 ⟨(m, b1), h9, rfl⟩
   ·exact .inr g2
 ·obtain ⟨c1, k1⟩ := hmem m b1 h1
  obtain ⟨c2, k2⟩ := hmem m' b2 h2
  exact H.inj m c1 m' c2 l1 l2 k1 k2 e1 e2 r1 r2 e
 ·rw [List.map_cons, List.nodup_cons]; exact hnd
 ·obtain ⟨el, fr, h⟩ := H.imm k c hk
  exact ⟨el, fr, by rw [hold k (lt_size h) (fun hk' => by rw [hk', h4] at hk; cases hk)]; exact h⟩
 ·intro hk'; exact hn n l ⟨b, by simp⟩ hl hr hk'.symm
 ·obtain ⟨b1, h⟩ := hdom m hd
  exact .inr ⟨m, l1, ⟨b1, h⟩, e1, hr1, rfl⟩

theorem swapper5 {n : Nat} {ie : TypeInfo} (h2 : 2 ≤ n) (a : ie.hasPointers = false) (b : ie.bytes = 8) : swapperK n ie 2 = 5 := by
 have c : (n == 0) = false := by simp; omega
 have d : (n == 1) = false := by simp; omega
 simp [swapperK, a, b, c, d]

set_option maxHeartbeats 1000000 in
/-- sort.Slice of numbers, the greatest first. -/
theorem T_slice {R : Ren} (L : LaysGg.n6 P R) {t e : TypeId} {ti ie : TypeInfo} (hi : P.info? t = some ti) (hd : ti.desc = .slice e) (hpk : P.packed t = false) (hie : P.info? e = some ie)
  (hke : ∀ w, (Extern.Rtype.kind e).run P w = .ok 2 w) (hs1 : ie.size = 1) (hagg : ∀ w, (isAgg e).run P w = .ok false w) (hpt : ie.hasPointers = false) (hby : ie.bytes = 8)
  {g : FuncId} (eg : ∀ args w, (callFunc g args).run P w = .ok (.enter g args) w)
  {f1 f5 : FuncId} (hf1 : P.funcs.findIdx? (·.name == "internal/reflectlite" ++ ".Swapper$" ++ toString 2) = some f1) (hf5 : P.funcs.findIdx? (·.name == "internal/reflectlite" ++ ".Swapper$" ++ toString 5) = some f5)
  (hx : ∀ args W, (callFunc f5 args).run P W = ((Extern.ReflectliteSwapper.swap true args).run P W).andThen fun v w' => .ok (.value v) w')
  (hL : ∀ (blk c Bs size : Nat) (W : World) (G : Nat → Int), W.cell? ⟨Bs, 0, none⟩ = some (.slice (some ⟨blk, 0, none⟩) size c) → (∀ t, t < size → W.cell? ⟨blk, 0 + t, none⟩ = some (.int .i64 (G t))) → ∀ i j : Nat, i < size → j < size →
   Calls P g #[.int .i64 i, .int .i64 j, .pointer (some ⟨Bs, 0, none⟩)] W fun e w' => e = .returned (.bool (gtI (G i) (G j))) ∧ ∃ q, w' = W.drewN q)
  {q b es : Nat} {l : List Int} {cap cap' : Option Nat} (hl0 : 0 < l.length) (hl : l.length < 4611686018427387904) :
  T P (R.f 6) [.ifc t (.sl (.o q) 1 0 0 0 l.length cap), .fn (.func g) [] [.ptr (.o b) es 0 0 0]] [(.o q, .rows 1 l.length (liC l) true), (.o b, .flat [.sl (.o q) 1 0 0 0 l.length cap'])] (.tup [])
   [(.o q, .rows 1 l.length (liC (srtD l)) true), (.o b, .flat [.sl (.o q) 1 0 0 0 l.length cap'])] := by
 intro U ρ w xs hh ha hf
 obtain ⟨x1, x2, rfl, h1, h2⟩ := VsRel_2 ha
 rw [VRel] at h1
 obtain ⟨y, rfl, hy⟩ := h1
 rw [VRel] at hy
 obtain ⟨lq, cp, hlq, _, _, h3⟩ := hy
 rcases h3 with ⟨hr, rfl, hcp⟩ | ⟨_, _, h0, _⟩
 rotate_left
 ·omega
 rw [VRel] at h2
 obtain ⟨m1, m2, rfl, h4, h5⟩ := h2
 rw [VsRel] at h4
 have hm1 : m1 = #[] := by apply Array.ext'; simpa using h4
 subst hm1
 obtain ⟨z, rfl, hz⟩ := VsRel_1 h5
 rw [VRel] at hz
 obtain ⟨lb, hlb, hrb, rfl⟩ := hz
 -- the list's cells
 obtain ⟨ob, g1, ⟨c, el, lo, hi', rfl, g2, g3, g4, _, g5⟩, _⟩ := hh.real (List.mem_cons_self ..) hlq hr
 have cell : ∀ k, k < l.length → c[k]? = some (.int .i64 (l.getD k 0)) := fun k hk => by
  obtain ⟨r, r1, r2, r3⟩ := g5 k hk
  obtain ⟨y, t, rfl, hy, ht⟩ := (CsRel_one rfl).1 r1
  rw [CsRel] at ht; subst ht
  rw [VRel] at hy; subst hy
  have := r3 0 (by simp)
  simpa using this
 have hlt := lt_size g1
 have hsz : l.toArray.size = l.length := by simp
 have gb : ∀ k, k < l.length → l.toArray[k]! = l.getD k 0 := fun k hk => by
  rw [getElem!_pos _ _ (by simpa using hk), List.getD_eq_getElem?_getD, List.getElem?_eq_getElem hk]; simp
 have hH : Holds (Value.int .i64) w lq.blk 0 l.toArray := fun k hk => by
  rw [hsz] at hk
  constructor
  ·rw [Nat.zero_add]; simp only [World.cell?, g1]; rw [cell k hk, gb k hk]; rfl
  ·rw [Nat.zero_add]; exact frozen_of g1 g3 (by omega)
 -- the variable
 obtain ⟨ob2, k1, ⟨c2, el2, lo2, hi2, rfl, k2, k3, k4⟩, _⟩ := hh.real (List.mem_cons_of_mem _ (List.mem_cons_self ..)) hlb hrb
 obtain ⟨y2, r2, ey2, hy2, hr2⟩ := (CsRel_one rfl).1 k4
 rw [CsRel] at hr2; subst hr2
 rw [VRel] at hy2
 obtain ⟨lq2, cp2, hlq2, _, _, hy2⟩ := hy2
 rw [hlq] at hlq2; cases hlq2
 rcases hy2 with ⟨_, rfl, _⟩ | ⟨_, _, h0, _⟩
 rotate_left
 ·omega
 have hne : lb.blk ≠ lq.blk := fun e => by
  have := hh.inj _ _ _ _ _ _ (List.mem_cons_of_mem _ (List.mem_cons_self ..)) (List.mem_cons_self ..) hlb hlq hrb hr e
  have hnd := hh.nd
  rw [this] at hnd
  simp at hnd
 have hbox : w.cell? ⟨lb.blk, 0, none⟩ = some (.slice (some ⟨lq.blk, 0, none⟩) l.length cp2) := by
  simp only [World.cell?, k1]
  rw [← Array.getElem?_toList, ey2]; rfl
 have hltb := lt_size k1
 have key : Calls P (R.f 6) #[.iface t (.slice (some ⟨lq.blk, 0, none⟩) l.length cp), .func (.func g) #[] #[.pointer (some ⟨lb.blk, 0, none⟩)]] w fun e w' =>
   e = .returned (.tuple #[]) ∧ ∃ n os, w' = grow (putRow (Value.int .i64) (Sort.ahead w n) lq.blk 0 (srtD l).toArray) os := by
  by_cases h2 : 2 ≤ l.length
  ·have hless : LessReads P g #[.pointer (some ⟨lb.blk, 0, none⟩)] (Value.int .i64) gtI lq.blk 0 l.toArray.size w := by
    intro m os dk hs i j hi hj
    rw [hsz] at hs hi hj
    have e : sortWorld (Value.int .i64) w lq.blk 0 m dk os = putRow (Value.int .i64) (grow (Sort.ahead w m) os) lq.blk 0 dk := by
     unfold sortWorld; rw [putRow_grow _ (Sort.ahead w m) _ lq.blk 0 _ hlt]
    have hHg : Holds (Value.int .i64) (grow (Sort.ahead w m) os) lq.blk 0 l.toArray := holds_grow _ _ _ lq.blk 0 _ hlt (holds_ahead _ _ _ _ _ _ hH)
    refine hL lq.blk cp2 lb.blk l.length _ (fun t => dk[t]!) ?_ (fun t ht => ?_) i j hi hj
    ·rw [e, cell?_putRow_other _ _ lq.blk 0 dk _ (Or.inl hne), cell?_grow _ _ _ hltb]
     exact hbox
    ·rw [e]; exact cell?_putRow _ _ lq.blk 0 l.toArray dk hHg (by rw [hsz]; exact hs) t (by omega)
   have hS := Any.sort_Slice_sorted L t e ti ie hi hd hpk hie 2 hke hs1 hagg (Value.int .i64) (fun _ => rfl) gtI swo_gtI g _ eg lq.blk 0 cp l.toArray (by rw [hsz]; exact h2) (by rw [hsz]; exact hl) f5 (by rw [hsz, swapper5 h2 hpt hby]; exact hf5) true hx w hless hH hlt
   rw [hsz] at hS
   refine hS.mono ?_
   rintro e' w' ⟨he, d', n, os, hp, hso, hw⟩
   have := srtD_eq l.toArray d' (by rw [hsz]; exact hp) (by rw [hsz]; exact hso)
   exact ⟨he, n, os, by rw [hw, this]⟩
  ·have hl1 : l.length = 1 := by omega
   have hS := Any.sort_Slice_tiny L t e ti ie hi hd hpk hie 2 hke (some ⟨lq.blk, 0, none⟩) l.length cp (by omega) f1 (by rw [hl1]; simpa [swapperK] using hf1) (.func g) #[] #[.pointer (some ⟨lb.blk, 0, none⟩)] w
   refine hS.mono ?_
   rintro e' w' ⟨he, os, hw⟩
   refine ⟨he, 0, os, ?_⟩
   have : srtD l = l := by
    match l, hl1 with
    | [x], _ => simp [srtD]
   rw [hw, this]
   congr 1
   exact (putRow_self _ _ lq.blk 0 _ hH).symm
 have e0 : ∀ z : Nat, 0 * z + 0 + 0 = 0 := fun z => by rw [Nat.zero_mul]
 rw [e0, e0]
 refine Calls.mono key ?_
 rintro e' w' ⟨rfl, n, os, rfl⟩
 have hat : (putRow (Value.int .i64) (Sort.ahead w n) lq.blk 0 (srtD l).toArray).heap[lq.blk]? = some (.cells (putCells (Value.int .i64) 0 (srtD l).toArray c) el (lo, hi')) := by
  simp only [putRow, mapBlock, Sort.ahead, Array.getElem?_modify, if_true, g1, Option.map_some, onCells]
 have hsz2 : (putRow (Value.int .i64) (Sort.ahead w n) lq.blk 0 (srtD l).toArray).heap.size = w.heap.size := by simp [putRow, mapBlock, Sort.ahead]
 have hps : (putCells (Value.int .i64) 0 (srtD l).toArray c).size = c.size := by simp [putCells]
 refine ⟨.tuple #[], U, ρ, rfl, Leaves.setGrow hh hlq hr (o' := .cells (putCells (Value.int .i64) 0 (srtD l).toArray c) el (lo, hi')) ?_ ?_ (fun k hk hne => ?_) ⟨_, el, lo, hi', rfl, by rw [hps]; exact g2, by rw [hps]; exact g3, by rw [hps]; exact g4, (fun h => by cases h), fun k hk => ?_⟩ (by rw [VRel]; exact ⟨#[], rfl, by simp [VsRel]⟩) ⟨rfl, rfl⟩⟩
 ·rw [size_grow, hsz2]; omega
 ·rw [heap_grow_old _ _ (by rw [hsz2]; exact hlt)]; exact hat
 ·rw [heap_grow_old _ _ (by rw [hsz2]; exact hk)]
  simp only [putRow, mapBlock, Sort.ahead, Array.getElem?_modify, if_neg (Ne.symm hne)]
 ·refine ⟨[.int .i64 ((srtD l).getD k 0)], (CsRel_one rfl).2 ⟨_, _, rfl, by rw [VRel], by rw [CsRel]⟩, rfl, fun t ht => ?_⟩
  obtain rfl : t = 0 := by simpa using ht
  have hkl : k < (srtD l).length := by rw [srtD_len]; exact hk
  simp only [Nat.mul_one, Nat.add_zero, List.getElem?_cons_zero, putCells, Array.getElem?_mapIdx]
  rw [cell k hk, Option.map_some, if_pos ⟨Nat.zero_le _, by simpa [srtD_len] using hk⟩, Nat.sub_zero]
  rw [getElem!_pos _ _ (by simpa using hkl), List.getD_eq_getElem?_getD, List.getElem?_eq_getElem hkl]; simp
end Sy
namespace Sy
open Go Go.Sort
/-- How many are greater; how many are not less. -/
def cntG (l : List Int) (v : Int) : Nat := l.countP fun x => decide (v < x)
def cntS (l : List Int) (v : Int) : Nat := l.countP fun x => decide (x = v)
def cntE (l : List Int) (v : Int) : Nat := l.countP fun x => decide (v ≤ x)
theorem cntE_eq (l : List Int) (v : Int) : cntE l v = cntG l v + cntS l v := by
 induction l with
 | nil => rfl
 | cons a l ih =>
  simp only [cntE, cntG, cntS, List.countP_cons] at *
  rw [ih]
  by_cases h1 : v < a
  ·have : ¬ a = v := by omega
   simp [h1, this, show v ≤ a by omega]; omega
  ·by_cases h2 : a = v
   ·subst h2; simp; omega
   ·simp [h1, h2, show ¬ v ≤ a by omega]
def nthV (l : List Int) (i : Int) : Int := if 1 ≤ i ∧ i ≤ l.length then (srtD l).getD (i - 1).toNat 0 else 0
theorem srtD_perm (l : List Int) : (srtD l).Perm l := List.mergeSort_perm _ _
theorem srtD_sorted (l : List Int) : (srtD l).Pairwise fun a b => b ≤ a := by
 have := List.pairwise_mergeSort (le := fun x y => !gtI y x) (fun a b c h1 h2 => by simp only [gtI, Bool.not_eq_true', decide_eq_false_iff_not] at *; omega) (fun a b => by simp only [gtI, Bool.or_eq_true, Bool.not_eq_true', decide_eq_false_iff_not]; omega) l
 exact this.imp fun h => by simp only [gtI, Bool.not_eq_true', decide_eq_false_iff_not] at h; omega
theorem nth_at {l : List Int} {i : Int} (h1 : 1 ≤ i) (h2 : i ≤ l.length) : (cntG l (nthV l i) : Int) < i ∧ i ≤ cntE l (nthV l i) := by
 obtain ⟨p, rfl⟩ : ∃ p : Nat, i = p + 1 := ⟨(i - 1).toNat, by omega⟩
 have hp : p < (srtD l).length := by rw [srtD_len]; omega
 have hv : nthV l (p + 1) = (srtD l)[p] := by
  rw [nthV, if_pos ⟨h1, h2⟩, show ((p : Int) + 1 - 1).toNat = p by omega, List.getD_eq_getElem?_getD, List.getElem?_eq_getElem hp]; rfl
 have hs := List.pairwise_iff_getElem.1 (srtD_sorted l)
 rw [hv]
 generalize hvv : (srtD l)[p] = v
 have hg : cntG l v = (srtD l).countP (fun x => decide (v < x)) := ((srtD_perm l).countP_eq _).symm
 have he : cntE l v = (srtD l).countP (fun x => decide (v ≤ x)) := ((srtD_perm l).countP_eq _).symm
 constructor
 ·have : cntG l v ≤ p := by
   rw [hg]
   conv => lhs; rw [← List.take_append_drop p (srtD l)]
   rw [List.countP_append]
   have z : ((srtD l).drop p).countP (fun x => decide (v < x)) = 0 := by
    rw [List.countP_eq_zero]
    intro x hx
    obtain ⟨k, hk, rfl⟩ := List.getElem_of_mem hx
    rw [List.getElem_drop, decide_eq_true_eq]
    rw [List.length_drop] at hk
    rcases Nat.eq_zero_or_pos k with rfl | hk0
    ·simp only [Nat.add_zero, hvv]; omega
    ·have := hs p (p + k) hp (by omega) (by omega)
     omega
   rw [z]
   have := List.countP_le_length (p := fun x => decide (v < x)) (l := (srtD l).take p)
   rw [List.length_take] at this
   omega
  omega
 ·have : p + 1 ≤ cntE l v := by
   rw [he]
   conv => rhs; rw [← List.take_append_drop (p + 1) (srtD l)]
   rw [List.countP_append]
   have z : ((srtD l).take (p + 1)).countP (fun x => decide (v ≤ x)) = ((srtD l).take (p + 1)).length := by
    rw [List.countP_eq_length]
    intro x hx
    obtain ⟨k, hk, rfl⟩ := List.getElem_of_mem hx
    rw [List.length_take] at hk
    rw [List.getElem_take, decide_eq_true_eq]
    rcases Nat.lt_or_ge k p with hkp | hkp
    ·have := hs k p (by omega) hp hkp
     omega
    ·obtain rfl : k = p := by omega
     omega
   rw [z, List.length_take]
   omega
  omega
theorem cnt_le {l : List Int} {v v' : Int} (h : v < v') : cntE l v' ≤ cntG l v :=
 List.countP_mono_left fun x _ hx => by rw [decide_eq_true_eq] at *; omega
theorem nth_uniq {l : List Int} {i v v' : Int} (h1 : (cntG l v : Int) < i ∧ i ≤ cntE l v) (h2 : (cntG l v' : Int) < i ∧ i ≤ cntE l v') : v = v' := by
 rcases Int.lt_trichotomy v v' with h | h | h
 ·have := cnt_le (l := l) h; omega
 ·exact h
 ·have := cnt_le (l := l) h; omega
theorem cntE_le (l : List Int) (v : Int) : cntE l v ≤ l.length := List.countP_le_length
theorem nth_found {l : List Int} {i v : Int} (h : (cntG l v : Int) < i ∧ i ≤ cntE l v) : v = nthV l i := by
 have := cntE_le l v
 exact nth_uniq h (nth_at (by omega) (by omega))
theorem nth_mem {l : List Int} {i : Int} (h1 : 1 ≤ i) (h2 : i ≤ l.length) : nthV l i ∈ l := by
 rw [nthV, if_pos ⟨h1, h2⟩]
 have hp : (i - 1).toNat < (srtD l).length := by rw [srtD_len]; omega
 rw [List.getD_eq_getElem?_getD, List.getElem?_eq_getElem hp]
 exact (srtD_perm l).mem_iff.1 (List.getElem_mem hp)
theorem nth_none {l : List Int} {i : Int} (h : ∀ k, k < l.length → ¬ ((cntG l (l.getD k 0) : Int) < i ∧ i ≤ cntE l (l.getD k 0))) : nthV l i = 0 := by
 by_cases hi : 1 ≤ i ∧ i ≤ l.length
 ·obtain ⟨k, hk, e⟩ := List.getElem_of_mem (nth_mem hi.1 hi.2)
  refine (h k hk ?_).elim
  rw [show l.getD k 0 = nthV l i by rw [List.getD_eq_getElem?_getD, List.getElem?_eq_getElem hk]; exact e]
  exact nth_at hi.1 hi.2
 ·rw [nthV, if_neg hi]
end Sy
namespace Go.Proofs.Ytpallipnhmoipaa
open Go Sy Go.Proofs
/-- A list of numbers: its cells, as one that can't be turned, as an own one. -/
def li (l : List Int) : Nat → List V := fun i => [.int .i64 (l.getD i 0)]
def lr (l : List Int) : V := .ros 1 l.length (li l) false
def ls (m : Nat) (l : List Int) : V := .sl (.o m) 1 0 0 0 l.length none
def lb (l : List Int) : B := .rows 1 l.length (li l) true
noncomputable def bdGn (n : Int) : Bd := { f := Try.f12, args := [.int .i64 n], kb := kb0 }
def goodN (n : Int) : Bool := decide (4 ≤ n) && (decide (n ≤ 64) && decide (Int.tmod n 3 = 1))
noncomputable def bdSh (n t : Int) (g : Bool) : Bd := { f := Try.f44, args := [.int .i64 n, .int .i64 t], kb := { db := dbQ [(12, cVal (.bool g))] } }
noncomputable def bdSm (n v : Int) : Bd := { f := Try.f16, args := [.int .i64 n], kb := { db := dbQ [(44, cVal (.int .i64 v))] } }
noncomputable def bdMo (n v : Int) : Bd := { f := Try.f18, args := [.int .i64 n], kb := { db := dbQ [(44, cVal (.int .i64 v))] } }
noncomputable def bdFa (n v : Int) : Bd := { f := Try.f14, args := [.int .i64 n], kb := { db := dbQ [(44, cVal (.int .i64 v))] } }
noncomputable def bdRG (n : Int) : Bd := { f := Try.f13, args := [.int .i64 n], kb := kb0 }
noncomputable def bdRF (n : Int) (g : Bool) : Bd := { f := Try.f15, args := [.int .i64 n], kb := { db := dbQ [(13, cVal (.bool g))] } }
noncomputable def bdRS (n : Int) (g : Bool) : Bd := { f := Try.f17, args := [.int .i64 n], kb := { db := dbQ [(13, cVal (.bool g))] } }
noncomputable def bdRM (n : Int) (g : Bool) : Bd := { f := Try.f19, args := [.int .i64 n], kb := { db := dbQ [(13, cVal (.bool g))] } }
def ieI (a b : List Int) (k : Nat) : St := ⟨mkT 26 [(0, lr a), (1, lr b), (5, .int .i64 k)], [], 0, []⟩
def ieF : St := ⟨mkT 26 [(4, .bool false)], [], 0, []⟩
noncomputable def bdIe (a b : List Int) (m : Nat) : Bd := { f := Try.f23, args := [lr a, lr b], kb := { db := fun _ _ _ _ => [], lp := fun _ _ => [(True, .loop (a.length + 1) (wTo (ieI a b 0)) (.exit 0) (ieI a b a.length)), (True, .loop (m + 1) (wTo (ieI a b 0)) .ret ieF)] } }
noncomputable def pcIe (a b : List Int) (k : Nat) : Pc := { c := (cB (cB (cR (cL (cR (cR (bodyOf Try.f23))))))), st := ieI a b k, kb := kb0, k := fun e _ => match e with
 | .normal => some (wTo (ieI a b (k + 1)))
 | .ret => some (wTo ieF)
 | _ => some (wTo (ieI a b a.length)) }
end Go.Proofs.Ytpallipnhmoipaa
namespace Go.Proofs.Ytpallipnhmoipaa
open Go Sy Go.Proofs
theorem bdGn_p11 (n : Int) :
  along Try.prog (bdGn n) [true, true] = (some (.bool (decide (n % (3 : Int) = (1 : Int))), [], [decide ((4 : Int) ≤ n) = true, decide (n ≤ (64 : Int)) = true, (0 : Int) ≤ n ∧ (0 : Int) < (3 : Int)]) : Option (V × Heap × List Prop)) := by kernel_rfl
theorem bdGn_p10 (n : Int) :
  along Try.prog (bdGn n) [true, false] = (some (.bool false, [], [decide ((4 : Int) ≤ n) = true, decide (n ≤ (64 : Int)) = false]) : Option (V × Heap × List Prop)) := by kernel_rfl
theorem bdGn_p00 (n : Int) :
  along Try.prog (bdGn n) [false, false] = (some (.bool false, [], [decide ((4 : Int) ≤ n) = false, q false]) : Option (V × Heap × List Prop)) := by kernel_rfl

theorem bdSh_p1 (n : Int) (t : Int) (g : Bool) :
  along Try.prog (bdSh n t g) [true] = (some (.int .i64 0, [], [T Try.prog 12 [.int .i64 n] [] (.bool g) [], (!g) = true]) : Option (V × Heap × List Prop)) := by kernel_rfl
theorem bdSh_p0 (n : Int) (t : Int) (g : Bool) :
  along Try.prog (bdSh n t g) [false] = (some (.int .i64 (t * (n / (3 : Int)) + (1 : Int)), [], [T Try.prog 12 [.int .i64 n] [] (.bool g) [], (!g) = false, (0 : Int) ≤ n ∧ (0 : Int) < (3 : Int) ∧ InR IntKind.i64 (n / (3 : Int)), InR IntKind.i64 (t * (n / (3 : Int))), InR IntKind.i64 (t * (n / (3 : Int)) + (1 : Int))]) : Option (V × Heap × List Prop)) := by kernel_rfl

theorem bdSm_p (n : Int) (v : Int) :
  along Try.prog (bdSm n v) [] = (some (.int .i64 v, [], [T Try.prog 44 [.int .i64 n, .int .i64 1] [] (.int .i64 v) []]) : Option (V × Heap × List Prop)) := by kernel_rfl

theorem bdMo_p (n : Int) (v : Int) :
  along Try.prog (bdMo n v) [] = (some (.int .i64 v, [], [T Try.prog 44 [.int .i64 n, .int .i64 2] [] (.int .i64 v) []]) : Option (V × Heap × List Prop)) := by kernel_rfl

theorem bdFa_p (n : Int) (v : Int) :
  along Try.prog (bdFa n v) [] = (some (.int .i64 (imax (0 : Int) (v - (1 : Int))), [], [T Try.prog 44 [.int .i64 n, .int .i64 1] [] (.int .i64 v) [], InR IntKind.i64 (v - (1 : Int))]) : Option (V × Heap × List Prop)) := by kernel_rfl

theorem bdRG_p11 (n : Int) :
  along Try.prog (bdRG n) [true, true] = (some (.bool (decide (n % (3 : Int) = (1 : Int))), [], [decide ((4 : Int) ≤ n) = true, decide (n ≤ (64 : Int)) = true, (0 : Int) ≤ n ∧ (0 : Int) < (3 : Int)]) : Option (V × Heap × List Prop)) := by kernel_rfl
theorem bdRG_p10 (n : Int) :
  along Try.prog (bdRG n) [true, false] = (some (.bool false, [], [decide ((4 : Int) ≤ n) = true, decide (n ≤ (64 : Int)) = false]) : Option (V × Heap × List Prop)) := by kernel_rfl
theorem bdRG_p00 (n : Int) :
  along Try.prog (bdRG n) [false, false] = (some (.bool false, [], [decide ((4 : Int) ≤ n) = false, q false]) : Option (V × Heap × List Prop)) := by kernel_rfl

theorem bdRF_p1 (n : Int) (g : Bool) :
  along Try.prog (bdRF n g) [true] = (some (.int .i64 0, [], [T Try.prog 13 [.int .i64 n] [] (.bool g) [], (!g) = true]) : Option (V × Heap × List Prop)) := by kernel_rfl
theorem bdRF_p0 (n : Int) (g : Bool) :
  along Try.prog (bdRF n g) [false] = (some (.int .i64 (n / (3 : Int)), [], [T Try.prog 13 [.int .i64 n] [] (.bool g) [], (!g) = false, (0 : Int) ≤ n ∧ (0 : Int) < (3 : Int) ∧ InR IntKind.i64 (n / (3 : Int))]) : Option (V × Heap × List Prop)) := by kernel_rfl

theorem bdRS_p1 (n : Int) (g : Bool) :
  along Try.prog (bdRS n g) [true] = (some (.int .i64 0, [], [T Try.prog 13 [.int .i64 n] [] (.bool g) [], (!g) = true]) : Option (V × Heap × List Prop)) := by kernel_rfl
theorem bdRS_p0 (n : Int) (g : Bool) :
  along Try.prog (bdRS n g) [false] = (some (.int .i64 (n / (3 : Int) + (1 : Int)), [], [T Try.prog 13 [.int .i64 n] [] (.bool g) [], (!g) = false, (0 : Int) ≤ n ∧ (0 : Int) < (3 : Int) ∧ InR IntKind.i64 (n / (3 : Int)), InR IntKind.i64 (n / (3 : Int) + (1 : Int))]) : Option (V × Heap × List Prop)) := by kernel_rfl

theorem bdRM_p1 (n : Int) (g : Bool) :
  along Try.prog (bdRM n g) [true] = (some (.int .i64 0, [], [T Try.prog 13 [.int .i64 n] [] (.bool g) [], (!g) = true]) : Option (V × Heap × List Prop)) := by kernel_rfl
theorem bdRM_p0 (n : Int) (g : Bool) :
  along Try.prog (bdRM n g) [false] = (some (.int .i64 ((2 : Int) * (n / (3 : Int)) + (1 : Int)), [], [T Try.prog 13 [.int .i64 n] [] (.bool g) [], (!g) = false, (0 : Int) ≤ n ∧ (0 : Int) < (3 : Int) ∧ InR IntKind.i64 (n / (3 : Int)), InR IntKind.i64 ((2 : Int) * (n / (3 : Int))), InR IntKind.i64 ((2 : Int) * (n / (3 : Int)) + (1 : Int))]) : Option (V × Heap × List Prop)) := by kernel_rfl

theorem bdIe_p1 (a : List Int) (b : List Int) (m : Nat) :
  along Try.prog (bdIe a b m) [true] = (some (.bool false, [], [(!decide ((↑(List.length a) : Int) = (↑(List.length b) : Int))) = true]) : Option (V × Heap × List Prop)) := by kernel_rfl
theorem bdIe_p01 (a : List Int) (b : List Int) (m : Nat) :
  along Try.prog (bdIe a b m) [false, true] = (some (.bool true, [], [(!decide ((↑(List.length a) : Int) = (↑(List.length b) : Int))) = false, RLoop Try.prog none 0 (cB (cB (cR (cL (cR (cR (bodyOf (Bd.f (bdIe a b m))))))))) (List.length a + 1) (St.mk [.ros 1 (List.length a) (li a) false, .ros 1 (List.length b) (li b) false, .any, .any, .any, .int .i64 0, .any, .any, .any, .any, .any, .any, .any, .any, .any, .any, .any, .any, .any, .any, .any, .any, .any, .any, .any, .any] [] 0 []) (.exit 0) (St.mk [.ros 1 (List.length a) (li a) false, .ros 1 (List.length b) (li b) false, .any, .any, .any, .int .i64 (↑(List.length a) : Int), .any, .any, .any, .any, .any, .any, .any, .any, .any, .any, .any, .any, .any, .any, .any, .any, .any, .any, .any, .any] [] 0 []), q (List.length a), ∀ (k : Nat), k < List.length a → [V.int IntKind.i64 (List.getD a k (0 : Int))] = [V.int IntKind.i64 (List.getD a k (0 : Int))], false = true → false = true, q (List.length b), ∀ (k : Nat), k < List.length b → [V.int IntKind.i64 (List.getD b k (0 : Int))] = [V.int IntKind.i64 (List.getD b k (0 : Int))], false = true → false = true, q1]) : Option (V × Heap × List Prop)) := by kernel_rfl
theorem bdIe_p00 (a : List Int) (b : List Int) (m : Nat) :
  along Try.prog (bdIe a b m) [false, false] = (some (.bool false, [], [(!decide ((↑(List.length a) : Int) = (↑(List.length b) : Int))) = false, RLoop Try.prog none 0 (cB (cB (cR (cL (cR (cR (bodyOf (Bd.f (bdIe a b m))))))))) (m + 1) (St.mk [.ros 1 (List.length a) (li a) false, .ros 1 (List.length b) (li b) false, .any, .any, .any, .int .i64 0, .any, .any, .any, .any, .any, .any, .any, .any, .any, .any, .any, .any, .any, .any, .any, .any, .any, .any, .any, .any] [] 0 []) .ret (St.mk [.any, .any, .any, .any, .bool false, .any, .any, .any, .any, .any, .any, .any, .any, .any, .any, .any, .any, .any, .any, .any, .any, .any, .any, .any, .any, .any] [] 0 []), q (List.length a), ∀ (k : Nat), k < List.length a → [V.int IntKind.i64 (List.getD a k (0 : Int))] = [V.int IntKind.i64 (List.getD a k (0 : Int))], false = true → false = true, q (List.length b), ∀ (k : Nat), k < List.length b → [V.int IntKind.i64 (List.getD b k (0 : Int))] = [V.int IntKind.i64 (List.getD b k (0 : Int))], false = true → false = true, q1]) : Option (V × Heap × List Prop)) := by kernel_rfl

theorem pcIe_p11 (a : List Int) (b : List Int) (k : Nat) :
  alongPc Try.prog (pcIe a b k) [true, true] = (some (.ret, St.mk [.any, .any, .any, .any, .bool false, .any, .any, .any, .any, .any, .any, .any, .any, .any, .any, .any, .any, .any, .any, .any, .any, .any, .any, .any, .any, .any] [] 0 [], [decide ((↑k : Int) < (↑(List.length a) : Int)) = true, (0 : Int) ≤ (↑k : Int) ∧ (↑k : Int) < (↑(List.length a) : Int), (0 : Int) ≤ (↑k : Int) ∧ (↑k : Int) < (↑(List.length b) : Int), (!decide (List.getD a (Int.toNat (↑k : Int)) (0 : Int) = List.getD b (Int.toNat (↑k : Int)) (0 : Int))) = true, q false]) : Option (Exit × St × List Prop)) := by kernel_rfl
theorem pcIe_p10 (a : List Int) (b : List Int) (k : Nat) :
  alongPc Try.prog (pcIe a b k) [true, false] = (some (.normal, St.mk [.ros 1 (List.length a) (li a) false, .ros 1 (List.length b) (li b) false, .any, .any, .any, .int .i64 (↑(k + 1) : Int), .any, .any, .any, .any, .any, .any, .any, .any, .any, .any, .any, .any, .any, .any, .any, .any, .any, .any, .any, .any] [] 0 [], [decide ((↑k : Int) < (↑(List.length a) : Int)) = true, (0 : Int) ≤ (↑k : Int) ∧ (↑k : Int) < (↑(List.length a) : Int), (0 : Int) ≤ (↑k : Int) ∧ (↑k : Int) < (↑(List.length b) : Int), (!decide (List.getD a (Int.toNat (↑k : Int)) (0 : Int) = List.getD b (Int.toNat (↑k : Int)) (0 : Int))) = false, InR IntKind.i64 ((↑k : Int) + (1 : Int)), q (List.length a), ∀ (k : Nat), k < List.length a → [V.int IntKind.i64 (List.getD a k (0 : Int))] = [V.int IntKind.i64 (List.getD a k (0 : Int))], false = true → false = true, q (List.length b), ∀ (k : Nat), k < List.length b → [V.int IntKind.i64 (List.getD b k (0 : Int))] = [V.int IntKind.i64 (List.getD b k (0 : Int))], false = true → false = true, (↑k : Int) + (1 : Int) = (↑(k + (1 : Nat)) : Int)]) : Option (Exit × St × List Prop)) := by kernel_rfl
theorem pcIe_p0 (a : List Int) (b : List Int) (k : Nat) :
  alongPc Try.prog (pcIe a b k) [false] = (some (.exit 0, St.mk [.ros 1 (List.length a) (li a) false, .ros 1 (List.length b) (li b) false, .any, .any, .any, .int .i64 (↑(List.length a) : Int), .any, .any, .any, .any, .any, .any, .any, .any, .any, .any, .any, .any, .any, .any, .any, .any, .any, .any, .any, .any] [] 0 [], [decide ((↑k : Int) < (↑(List.length a) : Int)) = false, q (List.length a), ∀ (k : Nat), k < List.length a → [V.int IntKind.i64 (List.getD a k (0 : Int))] = [V.int IntKind.i64 (List.getD a k (0 : Int))], false = true → false = true, q (List.length b), ∀ (k : Nat), k < List.length b → [V.int IntKind.i64 (List.getD b k (0 : Int))] = [V.int IntKind.i64 (List.getD b k (0 : Int))], false = true → false = true, (↑k : Int) = (↑(List.length a) : Int)]) : Option (Exit × St × List Prop)) := by kernel_rfl

theorem mem_getD {l : List Int} {n : Int} : n ∈ l ↔ ∃ k, k < l.length ∧ l.getD k 0 = n := by
 constructor
 ·intro h
  obtain ⟨k, hk, e⟩ := List.getElem_of_mem h
  exact ⟨k, hk, by rw [List.getD_eq_getElem?_getD, List.getElem?_eq_getElem hk]; exact e⟩
 ·rintro ⟨k, hk, rfl⟩
  rw [List.getD_eq_getElem?_getD, List.getElem?_eq_getElem hk]; exact List.getElem_mem hk
theorem T_ie1 {a b : List Int} (hl : a.length ≤ 1000000) (hn : a.length = b.length) : T Try.prog 23 [lr a, lr b] [] (.bool (decide (a = b))) [] := by
 rcases loop_all (P := Try.prog) (ro := none) (p := 0) (c := (cB (cB (cR (cL (cR (cR (bodyOf Try.f23)))))))) (I := ieI a b) (F := fun _ => ieF) (e := fun _ => .ret) (q := fun k => a.getD k 0 = b.getD k 0) (n := a.length)
   (fun k hk hq => by
    refine R_alongPc NG MO _ (pcIe_p10 a b k) ?_ (Nat.zero_le _)
    simp only [All, Int.toNat_natCast]; and_intros
    all_goals first
     | exact neg_f' (decide_eq_false hq)
     | exact neg_t (decide_eq_true hq)
     | (rw [decide_eq_true_eq]; assumption)
     | (rw [decide_eq_false_iff_not]; assumption)
     | (simp [hk, InR64, IntKind.min, IntKind.max, IntKind.signed, IntKind.bits] <;> omega)
)
   (fun k hk hq => by
    refine R_alongPc NG MO _ (pcIe_p11 a b k) ?_ (Nat.zero_le _)
    simp only [All, Int.toNat_natCast]; and_intros
    all_goals first
     | exact neg_f' (decide_eq_false hq)
     | exact neg_t (decide_eq_true hq)
     | (rw [decide_eq_true_eq]; assumption)
     | (rw [decide_eq_false_iff_not]; assumption)
     | (simp [hk, InR64, IntKind.min, IntKind.max, IntKind.signed, IntKind.bits] <;> omega)
)
   (by simp) (R_alongPc NG MO _ (pcIe_p0 a b a.length) (by simp [All]) (Nat.zero_le _)) (by simp) with ⟨h, hL⟩ | ⟨m, hm, _, hq, hL⟩
 ·refine T.val (T_al (bdIe_p01 a b 0) Try.func23 ?_) (by
   rw [decide_eq_true]
   apply List.ext_getElem hn
   intro k h1 h2
   have := h k h1
   rwa [List.getD_eq_getElem?_getD, List.getD_eq_getElem?_getD, List.getElem?_eq_getElem h1, List.getElem?_eq_getElem h2] at this)
  refine ⟨by simp [hn], hL, ?_⟩; simp [All]
 ·refine T.val (T_al (bdIe_p00 a b m) Try.func23 ?_) (by
   rw [decide_eq_false]; rintro rfl; exact hq rfl)
  refine ⟨by simp [hn], hL, ?_⟩; simp [All]
theorem T_ie {a b : List Int} (hl : a.length ≤ 1000000) : T Try.prog 23 [lr a, lr b] [] (.bool (decide (a = b))) [] := by
 by_cases hn : a.length = b.length
 ·exact T_ie1 hl hn
 ·refine T.val (T_al (bdIe_p1 a b 0) Try.func23 ?_) (by
   rw [decide_eq_false]; rintro rfl; exact hn rfl)
  refine ⟨?_, trivial⟩
  rw [decide_eq_false]; rfl
  omega
theorem T_gn (n : Int) : T Try.prog 12 [.int .i64 n] [] (.bool (goodN n)) [] := by
 by_cases h1 : 4 ≤ n
 ·by_cases h2 : n ≤ 64
  ·refine T.val (T_al (bdGn_p11 n) Try.func12 ⟨decide_eq_true h1, decide_eq_true h2, ⟨by omega, by omega⟩, trivial⟩) ?_
   rw [goodN, decide_eq_true h1, decide_eq_true h2, Int.tmod_eq_emod_of_nonneg (by omega)]; rfl
  ·refine T.val (T_al (bdGn_p10 n) Try.func12 ⟨decide_eq_true h1, decide_eq_false h2, trivial⟩) ?_
   rw [goodN, decide_eq_true h1, decide_eq_false h2]; rfl
 ·refine T.val (T_al (bdGn_p00 n) Try.func12 ⟨decide_eq_false h1, rfl, trivial⟩) ?_
  rw [goodN, decide_eq_false h1]; rfl
theorem goodN_iff {n : Int} : goodN n = true ↔ 4 ≤ n ∧ n ≤ 64 ∧ n % 3 = 1 := by
 simp only [goodN, Bool.and_eq_true, decide_eq_true_eq]
 constructor
 ·rintro ⟨h1, h2, h3⟩; rw [Int.tmod_eq_emod_of_nonneg (by omega)] at h3; exact ⟨h1, h2, h3⟩
 ·rintro ⟨h1, h2, h3⟩; rw [Int.tmod_eq_emod_of_nonneg (by omega)]; exact ⟨h1, h2, h3⟩
def shareS (n t : Int) : Int := if goodN n = true then t * (n / 3) + 1 else 0
theorem T_sh {n t : Int} (h1 : 0 ≤ t) (h2 : t ≤ 2) : T Try.prog 44 [.int .i64 n, .int .i64 t] [] (.int .i64 (shareS n t)) [] := by
 have hG := T_gn n
 cases hg : goodN n with
 | false =>
  rw [hg] at hG
  exact T.val (T_al (bdSh_p1 n t false) Try.func44 ⟨hG, rfl, trivial⟩) (by simp [shareS, hg])
 | true =>
  rw [hg] at hG
  obtain ⟨g1, g2, g3⟩ := goodN_iff.1 hg
  have e : t = 0 ∨ t = 1 ∨ t = 2 := by omega
  refine T.val (T_al (bdSh_p0 n t true) Try.func44 ⟨hG, rfl, ⟨by omega, by omega, by rw [InR64]; omega⟩, ?_, ?_, trivial⟩) (by simp [shareS, hg])
  ·rw [InR64]; rcases e with rfl | rfl | rfl <;> omega
  ·rw [InR64]; rcases e with rfl | rfl | rfl <;> omega
def someS (n : Int) : Int := shareS n 1
theorem T_sm (n : Int) : T Try.prog 16 [.int .i64 n] [] (.int .i64 (someS n)) [] :=
 T_al (bdSm_p n (someS n)) Try.func16 ⟨T_sh (by decide) (by decide), trivial⟩
def mostS (n : Int) : Int := shareS n 2
theorem T_mo (n : Int) : T Try.prog 18 [.int .i64 n] [] (.int .i64 (mostS n)) [] :=
 T_al (bdMo_p n (mostS n)) Try.func18 ⟨T_sh (by decide) (by decide), trivial⟩
def fauS (n : Int) : Int := if goodN n = true then n / 3 else 0
theorem share_le {n t : Int} (h1 : 0 ≤ t) (h2 : t ≤ 2) : 0 ≤ shareS n t ∧ shareS n t ≤ 64 := by
 unfold shareS
 split
 ·rename_i hg
  obtain ⟨g1, g2, g3⟩ := goodN_iff.1 hg
  have e : t = 0 ∨ t = 1 ∨ t = 2 := by omega
  rcases e with rfl | rfl | rfl <;> omega
 ·omega
theorem T_fa (n : Int) : T Try.prog 14 [.int .i64 n] [] (.int .i64 (fauS n)) [] := by
 have hS : T Try.prog 44 [.int .i64 n, .int .i64 1] [] (.int .i64 (shareS n 1)) [] := T_sh (by decide) (by decide)
 have hb := share_le (n := n) (t := 1) (by decide) (by decide)
 refine T.val (T_al (bdFa_p n (shareS n 1)) Try.func14 ?_) ?_
 ·simp only [All]; and_intros
  all_goals first
   | exact hS
   | trivial
   | (simp only [IntKind.min, IntKind.max, IntKind.signed, IntKind.bits, if_true]; omega)
   | omega
 ·unfold fauS shareS imax
  unfold shareS at hb
  congr 1
  cases hg : goodN n with
  | false => rfl
  | true =>
   rw [hg] at hb
   obtain ⟨g1, g2, g3⟩ := goodN_iff.1 hg
   simp only [if_true] at hb ⊢
   split <;> omega
theorem T_rgn (n : Int) : T Try.prog 13 [.int .i64 n] [] (.bool (goodN n)) [] := by
 by_cases h1 : 4 ≤ n
 ·by_cases h2 : n ≤ 64
  ·refine T.val (T_al (bdRG_p11 n) Try.func13 ⟨decide_eq_true h1, decide_eq_true h2, ⟨by omega, by omega⟩, trivial⟩) ?_
   rw [goodN, decide_eq_true h1, decide_eq_true h2, Int.tmod_eq_emod_of_nonneg (by omega)]; rfl
  ·refine T.val (T_al (bdRG_p10 n) Try.func13 ⟨decide_eq_true h1, decide_eq_false h2, trivial⟩) ?_
   rw [goodN, decide_eq_true h1, decide_eq_false h2]; rfl
 ·refine T.val (T_al (bdRG_p00 n) Try.func13 ⟨decide_eq_false h1, rfl, trivial⟩) ?_
  rw [goodN, decide_eq_false h1]; rfl
theorem T_rfa (n : Int) : T Try.prog 15 [.int .i64 n] [] (.int .i64 (fauS n)) [] := by
 have hG := T_rgn n
 cases hg : goodN n with
 | false =>
  rw [hg] at hG
  refine T.val (T_al (bdRF_p1 n false) Try.func15 ?_) (by simp [fauS, someS, mostS, shareS, hg])
  exact ⟨hG, rfl, trivial⟩
 | true =>
  rw [hg] at hG
  obtain ⟨g1, g2, g3⟩ := goodN_iff.1 hg
  refine T.val (T_al (bdRF_p0 n true) Try.func15 ?_) (by simp [fauS, someS, mostS, shareS, hg])
  simp only [All]; and_intros
  all_goals first
   | exact hG
   | rfl
   | trivial
   | (simp only [IntKind.min, IntKind.max, IntKind.signed, IntKind.bits, if_true]; omega)
   | omega
theorem T_rsm (n : Int) : T Try.prog 17 [.int .i64 n] [] (.int .i64 (someS n)) [] := by
 have hG := T_rgn n
 cases hg : goodN n with
 | false =>
  rw [hg] at hG
  refine T.val (T_al (bdRS_p1 n false) Try.func17 ?_) (by simp [fauS, someS, mostS, shareS, hg])
  exact ⟨hG, rfl, trivial⟩
 | true =>
  rw [hg] at hG
  obtain ⟨g1, g2, g3⟩ := goodN_iff.1 hg
  refine T.val (T_al (bdRS_p0 n true) Try.func17 ?_) (by simp [fauS, someS, mostS, shareS, hg])
  simp only [All]; and_intros
  all_goals first
   | exact hG
   | rfl
   | trivial
   | (simp only [IntKind.min, IntKind.max, IntKind.signed, IntKind.bits, if_true]; omega)
   | omega
theorem T_rmo (n : Int) : T Try.prog 19 [.int .i64 n] [] (.int .i64 (mostS n)) [] := by
 have hG := T_rgn n
 cases hg : goodN n with
 | false =>
  rw [hg] at hG
  refine T.val (T_al (bdRM_p1 n false) Try.func19 ?_) (by simp [fauS, someS, mostS, shareS, hg])
  exact ⟨hG, rfl, trivial⟩
 | true =>
  rw [hg] at hG
  obtain ⟨g1, g2, g3⟩ := goodN_iff.1 hg
  refine T.val (T_al (bdRM_p0 n true) Try.func19 ?_) (by simp [fauS, someS, mostS, shareS, hg])
  simp only [All]; and_intros
  all_goals first
   | exact hG
   | rfl
   | trivial
   | (simp only [IntKind.min, IntKind.max, IntKind.signed, IntKind.bits, if_true]; omega)
   | omega
end Go.Proofs.Ytpallipnhmoipaa
namespace Go.Proofs.Ytpallipnhmoipaa
open Go Sy Go.Proofs
section
open Go.Shelf
def sl6_ren : Go.Shelf.Ren := ⟨fun | 6 => 45 | 10 => 58 | 11 => 59 | 12 => 60 | 13 => 61 | 14 => 62 | 24 => 79 | 25 => 80 | 26 => 81 | 27 => 82 | 28 => 83 | 29 => 84 | 30 => 85 | 31 => 86 | 32 => 87 | 33 => 88 | 34 => 92 | 35 => 93 | 36 => 94 | 37 => 95 | 38 => 96 | 39 => 105 | n => n, fun | 20 => 20 | 26 => 81 | 35 => 103 | 0 => 0 | 37 => 105 | 3 => 3 | 41 => 29 | 44 => 110 | 49 => 125 | 51 => 127 | 4 => 4 | 54 => 130 | 53 => 129 | 58 => 134 | 5 => 5 | 9 => 9 | 60 => 141 | 64 => 145 | 66 => 154 | 67 => 155 | 17 => 17 | 32 => 100 | 33 => 101 | 82 => 173 | 12 => 12 | 75 => 166 | 76 => 167 | 77 => 168 | 78 => 169 | 79 => 170 | 80 => 171 | n => n, fun | n => n⟩
theorem sl6 : Go.Proofs.LaysGg.n6 Try.prog sl6_ren := {
 mixed := by kernel_rfl
 f6 := Try.func45.trans (congrArg some (by kernel_rfl))
 f10 := Try.func58.trans (congrArg some (by kernel_rfl))
 f11 := Try.func59.trans (congrArg some (by kernel_rfl))
 f12 := Try.func60.trans (congrArg some (by kernel_rfl))
 f13 := Try.func61.trans (congrArg some (by kernel_rfl))
 f14 := Try.func62.trans (congrArg some (by kernel_rfl))
 f24 := Try.func79.trans (congrArg some (by kernel_rfl))
 f25 := Try.func80.trans (congrArg some (by kernel_rfl))
 f26 := Try.func81.trans (congrArg some (by kernel_rfl))
 f27 := Try.func82.trans (congrArg some (by kernel_rfl))
 f28 := Try.func83.trans (congrArg some (by kernel_rfl))
 f29 := Try.func84.trans (congrArg some (by kernel_rfl))
 f30 := Try.func85.trans (congrArg some (by kernel_rfl))
 f31 := Try.func86.trans (congrArg some (by kernel_rfl))
 f32 := Try.func87.trans (congrArg some (by kernel_rfl))
 f33 := Try.func88.trans (congrArg some (by kernel_rfl))
 f34 := Try.func92.trans (congrArg some (by kernel_rfl))
 f35 := Try.func93.trans (congrArg some (by kernel_rfl))
 f36 := Try.func94.trans (congrArg some (by kernel_rfl))
 f37 := Try.func95.trans (congrArg some (by kernel_rfl))
 f38 := Try.func96.trans (congrArg some (by kernel_rfl))
 f39 := Try.func105.trans (congrArg some (by kernel_rfl))
 t0 := Try.underlying0
 a0 := Try.isAgg0
 z0 := Try.sizeOf0
 v0 := Try.zeroValue0
 i0 := by kernel_rfl
 t3 := Try.underlying3
 a3 := Try.isAgg3
 z3 := Try.sizeOf3
 v3 := Try.zeroValue3
 i3 := by kernel_rfl
 t4 := Try.underlying4
 a4 := Try.isAgg4
 z4 := Try.sizeOf4
 v4 := Try.zeroValue4
 i4 := by kernel_rfl
 t5 := Try.underlying5
 a5 := Try.isAgg5
 z5 := Try.sizeOf5
 v5 := Try.zeroValue5
 i5 := by kernel_rfl
 t9 := Try.underlying9
 a9 := Try.isAgg9
 z9 := Try.sizeOf9
 v9 := Try.zeroValue9
 i9 := by kernel_rfl
 t12 := Try.underlying12
 a12 := Try.isAgg12
 z12 := Try.sizeOf12
 v12 := Try.zeroValue12
 i12 := by kernel_rfl
 t17 := Try.underlying17
 a17 := Try.isAgg17
 z17 := Try.sizeOf17
 v17 := Try.zeroValue17
 i17 := by kernel_rfl
 t20 := Try.underlying20
 a20 := Try.isAgg20
 z20 := Try.sizeOf20
 v20 := Try.zeroValue20
 i20 := by kernel_rfl
 t26 := Try.underlying81
 a26 := Try.isAgg81
 z26 := Try.sizeOf81
 v26 := Try.zeroValue81
 i26 := by kernel_rfl
 t32 := Try.underlying100
 a32 := Try.isAgg100
 z32 := Try.sizeOf100
 v32 := Try.zeroValue100
 i32 := by kernel_rfl
 t33 := Try.underlying101
 a33 := Try.isAgg101
 z33 := Try.sizeOf101
 v33 := Try.zeroValue101
 i33 := by kernel_rfl
 t35 := Try.underlying103
 a35 := Try.isAgg103
 z35 := Try.sizeOf103
 v35 := Try.zeroValue103
 i35 := by kernel_rfl
 t37 := Try.underlying105
 a37 := Try.isAgg105
 z37 := Try.sizeOf105
 v37 := Try.zeroValue105
 i37 := by kernel_rfl
 t41 := Try.underlying29
 a41 := Try.isAgg29
 z41 := Try.sizeOf29
 v41 := Try.zeroValue29
 i41 := by kernel_rfl
 t44 := Try.underlying110
 a44 := Try.isAgg110
 z44 := Try.sizeOf110
 v44 := Try.zeroValue110
 i44 := by kernel_rfl
 t49 := Try.underlying125
 a49 := Try.isAgg125
 z49 := Try.sizeOf125
 v49 := Try.zeroValue125
 i49 := by kernel_rfl
 t51 := Try.underlying127
 a51 := Try.isAgg127
 z51 := Try.sizeOf127
 v51 := Try.zeroValue127
 i51 := by kernel_rfl
 t53 := Try.underlying129
 a53 := Try.isAgg129
 z53 := Try.sizeOf129
 v53 := Try.zeroValue129
 i53 := by kernel_rfl
 t54 := Try.underlying130
 a54 := Try.isAgg130
 z54 := Try.sizeOf130
 v54 := Try.zeroValue130
 i54 := by kernel_rfl
 t58 := Try.underlying134
 a58 := Try.isAgg134
 z58 := Try.sizeOf134
 v58 := Try.zeroValue134
 i58 := by kernel_rfl
 t60 := Try.underlying141
 a60 := Try.isAgg141
 z60 := Try.sizeOf141
 v60 := Try.zeroValue141
 i60 := by kernel_rfl
 t64 := Try.underlying145
 a64 := Try.isAgg145
 z64 := Try.sizeOf145
 v64 := Try.zeroValue145
 i64 := by kernel_rfl
 t66 := Try.underlying154
 a66 := Try.isAgg154
 z66 := Try.sizeOf154
 v66 := Try.zeroValue154
 i66 := by kernel_rfl
 t67 := Try.underlying155
 a67 := Try.isAgg155
 z67 := Try.sizeOf155
 v67 := Try.zeroValue155
 i67 := by kernel_rfl
 t75 := Try.underlying166
 a75 := Try.isAgg166
 z75 := Try.sizeOf166
 v75 := Try.zeroValue166
 i75 := by kernel_rfl
 t76 := Try.underlying167
 a76 := Try.isAgg167
 z76 := Try.sizeOf167
 v76 := Try.zeroValue167
 i76 := by kernel_rfl
 t77 := Try.underlying168
 a77 := Try.isAgg168
 z77 := Try.sizeOf168
 v77 := Try.zeroValue168
 i77 := by kernel_rfl
 t78 := Try.underlying169
 a78 := Try.isAgg169
 z78 := Try.sizeOf169
 v78 := Try.zeroValue169
 i78 := by kernel_rfl
 t79 := Try.underlying170
 a79 := Try.isAgg170
 z79 := Try.sizeOf170
 v79 := Try.zeroValue170
 i79 := by kernel_rfl
 t80 := Try.underlying171
 a80 := Try.isAgg171
 z80 := Try.sizeOf171
 v80 := Try.zeroValue171
 i80 := by kernel_rfl
 t82 := Try.underlying173
 a82 := Try.isAgg173
 z82 := Try.sizeOf173
 v82 := Try.zeroValue173
 i82 := by kernel_rfl }
end
set_option maxHeartbeats 2000000 in
theorem less_nth (blk c Bs size : Nat) (W : World) (G : Nat → Int) (hs : W.cell? ⟨Bs, 0, none⟩ = some (.slice (some ⟨blk, 0, none⟩) size c))
  (hc : ∀ t, t < size → W.cell? ⟨blk, 0 + t, none⟩ = some (.int .i64 (G t))) (i j : Nat) (hi : i < size) (hj : j < size) :
  Calls Try.prog 46 #[.int .i64 i, .int .i64 j, .pointer (some ⟨Bs, 0, none⟩)] W fun e w' => e = .returned (.bool (gtI (G i) (G j))) ∧ ∃ q, w' = W.drewN q := by
 have ci := hc i hi
 have cj := hc j hj
 rw [Nat.zero_add] at ci cj
 go_enter Try.func46, Try.ntmps46
 go_wp2
 go_quiet (fail)
 go_wp2
 go_ret
 exact ⟨rfl, nq, rfl⟩
theorem hx5 : ∀ args W, (callFunc 74 args).run Try.prog W = ((Extern.ReflectliteSwapper.swap true args).run Try.prog W).andThen fun v w' => .ok (.value v) w' :=
 fun args W => run_callFunc_extern Try.func74 (by kernel_rfl) (by kernel_rfl) (by kernel_rfl) (e := Extern.ReflectliteSwapper.swap true) (by kernel_rfl) args W
theorem intK : ∃ ie, Try.prog.info? 3 = some ie ∧ ie.hasPointers = false ∧ ie.bytes = 8 ∧ ie.size = 1 ∧ ∀ w, (Extern.Rtype.kind 3).run Try.prog w = .ok 2 w := by
 obtain ⟨ie, h1, h2, h3, h6, h4, h5⟩ : ∃ ie, Try.prog.info? 3 = some ie ∧ ie.hasPointers = false ∧ ie.bytes = 8 ∧ ie.size = 1 ∧ ie.desc = .int .i64 ∧ ie.str = "int" := ⟨(Try.prog.info? 3).get (by kernel_rfl), by kernel_rfl, by kernel_rfl, by kernel_rfl, by kernel_rfl, by kernel_rfl, by kernel_rfl⟩
 refine ⟨ie, h1, h2, h3, h6, fun w => ?_⟩
 simp [Extern.Rtype.kind, Extern.Rtype.under, typeInfo, h1, h4, h5, Result.andThen]
theorem slI : ∃ ti, Try.prog.info? 25 = some ti ∧ ti.desc = .slice 3 := ⟨(Try.prog.info? 25).get (by kernel_rfl), by kernel_rfl, by kernel_rfl⟩
theorem T_sl {q b es : Nat} {l : List Int} {cap cap' : Option Nat} (hl0 : 0 < l.length) (hl : l.length ≤ 1000000) :
  T Try.prog 45 [.ifc 25 (.sl (.o q) 1 0 0 0 l.length cap), .fn (.func 46) [] [.ptr (.o b) es 0 0 0]] [(.o q, .rows 1 l.length (li l) true), (.o b, .flat [.sl (.o q) 1 0 0 0 l.length cap'])] (.tup [])
   [(.o q, .rows 1 l.length (li (srtD l)) true), (.o b, .flat [.sl (.o q) 1 0 0 0 l.length cap'])] := by
 obtain ⟨ti, h1, h2⟩ := slI
 obtain ⟨ie, i1, i2, i3, i4, i5⟩ := intK
 exact T_slice sl6 h1 h2 (by kernel_rfl) i1 i5 i4 Try.isAgg3 i2 i3 (enters_of Try.func46 (by kernel_rfl) rfl) (f1 := 71) (f5 := 74) (by kernel_rfl) (by kernel_rfl) hx5 less_nth hl0 (by omega)
end Go.Proofs.Ytpallipnhmoipaa
namespace Go.Proofs.Ytpallipnhmoipaa
open Go Sy Go.Proofs
def slDb (l : List Int) : List V → Heap → Nat → List Cl := fun a h _ => match a with
 | [.ifc _ (.sl s _ _ _ _ _ _), .fn _ _ [.ptr b _ _ _ _]] => [{ pre := [s, b], val := .tup [], post := [(s, .rows 1 l.length (li (srtD l)) true), (b, .flat [.sl s 1 0 0 0 l.length none])] }]
 | _ => []
noncomputable def bdNt (l : List Int) (i : Int) : Bd := { f := Try.f21, args := [lr l, .int .i64 i], kb := { db := dbQ [(45, slDb l)] } }
def rnI (l : List Int) (i : Int) (k : Nat) : St := ⟨mkT 57 [(0, lr l), (1, .int .i64 i), (5, .int .i64 k)], [], 0, []⟩
def rnF (v : Int) : St := ⟨mkT 57 [(4, .int .i64 v)], [], 0, []⟩
def rnJ (l : List Int) (i : Int) (k : Nat) (a s : Int) (j : Nat) : St := ⟨mkT 57 [(0, lr l), (1, .int .i64 i), (5, .int .i64 k), (6, .int .i64 a), (7, .int .i64 s), (8, .int .i64 j)], [], 0, []⟩
noncomputable def bdRn (l : List Int) (i : Int) (m : Nat) (v : Int) : Bd := { f := Try.f22, args := [lr l, .int .i64 i], kb := { db := fun _ _ _ _ => [], lp := fun _ _ => [(True, .loop (l.length + 1) (wTo (rnI l i 0)) (.exit 0) (rnI l i l.length)), (True, .loop (m + 1) (wTo (rnI l i 0)) .ret (rnF v))] } }
noncomputable def pcRn (l : List Int) (i : Int) (k : Nat) (a s v : Int) : Pc := { c := (cB (cB (cR (cL (cR (bodyOf Try.f22)))))), st := rnI l i k, kb := { db := fun _ _ _ _ => [], lp := fun _ _ => [(True, .loop (l.length + 1) (wTo (rnJ l i k 0 0 0)) (.exit 2) (rnJ l i k a s l.length))] }, k := fun e _ => match e with
 | .normal => some (wTo (rnI l i (k + 1)))
 | .ret => some (wTo (rnF v))
 | _ => some (wTo (rnI l i l.length)) }
noncomputable def pcRj (l : List Int) (i : Int) (k : Nat) (a s a2 s2 : Int) (j : Nat) : Pc := { c := (cB (cB (cR (cL (cR (cR (cB (cL (cR (cB (cB (cR (cL (cR (bodyOf Try.f22))))))))))))))), st := rnJ l i k a s j, kb := kb0, k := fun e _ => match e with
 | .normal => some (wTo (rnJ l i k a2 s2 (j + 1)))
 | _ => some (wTo (rnJ l i k a s l.length)) }
end Go.Proofs.Ytpallipnhmoipaa
