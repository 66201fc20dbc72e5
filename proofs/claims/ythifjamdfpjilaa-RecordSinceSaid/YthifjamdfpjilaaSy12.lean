/-
  Reading and writing of blocks, append (own work of this seat).
-/
import Derived.Test.YthifjamdfpjilaaSy11
import Derived.Deep.Upon
namespace Sy
open Go

variable {P : Program} {U : Imm} {ρ : Env}

/-! ### Reading and writing -/
def loadH (P : Program) (t : TypeId) (a : V) (bs : Heap) : Option Eff :=
  match a with
  | .ptr n es i o j => match bs with
    | [(n', b)] => bif n.beq n' then match elemB b es i with
        | some (cs, c1) => match loadC P t cs o j with
          | some (v, c2) => some (v, [(n', b)], c1 ++ c2)
          | none => none
        | none => none
      else none
    | _ => none
  | _ => none
theorem loadH_ok {t : TypeId} {a : V} {x : Value} {bs : Heap} {r : Eff} (h : loadH P t a bs = some r) (hc : All r.2.2) (ha : VRel U ρ a x) {w : World} (H : HRel U ρ bs w) :
    ∃ y w' U' ρ', (Instr.loadAt t x).run P w = .ok y w' ∧ Leaves U ρ bs w r.1 r.2.1 y U' ρ' w' := by
  unfold loadH at h
  cases a <;> simp only [reduceCtorEq] at h
  rename_i n es i o j
  split at h
  · rename_i n' b
    cases hn : n.beq n' <;> simp only [hn, cond_true, cond_false, reduceCtorEq] at h
    have hn' := Nm.beq_iff.1 hn; subst hn'
    cases he : elemB b es i with
    | none => simp [he] at h
    | some p =>
      obtain ⟨cs, c1⟩ := p
      simp only [he] at h
      cases hl : loadC P t cs o j with
      | none => simp [hl] at h
      | some q =>
        obtain ⟨v, c2⟩ := q
        simp only [hl, Option.some.injEq] at h
        subst h
        obtain ⟨h1, h2⟩ := All_append.1 hc
        rw [VRel] at ha
        obtain ⟨l, e1, e2, rfl⟩ := ha
        obtain ⟨ob, g1, g2, _⟩ := H.real (List.mem_singleton.2 rfl) e1 e2
        obtain ⟨y, g3, g4⟩ := loadB_ok g2 g1 he hl h1 h2
        exact ⟨y, w, U, ρ, by simp only [Instr.loadAt, Instr.sureAddr, Sem.run_bind, Sem.run_pure, Result.andThen_ok]; exact g3, Leaves.same H g4 rfl⟩
  · simp at h

def storeH (P : Program) (t : TypeId) (a v : V) (bs : Heap) : Option Eff :=
  match a with
  | .ptr n es i o j => match bs with
    | [(n', b)] => bif n.beq n' && ((P.info? t).isSome && !(rowsB b && !V.within (fun _ => false) v)) then match elemB b es i with
        | some (cs, c1) => match storeC P t cs o j v with
          | some (cs', c2) => some (.any, [(n', putB b i cs')], c1 ++ c2)
          | none => none
        | none => none
      else none
    | _ => none
  | _ => none
theorem storeH_ok {t : TypeId} {a v : V} {x y : Value} {bs : Heap} {r : Eff} (h : storeH P t a v bs = some r) (hc : All r.2.2) (ha : VRel U ρ a x) (hv : VRel U ρ v y) {w : World} (H : HRel U ρ bs w) :
    ∃ w' U' ρ', (Instr.storeAt t x y).run P w = .ok () w' ∧ Leaves U ρ bs w r.1 r.2.1 undef U' ρ' w' := by
  unfold storeH at h
  cases a <;> simp only [reduceCtorEq] at h
  rename_i n es i o j
  split at h
  · rename_i n' b
    cases hn : (n.beq n' && ((P.info? t).isSome && !(rowsB b && !V.within (fun _ => false) v))) <;> simp only [hn, cond_true, cond_false, reduceCtorEq] at h
    rw [Bool.and_eq_true, Bool.and_eq_true] at hn
    obtain ⟨hn1, hn2, hn3⟩ := hn
    have hn' := Nm.beq_iff.1 hn1; subst hn'
    obtain ⟨ti, hti⟩ := Option.isSome_iff_exists.1 hn2
    cases he : elemB b es i with
    | none => simp [he] at h
    | some p =>
      obtain ⟨cs, c1⟩ := p
      simp only [he] at h
      cases hl : storeC P t cs o j v with
      | none => simp [hl] at h
      | some q =>
        obtain ⟨cs', c2⟩ := q
        simp only [hl, Option.some.injEq] at h
        subst h
        obtain ⟨h1, h2⟩ := All_append.1 hc
        rw [VRel] at ha
        obtain ⟨l, e1, e2, rfl⟩ := ha
        obtain ⟨ob, g1, g2, _⟩ := H.real (List.mem_singleton.2 rfl) e1 e2
        obtain ⟨ob', g3, g4⟩ := storeB_ok g2 g1 hti he hl h1 h2 hv (by rw [Bool.not_eq_true'] at hn3; exact hn3)
        exact ⟨_, U, ρ, by simp only [Instr.storeAt, Instr.sureAddr, Sem.run_bind, Sem.run_pure, Result.andThen_ok]; exact g3, Leaves.set H e1 e2 rfl g4 (by rw [VRel]; trivial)⟩
  · simp at h

/-! ### A block under another name -/
theorem Leaves.move {pre : Heap} {w w' : World} {val : V} {x : Value} {n m : Nm} {b b' : B} {l : Loc} {o' : Obj} (H : HRel U ρ ((n, b) :: pre) w) (hm : ρ m = none) (hl : ρ n = some l) (hr : l.real = true)
    (e : w'.heap = w.heap.setIfInBounds l.blk o') (hb : BRel U (ρ.add m l) l.sz b' o') (hv : VRel U (ρ.add m l) val x) (eo : w'.os = w.os ∧ w'.output = w.output := by exact ⟨rfl, rfl⟩) : Leaves U ρ ((n, b) :: pre) w val ((m, b') :: pre) x U (ρ.add m l) w' := by
  obtain ⟨o, h2, h3, h4⟩ := H.real (List.mem_cons_self ..) hl hr
  have hlt := lt_size h2
  have hle := Env.le_add hm l
  have hold : ∀ k, k ≠ l.blk → w'.heap[k]? = w.heap[k]? := fun k hk => by rw [e, Array.getElem?_setIfInBounds]; simp [Ne.symm hk]
  have hpm : ∀ b0, (m, b0) ∉ pre := fun b0 h => by obtain ⟨l0, h1, _⟩ := H.blk m b0 (List.mem_cons_of_mem _ h); rw [hm] at h1; cases h1
  have hne : ∀ k b0, (k, b0) ∈ pre → k ≠ m := fun k b0 h e => hpm b0 (e ▸ h)
  have hna : ∀ k b0, (k, b0) ∈ pre → k ≠ n := fun k b0 h e => by
    have := H.nd
    rw [List.map_cons, List.nodup_cons] at this
    exact this.1 (List.mem_map.2 ⟨(k, b0), h, e⟩)
  have hval : ∀ k b0 l0, (k, b0) ∈ pre → ρ.add m l k = some l0 → ρ k = some l0 := fun k b0 l0 h e => by simpa [Env.add, hne k b0 h] using e
  refine ⟨hv, ⟨fun k b0 h => ?_, fun k b1 k' b2 l1 l2 h1 h2 e1 e2 r1 r2 e3 => ?_, ?_, fun k c hk => ?_⟩, fun k l0 _ h => hle k l0 h, fun k l0 h => ?_, ⟨by rw [e]; simp, Imm.le_refl _, fun k hk hn => hold k ?_, fun k l0 hd h hr0 => ?_, fun _ _ h => .inl h, eo⟩⟩
  · rcases List.mem_cons.1 h with h | h
    · cases h
      exact ⟨l, Env.add_self, .inl ⟨hr, o', by rw [e, Array.getElem?_setIfInBounds]; simp [hlt], hb, h4⟩⟩
    · obtain ⟨l0, g1, g2⟩ := H.blk k b0 (List.mem_cons_of_mem _ h)
      refine ⟨l0, hle _ _ g1, g2.imp ?_ id⟩
      rintro ⟨hr0, ob, g3, g4, g5⟩
      refine ⟨hr0, ob, ?_, BRel.mono (Imm.le_refl _) hle g4, g5⟩
      rw [hold _ fun hk => hna k b0 h (H.inj k b0 n b l0 l (List.mem_cons_of_mem _ h) (List.mem_cons_self ..) g1 hl hr0 hr hk)]
      exact g3
  · rcases List.mem_cons.1 h1 with h1 | h1 <;> rcases List.mem_cons.1 h2 with h2 | h2
    · cases h1; cases h2; rfl
    · cases h1
      rw [Env.add_self] at e1; cases e1
      exact absurd (H.inj n b k' b2 l l2 (List.mem_cons_self ..) (List.mem_cons_of_mem _ h2) hl (hval _ _ _ h2 e2) hr r2 e3) (Ne.symm (hna k' b2 h2))
    · cases h2
      rw [Env.add_self] at e2; cases e2
      exact absurd (H.inj n b k b1 l l1 (List.mem_cons_self ..) (List.mem_cons_of_mem _ h1) hl (hval _ _ _ h1 e1) hr r1 e3.symm) (Ne.symm (hna k b1 h1))
    · exact H.inj k b1 k' b2 l1 l2 (List.mem_cons_of_mem _ h1) (List.mem_cons_of_mem _ h2) (hval _ _ _ h1 e1) (hval _ _ _ h2 e2) r1 r2 e3
  · have := H.nd
    rw [List.map_cons, List.nodup_cons] at this ⊢
    refine ⟨fun h => ?_, this.2⟩
    obtain ⟨⟨k, b0⟩, h1, rfl⟩ := List.mem_map.1 h
    exact hpm b0 h1
  · obtain ⟨el, fr, h⟩ := H.imm k c hk
    exact ⟨el, fr, by rw [hold k (fun hk' => by rw [hk', h4] at hk; cases hk)]; exact h⟩
  · by_cases hk : k = m
    · subst hk; exact .inl ⟨b', List.mem_cons_self ..⟩
    · exact .inr (by simpa [Env.add, hk] using h)
  · intro hk'; exact hn n l ⟨b, List.mem_cons_self ..⟩ hl hr hk'.symm
  · obtain ⟨b1, h1⟩ := hd
    rcases List.mem_cons.1 h1 with h1 | h1
    · cases h1
      rw [Env.add_self] at h; cases h
      exact .inr ⟨n, l, ⟨b, List.mem_cons_self ..⟩, hl, hr, rfl⟩
    · exact .inr ⟨k, l0, ⟨b1, List.mem_cons_of_mem _ h1⟩, hval _ _ _ h1 h, hr0, rfl⟩

/-! ### append -/
/-- The elements that are appended: how many, which; what is asked. -/
def srcG (es : Nat) (v : V) (bs : Heap) : Option (Nat × (Nat → List V) × List Prop) :=
  match v with
  | .snil => match bs with
    | [] => some (0, fun _ => [], [])
    | _ => none
  | .ros es' len f _ => match bs with
    | [] => bif Nat.beq es es' then some (len, f, [∀ k, k < len → solid (f k) = true]) else none
    | _ => none
  | .str s => match bs with
    | [] => bif Nat.beq es 1 then some (s.size, fun k => [.int .u8 (byteAt s k)], []) else none
    | _ => none
  | .sl n es' i o j len _ => match bs with
    | [(n', .rows es2 nn f _)] => bif n.beq n' && (Nat.beq es es' && (Nat.beq es es2 && (Nat.beq o 0 && Nat.beq j 0))) then
        some (len, fun k => f (i + k), [i + len ≤ nn, ∀ k, k < len → solid (f (i + k)) = true])
      else none
    | [(n', .flat cs)] => bif n.beq n' && (Nat.beq es 1 && Nat.beq es' 0) then match splitC cs o with
        | some (_, .seg k m xs :: _) => some (len, fun q => [.int k (xs.getD (j + q) 0)], [j + len ≤ m])
        | _ => none
      else none
    | _ => none
  | _ => none
def srcK (P : Program) (v : V) (tx : TypeId) : Bool := match v with
  | .str _ => match P.underlying tx with
    | some .string => true
    | _ => false
  | _ => match P.underlying tx with
    | some (.slice _) => true
    | _ => false

/-- So many elements of so many cells each, one behind the other. -/
def Rows (U : Imm) (es m : Nat) (g : Nat → List V) (l : List Value) : Prop :=
  l.length = m * es ∧ ∀ i, i < m → ∃ r, CsRel U Env.none (g i) r ∧ r.length = es ∧ ∀ k, k < r.length → l[i * es + k]? = r[k]?

theorem rows_of_blk {es base m : Nat} {g : Nat → List V} {c : Array Value} (h : ∀ i, i < m → ∃ r, CsRel U Env.none (g i) r ∧ r.length = es ∧ ∀ k, k < r.length → c[base + i * es + k]? = r[k]?) :
    ∃ l, Rows U es m g l ∧ ∀ j v, l[j]? = some v → c[base + j]? = some v := by
  have hsz : base + m * es ≤ c.size ∨ m * es = 0 := by
    rcases Nat.eq_zero_or_pos m with h0 | h0
    · right; rw [h0, Nat.zero_mul]
    · rcases Nat.eq_zero_or_pos es with h1 | h1
      · right; rw [h1, Nat.mul_zero]
      · obtain ⟨r, _, h3, h4⟩ := h (m - 1) (by omega)
        have := h4 (es - 1) (by omega)
        left
        have h5 : r[es - 1]? ≠ none := by rw [ne_eq, List.getElem?_eq_none_iff]; omega
        rw [← this, ne_eq, Array.getElem?_eq_none_iff] at h5
        have : m * es = (m - 1) * es + es := by rw [← Nat.succ_mul]; congr 1; omega
        omega
  refine ⟨(c.toList.drop base).take (m * es), ⟨?_, fun i hi => ?_⟩, fun j v hj => ?_⟩
  · rcases hsz with h0 | h0
    · simp; omega
    · simp [h0]
  · obtain ⟨r, h2, h3, h4⟩ := h i hi
    refine ⟨r, h2, h3, fun k hk => ?_⟩
    have hlt : i * es + k < m * es := by
      have : i * es + es ≤ m * es := by rw [← Nat.succ_mul]; exact Nat.mul_le_mul_right _ hi
      omega
    rw [List.getElem?_take_of_lt hlt, List.getElem?_drop, Array.getElem?_toList, ← h4 k hk]
    congr 1; omega
  · have hlt : j < m * es := by
      rcases Nat.lt_or_ge j (m * es) with h0 | h0
      · exact h0
      · rw [List.getElem?_eq_none (by simp; omega)] at hj; cases hj
    rw [List.getElem?_take_of_lt hlt, List.getElem?_drop, Array.getElem?_toList] at hj
    exact hj

theorem rows_one {es m : Nat} {g : Nat → List V} {l : List Value} (h : Rows U es m g l) (hs : ∀ k, k < m → solid (g k) = true) : ∀ u ∈ l, u.oneCell' = true := by
  intro u hu
  obtain ⟨j, hj, rfl⟩ := List.mem_iff_getElem.1 hu
  have hes : 0 < es := by
    rcases Nat.eq_zero_or_pos es with h0 | h0
    · rw [h.1, h0, Nat.mul_zero] at hj; omega
    · exact h0
  have hi : j / es < m := by
    rw [Nat.div_lt_iff_lt_mul hes, ← h.1]; exact hj
  obtain ⟨r, h2, h3, h4⟩ := h.2 (j / es) hi
  have := h4 (j % es) (by rw [h3]; exact Nat.mod_lt _ hes)
  have e : j / es * es + j % es = j := by rw [Nat.mul_comm]; exact Nat.div_add_mod j es
  rw [e, List.getElem?_eq_getElem hj] at this
  exact solid_cells (hs _ hi) h2 _ (List.mem_of_getElem? this.symm)

theorem rows_src {es : Nat} {tx e : TypeId} {a : Addr} {cap m : Nat} {g : Nat → List V} {l : List Value} {w : World} (hk : P.underlying tx = some (.slice e)) (hl : Rows U es m g l)
    (h : ∀ j v, l[j]? = some v → w.cell? (a.add j) = some v) (hs : ∀ k, k < m → solid (g k) = true) : Src P es tx (.slice (some a) m cap) m l w :=
  Src.ofSlice w hk a m cap l hl.1 h (rows_one hl hs)

theorem srcG_ok {es : Nat} {v : V} {bs : Heap} {m : Nat} {g : Nat → List V} {cs : List Prop} {tx : TypeId} {x : Value} {w : World} (h : srcG es v bs = some (m, g, cs)) (hk : srcK P v tx = true) (hc : All cs) (hv : VRel U ρ v x) (H : HRel U ρ bs w) :
    ∃ l, Src P es tx x m l w ∧ Rows U es m g l := by
  have slk : ∀ {v : V}, (∀ s, v ≠ .str s) → srcK P v tx = true → ∃ e, P.underlying tx = some (.slice e) := by
    intro v hv hk
    unfold srcK at hk
    cases v <;> simp only at hk <;> first
      | exact (hv _ rfl).elim
      | (cases hu : P.underlying tx with
         | none => simp [hu] at hk
         | some d => cases d <;> simp only [hu, Bool.false_eq_true, reduceCtorEq] at hk <;> exact ⟨_, rfl⟩)
  unfold srcG at h
  split at h
  · obtain ⟨e, hke⟩ := slk (by simp) hk
    split at h <;> simp only [reduceCtorEq, Option.some.injEq, Prod.mk.injEq] at h
    obtain ⟨rfl, rfl, rfl⟩ := h
    rw [VRel] at hv; subst hv
    exact ⟨[], Src.ofNil w hke 0, by simp, fun i hi => by omega⟩
  · obtain ⟨e, hke⟩ := slk (by simp) hk
    rename_i es' len f clip
    cases bs <;> simp only [reduceCtorEq] at h
    cases hb : Nat.beq es es' <;> simp only [hb, cond_true, cond_false, reduceCtorEq, Option.some.injEq, Prod.mk.injEq] at h
    obtain ⟨rfl, rfl, rfl⟩ := h
    have := Nat.eq_of_beq_eq_true hb; subst this
    rw [VRel] at hv
    obtain ⟨a, cp, rfl, h2, h3, h4⟩ := hv
    rcases Nat.eq_zero_or_pos len with h0 | h0
    · subst h0
      refine ⟨[], ?_, by simp, fun i hi => by omega⟩
      cases a with
      | none => exact Src.ofNil w hke cp
      | some a => exact Src.ofSlice w hke a 0 cp [] (by simp) (by simp) (by simp)
    · obtain ⟨b, base, c, rfl, hU, _⟩ := h4 0 h0
      obtain ⟨el, fr, hw⟩ := H.imm b c hU
      obtain ⟨l, h5, h6⟩ := rows_of_blk (U := U) (c := c) (base := base) (g := f) (m := len) (es := es) (fun i hi => by
        obtain ⟨b', base', c', e1, hU', l', h7, h8, h9⟩ := h4 i hi
        cases e1
        rw [hU] at hU'; cases hU'
        exact ⟨l', h7, h8, h9⟩)
      exact ⟨l, rows_src hke h5 (fun j v hj => by rw [Addr.add_lit, cell_of hw]; exact h6 j v hj) hc.1, h5⟩
  · rename_i s
    cases bs <;> simp only [reduceCtorEq] at h
    cases hb : Nat.beq es 1 <;> simp only [hb, cond_true, cond_false, reduceCtorEq, Option.some.injEq, Prod.mk.injEq] at h
    obtain ⟨rfl, rfl, rfl⟩ := h
    have := Nat.eq_of_beq_eq_true hb; subst this
    rw [VRel] at hv; subst hv
    have hk' : P.underlying tx = some .string := by
      unfold srcK at hk
      cases hu : P.underlying tx with
      | none => simp [hu] at hk
      | some d => cases d <;> simp only [hu, Bool.false_eq_true, reduceCtorEq] at hk <;> rfl
    refine ⟨byteCells s, Src.ofString w hk' s, by rw [byteCells_length, Nat.mul_one], fun i hi => ?_⟩
    refine ⟨[.int .u8 (byteAt s i)], (CsRel_one rfl).2 ⟨_, [], rfl, by rw [VRel], by rw [CsRel]⟩, rfl, fun k hk => ?_⟩
    simp only [List.length_singleton, Nat.lt_one_iff] at hk
    subst hk
    have hi' : i < s.data.toList.length := by rw [Array.length_toList]; exact hi
    simp only [byteCells, Nat.mul_one, Nat.add_zero, List.getElem?_map, List.getElem?_eq_getElem hi', Option.map_some, List.getElem?_cons_zero, byteAt, List.getD_eq_getElem?_getD, Option.getD_some]
  · obtain ⟨e, hke⟩ := slk (by simp) hk
    rename_i n es' i o j len cap
    split at h
    · rename_i n' es2 nn f gr
      cases hb : (n.beq n' && (Nat.beq es es' && (Nat.beq es es2 && (Nat.beq o 0 && Nat.beq j 0)))) <;> simp only [hb, cond_true, cond_false, reduceCtorEq, Option.some.injEq, Prod.mk.injEq] at h
      obtain ⟨rfl, rfl, rfl⟩ := h
      simp only [Bool.and_eq_true] at hb
      obtain ⟨b1, b2, b3, b4, b5⟩ := hb
      have := Nm.beq_iff.1 b1; subst this
      have := Nat.eq_of_beq_eq_true b2; subst this
      have := Nat.eq_of_beq_eq_true b3; subst this
      have := Nat.eq_of_beq_eq_true b4; subst this
      have := Nat.eq_of_beq_eq_true b5; subst this
      obtain ⟨c1, c2, _⟩ := hc
      rw [VRel] at hv
      obtain ⟨l, cp, e1, e2, e3, e4⟩ := hv
      rcases e4 with ⟨hr, rfl, _⟩ | ⟨hr, rfl, e5, e6⟩
      · obtain ⟨ob, g1, g2, _⟩ := H.real (List.mem_singleton.2 rfl) e1 hr
        obtain ⟨c, el, lo, hi, rfl, q2, q3, q4, q5, q6⟩ := g2
        obtain ⟨l', h5, h6⟩ := rows_of_blk (U := U) (c := c) (base := i * es) (g := fun k => f (i + k)) (m := len) (es := es) (fun q hq => by
          obtain ⟨r, h7, h8, h9⟩ := q6 (i + q) (by omega)
          exact ⟨r, h7, h8, fun k hk => by rw [← h9 k hk]; congr 1; rw [Nat.add_mul]⟩)
        exact ⟨l', rows_src hke h5 (fun j v hj => by rw [Addr.add_lit, cell_of g1]; simp only [Nat.add_zero]; exact h6 j v hj) c2, h5⟩
      · subst e5
        exact ⟨[], Src.ofNil w hke 0, by simp, fun i hi => by omega⟩
    · rename_i n' cs0
      cases hb : (n.beq n' && (Nat.beq es 1 && Nat.beq es' 0)) <;> simp only [hb, cond_true, cond_false, reduceCtorEq] at h
      simp only [Bool.and_eq_true] at hb
      obtain ⟨b1, b2, b3⟩ := hb
      have := Nm.beq_iff.1 b1; subst this
      have := Nat.eq_of_beq_eq_true b2; subst this
      have := Nat.eq_of_beq_eq_true b3; subst this
      split at h
      · rename_i pa k mm xs rest hs
        simp only [Option.some.injEq, Prod.mk.injEq] at h
        obtain ⟨rfl, rfl, rfl⟩ := h
        have c1 := hc.1
        rw [VRel] at hv
        obtain ⟨l, cp, e1, e2, e3, e4⟩ := hv
        rcases e4 with ⟨hr, rfl, _⟩ | ⟨hr, rfl, e5, e6⟩
        · obtain ⟨ob, g1, g2, _⟩ := H.real (List.mem_singleton.2 rfl) e1 hr
          obtain ⟨c, el, lo, hi, rfl, q2, q3, q4⟩ := g2
          obtain ⟨rfl, hsz⟩ := splitC_spec hs
          obtain ⟨la, lb, ec, h5, h6⟩ := CsRel_append.1 q4
          rw [CsRel] at h6
          obtain ⟨l1, l2, rfl, h7, h8⟩ := h6
          have hla := h5.len; rw [hsz] at hla
          obtain ⟨hl1, hlen⟩ : l1 = xs.map (Value.int k) ∧ xs.length = mm := by
            rcases h7 with ⟨k2, m2, xs2, ee, h9, rfl⟩ | ⟨h9, _⟩
            · cases ee; exact ⟨rfl, h9⟩
            · simp [V.cell] at h9
          subst hl1
          have hget : ∀ q, q < xs.length → c[o + q]? = some (Value.int k (xs.getD q 0)) := by
            intro q hq
            rw [← Array.getElem?_toList, ec, List.getElem?_append_right (by omega), hla, Nat.add_sub_cancel_left, List.getElem?_append_left (by simpa using hq), List.getElem?_map, List.getElem?_eq_getElem hq]
            simp [List.getD_eq_getElem?_getD, List.getElem?_eq_getElem hq]
          have hrows : Rows U 1 len (fun q => [V.int k (xs.getD (j + q) 0)]) ((List.range len).map fun q => Value.int k (xs.getD (j + q) 0)) := by
            refine ⟨by simp, fun q hq => ⟨[Value.int k (xs.getD (j + q) 0)], (CsRel_one rfl).2 ⟨_, [], rfl, by rw [VRel], by rw [CsRel]⟩, rfl, fun t ht => ?_⟩⟩
            simp only [List.length_singleton, Nat.lt_one_iff] at ht
            subst ht
            simp [hq]
          refine ⟨_, rows_src hke hrows (fun q v hq => ?_) fun _ _ => rfl, hrows⟩
          have hq1 : q < len := by
            rcases Nat.lt_or_ge q len with h0 | h0
            · exact h0
            · rw [List.getElem?_eq_none (by simpa using h0)] at hq; cases hq
          rw [List.getElem?_map, List.getElem?_range hq1] at hq
          simp only [Option.map_some, Option.some.injEq] at hq
          subst hq
          rw [Addr.add_lit, cell_of g1, ← hget (j + q) (by omega)]
          congr 1; simp only [Nat.mul_zero, Nat.zero_add]; omega
        · subst e5
          exact ⟨[], Src.ofNil w hke 0, by simp, fun i hi => by omega⟩
      · simp at h
    · simp at h
  · simp at h

/-! ### Bytes as a string -/
def intOf : List V → Int
  | [.int _ n] => n
  | _ => 0
def isB : List V → Bool
  | [.int k _] => decide (k = .u8)
  | _ => false
def bytesF (m : Nat) (g : Nat → List V) : ByteArray := ⟨((List.range m).map fun k => UInt8.ofNat (intOf (g k)).toNat).toArray⟩
theorem isB_spec {v : List V} (h : isB v = true) : v = [.int .u8 (intOf v)] := by
  unfold isB at h
  split at h
  · have := of_decide_eq_true h; subst this; rfl
  · simp at h

def strBody (c : Value) (s : ByteArray) : Sem (ForInStep ByteArray) := do
  let .int .u8 n := c | stuck "bytesToString: byte expected"
  pure (ForInStep.yield (s.push (UInt8.ofNat n.toNat)))
theorem strLoop (w : World) : ∀ (xs : List Int) (s : ByteArray), (forIn (xs.map (Value.int .u8)) s strBody).run P w = .ok ⟨s.data ++ (xs.map fun n => UInt8.ofNat n.toNat).toArray⟩ w
  | [], s => by simp [Sem.run_pure]
  | x :: xs, s => by
    rw [List.map_cons, List.forIn_cons, Sem.run_bind]
    have : (strBody (.int .u8 x) s).run P w = .ok (.yield (s.push (UInt8.ofNat x.toNat))) w := rfl
    rw [this, Result.andThen_ok]
    simp only
    rw [strLoop w xs]
    simp [ByteArray.push]

theorem bytesToString_ok {tx : TypeId} {a : Option Addr} {len cp m : Nat} {g : Nat → List V} {news : List Value} {w : World} (hS : Src P 1 tx (.slice a len cp) m news w) (hR : Rows U 1 m g news) (hb : ∀ k, k < m → isB (g k) = true) :
    (Conv.bytesToString (.slice a len cp)).run P w = .ok (.string (bytesF m g)) w := by
  have hl := hS.len w
  have hc := hS.cells
  have hnews : news = ((List.range m).map fun k => intOf (g k)).map (Value.int .u8) := by
    apply List.ext_getElem?
    intro q
    rcases Nat.lt_or_ge q m with h0 | h0
    · obtain ⟨r, h1, h2, h3⟩ := hR.2 q h0
      rw [isB_spec (hb q h0)] at h1
      obtain ⟨x, r', rfl, h4, h5⟩ := (CsRel_one rfl).1 h1
      rw [CsRel] at h5; subst h5
      rw [VRel] at h4; subst h4
      have := h3 0 (by simp)
      rw [Nat.mul_one, Nat.add_zero] at this
      rw [this]; simp [h0]
    · rw [List.getElem?_eq_none (by rw [hR.1]; omega), List.getElem?_eq_none (by simp; omega)]
  cases a with
  | none =>
    have : news = [] := by
      have e : (Builtin.firstCells 1 m (.slice none len cp)).run P w = .ok #[] w := rfl
      rw [e] at hc
      have := (Result.ok.inj hc).1
      simpa using this.symm
    have hm : m = 0 := by have := hR.1; rw [this] at this; simp_all
    subst hm
    rfl
  | some ad =>
    have hlm : len = m := by
      have e : (Builtin.lenOf (.slice (some ad) len cp)).run P w = .ok len w := rfl
      rw [e] at hl
      exact (Result.ok.inj hl).1
    subst hlm
    have hc' : (loadCells ad len).run P w = .ok news.toArray w := by
      have e : Builtin.firstCells 1 len (.slice (some ad) len cp) = loadCells ad (len * 1) := rfl
      rw [e, Nat.mul_one] at hc; exact hc
    unfold Conv.bytesToString
    simp only [Sem.run_bind, hc', Result.andThen_ok]
    show ((forIn news.toArray ByteArray.empty strBody).run P w).andThen _ = _
    rw [← Array.forIn_toList]
    simp only
    rw [hnews, strLoop w, Result.andThen_ok]
    simp only [Sem.run_pure]
    simp [bytesF, ByteArray.empty, List.map_map, Function.comp_def, ByteArray.emptyWithCapacity]
    rfl

def bytesStr (P : Program) (s d : TypeId) : Bool := match P.underlying s with
  | some (.slice e) => match P.underlying d with
    | some .string => match P.underlying e with
      | some (.int k) => decide (k = .u8)
      | _ => false
    | _ => false
  | _ => false
def strH (P : Program) (s d : TypeId) (v : V) (bs : Heap) : Option (V × List Prop) :=
  bif bytesStr P s d then match v with
    | .str _ => none
    | v => match srcG 1 v bs with
      | some (m, g, cs) => some (.str (bytesF m g), (∀ k, k < m → isB (g k) = true) :: cs)
      | none => none
  else none
theorem strH_ok {s d : TypeId} {v r : V} {x : Value} {bs : Heap} {cs : List Prop} {w : World} (h : strH P s d v bs = some (r, cs)) (hc : All cs) (hv : VRel U ρ v x) (H : HRel U ρ bs w) :
    ∃ y, (convert s d x).run P w = .ok y w ∧ VRel U ρ r y := by
  unfold strH at h
  cases hb : bytesStr P s d <;> simp only [hb, cond_true, cond_false, reduceCtorEq] at h
  have key : ∀ (m : Nat) (g : Nat → List V) (cs' : List Prop), (∀ s0, v ≠ .str s0) → srcG 1 v bs = some (m, g, cs') → r = .str (bytesF m g) → cs = (∀ k, k < m → isB (g k) = true) :: cs' → ∃ y, (convert s d x).run P w = .ok y w ∧ VRel U ρ r y := by
    intro m g cs' hns hs hr hcs
    subst hcs
    obtain ⟨hc1, hc2⟩ := hc
    unfold bytesStr at hb
    split at hb
    · rename_i e hse
      split at hb
      · rename_i hde
        split at hb
        · rename_i k hke
          have := of_decide_eq_true hb; subst this
          have hk : srcK P v s = true := by
            unfold srcK
            split
            · exact (hns _ rfl).elim
            · rw [hse]
          obtain ⟨news, h1, h2⟩ := srcG_ok hs hk hc2 hv H
          have hx : ∃ a l c, x = .slice a l c := by
            unfold srcG at hs
            cases v <;> simp only [reduceCtorEq] at hs
            · exact (hns _ rfl).elim
            · rw [VRel] at hv; exact ⟨_, _, _, hv⟩
            · obtain ⟨a, m, h⟩ := shape_sl hv; exact ⟨_, _, _, h⟩
            · rw [VRel] at hv; obtain ⟨a, cp, h, _⟩ := hv; exact ⟨_, _, _, h⟩
          obtain ⟨a, l, c, rfl⟩ := hx
          refine ⟨.string (bytesF m g), ?_, by rw [hr, VRel]⟩
          have hbs := bytesToString_ok h1 h2 hc1
          simp only [convert, Sem.run_bind, run_under hse, run_under hde, Result.andThen_ok, run_under hke]
          exact hbs
        · simp at hb
      · simp at hb
    · simp at hb
  split at h
  · simp at h
  · rename_i v' hns
    split at h
    · rename_i m g cs' hs
      simp only [Option.some.injEq, Prod.mk.injEq] at h
      exact key m g cs' (fun s0 e => hns s0 e) hs h.1.symm h.2.symm
    · simp at h

/-- What is appended to: how many elements, which; what is asked. -/
def dstG (es : Nat) (v : V) (bs : Heap) : Option (Nat × (Nat → List V) × List Prop) :=
  match v with
  | .snil => match bs with
    | [] => some (0, fun _ => [], [])
    | _ => none
  | .ros es' len f clip => match bs with
    | [] => bif clip && Nat.beq es es' then some (len, f, []) else none
    | _ => none
  | .sl n es' i o j len _ => match bs with
    | [(n', .rows es2 nn f _)] => bif n.beq n' && (Nat.beq es es' && (Nat.beq es es2 && (Nat.beq i 0 && (Nat.beq o 0 && Nat.beq j 0)))) then
        some (len, f, [len = nn])
      else none
    | _ => none
  | _ => none
/-- What is own stays so if nothing is appended. -/
def dstC (v : V) (m : Nat) : List Prop := match v with
  | .ros .. => [0 < m]
  | _ => []
def catF (len : Nat) (f g : Nat → List V) : Nat → List V := fun k => bif Nat.blt k len then f k else g (k - len)

theorem Rows.cat {es n m : Nat} {f g : Nat → List V} {a b : List Value} (ha : Rows U es n f a) (hb : Rows U es m g b) : Rows U es (n + m) (catF n f g) (a ++ b) := by
  refine ⟨by rw [List.length_append, ha.1, hb.1, Nat.add_mul], fun i hi => ?_⟩
  by_cases h : i < n
  · obtain ⟨r, h1, h2, h3⟩ := ha.2 i h
    refine ⟨r, by rw [catF, show Nat.blt i n = true by rw [Nat.blt_eq]; exact h]; exact h1, h2, fun k hk => ?_⟩
    have : i * es + es ≤ n * es := by rw [← Nat.succ_mul]; exact Nat.mul_le_mul_right _ h
    rw [List.getElem?_append_left (by rw [ha.1]; omega), h3 k hk]
  · obtain ⟨r, h1, h2, h3⟩ := hb.2 (i - n) (by omega)
    have hf : Nat.blt i n = false := by
      cases hh : Nat.blt i n
      · rfl
      · rw [Nat.blt_eq] at hh; omega
    refine ⟨r, by rw [catF, hf]; exact h1, h2, fun k hk => ?_⟩
    have : n * es + (i - n) * es = i * es := by rw [← Nat.add_mul]; congr 1; omega
    rw [List.getElem?_append_right (by rw [ha.1]; omega), ← h3 k hk, ha.1]
    congr 1; omega

def appendH (P : Program) (base : Nat) (t tx : TypeId) (d s : V) (db sb : Heap) : Option Eff :=
  match P.underlying t with
  | some (.slice e) => match P.info? e with
    | some ie => match ie.zero with
      | some z => bif Nat.beq z.cells.size ie.size && (Nat.ble 1 ie.bytes && srcK P s tx) then
          match dstG ie.size d db with
          | some (len, f, c1) => match srcG ie.size s sb with
            | some (m, g, c2) => some (.sl (.o base) ie.size 0 0 0 (len + m) none, (.o base, .rows ie.size (len + m) (catF len f g) true) :: sb,
                c1 ++ (c2 ++ (dstC d m ++ [(len + m) * ie.bytes ≤ 140737488355328])))
            | none => none
          | none => none
        else none
      | none => none
    | none => none
  | _ => none

/-- A slice that is appended to, as it lies. -/
theorem dstG_ok {es : Nat} {v : V} {bs rest : Heap} {len : Nat} {f : Nat → List V} {cs : List Prop} {x : Value} {w : World} (h : dstG es v bs = some (len, f, cs)) (hc : All cs) (hv : VRel U ρ v x) (H : HRel U ρ (bs ++ rest) w) :
    ∃ a cp olds, x = .slice a len cp ∧ len ≤ cp ∧ (Builtin.firstCells es len (.slice a len cp)).run P w.drew = .ok olds.toArray w.drew ∧ Rows U es len f olds ∧
      ((bs = [] ∧ cp = len ∧ (∀ m, All (dstC v m) → m = 0 → a = none ∧ len = 0)) ∨
       (∃ n b l, bs = [(n, b)] ∧ ρ n = some l ∧ ((l.real = true ∧ a = some ⟨l.blk, 0, none⟩ ∧ cp * es ≤ l.sz ∧ ∃ (c : Array Value) (el : TypeId) (lo hi : Nat), w.heap[l.blk]? = some (.cells c el (lo, hi)) ∧ c.size = l.sz ∧ (hi ≤ lo ∨ c.size ≤ lo) ∧ (∀ (j : Nat) (v : Value), olds[j]? = some v → c[j]? = some v)) ∨
          (l.real = false ∧ a = none ∧ len = 0 ∧ cp = 0)))) := by
  unfold dstG at h
  split at h
  · split at h <;> simp only [reduceCtorEq, Option.some.injEq, Prod.mk.injEq] at h
    obtain ⟨rfl, rfl, rfl⟩ := h
    rw [VRel] at hv; subst hv
    exact ⟨none, 0, [], rfl, Nat.le_refl _, run_firstCells_none .., ⟨by simp, fun i hi => by omega⟩, .inl ⟨rfl, rfl, fun _ _ _ => ⟨rfl, rfl⟩⟩⟩
  · rename_i es' len' f' clip
    cases bs <;> simp only [reduceCtorEq] at h
    cases hb : (clip && Nat.beq es es') <;> simp only [hb, cond_true, cond_false, reduceCtorEq, Option.some.injEq, Prod.mk.injEq] at h
    obtain ⟨rfl, rfl, rfl⟩ := h
    rw [Bool.and_eq_true] at hb
    have := Nat.eq_of_beq_eq_true hb.2; subst this
    rw [VRel] at hv
    obtain ⟨a, cp, rfl, h2, h3, h4⟩ := hv
    have hcp := h3 hb.1
    subst hcp
    rcases Nat.eq_zero_or_pos cp with h0 | h0
    · subst h0
      refine ⟨a, 0, [], rfl, Nat.le_refl _, ?_, ⟨by simp, fun i hi => by omega⟩, .inl ⟨rfl, rfl, fun m hm h0 => by have := hm.1; omega⟩⟩
      cases a with
      | none => exact run_firstCells_none ..
      | some a => exact run_firstCells_some (P := P) w.drew es 0 a 0 0 [] (by simp) (by simp)
    · obtain ⟨b, base, c, rfl, hU, _⟩ := h4 0 h0
      obtain ⟨el, fr, hw⟩ := H.imm b c hU
      obtain ⟨l, h5, h6⟩ := rows_of_blk (U := U) (c := c) (base := base) (g := f') (m := cp) (es := es) (fun i hi => by
        obtain ⟨b', base', c', e1, hU', l', h7, h8, h9⟩ := h4 i hi
        cases e1
        rw [hU] at hU'; cases hU'
        exact ⟨l', h7, h8, h9⟩)
      have hw' : w.drew.heap[b]? = some (.cells c el fr) := hw
      refine ⟨some ⟨b, base, none⟩, cp, l, rfl, Nat.le_refl _, run_firstCells_some (P := P) w.drew es cp _ cp cp l h5.1 (fun j v hj => by rw [Addr.add_lit, cell_of hw']; exact h6 j v hj), h5, .inl ⟨rfl, rfl, fun m hm h0 => by have := hm.1; omega⟩⟩
  · rename_i n es' i o j len' cap
    split at h
    · rename_i n' es2 nn f' gr
      cases hb : (n.beq n' && (Nat.beq es es' && (Nat.beq es es2 && (Nat.beq i 0 && (Nat.beq o 0 && Nat.beq j 0))))) <;> simp only [hb, cond_true, cond_false, reduceCtorEq, Option.some.injEq, Prod.mk.injEq] at h
      obtain ⟨rfl, rfl, rfl⟩ := h
      simp only [Bool.and_eq_true] at hb
      obtain ⟨b1, b2, b3, b6, b4, b5⟩ := hb
      have := Nm.beq_iff.1 b1; subst this
      have := Nat.eq_of_beq_eq_true b2; subst this
      have := Nat.eq_of_beq_eq_true b3; subst this
      have := Nat.eq_of_beq_eq_true b4; subst this
      have := Nat.eq_of_beq_eq_true b5; subst this
      have := Nat.eq_of_beq_eq_true b6; subst this
      have hnn : len' = nn := hc.1
      subst hnn
      rw [VRel] at hv
      obtain ⟨l, cp, e1, e2, e3, e4⟩ := hv
      rcases e4 with ⟨hr, rfl, e7⟩ | ⟨hr, rfl, e5, e6⟩
      · obtain ⟨ob, g1, g2, _⟩ := H.real (b := .rows es len' f' gr) (by simp) e1 hr
        obtain ⟨c, el, lo, hi, rfl, q2, q3, q4, q5, q6⟩ := g2
        obtain ⟨l', h5, h6⟩ := rows_of_blk (U := U) (c := c) (base := 0) (g := f') (m := len') (es := es) (fun q hq => by
          obtain ⟨r, h7, h8, h9⟩ := q6 q (by omega)
          exact ⟨r, h7, h8, fun k hk => by rw [← h9 k hk]; congr 1; omega⟩)
        have hw' : w.drew.heap[l.blk]? = some (.cells c el (lo, hi)) := g1
        refine ⟨some ⟨l.blk, 0, none⟩, cp, l', by simp, e2, run_firstCells_some (P := P) w.drew es len' _ len' cp l' h5.1 (fun j v hj => by rw [Addr.add_lit, cell_of hw']; exact h6 j v hj), h5,
          .inr ⟨n, _, l, rfl, e1, .inl ⟨hr, rfl, by simpa using e7, c, el, lo, hi, g1, q2, q3, fun j v hj => by have := h6 j v hj; rwa [Nat.zero_add] at this⟩⟩⟩
      · subst e5; subst e6
        exact ⟨none, 0, [], rfl, Nat.le_refl _, run_firstCells_none .., ⟨by simp, fun i hi => by omega⟩, .inr ⟨n, _, l, rfl, e1, .inr ⟨hr, rfl, rfl, rfl⟩⟩⟩
    · simp at h
  · simp at h

theorem alloc_heap (w : World) (o : Obj) : (w.drew.alloc o).heap = w.heap.push o := rfl
theorem zeroCells_size (z : Array Value) (n : Nat) : (Builtin.zeroCells z n).size = n * z.size := by simp [Builtin.zeroCells]

theorem appendH_ok {base : Nat} {t tx ty : TypeId} {d s : V} {db sb : Heap} {r : Eff} {xd xs : Value} {w : World} (h : appendH P base t tx d s db sb = some r) (hc : All r.2.2) (hd : VRel U ρ d xd) (hs : VRel U ρ s xs)
    (H : HRel U ρ (db ++ sb) w) (hf : ρ (.o base) = none) : ∃ y w' U' ρ', (Builtin.append_ #[t, tx] ty #[xd, xs]).run P w = .ok y w' ∧ Leaves U ρ (db ++ sb) w r.1 r.2.1 y U' ρ' w' := by
  unfold appendH at h
  cases hu : P.underlying t with
  | none => simp [hu] at h
  | some dd =>
    cases dd <;> simp only [hu, reduceCtorEq] at h
    rename_i e
    cases hi : P.info? e with
    | none => simp [hi] at h
    | some ie =>
      simp only [hi] at h
      cases hz : ie.zero with
      | none => simp [hz] at h
      | some z =>
        simp only [hz] at h
        cases hb : (Nat.beq z.cells.size ie.size && (Nat.ble 1 ie.bytes && srcK P s tx)) <;> simp only [hb, cond_true, cond_false, reduceCtorEq] at h
        simp only [Bool.and_eq_true] at hb
        obtain ⟨hb1, hb2, hb3⟩ := hb
        have hzs := Nat.eq_of_beq_eq_true hb1
        have hby := Nat.le_of_ble_eq_true hb2
        cases hdg : dstG ie.size d db with
        | none => simp [hdg] at h
        | some q1 =>
          obtain ⟨len, f, c1⟩ := q1
          simp only [hdg] at h
          cases hsg : srcG ie.size s sb with
          | none => simp [hsg] at h
          | some q2 =>
            obtain ⟨m, g, c2⟩ := q2
            simp only [hsg, Option.some.injEq] at h
            subst h
            simp only [All_append] at hc
            obtain ⟨k1, k2, k3, k4, _⟩ := hc
            obtain ⟨news, s1, s2⟩ := srcG_ok hsg hb3 k2 hs H.right
            obtain ⟨a, cp, olds, rfl, d1, d2, d3, d4⟩ := dstG_ok hdg k1 hd H
            have hbig : len + m ≤ 140737488355328 := Nat.le_trans (Nat.le_mul_of_pos_right _ hby) k4
            have hcat := Rows.cat d3 s2
            have hcl : (olds ++ news).length = (len + m) * ie.size := hcat.1
            by_cases hroom : len + m ≤ cp
            · -- no new block
              have nothing : ∀ (l0 : Heap), m = 0 → len = 0 → cp = 0 → a = none → (∀ n, Heap.dom (((.o base, .rows ie.size (len + m) (catF len f g) true) : Nm × B) :: (l0 ++ sb)) n → Heap.dom ((((.o base, .rows ie.size (len + m) (catF len f g) true) : Nm × B)) :: sb) n ∨ ∃ l, ρ n = some l) → l0 = db →
                  ∃ y w' U' ρ', (Builtin.append_ #[t, tx] ty #[.slice a len cp, xs]).run P w = .ok y w' ∧ Leaves U ρ (db ++ sb) w (.sl (.o base) ie.size 0 0 0 (len + m) none) ((.o base, .rows ie.size (len + m) (catF len f g) true) :: sb) y U' ρ' w' := by
                intro l0 e1 e2 e3 e4 e5 e6
                subst e6
                subst e1; subst e2; subst e3; subst e4
                have hn0 : news = [] := List.eq_nil_of_length_eq_zero (by rw [s2.1]; omega)
                subst hn0
                have hrun := run_append_nothing w t tx ty e ie hu hi none 0 0 (Nat.le_refl _) xs s1
                refine ⟨_, _, U, _, hrun, Leaves.drop (Leaves.newG (m := .o base) (l := ⟨0, 0, false⟩) H hf (Nat.le_refl _) (fun _ _ => rfl) (.inr ⟨rfl, _, _, rfl⟩) ?_) ?_ e5⟩
                · rw [VRel]; exact ⟨_, 0, Env.add_self, Nat.le_refl _, by simp, .inr ⟨rfl, rfl, rfl, rfl⟩⟩
                · exact (List.sublist_append_right l0 sb).cons_cons _
              rcases d4 with ⟨e1, e2, e3⟩ | ⟨n, b, l, e1, e2, e3⟩
              · have hm0 : m = 0 := by omega
                obtain ⟨e4, e5⟩ := e3 m k3 hm0
                exact nothing [] hm0 e5 (by omega) e4 (fun n h => .inl h) e1.symm
              · rcases e3 with ⟨hr, e3, e4, c, el, lo, hi', e5, e6, e7, e8⟩ | ⟨hr, e3, e4, e5⟩
                · subst e3; subst e1
                  have hle : (len + m) * ie.size ≤ c.size := by rw [e6]; exact Nat.le_trans (Nat.mul_le_mul_right _ hroom) e4
                  have hlm : len * ie.size + news.length ≤ c.size := by rw [s2.1, ← Nat.add_mul]; exact hle
                  have hst := run_storeCells (P := P) (b := l.blk) (off := len * ie.size) (el := el) (lo := lo) (hi := hi') news 0 w c e5 e7 (by omega) s1.one
                  have hrun : (Builtin.append_ #[t, tx] ty #[.slice (some ⟨l.blk, 0, none⟩) len cp, xs]).run P w = .ok (.slice (some ⟨l.blk, 0, none⟩) (len + m) cp) { w with heap := w.heap.setIfInBounds l.blk (.cells (setR c (len * ie.size + 0) news) el (lo, hi')) } := by
                    rcases s1.kind with ⟨e', hk⟩ | hk <;> simp [Builtin.append_, run_underlying hu, run_underlying hk, Go.sizeOf, typeInfo, hi, s1.len, hroom, s1.cells, Addr.add_lit, hst]
                  refine ⟨_, _, U, _, hrun, Leaves.move H hf e2 hr rfl ⟨_, el, lo, hi', rfl, by rw [setR_size]; exact e6, by rw [setR_size]; exact e7, by rw [setR_size]; exact hle, by simp, fun i hi => ?_⟩ ?_⟩
                  · obtain ⟨r, g1, g2, g3⟩ := hcat.2 i hi
                    refine ⟨r, g1, g2, fun k hk => ?_⟩
                    rw [← g3 k hk, setR_get _ _ _ (by omega)]
                    have hlt : i * ie.size + k < (len + m) * ie.size := by
                      have : i * ie.size + ie.size ≤ (len + m) * ie.size := by rw [← Nat.succ_mul]; exact Nat.mul_le_mul_right _ hi
                      omega
                    rw [List.getElem?_append, d3.1]
                    by_cases hh : i * ie.size + k < len * ie.size
                    · rw [if_pos hh, if_neg (by omega)]
                      have hj : i * ie.size + k < olds.length := by rw [d3.1]; exact hh
                      rw [List.getElem?_eq_getElem hj]
                      exact e8 _ _ (List.getElem?_eq_getElem hj)
                    · rw [if_neg hh, if_pos (by rw [s2.1, Nat.add_zero, ← Nat.add_mul]; omega)]; rfl
                  · rw [VRel]; exact ⟨l, cp, Env.add_self, hroom, by simp, .inl ⟨hr, by simp, by simpa using e4⟩⟩
                · exact nothing db (by omega) e4 e5 e3 (fun k h => by
                    obtain ⟨b', hb'⟩ := h
                    rcases List.mem_cons.1 hb' with hb' | hb'
                    · cases hb'; exact .inl ⟨_, List.mem_cons_self ..⟩
                    · rcases List.mem_append.1 hb' with hb' | hb'
                      · rw [e1] at hb'; simp only [List.mem_singleton, Prod.mk.injEq] at hb'
                        exact .inr ⟨l, by rw [hb'.1]; exact e2⟩
                      · exact .inl ⟨_, List.mem_cons_of_mem _ hb'⟩) rfl
            · have hg : cp < len + m := by omega
              have hrun := run_append_grow_src w t tx ty e ie z hu hi hz a len cp olds d2 xs m news s1 hg (by omega) (growslice_fits hg k4)
              have hge := grownCap_ge w (len + m) cp e
              refine ⟨_, _, U, _, hrun, Leaves.drop (Leaves.new (m := .o base) (sz := grownCap w (len + m) cp e * ie.size) (b := .rows ie.size (len + m) (catF len f g) true) H hf (alloc_heap _ _) ⟨_, e, 0, 0, rfl, ?_, .inl (Nat.le_refl _), ?_, by simp, fun i hi => ?_⟩ ?_) ?_ (fun k h => ?_)⟩
              · rw [Array.size_append, zeroCells_size, hzs, List.size_toArray, hcl, ← Nat.add_mul]; congr 1; omega
              · rw [Array.size_append, List.size_toArray, hcl]; omega
              · obtain ⟨r, g1, g2, g3⟩ := hcat.2 i hi
                refine ⟨r, g1, g2, fun k hk => ?_⟩
                have hlt : i * ie.size + k < (len + m) * ie.size := by
                  have : i * ie.size + ie.size ≤ (len + m) * ie.size := by rw [← Nat.succ_mul]; exact Nat.mul_le_mul_right _ hi
                  omega
                rw [← g3 k hk, Array.getElem?_append_left (by rw [List.size_toArray, hcl]; exact hlt), List.getElem?_toArray]
              · rw [VRel]; exact ⟨_, _, Env.add_self, hge, by simp, .inl ⟨rfl, by simp, by simp⟩⟩
              · exact (List.sublist_append_right db sb).cons_cons _
              · obtain ⟨b', hb'⟩ := h
                rcases List.mem_cons.1 hb' with hb' | hb'
                · cases hb'; exact .inl ⟨_, List.mem_cons_self ..⟩
                · rcases List.mem_append.1 hb' with hb' | hb'
                  · obtain ⟨l, hl, _⟩ := H.left.blk _ _ hb'; exact .inr ⟨l, hl⟩
                  · exact .inl ⟨_, List.mem_cons_of_mem _ hb'⟩

end Sy
