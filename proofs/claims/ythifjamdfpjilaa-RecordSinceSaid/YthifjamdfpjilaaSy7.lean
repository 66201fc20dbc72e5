/-
  Cells that are read and written: lists of cells, blocks (own work of this seat).
-/
import Derived.Test.YthifjamdfpjilaaSy6
import Derived.Laws.Cells
namespace Sy
open Go

variable {P : Program} {U : Imm} {ρ : Env}

/-! ### Writing so many cells -/
def setR (c : Array Value) (k : Nat) : List Value → Array Value
  | [] => c
  | v :: vs => setR (c.setIfInBounds k v) (k + 1) vs
theorem setR_size (c : Array Value) : ∀ (vs : List Value) (k : Nat), (setR c k vs).size = c.size := by
  intro vs
  induction vs generalizing c with
  | nil => intro k; rfl
  | cons v vs ih => intro k; rw [setR, ih]; simp
theorem setR_get (vs : List Value) : ∀ (c : Array Value) (k : Nat), k + vs.length ≤ c.size → ∀ i, (setR c k vs)[i]? = if k ≤ i ∧ i < k + vs.length then vs[i - k]? else c[i]? := by
  induction vs with
  | nil => intro c k _ i; rw [setR, if_neg (by simp only [List.length_nil]; omega)]
  | cons v vs ih =>
    intro c k hk i
    simp only [List.length_cons] at hk ⊢
    rw [setR, ih _ _ (by simp; omega)]
    by_cases h1 : k + 1 ≤ i ∧ i < k + 1 + vs.length
    · rw [if_pos h1, if_pos (by omega)]
      rw [show i - k = (i - (k + 1)) + 1 by omega, List.getElem?_cons_succ]
    · rw [if_neg h1, Array.getElem?_setIfInBounds]
      by_cases h2 : k = i
      · subst h2; rw [if_pos rfl, if_pos (by omega), if_pos (by omega)]; simp
      · rw [if_neg h2, if_neg (by omega)]

theorem setCell_put {w : World} {b off : Nat} {c : Array Value} {el : TypeId} {fr : Nat × Nat} (h : w.heap[b]? = some (.cells c el fr)) (v : Value) :
    w.setCell ⟨b, off, none⟩ v = { w with heap := w.heap.setIfInBounds b (.cells (c.setIfInBounds off v) el fr) } := by
  unfold World.setCell
  congr 1
  apply Array.ext_getElem?
  intro i
  rw [Array.getElem?_modify, Array.getElem?_setIfInBounds]
  by_cases hi : b = i
  · subst hi
    have hlt := lt_size h
    rw [if_pos rfl, if_pos rfl, h, if_pos hlt]; rfl
  · rw [if_neg hi, if_neg hi]
theorem cell_of {w : World} {b off : Nat} {c : Array Value} {el : TypeId} {fr : Nat × Nat} (h : w.heap[b]? = some (.cells c el fr)) : w.cell? ⟨b, off, none⟩ = c[off]? := by
  simp [World.cell?, h]
theorem frozen_of {w : World} {b off lo hi : Nat} {c : Array Value} {el : TypeId} (h : w.heap[b]? = some (.cells c el (lo, hi))) (hf : hi ≤ lo ∨ c.size ≤ lo) (ho : off < c.size) : w.frozen? ⟨b, off, none⟩ = false := by
  simp only [World.frozen?, h, Bool.and_eq_false_iff, decide_eq_false_iff_not]
  omega

theorem run_storeCells {b off : Nat} {el : TypeId} {lo hi : Nat} (vs : List Value) : ∀ (i : Nat) (w : World) (c : Array Value), w.heap[b]? = some (.cells c el (lo, hi)) → (hi ≤ lo ∨ c.size ≤ lo) →
    off + i + vs.length ≤ c.size → (∀ v ∈ vs, v.oneCell' = true) →
    (storeCells ⟨b, off, none⟩ vs i).run P w = .ok () { w with heap := w.heap.setIfInBounds b (.cells (setR c (off + i) vs) el (lo, hi)) } := by
  induction vs with
  | nil =>
    intro i w c h _ _ _
    have hlt := lt_size h
    have : w.heap.setIfInBounds b (.cells (setR c (off + i) []) el (lo, hi)) = w.heap := by
      apply Array.ext_getElem?
      intro k
      rw [Array.getElem?_setIfInBounds]
      by_cases hk : b = k
      · subst hk; rw [if_pos rfl, if_pos hlt, h]; rfl
      · simp [hk]
    rw [this]; rfl
  | cons v vs ih =>
    intro i w c h hf hs hv
    simp only [List.length_cons] at hs
    have hlt := lt_size h
    have hv1 := hv v (by simp)
    rw [storeCells]
    simp only [Sem.run_bind, addr_add', run_store P w _ v _ hv1, cell_of h, Array.getElem?_eq_getElem (show off + i < c.size by omega), frozen_of h hf (show off + i < c.size by omega), Bool.false_eq_true, if_false, Result.andThen_ok]
    rw [setCell_put h, ih (i + 1) _ (c.setIfInBounds (off + i) v) (by simp [hlt]) (by simpa using hf) (by simp; omega) (fun u hu => hv u (by simp [hu]))]
    congr 2
    rw [setR, show off + (i + 1) = off + i + 1 by omega]
    apply Array.ext_getElem?
    intro k
    simp only [Array.getElem?_setIfInBounds]
    by_cases hk : b = k
    · subst hk; simp [hlt]
    · simp [hk]

/-! ### One cell -/
theorem one_cell {v : V} {x : Value} (h : v.one = true) (hx : VRel U ρ v x) : x.oneCell' = true ∧ x.cells = #[x] := by
  cases v <;> simp only [V.one, reduceCtorEq, Bool.false_eq_true] at h <;> rw [VRel] at hx
  case ptr => obtain ⟨l, _, _, rfl⟩ := hx; exact ⟨rfl, rfl⟩
  case rop => obtain ⟨_, _, _, _, rfl, _⟩ := hx; exact ⟨rfl, rfl⟩
  case sl => obtain ⟨_, _, _, _, _, ⟨_, rfl, _⟩ | ⟨_, rfl, _⟩⟩ := hx <;> exact ⟨rfl, rfl⟩
  case ros => obtain ⟨_, _, rfl, _⟩ := hx; exact ⟨rfl, rfl⟩
  case fn => obtain ⟨_, _, rfl, _⟩ := hx; exact ⟨rfl, rfl⟩
  case ifc => obtain ⟨_, rfl, _⟩ := hx; exact ⟨rfl, rfl⟩
  case mp => obtain ⟨_, _, _, rfl⟩ := hx; exact ⟨rfl, rfl⟩
  case yld => obtain ⟨_, _, _, rfl⟩ := hx; exact ⟨rfl, rfl⟩
  all_goals subst hx; exact ⟨rfl, rfl⟩

def V.part : V → Bool
  | .seg .. => true
  | v => v.one
/-- Cells of all of which something is known. -/
def solid : List V → Bool
  | [] => true
  | v :: vs => v.part && solid vs
theorem solid_cells : ∀ {cs : List V} {l : List Value}, solid cs = true → CsRel U ρ cs l → ∀ x ∈ l, x.oneCell' = true
  | [], l, _, h, x, hx => by rw [CsRel] at h; subst h; cases hx
  | v :: vs, l, hs, h, x, hx => by
    rw [solid, Bool.and_eq_true] at hs
    rw [CsRel] at h
    obtain ⟨l1, l2, rfl, h1, h2⟩ := h
    rcases List.mem_append.1 hx with hx | hx
    · rcases h1 with ⟨k, m, xs, rfl, hm, rfl⟩ | ⟨hc, y, rfl, hy⟩
      · obtain ⟨n, _, rfl⟩ := List.mem_map.1 hx; rfl
      · simp only [List.mem_singleton] at hx; subst hx
        have : v.one = true := by cases v <;> simp_all [V.part, V.one, V.cell]
        exact (one_cell this hy).1
    · exact solid_cells hs.2 h2 x hx

/-- The cells of a value. -/
def V.cs : V → List V
  | .agg cs => cs
  | v => [v]
theorem cs_rel {v : V} {x : Value} (hs : solid v.cs = true) (hx : VRel U ρ v x) : CsRel U ρ v.cs x.cells.toList ∧ x.cells.size = csize v.cs := by
  cases v
  case agg cs => rw [VRel] at hx; obtain ⟨l, rfl, h⟩ := hx; exact ⟨h, by have := h.len; simpa [Value.cells, V.cs] using this⟩
  case seg k m xs => rw [VRel] at hx; exact hx.elim
  all_goals
    have h1 := hs
    simp only [V.cs, solid, V.part, Bool.and_true] at h1
    have h2 := (one_cell h1 hx).2
    simp only [V.cs, h2]
    exact ⟨(CsRel_one (V.cell_of_one h1)).2 ⟨x, [], rfl, hx, by rw [CsRel]⟩, by simp [csize, V.csz]⟩

/-! ### Reading -/
def loadC (P : Program) (t : TypeId) (cs : List V) (o j : Nat) : Option (V × List Prop) :=
  match P.underlying t with
  | none => none
  | some _ => bif aggT P t then (bif Nat.beq j 0 then match midC cs o (szT P t) with
      | some c => some (.agg c, [])
      | none => none
    else none)
    else match splitC cs o with
      | some (_, v :: _) => match v with
        | .seg k m xs => some (.int k (xs.getD j 0), [j < m])
        | _ => bif Nat.beq j 0 && v.one then some (v, []) else none
      | _ => none
theorem loadC_ok {t : TypeId} {cs : List V} {o j b base : Nat} {v : V} {conds : List Prop} {l : List Value} {w : World} (h : loadC P t cs o j = some (v, conds)) (hc : All conds)
    (hl : CsRel U ρ cs l) (hcell : ∀ k, k < l.length → w.cell? ⟨b, base + k, none⟩ = l[k]?) : ∃ x, (loadVar t ⟨b, base + o + j, none⟩).run P w = .ok x w ∧ VRel U ρ v x := by
  unfold loadC at h
  cases hu : P.underlying t with
  | none => simp [hu] at h
  | some d =>
    obtain ⟨i, hi⟩ := info_of_under hu
    have hsz : szT P t = i.size := by simp [szT, hi]
    simp only [hu] at h
    unfold loadVar
    simp only [Sem.run_bind, run_isAgg hu, Result.andThen_ok]
    cases ha : aggT P t with
    | true =>
      simp only [ha, cond_true] at h
      cases hj : Nat.beq j 0 <;> simp only [hj, cond_true, cond_false, reduceCtorEq] at h
      have hj' : j = 0 := Nat.eq_of_beq_eq_true hj
      subst hj'
      cases hm : midC cs o (szT P t) with
      | none => simp [hm] at h
      | some c =>
        simp only [hm, Option.some.injEq, Prod.mk.injEq] at h
        obtain ⟨rfl, rfl⟩ := h
        rw [hsz] at hm
        obtain ⟨h1, h2⟩ := midC_rel hm hl
        have hlen : ((l.drop o).take i.size).length = i.size := by simp; omega
        have hrun := run_loadCells_list (P := P) w ⟨b, base + o + 0, none⟩ ((l.drop o).take i.size) (fun q y hq => by
          rw [addr_add']
          have hql : q < i.size := by
            rcases Nat.lt_or_ge q i.size with h | h
            · exact h
            · rw [List.getElem?_eq_none (by omega)] at hq; cases hq
          rw [List.getElem?_take_of_lt hql, List.getElem?_drop] at hq
          rw [show base + o + 0 + q = base + (o + q) by omega, hcell (o + q) (by omega), hq])
        rw [hlen] at hrun
        simp only [if_true, Sem.run_bind, run_size hi, Result.andThen_ok, hrun, Sem.run_pure]
        exact ⟨_, rfl, by rw [VRel]; exact ⟨_, rfl, h1⟩⟩
    | false =>
      simp only [ha, cond_false] at h
      simp only [Bool.false_eq_true, if_false]
      cases hs : splitC cs o with
      | none => simp [hs] at h
      | some p =>
        obtain ⟨pa, pb⟩ := p
        simp only [hs] at h
        cases pb with
        | nil => simp at h
        | cons u us =>
          obtain ⟨rfl, h3⟩ := splitC_spec hs
          obtain ⟨la, lb, rfl, h5, h6⟩ := CsRel_append.1 hl
          have e1 := h5.len; rw [h3] at e1
          simp only at h
          split at h
          · rename_i k m xs
            simp only [Option.some.injEq, Prod.mk.injEq] at h
            obtain ⟨rfl, rfl⟩ := h
            obtain ⟨hxs, r, rfl, h7⟩ := CsRel_seg.1 h6
            have hj := hc.1
            have hlt : j < xs.length := by omega
            have := hcell (o + j) (by simp; omega)
            rw [show base + (o + j) = base + o + j by omega, List.getElem?_append_right (by omega), List.getElem?_append_left (by simp; omega)] at this
            refine ⟨.int k (xs.getD j 0), ?_, by rw [VRel]⟩
            rw [run_load, this]
            simp [e1, List.getElem?_eq_getElem hlt, List.getD]
          · cases hj : (Nat.beq j 0 && u.one) <;> simp only [hj, cond_true, cond_false, reduceCtorEq, Option.some.injEq, Prod.mk.injEq] at h
            obtain ⟨rfl, rfl⟩ := h
            rw [Bool.and_eq_true] at hj
            have hj' : j = 0 := Nat.eq_of_beq_eq_true hj.1
            subst hj'
            obtain ⟨x, r, rfl, h7, h8⟩ := (CsRel_one (V.cell_of_one hj.2)).1 h6
            have := hcell o (by simp; omega)
            rw [List.getElem?_append_right (by omega)] at this
            refine ⟨x, ?_, h7⟩
            rw [run_load, Nat.add_zero, this]
            simp [e1]

/-! ### Writing -/
def storeC (P : Program) (t : TypeId) (cs : List V) (o j : Nat) (v : V) : Option (List V × List Prop) :=
  match splitC cs o with
  | none => none
  | some (a, b) => bif aggT P t then (bif Nat.beq j 0 && (solid v.cs && Nat.beq (csize v.cs) (szT P t)) then match splitC b (szT P t) with
      | some (_, r) => some (a ++ (v.cs ++ r), [])
      | none => none
    else none)
    else bif Nat.beq (szT P t) 1 then match b with
      | u :: us => match u with
        | .seg k m xs => match v with
          | .int k' n => if k = k' then some (a ++ .seg k m (xs.set j n) :: us, [j < m]) else none
          | _ => none
        | _ => bif Nat.beq j 0 && (v.one && u.cell) then some (a ++ v :: us, []) else none
      | [] => none
    else none

/-- Cells 'vals' at a place in a list. -/
def putL (l : List Value) (o : Nat) (vals : List Value) : List Value := l.take o ++ vals ++ l.drop (o + vals.length)

theorem storeC_ok {t : TypeId} {cs cs' : List V} {o j : Nat} {v : V} {x : Value} {conds : List Prop} {l : List Value} (h : storeC P t cs o j v = some (cs', conds)) (hc : All conds)
    (hl : CsRel U ρ cs l) (hx : VRel U ρ v x) : ∃ vals, x.cells.toList = vals ∧ vals.length = szT P t ∧ (∀ y ∈ vals, y.oneCell' = true) ∧ o + j + vals.length ≤ l.length ∧ CsRel U ρ cs' (putL l (o + j) vals) := by
  unfold storeC at h
  cases hs : splitC cs o with
  | none => simp [hs] at h
  | some p =>
    obtain ⟨a, b⟩ := p
    simp only [hs] at h
    obtain ⟨rfl, h3⟩ := splitC_spec hs
    obtain ⟨la, lb, rfl, h5, h6⟩ := CsRel_append.1 hl
    have e1 := h5.len; rw [h3] at e1
    cases ha : aggT P t with
    | true =>
      simp only [ha, cond_true] at h
      cases hj : (Nat.beq j 0 && (solid v.cs && Nat.beq (csize v.cs) (szT P t))) <;> simp only [hj, cond_true, cond_false, reduceCtorEq] at h
      rw [Bool.and_eq_true, Bool.and_eq_true] at hj
      obtain ⟨hj1, hj2, hj3⟩ := hj
      have hj' : j = 0 := Nat.eq_of_beq_eq_true hj1
      subst hj'
      have hsz : csize v.cs = szT P t := Nat.eq_of_beq_eq_true hj3
      cases hs2 : splitC b (szT P t) with
      | none => simp [hs2] at h
      | some q =>
        obtain ⟨b1, r⟩ := q
        simp only [hs2, Option.some.injEq, Prod.mk.injEq] at h
        obtain ⟨rfl, rfl⟩ := h
        obtain ⟨rfl, h4⟩ := splitC_spec hs2
        obtain ⟨lb1, lr, rfl, h7, h8⟩ := CsRel_append.1 h6
        have e2 := h7.len; rw [h4] at e2
        obtain ⟨hv1, hv2⟩ := cs_rel hj2 hx
        have e3 : x.cells.toList.length = szT P t := by simp; omega
        refine ⟨_, rfl, e3, solid_cells hj2 hv1, by simp only [List.length_append]; omega, ?_⟩
        unfold putL
        rw [Nat.add_zero, List.take_append_of_le_length (by omega), List.take_of_length_le (by omega), List.drop_append, List.drop_of_length_le (by omega), List.nil_append, List.drop_append, List.drop_of_length_le (by omega), List.nil_append]
        rw [show o + x.cells.toList.length - la.length - lb1.length = 0 by omega, List.drop_zero, List.append_assoc]
        exact CsRel_append.2 ⟨la, _, rfl, h5, CsRel_append.2 ⟨_, lr, rfl, hv1, h8⟩⟩
    | false =>
      simp only [ha, cond_false] at h
      cases hsz : Nat.beq (szT P t) 1 <;> simp only [hsz, cond_true, cond_false, reduceCtorEq] at h
      have hsz' : szT P t = 1 := Nat.eq_of_beq_eq_true hsz
      cases b with
      | nil => simp at h
      | cons u us =>
        simp only at h
        split at h
        · rename_i k m xs
          split at h
          · rename_i k' n
            split at h
            · rename_i hk
              subst hk
              simp only [Option.some.injEq, Prod.mk.injEq] at h
              obtain ⟨rfl, rfl⟩ := h
              obtain ⟨hxs, r, rfl, h7⟩ := CsRel_seg.1 h6
              have hj := hc.1
              rw [VRel] at hx; subst hx
              refine ⟨[.int k n], rfl, by simp [hsz'], by simp [Value.oneCell'], by simp; omega, ?_⟩
              unfold putL
              refine CsRel_append.2 ⟨la, (xs.set j n).map (Value.int k) ++ r, ?_, h5, CsRel_seg.2 ⟨by simp [hxs], r, rfl, h7⟩⟩
              apply List.ext_getElem?
              intro q
              simp only [List.length_singleton, List.take_append, List.drop_append, List.map_set, e1]
              rw [List.take_of_length_le (by omega), List.drop_of_length_le (show la.length ≤ o + j + 1 by omega), List.nil_append]
              rw [show o + j - o = j by omega, show o + j + 1 - o = j + 1 by omega]
              simp only [List.append_assoc]
              congr 2
              have hjl : j < (xs.map (Value.int k)).length := by simp; omega
              rw [show j - (xs.map (Value.int k)).length = 0 by omega, List.take_zero, List.nil_append, show j + 1 - (xs.map (Value.int k)).length = 0 by omega, List.drop_zero]
              rw [List.set_eq_take_append_cons_drop, if_pos hjl]
              simp
            · simp at h
          · simp at h
        · cases hj : (Nat.beq j 0 && (v.one && u.cell)) <;> simp only [hj, cond_true, cond_false, reduceCtorEq, Option.some.injEq, Prod.mk.injEq] at h
          obtain ⟨rfl, rfl⟩ := h
          rw [Bool.and_eq_true, Bool.and_eq_true] at hj
          obtain ⟨hj1, hj2, hj3⟩ := hj
          have hj' : j = 0 := Nat.eq_of_beq_eq_true hj1
          subst hj'
          obtain ⟨y, r, rfl, h7, h8⟩ := (CsRel_one hj3).1 h6
          obtain ⟨hx1, hx2⟩ := one_cell hj2 hx
          refine ⟨[x], by rw [hx2], by simp [hsz'], by simp [hx1], by simp; omega, ?_⟩
          unfold putL
          rw [Nat.add_zero, List.take_append_of_le_length (by omega), List.take_of_length_le (by omega), List.drop_append, List.drop_of_length_le (by simp; omega), List.nil_append]
          rw [show o + [x].length - la.length = 1 by simp; omega, List.drop_one, List.tail_cons, List.append_assoc]
          exact CsRel_append.2 ⟨la, _, rfl, h5, (CsRel_one (V.cell_of_one hj2)).2 ⟨x, r, rfl, hx, h8⟩⟩

end Sy
