/-
  Operations that look at no block of the heap, continued: addresses, parts, slices, conversions (own work of this seat).
-/
import Derived.Test.YthifjamdfpjilaaSy4
namespace Sy
open Go

variable {P : Program} {U : Imm} {ρ : Env}

/-- The part of some cells at a place: of a struct's or an array's type, or one cell. -/
def partC (P : Program) (t : TypeId) (cs : List V) (o : Nat) : Option V :=
  match P.underlying t with
  | none => none
  | some _ => bif aggT P t then (midC cs o (szT P t)).map .agg
    else match splitC cs o with
      | some (_, v :: _) => bif v.one then some v else none
      | _ => none

theorem partC_rel {t : TypeId} {cs : List V} {o : Nat} {v : V} {l : Array Value} (h : partC P t cs o = some v) (hl : CsRel U ρ cs l.toList) (w : World) :
    ∃ x, (part t l o).run P w = .ok x w ∧ VRel U ρ v x := by
  unfold partC at h
  cases hu : P.underlying t with
  | none => simp [hu] at h
  | some d =>
    obtain ⟨i, hi⟩ := info_of_under hu
    simp only [hu] at h
    unfold part
    simp only [Sem.run_bind, run_isAgg hu, Result.andThen_ok]
    cases ha : aggT P t with
    | true =>
      simp only [ha, cond_true, Option.map_eq_some_iff] at h
      obtain ⟨c, hc, rfl⟩ := h
      simp only [if_true, Sem.run_bind, run_size hi, Result.andThen_ok, Sem.run_pure]
      have hsz : szT P t = i.size := by simp [szT, hi]
      rw [hsz] at hc
      refine ⟨_, rfl, ?_⟩
      rw [VRel]
      refine ⟨_, rfl, ?_⟩
      rw [Array.toList_extract]
      have := (midC_rel hc hl).1
      rw [List.extract_eq_take_drop, Nat.add_sub_cancel_left]; exact this
    | false =>
      simp only [ha, cond_false] at h
      simp only [Bool.false_eq_true, if_false]
      cases hs : splitC cs o with
      | none => simp [hs] at h
      | some p =>
        obtain ⟨a, b⟩ := p
        cases b with
        | nil => simp [hs] at h
        | cons u us =>
          simp only [hs] at h
          cases hone : u.one with
          | false => simp [hone] at h
          | true =>
            simp only [hone, cond_true, Option.some.injEq] at h
            subst h
            obtain ⟨rfl, h3⟩ := splitC_spec hs
            obtain ⟨la, lb, e, h5, h6⟩ := CsRel_append.1 hl
            obtain ⟨x, r, rfl, h7, h8⟩ := (CsRel_one (V.cell_of_one hone)).1 h6
            have e1 := h5.len; rw [h3] at e1
            have : l[o]? = some x := by
              rw [← Array.getElem?_toList, e, List.getElem?_append_right (by omega)]; simp [e1]
            exact ⟨x, by simp [this], h7⟩

/-- How an index goes on from an address. -/
def intT (P : Program) (t : TypeId) : Bool := match P.underlying t with | some (.int _) => Nat.beq (szT P t) 1 | _ => false
theorem intT_spec {t : TypeId} (h : intT P t = true) : (∃ k, P.underlying t = some (.int k)) ∧ szT P t = 1 ∧ aggT P t = false := by
  unfold intT at h
  cases hu : P.underlying t with
  | none => simp [hu] at h
  | some d =>
    cases d <;> simp only [hu, reduceCtorEq, Bool.false_eq_true] at h
    exact ⟨⟨_, rfl⟩, Nat.eq_of_beq_eq_true h, by simp [aggT, hu]⟩

def fieldAddrV (P : Program) (s : TypeId) (x : V) (f : Nat) : Option V :=
  match P.underlying s with
  | some (.struct fs) => match fs[f]? with
    | some fd => match P.info? fd.type with
      | some i => bif Nat.beq i.size 0 then none else match x with
        | .ptr n es k o j => some (.ptr n es k (o + fd.offset) j)
        | .rop cs o j => some (.rop cs (o + fd.offset) j)
        | _ => none
      | none => none
    | none => none
  | _ => none
theorem addr_add (a : Addr) (n : Nat) (h : a.spot = none) : a.add n = ⟨a.block, a.off + n, none⟩ := by
  unfold Addr.add
  by_cases hn : n = 0
  · subst hn; cases a; simp at h; simp [h]
  · simp [hn]
theorem fieldAddrV_ok {s : TypeId} {v v' : V} {x : Value} {f : Nat} (h : fieldAddrV P s v f = some v') (hx : VRel U ρ v x) (w : World) :
    ∃ y, (Instr.fieldAt s x f).run P w = .ok y w ∧ VRel U ρ v' y := by
  unfold fieldAddrV at h
  cases hu : P.underlying s with
  | none => simp [hu] at h
  | some d =>
    cases d <;> simp only [hu, reduceCtorEq] at h
    rename_i fs
    cases hf : fs[f]? with
    | none => simp [hf] at h
    | some fd =>
      cases hi : P.info? fd.type with
      | none => simp [hf, hi] at h
      | some i =>
        simp only [hf, hi] at h
        cases hz : Nat.beq i.size 0 with
        | true => simp [hz] at h
        | false =>
          have hz' : ¬ i.size = 0 := fun h0 => by rw [h0] at hz; cases hz
          have run : ∀ a : Addr, a.spot = none → (Instr.fieldAt s (.pointer (some a)) f).run P w = .ok (.pointer (some ⟨a.block, a.off + fd.offset, none⟩)) w := by
            intro a ha
            simp only [Instr.fieldAt, Sem.run_bind, run_under hu, Result.andThen_ok, hf, Instr.sureAddr, Sem.run_pure, fieldPlace, run_size hi, hz', if_false, addr_add a _ ha]
          simp only [hz, cond_false] at h
          cases v <;> simp only [reduceCtorEq, Option.some.injEq] at h <;> subst h
          case ptr n es k o j =>
            rw [VRel] at hx
            obtain ⟨l, h1, hr, rfl⟩ := hx
            refine ⟨_, run _ rfl, ?_⟩
            rw [VRel]; exact ⟨l, h1, hr, by simp only [Value.pointer.injEq, Option.some.injEq, Addr.mk.injEq, and_true, true_and]; omega⟩
          case rop cs o j =>
            rw [VRel] at hx
            obtain ⟨b, base, c, h1, rfl, h2⟩ := hx
            refine ⟨_, run _ rfl, ?_⟩
            rw [VRel]; exact ⟨b, base, c, h1, by simp only [Value.pointer.injEq, Option.some.injEq, Addr.mk.injEq, and_true, true_and]; omega, h2⟩

def indexAddrV (P : Program) (t : TypeId) (x ix : V) : Option (V × List Prop) :=
  match ix with
  | .int _ n => match P.underlying t with
    | some (.array len e) => match x with
      | .ptr m es i o j => bif intT P e then some (.ptr m es i o (j + n.toNat), [0 ≤ n ∧ n < (len : Int)]) else some (.ptr m es i (o + n.toNat * szT P e) j, [0 ≤ n ∧ n < (len : Int)])
      | .rop cs o j => bif intT P e then some (.rop cs o (j + n.toNat), [0 ≤ n ∧ n < (len : Int)]) else some (.rop cs (o + n.toNat * szT P e) j, [0 ≤ n ∧ n < (len : Int)])
      | _ => none
    | some (.slice e) => match x with
      | .ros es len f _ => bif Nat.beq es (szT P e) then some (.rop (f n.toNat) 0 0, [0 ≤ n ∧ n < (len : Int)]) else none
      | .sl m es i o j len _ => bif Nat.beq es 0 then (bif Nat.beq (szT P e) 1 then some (.ptr m 0 i o (j + n.toNat), [0 ≤ n ∧ n < (len : Int)]) else none)
          else bif Nat.beq es (szT P e) then some (.ptr m es (i + n.toNat) o j, [0 ≤ n ∧ n < (len : Int)]) else none
      | _ => none
    | _ => none
  | _ => none
theorem indexAt_array {t : TypeId} {len : Nat} {e : TypeId} (hu : P.underlying t = some (.array len e)) {i : TypeInfo} (hi : P.info? e = some i) (a : Addr) (ha : a.spot = none) (k : IntKind) (n : Int) (h : 0 ≤ n ∧ n < (len : Int)) (w : World) :
    (Instr.indexAt t (.pointer (some a)) (.int k n)).run P w = .ok (.pointer (some ⟨a.block, a.off + n.toNat * i.size, none⟩)) w := by
  simp only [Instr.indexAt, Sem.run_bind, asIntOf, Sem.run_pure, Result.andThen_ok, run_under hu, Instr.sureAddr, h, and_self, if_true, run_size hi, addr_add a _ ha]
theorem indexAt_slice {t : TypeId} {e : TypeId} (hu : P.underlying t = some (.slice e)) {i : TypeInfo} (hi : P.info? e = some i) (a : Addr) (ha : a.spot = none) (len cap : Nat) (k : IntKind) (n : Int) (h : 0 ≤ n ∧ n < (len : Int)) (w : World) :
    (Instr.indexAt t (.slice (some a) len cap) (.int k n)).run P w = .ok (.pointer (some ⟨a.block, a.off + n.toNat * i.size, none⟩)) w := by
  simp only [Instr.indexAt, Sem.run_bind, asIntOf, Sem.run_pure, Result.andThen_ok, run_under hu, h, and_self, if_true, run_size hi, addr_add a _ ha]

/-- The sizes that 'indexAddrV' takes for granted: a number's type is of one cell. -/
def intSizes (P : Program) : Prop := ∀ t i, intT P t = true → P.info? t = some i → i.size = 1
theorem intSizes_all (P : Program) : intSizes P := fun t i h hi => by
  have := (intT_spec h).2.1
  simpa [szT, hi] using this

theorem indexAddrV_ok (hI : intSizes P) {t : TypeId} {v vi v' : V} {x xi : Value} {cs : List Prop} (h : indexAddrV P t v vi = some (v', cs)) (hc : All cs) (hx : VRel U ρ v x) (hxi : VRel U ρ vi xi)
    (he : ∀ e, (∃ len, P.underlying t = some (.array len e)) ∨ P.underlying t = some (.slice e) → (P.info? e).isSome = true) (w : World) :
    ∃ y, (Instr.indexAt t x xi).run P w = .ok y w ∧ VRel U ρ v' y := by
  unfold indexAddrV at h
  cases vi <;> simp only [reduceCtorEq] at h
  rename_i k n
  rw [VRel] at hxi; subst hxi
  cases hu : P.underlying t with
  | none => simp [hu] at h
  | some d =>
    cases d <;> simp only [hu, reduceCtorEq] at h
    case array len e =>
      obtain ⟨i, hi⟩ := Option.isSome_iff_exists.1 (he e (.inl ⟨len, hu⟩))
      have hsz : szT P e = i.size := by simp [szT, hi]
      cases v <;> simp only [reduceCtorEq] at h
      case ptr m es i0 o j =>
        rw [VRel] at hx; obtain ⟨l, h1, hr, rfl⟩ := hx
        cases hint : intT P e <;> simp only [hint, cond_true, cond_false, Option.some.injEq, Prod.mk.injEq] at h <;> obtain ⟨rfl, rfl⟩ := h
        · refine ⟨_, indexAt_array hu hi _ rfl k n hc.1 w, ?_⟩
          rw [VRel]; exact ⟨l, h1, hr, by simp only [Value.pointer.injEq, Option.some.injEq, Addr.mk.injEq, and_true, true_and, hsz]; omega⟩
        · refine ⟨_, indexAt_array hu hi _ rfl k n hc.1 w, ?_⟩
          rw [VRel]; exact ⟨l, h1, hr, by simp only [Value.pointer.injEq, Option.some.injEq, Addr.mk.injEq, and_true, true_and, hI e i hint hi]; omega⟩
      case rop cs0 o j =>
        rw [VRel] at hx; obtain ⟨b, base, c, h1, rfl, h2⟩ := hx
        cases hint : intT P e <;> simp only [hint, cond_true, cond_false, Option.some.injEq, Prod.mk.injEq] at h <;> obtain ⟨rfl, rfl⟩ := h
        · refine ⟨_, indexAt_array hu hi _ rfl k n hc.1 w, ?_⟩
          rw [VRel]; exact ⟨b, base, c, h1, by simp only [Value.pointer.injEq, Option.some.injEq, Addr.mk.injEq, and_true, true_and, hsz]; omega, h2⟩
        · refine ⟨_, indexAt_array hu hi _ rfl k n hc.1 w, ?_⟩
          rw [VRel]; exact ⟨b, base, c, h1, by simp only [Value.pointer.injEq, Option.some.injEq, Addr.mk.injEq, and_true, true_and, hI e i hint hi]; omega, h2⟩
    case slice e =>
      obtain ⟨i, hi⟩ := Option.isSome_iff_exists.1 (he e (.inr hu))
      have hsz : szT P e = i.size := by simp [szT, hi]
      cases v <;> simp only [reduceCtorEq] at h
      case sl m es i0 o j len cap =>
        rw [VRel] at hx; obtain ⟨l, cp, h1, _, _, hx⟩ := hx
        cases hes : Nat.beq es 0 <;> simp only [hes, cond_true, cond_false] at h
        · cases hes2 : Nat.beq es (szT P e) <;> simp only [hes2, cond_true, cond_false, reduceCtorEq, Option.some.injEq, Prod.mk.injEq] at h
          obtain ⟨rfl, rfl⟩ := h
          obtain ⟨hr, rfl, _⟩ := hx.resolve_right (fun h => by have := hc.1; omega)
          have e2 : es = i.size := by simp at hes2; omega
          refine ⟨_, indexAt_slice hu hi _ rfl _ _ k n hc.1 w, ?_⟩
          rw [VRel]; exact ⟨l, h1, hr, by simp only [Value.pointer.injEq, Option.some.injEq, Addr.mk.injEq, and_true, true_and, ← e2, Nat.add_mul]; omega⟩
        · cases hes2 : Nat.beq (szT P e) 1 <;> simp only [hes2, cond_true, cond_false, reduceCtorEq, Option.some.injEq, Prod.mk.injEq] at h
          obtain ⟨rfl, rfl⟩ := h
          obtain ⟨hr, rfl, _⟩ := hx.resolve_right (fun h => by have := hc.1; omega)
          have e1 : es = 0 := by simpa using hes
          have e2 : i.size = 1 := by simp at hes2; omega
          subst e1
          refine ⟨_, indexAt_slice hu hi _ rfl _ _ k n hc.1 w, ?_⟩
          rw [VRel]; exact ⟨l, h1, hr, by simp only [Value.pointer.injEq, Option.some.injEq, Addr.mk.injEq, and_true, true_and, e2]; omega⟩
      case ros es len f clip =>
        rw [VRel] at hx; obtain ⟨a, cp, rfl, h2, h3, h4⟩ := hx
        cases hes2 : Nat.beq es (szT P e) <;> simp only [hes2, cond_true, cond_false, reduceCtorEq, Option.some.injEq, Prod.mk.injEq] at h
        obtain ⟨rfl, rfl⟩ := h
        have e2 : es = i.size := by simp at hes2; omega
        obtain ⟨b, base, c, rfl, h5, lst, h6, h7, h8⟩ := h4 n.toNat (by have := hc.1; omega)
        refine ⟨_, indexAt_slice hu hi _ rfl _ _ k n hc.1 w, ?_⟩
        rw [VRel]
        refine ⟨b, base + n.toNat * es, c, h5, by simp only [Value.pointer.injEq, Option.some.injEq, Addr.mk.injEq, and_true, true_and, ← e2]; omega, lst, h6, h8⟩

def byteAt (s : ByteArray) (n : Nat) : Int := ((s.data.toList.getD n 0).toNat : Int)

/-- An element by its index, of a value. -/
def indexV (P : Program) (t : TypeId) (x ix : V) : Option (V × List Prop) :=
  match ix with
  | .int _ n => match P.underlying t with
    | some (.array len e) => match x with
      | .agg cs => match cs with
        | [.seg k m xs] => bif intT P e then some (.int k (xs.getD n.toNat 0), [0 ≤ n ∧ n < (len : Int) ∧ n < (m : Int)]) else none
        | _ => match partC P e cs (n.toNat * szT P e) with
          | some v => some (v, [0 ≤ n ∧ n < (len : Int)])
          | none => none
      | _ => none
    | some .string => match x with
      | .str s => some (.int .u8 (byteAt s n.toNat), [0 ≤ n ∧ n < (s.size : Int)])
      | _ => none
    | _ => none
  | _ => none
theorem indexV_ok {t : TypeId} {v vi v' : V} {x xi : Value} {cs : List Prop} (h : indexV P t v vi = some (v', cs)) (hc : All cs) (hx : VRel U ρ v x) (hxi : VRel U ρ vi xi)
    (he : ∀ e len, P.underlying t = some (.array len e) → (P.info? e).isSome = true ∧ (intT P e = true → aggT P e = false ∧ szT P e = 1)) (w : World) :
    ∃ y, (Instr.index t x xi).run P w = .ok y w ∧ VRel U ρ v' y := by
  unfold indexV at h
  cases vi <;> simp only [reduceCtorEq] at h
  rename_i k n
  rw [VRel] at hxi; subst hxi
  cases hu : P.underlying t with
  | none => simp [hu] at h
  | some d =>
    cases d <;> simp only [hu, reduceCtorEq] at h
    case string =>
      cases v <;> simp only [reduceCtorEq, Option.some.injEq, Prod.mk.injEq] at h
      obtain ⟨rfl, rfl⟩ := h
      rename_i s
      rw [VRel] at hx; subst hx
      obtain ⟨h1, h2⟩ := hc.1
      have hlt : n.toNat < s.size := by omega
      have hlt2 : n.toNat < s.data.toList.length := by rw [Array.length_toList]; exact hlt
      have hget : s[n.toNat]? = some (s.data.toList.getD n.toNat 0) := by
        rw [getElem?_pos s n.toNat hlt]
        simp only [List.getD, List.getElem?_eq_getElem hlt2, Option.getD_some]
        rfl
      refine ⟨.int .u8 (byteAt s n.toNat), ?_, by rw [VRel]⟩
      simp only [Instr.index, Sem.run_bind, asIntOf, Sem.run_pure, Result.andThen_ok, run_under hu, h1, if_true, hget, byteAt]
    case array len e =>
      obtain ⟨he1, he2⟩ := he e len hu
      obtain ⟨i, hi⟩ := Option.isSome_iff_exists.1 he1
      have hsz : szT P e = i.size := by simp [szT, hi]
      cases v <;> simp only [reduceCtorEq] at h
      rename_i cs0
      rw [VRel] at hx; obtain ⟨l, rfl, hl⟩ := hx
      have run : 0 ≤ n ∧ n < (len : Int) → (Instr.index t (.agg l) (.int k n)).run P w = (part e l (n.toNat * i.size)).run P w := by
        intro h1
        simp only [Instr.index, Sem.run_bind, asIntOf, Sem.run_pure, Result.andThen_ok, run_under hu, h1, and_self, if_true, run_size hi]
      split at h
      · rename_i k' m xs
        cases hint : intT P e <;> simp only [hint, cond_true, cond_false, reduceCtorEq, Option.some.injEq, Prod.mk.injEq] at h
        obtain ⟨rfl, rfl⟩ := h
        obtain ⟨⟨h1, h2, h3⟩, _⟩ := hc
        obtain ⟨hag, hs1⟩ := he2 hint
        obtain ⟨hm, r, e1, h5⟩ := CsRel_seg.1 hl
        rw [CsRel] at h5; subst h5
        rw [List.append_nil] at e1
        have hlt : n.toNat < xs.length := by omega
        refine ⟨.int k' (xs.getD n.toNat 0), ?_, by simp [VRel]⟩
        rw [run ⟨h1, h2⟩, ← hsz, hs1, Nat.mul_one]
        unfold part
        have hsome : ∃ d, P.underlying e = some d := by
          obtain ⟨⟨k, hk⟩, _⟩ := intT_spec hint
          exact ⟨_, hk⟩
        obtain ⟨d, hd⟩ := hsome
        have hget : l[n.toNat]? = some (.int k' (xs.getD n.toNat 0)) := by
          rw [← Array.getElem?_toList, e1, List.getElem?_map, List.getElem?_eq_getElem hlt]; simp [List.getD, List.getElem?_eq_getElem hlt]
        simp only [Sem.run_bind, run_isAgg hd, hag, Result.andThen_ok, Bool.false_eq_true, if_false, hget, Sem.run_pure]
      · cases hp : partC P e cs0 (n.toNat * szT P e) with
        | none => simp [hp] at h
        | some v1 =>
          simp only [hp, Option.some.injEq, Prod.mk.injEq] at h
          obtain ⟨rfl, rfl⟩ := h
          obtain ⟨y, h5, h6⟩ := partC_rel hp hl w
          exact ⟨y, by rw [run hc.1, ← hsz]; exact h5, h6⟩

def fieldV (P : Program) (t : TypeId) (x : V) (f : Nat) : Option V :=
  match P.underlying t, x with
  | some (.struct fs), .agg cs => match fs[f]? with
    | some fd => partC P fd.type cs fd.offset
    | none => none
  | _, _ => none
theorem fieldV_ok {t : TypeId} {v v' : V} {x : Value} {f : Nat} (h : fieldV P t v f = some v') (hx : VRel U ρ v x) (w : World) :
    ∃ y, (Instr.field t x f).run P w = .ok y w ∧ VRel U ρ v' y := by
  unfold fieldV at h
  cases hu : P.underlying t with
  | none => simp [hu] at h
  | some d =>
    cases d <;> simp only [hu, reduceCtorEq] at h
    rename_i fs
    cases v <;> simp only [reduceCtorEq] at h
    rename_i cs
    rw [VRel] at hx; obtain ⟨l, rfl, hl⟩ := hx
    cases hf : fs[f]? with
    | none => simp [hf] at h
    | some fd =>
      simp only [hf] at h
      obtain ⟨y, h1, h2⟩ := partC_rel h hl w
      exact ⟨y, by simp only [Instr.field, Sem.run_bind, run_under hu, Result.andThen_ok, hf, asAgg, Sem.run_pure]; exact h1, h2⟩

end Sy
