/-
  Operations on blocks: reading, writing, making (own work of this seat).
-/
import Derived.Test.YthifjamdfpjilaaSy7
namespace Sy
open Go

variable {P : Program} {U : Imm} {ρ : Env}

/-! ### Elements of blocks -/
def elemB (b : B) (es i : Nat) : Option (List V × List Prop) := match b with
  | .flat cs => bif Nat.beq es 0 then some (cs, []) else none
  | .rows es' n f _ => bif Nat.beq es es' then some (f i, [i < n]) else none
  | _ => none
def putB (b : B) (i : Nat) (cs : List V) : B := match b with
  | .flat _ => .flat cs
  | .rows es n f g => .rows es n (fun k => bif Nat.beq k i then cs else f k) g
  | b => b
def rowsB : B → Bool
  | .rows .. => true
  | _ => false

theorem noName (v : V) (h : V.within (fun _ => false) v = true) {x : Value} (hx : VRel U ρ v x) : VRel U Env.none v x :=
  VRel.within (Imm.le_refl _) (fun n l hn => by simp at hn) h hx
theorem noNames (v : List V) (h : V.withins (fun _ => false) v = true) {x : List Value} (hx : CsRel U ρ v x) : CsRel U Env.none v x :=
  CsRel.within (Imm.le_refl _) (fun n l hn => by simp at hn) h hx
theorem Env.none_le (ρ : Env) : Env.none.le ρ := fun _ _ h => by cases h

theorem loadB_ok {t : TypeId} {b : B} {es i o j sz blk : Nat} {cs : List V} {v : V} {c1 c2 : List Prop} {ob : Obj} {w : World} (hb : BRel U ρ sz b ob) (ho : w.heap[blk]? = some ob)
    (he : elemB b es i = some (cs, c1)) (h : loadC P t cs o j = some (v, c2)) (hc1 : All c1) (hc2 : All c2) :
    ∃ x, (loadVar t ⟨blk, i * es + o + j, none⟩).run P w = .ok x w ∧ VRel U ρ v x := by
  cases b with
  | flat cs0 =>
    unfold elemB at he
    cases hes : Nat.beq es 0 <;> simp only [hes, cond_true, cond_false, reduceCtorEq, Option.some.injEq, Prod.mk.injEq] at he
    obtain ⟨rfl, rfl⟩ := he
    have hes' : es = 0 := Nat.eq_of_beq_eq_true hes
    subst hes'
    obtain ⟨c, el, lo, hi, rfl, h2, h3, h4⟩ := hb
    have := loadC_ok (b := blk) (base := i * 0) h hc2 h4 (w := w) (fun k hk => by rw [cell_of ho]; simp)
    exact this
  | rows es' n f g =>
    unfold elemB at he
    cases hes : Nat.beq es es' <;> simp only [hes, cond_true, cond_false, reduceCtorEq, Option.some.injEq, Prod.mk.injEq] at he
    obtain ⟨rfl, rfl⟩ := he
    have hes' : es = es' := Nat.eq_of_beq_eq_true hes
    subst hes'
    obtain ⟨c, el, lo, hi, rfl, h2, h3, h4, h5, h6⟩ := hb
    obtain ⟨r, h7, h8, h9⟩ := h6 i hc1.1
    have := loadC_ok (ρ := ρ) (b := blk) (base := i * es) h hc2 (CsRel.mono (Imm.le_refl _) (Env.none_le _) h7) (w := w) (fun k hk => by rw [cell_of ho]; exact h9 k hk)
    exact this
  | map ents => simp [elemB] at he
  | dfr => simp [elemB] at he
  | loop => simp [elemB] at he

theorem putL_get {l vals : List Value} {o : Nat} (h : o + vals.length ≤ l.length) (k : Nat) : (putL l o vals)[k]? = if o ≤ k ∧ k < o + vals.length then vals[k - o]? else l[k]? := by
  unfold putL
  rw [List.append_assoc, List.getElem?_append]
  simp only [List.length_take, Nat.min_eq_left (show o ≤ l.length by omega)]
  by_cases h1 : k < o
  · rw [if_pos h1, if_neg (by omega), List.getElem?_take_of_lt h1]
  · rw [if_neg h1, List.getElem?_append]
    by_cases h2 : k - o < vals.length
    · rw [if_pos h2, if_pos (by omega)]
    · rw [if_neg h2, if_neg (by omega), List.getElem?_drop]
      congr 1; omega
theorem putL_len {l vals : List Value} {o : Nat} (h : o + vals.length ≤ l.length) : (putL l o vals).length = l.length := by
  unfold putL; simp; omega

theorem storeB_ok {t : TypeId} {b : B} {es i o j sz blk : Nat} {cs cs' : List V} {v : V} {x : Value} {c1 c2 : List Prop} {ob : Obj} {w : World} {ti : TypeInfo} (hb : BRel U ρ sz b ob) (ho : w.heap[blk]? = some ob)
    (hti : P.info? t = some ti)
    (he : elemB b es i = some (cs, c1)) (h : storeC P t cs o j v = some (cs', c2)) (hc1 : All c1) (hc2 : All c2) (hx : VRel U ρ v x) (hn : (rowsB b && !V.within (fun _ => false) v) = false) :
    ∃ ob', (storeVar t ⟨blk, i * es + o + j, none⟩ x).run P w = .ok () { w with heap := w.heap.setIfInBounds blk ob' } ∧ BRel U ρ sz (putB b i cs') ob' := by
  have hsz : szT P t = ti.size := by simp [szT, hti]
  have run : ∀ {c el lo hi} (vals : List Value), w.heap[blk]? = some (.cells c el (lo, hi)) → (hi ≤ lo ∨ c.size ≤ lo) → x.cells.toList = vals → vals.length = szT P t → (∀ y ∈ vals, y.oneCell' = true) → i * es + o + j + vals.length ≤ c.size →
      (storeVar t ⟨blk, i * es + o + j, none⟩ x).run P w = .ok () { w with heap := w.heap.setIfInBounds blk (.cells (setR c (i * es + o + j) vals) el (lo, hi)) } := by
    intro c el lo hi vals h1 h2 h3 h4 h5 h6
    have hne : ¬ (x.cells.size ≠ ti.size) := by rw [← Array.length_toList, h3, h4, hsz]; simp
    unfold storeVar
    simp only [Sem.run_bind, run_size hti, Result.andThen_ok, hne, if_false, h3]
    have := run_storeCells (P := P) (b := blk) (off := i * es + o + j) vals 0 w c h1 h2 (by omega) h5
    rw [Nat.add_zero] at this; exact this
  cases b with
  | flat cs0 =>
    unfold elemB at he
    cases hes : Nat.beq es 0 <;> simp only [hes, cond_true, cond_false, reduceCtorEq, Option.some.injEq, Prod.mk.injEq] at he
    obtain ⟨rfl, rfl⟩ := he
    have hes' : es = 0 := Nat.eq_of_beq_eq_true hes
    subst hes'
    obtain ⟨c, el, lo, hi, rfl, h2, h3, h4⟩ := hb
    obtain ⟨vals, h5, h6, h7, h8, h9⟩ := storeC_ok h hc2 h4 hx
    refine ⟨_, run vals ho h3 h5 h6 h7 (by simp at h8 ⊢; omega), ?_⟩
    refine ⟨_, el, lo, hi, rfl, by rw [setR_size]; exact h2, by rw [setR_size]; exact h3, ?_⟩
    have : (setR c (i * 0 + o + j) vals).toList = putL c.toList (o + j) vals := by
      apply List.ext_getElem?
      intro k
      rw [putL_get h8, Array.getElem?_toList, setR_get vals c _ (by simp at h8 ⊢; omega), Array.getElem?_toList]
      simp
    rw [this]; exact h9
  | rows es' n f g =>
    unfold elemB at he
    cases hes : Nat.beq es es' <;> simp only [hes, cond_true, cond_false, reduceCtorEq, Option.some.injEq, Prod.mk.injEq] at he
    obtain ⟨rfl, rfl⟩ := he
    have hes' : es = es' := Nat.eq_of_beq_eq_true hes
    subst hes'
    obtain ⟨c, el, lo, hi, rfl, h2, h3, h4, h5, h6⟩ := hb
    have hi' := hc1.1
    obtain ⟨r, h7, h8, h9⟩ := h6 i hi'
    have hv : V.within (fun _ => false) v = true := by simpa [rowsB] using hn
    obtain ⟨vals, g5, g6, g7, g8, g9⟩ := storeC_ok h hc2 h7 (noName v hv hx)
    have hrow : i * es + es ≤ n * es := by rw [← Nat.succ_mul]; exact Nat.mul_le_mul_right es hi'
    refine ⟨_, run vals ho h3 g5 g6 g7 (by omega), ?_⟩
    refine ⟨_, el, lo, hi, rfl, by rw [setR_size]; exact h2, by rw [setR_size]; exact h3, by rw [setR_size]; exact h4, fun hg => by rw [setR_size]; exact h5 hg, fun q hq => ?_⟩
    by_cases hqi : q = i
    · subst hqi
      have : (Nat.beq q q) = true := Nat.beq_refl q
      simp only [this, cond_true]
      refine ⟨_, g9, by rw [putL_len g8]; exact h8, fun k hk => ?_⟩
      rw [putL_len g8] at hk
      rw [setR_get vals c _ (by omega), putL_get g8]
      by_cases hk2 : o + j ≤ k ∧ k < o + j + vals.length
      · rw [if_pos hk2, if_pos (by omega)]; congr 1; omega
      · rw [if_neg hk2, if_neg (by omega)]; exact h9 k hk
    · have : (Nat.beq q i) = false := by
        cases hb : Nat.beq q i
        · rfl
        · exact (hqi (Nat.eq_of_beq_eq_true hb)).elim
      simp only [this, cond_false]
      obtain ⟨r', k7, k8, k9⟩ := h6 q hq
      refine ⟨r', k7, k8, fun k hk => ?_⟩
      rw [setR_get vals c _ (by omega), if_neg, k9 k hk]
      intro hh
      rcases Nat.lt_or_gt_of_ne hqi with hlt | hgt
      · have : q * es + es ≤ i * es := by rw [← Nat.succ_mul]; exact Nat.mul_le_mul_right es hlt
        omega
      · have : i * es + es ≤ q * es := by rw [← Nat.succ_mul]; exact Nat.mul_le_mul_right es hgt
        omega
  | map ents => simp [elemB] at he
  | dfr => simp [elemB] at he
  | loop => simp [elemB] at he

/-! ### Zero values -/
mutual
def zeroC (P : Program) : Nat → TypeId → Option (List V)
  | 0, _ => none
  | d + 1, t => match P.underlying t with
    | some (.int k) => some [.int k 0]
    | some .bool => some [.bool false]
    | some .string => some [.str ByteArray.empty]
    | some (.pointer _) => some [.pnil]
    | some (.slice _) => some [.snil]
    | some (.map _ _) => some [.mpnil]
    | some (.func _ _ _) => some [.fnil]
    | some (.interface _) => some [.inil]
    | some (.array n e) => bif intT P e then match P.underlying e with
        | some (.int k) => some [.seg k n (List.replicate n 0)]
        | _ => none
      else match zeroC P d e with
        | some cs => some (List.flatten (List.replicate n cs))
        | none => none
    | some (.struct fs) => zeroFs P d fs.toList
    | _ => none
def zeroFs (P : Program) : Nat → List Field → Option (List V)
  | 0, _ => none
  | _ + 1, [] => some []
  | d + 1, f :: fs => match zeroC P d f.type with
    | some a => match zeroFs P d fs with
      | some b => some (a ++ b)
      | none => none
    | none => none
end

/-- Do these cells (plain ones) stand for just those? -/
def chkSeg (k : IntKind) : List Int → List Value → Option (List Value)
  | [], l => some l
  | x :: xs, .int k' y :: l => if k = k' ∧ x = y then chkSeg k xs l else none
  | _, _ => none
def chkC : List V → List Value → Bool
  | [], [] => true
  | .seg k m xs :: vs, l => Nat.beq xs.length m && match chkSeg k xs l with
    | some r => chkC vs r
    | none => false
  | .int k n :: vs, .int k' n' :: l => decide (k = k' ∧ n = n') && chkC vs l
  | .bool b :: vs, .bool b' :: l => b == b' && chkC vs l
  | .str s :: vs, .string s' :: l => decide (s.data.toList = s'.data.toList) && chkC vs l
  | .pnil :: vs, .pointer none :: l => chkC vs l
  | .snil :: vs, .slice none 0 0 :: l => chkC vs l
  | .mpnil :: vs, .map none :: l => chkC vs l
  | .fnil :: vs, .nilFunc :: l => chkC vs l
  | .inil :: vs, .nilIface :: l => chkC vs l
  | _, _ => false
theorem chkSeg_ok {k : IntKind} : ∀ {xs : List Int} {l r : List Value}, chkSeg k xs l = some r → l = xs.map (Value.int k) ++ r
  | [], l, r, h => by simp [chkSeg] at h; simp [h]
  | x :: xs, [], r, h => by simp [chkSeg] at h
  | x :: xs, y :: l, r, h => by
    cases y <;> simp only [chkSeg, reduceCtorEq] at h
    split at h
    · rename_i hk
      obtain ⟨rfl, rfl⟩ := hk
      rw [chkSeg_ok h]; rfl
    · simp at h
theorem chkC_ok : ∀ (cs : List V) (l : List Value), chkC cs l = true → CsRel U ρ cs l
  | [], l, h => by cases l <;> simp [chkC] at h; rw [CsRel]
  | v :: vs, l, h => by
    have one : ∀ (x : Value) (r : List Value), v.cell = true → VRel U ρ v x → chkC vs r = true → CsRel U ρ (v :: vs) (x :: r) := fun x r hc hx hr =>
      (CsRel_one hc).2 ⟨x, r, rfl, hx, chkC_ok vs r hr⟩
    cases v
    case seg k m xs =>
      unfold chkC at h
      rw [Bool.and_eq_true] at h
      cases hr : chkSeg k xs l with
      | none => rw [hr] at h; simp at h
      | some r =>
        rw [hr] at h
        rw [chkSeg_ok hr]
        exact CsRel_seg.2 ⟨Nat.eq_of_beq_eq_true h.1, r, rfl, chkC_ok vs r h.2⟩
    case int k n =>
      cases l with
      | nil => simp [chkC] at h
      | cons y l =>
        cases y <;> simp [chkC] at h
        obtain ⟨⟨rfl, rfl⟩, h⟩ := h
        exact one _ _ rfl (by rw [VRel]) h
    case bool b =>
      cases l with
      | nil => simp [chkC] at h
      | cons y l =>
        cases y <;> simp [chkC] at h
        obtain ⟨rfl, h⟩ := h
        exact one _ _ rfl (by rw [VRel]) h
    case str s =>
      cases l with
      | nil => simp [chkC] at h
      | cons y l =>
        cases y <;> simp [chkC] at h
        rename_i s'
        obtain ⟨hs, h⟩ := h
        have : s = s' := by cases s; cases s'; simp at hs; simp [hs]
        subst this
        exact one _ _ rfl (by rw [VRel]) h
    case pnil =>
      cases l with
      | nil => simp [chkC] at h
      | cons y l =>
        cases y <;> (try simp [chkC] at h)
        rename_i a; cases a <;> (try simp [chkC] at h)
        exact one _ _ rfl (by rw [VRel]) h
    case snil =>
      cases l with
      | nil => simp [chkC] at h
      | cons y l =>
        cases y <;> (try simp [chkC] at h)
        rename_i a n m; cases a <;> cases n <;> cases m <;> (try simp [chkC] at h)
        exact one _ _ rfl (by rw [VRel]) h
    case mpnil =>
      cases l with
      | nil => simp [chkC] at h
      | cons y l =>
        cases y <;> (try simp [chkC] at h)
        rename_i a; cases a <;> (try simp [chkC] at h)
        exact one _ _ rfl (by rw [VRel]) h
    case fnil =>
      cases l with
      | nil => simp [chkC] at h
      | cons y l =>
        cases y <;> simp [chkC] at h
        exact one _ _ rfl (by rw [VRel]) h
    case inil =>
      cases l with
      | nil => simp [chkC] at h
      | cons y l =>
        cases y <;> simp [chkC] at h
        exact one _ _ rfl (by rw [VRel]) h
    all_goals (cases l <;> simp [chkC] at h)

/-- A type's zero cells, if they are just what its table says. -/
def zeroT (P : Program) (t : TypeId) : Option (List V) := match P.info? t with
  | some i => match i.zero with
    | some z => match zeroC P 40 t with
      | some cs => bif chkC cs z.cells.toList && Nat.beq (csize cs) i.size then some cs else none
      | none => none
    | none => none
  | none => none
theorem zeroT_ok {t : TypeId} {cs : List V} (h : zeroT P t = some cs) (w : World) : ∃ z, (zeroValue t).run P w = .ok z w ∧ CsRel U ρ cs z.cells.toList ∧ z.cells.size = szT P t := by
  unfold zeroT at h
  cases hi : P.info? t with
  | none => simp [hi] at h
  | some i =>
    cases hz : i.zero with
    | none => simp [hi, hz] at h
    | some z =>
      cases hcs : zeroC P 40 t with
      | none => simp [hi, hz, hcs] at h
      | some cs' =>
        simp only [hi, hz, hcs] at h
        cases hk : (chkC cs' z.cells.toList && Nat.beq (csize cs') i.size) <;> simp only [hk, cond_true, cond_false, reduceCtorEq, Option.some.injEq] at h
        subst h
        rw [Bool.and_eq_true] at hk
        have hr := chkC_ok (U := U) (ρ := ρ) _ _ hk.1
        refine ⟨z, by simp [zeroValue, run_info hi, hz], hr, ?_⟩
        have := hr.len
        rw [Nat.eq_of_beq_eq_true hk.2] at this
        simpa [szT, hi] using this

end Sy
