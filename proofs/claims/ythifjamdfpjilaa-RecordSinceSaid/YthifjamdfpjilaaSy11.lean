/-
  Operations that make, read or write blocks (own work of this seat).
-/
import Derived.Test.YthifjamdfpjilaaSy10
namespace Sy
open Go

variable {P : Program} {U : Imm} {ρ : Env}

abbrev Eff := V × Heap × List Prop

/-- What an operation asks: that its run goes through, and leaves what is said. -/
def Goes (P : Program) (r : Result Next) (U : Imm) (ρ : Env) (pre : Heap) (w : World) (val : V) (post : Heap) : Prop :=
  ∃ x w' U' ρ', (r = .ok (.value x) w' ∨ (r = .ok .skip w' ∧ x = undef)) ∧ Leaves U ρ pre w val post x U' ρ' w'
theorem Goes.step {s : Sem Next} {pre : Heap} {w : World} {val : V} {post : Heap} (h : Goes P (s.run P w) U ρ pre w val post) : SStep P s U ρ pre w val post := by
  obtain ⟨x, w', U', ρ', h1, h2⟩ := h
  unfold SStep
  rcases h1 with h1 | ⟨h1, rfl⟩ <;> rw [h1] <;> exact ⟨U', ρ', h2⟩

theorem run_val {s : Sem Value} {x : Value} {w w' : World} (hs : s.run P w = .ok x w') : (do pure (.value (← s)) : Sem Next).run P w = .ok (.value x) w' := by
  simp only [Sem.run_bind, hs, Result.andThen_ok, Sem.run_pure]

/-! ### New variables -/
def allocH (P : Program) (base : Nat) (t : TypeId) : Option Eff := match zeroT P t with
  | some cs => some (.ptr (.o base) 0 0 0 0, [(.o base, .flat cs)], [])
  | none => none
theorem new_flat {base : Nat} {cs : List V} {cells : Array Value} {t : TypeId} {w : World} (H : HRel U ρ [] w) (hf : ρ (.o base) = none) (h : CsRel U ρ cs cells.toList) :
    ∃ U' ρ', Leaves U ρ [] w (.ptr (.o base) 0 0 0 0) [(.o base, .flat cs)] (.pointer (some ⟨w.heap.size, 0, none⟩)) U' ρ' { w with heap := w.heap.push (.cells cells t) } := by
  have hle := Env.le_add hf ⟨w.heap.size, cells.size, true⟩
  refine ⟨_, _, Leaves.new (m := .o base) (sz := cells.size) H hf rfl ⟨cells, t, 0, 0, rfl, rfl, .inl (Nat.le_refl _), CsRel.mono (Imm.le_refl _) hle h⟩ ?_⟩
  rw [VRel]; exact ⟨_, Env.add_self, rfl, rfl⟩
theorem allocH_ok {base : Nat} {t : TypeId} {r : Eff} (h : allocH P base t = some r) {w : World} (H : HRel U ρ [] w) (hf : ρ (.o base) = none) :
    ∃ x w' U' ρ', (Instr.alloc t true (.tuple #[])).run P w = .ok x w' ∧ Leaves U ρ [] w r.1 r.2.1 x U' ρ' w' := by
  unfold allocH at h
  cases hz : zeroT P t <;> simp only [hz, reduceCtorEq, Option.some.injEq] at h
  subst h
  obtain ⟨z, h1, h2, _⟩ := zeroT_ok (U := U) (ρ := ρ) hz w
  obtain ⟨U', ρ', h3⟩ := new_flat (t := t) H hf h2
  refine ⟨_, _, U', ρ', ?_, h3⟩
  simp only [Instr.alloc, Sem.run_bind, h1, Result.andThen_ok, newVar, newRow, run_newObj, Sem.run_pure]

def boxH (base : Nat) (v : V) : Option Eff := bif solid v.cs then some (.ptr (.o base) 0 0 0 0, [(.o base, .flat v.cs)], []) else none
theorem boxH_ok {base : Nat} {t : TypeId} {v : V} {y : Value} {r : Eff} (h : boxH base v = some r) (hv : VRel U ρ v y) {w : World} (H : HRel U ρ [] w) (hf : ρ (.o base) = none) :
    ∃ x w' U' ρ', (Instr.box t y).run P w = .ok x w' ∧ Leaves U ρ [] w r.1 r.2.1 x U' ρ' w' := by
  unfold boxH at h
  cases hs : solid v.cs <;> simp only [hs, cond_true, cond_false, reduceCtorEq, Option.some.injEq] at h
  subst h
  obtain ⟨U', ρ', h3⟩ := new_flat (t := t) H hf (cs_rel hs hv).1
  exact ⟨_, _, U', ρ', by simp only [Instr.box, Sem.run_bind, newVar, newRow, run_newObj, Result.andThen_ok, Sem.run_pure], h3⟩

/-! ### New slices -/
/-- Cells cut into so many elements of so many cells. -/
def cutC (es : Nat) : Nat → List V → Option (List (List V))
  | 0, cs => match cs with
    | [] => some []
    | _ => none
  | n + 1, cs => match splitC cs es with
    | some (a, b) => match cutC es n b with
      | some l => some (a :: l)
      | none => none
    | none => none
def getL : List (List V) → Nat → List V
  | [], _ => []
  | x :: _, 0 => x
  | _ :: xs, n + 1 => getL xs n
theorem cutC_ok {es : Nat} : ∀ {n : Nat} {cs : List V} {L : List (List V)} {l : List Value}, cutC es n cs = some L → CsRel U ρ cs l →
    l.length = n * es ∧ ∀ i, i < n → ∃ r, CsRel U ρ (getL L i) r ∧ r.length = es ∧ ∀ k, k < r.length → l[i * es + k]? = r[k]?
  | 0, cs, L, l, h, hl => by
    unfold cutC at h
    split at h
    · rw [CsRel] at hl; subst hl; exact ⟨by simp, fun i hi => by omega⟩
    · simp at h
  | n + 1, cs, L, l, h, hl => by
    unfold cutC at h
    cases hs : splitC cs es with
    | none => simp [hs] at h
    | some p =>
      obtain ⟨a, b⟩ := p
      simp only [hs] at h
      cases hc : cutC es n b with
      | none => simp [hc] at h
      | some L' =>
        simp only [hc, Option.some.injEq] at h
        subst h
        obtain ⟨rfl, h3⟩ := splitC_spec hs
        obtain ⟨la, lb, rfl, h4, h5⟩ := CsRel_append.1 hl
        have e1 := h4.len; rw [h3] at e1
        obtain ⟨h6, h7⟩ := cutC_ok hc h5
        refine ⟨by rw [List.length_append, h6, e1, Nat.add_mul]; omega, fun i hi => ?_⟩
        cases i with
        | zero => exact ⟨la, h4, e1, fun k hk => by rw [Nat.zero_mul, Nat.zero_add, List.getElem?_append_left hk]⟩
        | succ i =>
          obtain ⟨r, h8, h9, h10⟩ := h7 i (by omega)
          refine ⟨r, h8, h9, fun k hk => ?_⟩
          rw [← h10 k hk, List.getElem?_append_right (by rw [Nat.add_mul]; omega)]
          congr 1; rw [Nat.add_mul]; omega

theorem zeroes_rel {z : List V} {zero : Array Value} (h : CsRel U ρ z zero.toList) : ∀ n, CsRel U ρ (List.replicate n z).flatten ((List.replicate n zero.toList).flatten)
  | 0 => by simp [CsRel]
  | n + 1 => by rw [List.replicate_succ, List.flatten_cons, List.replicate_succ, List.flatten_cons]; exact CsRel_append.2 ⟨_, _, rfl, h, zeroes_rel h n⟩
theorem range_mod (zero : Array Value) : ∀ (n k : Nat), ((Array.range (n * zero.size)).map (zero[· % zero.size]!))[k]? = ((List.replicate n zero.toList).flatten)[k]?
  | 0, k => by simp
  | n + 1, k => by
    have ih := range_mod zero n (k - zero.size)
    rw [List.replicate_succ, List.flatten_cons, List.getElem?_append]
    simp only [Array.getElem?_map, Array.getElem?_range, Array.length_toList, Array.getElem?_toList]
    by_cases hk : k < zero.size
    · rw [if_pos hk, if_pos (by rw [Nat.add_mul]; omega)]
      simp [Nat.mod_eq_of_lt hk, hk]
    · rw [if_neg hk, ← ih]
      simp only [Array.getElem?_map, Array.getElem?_range]
      by_cases h2 : k - zero.size < n * zero.size
      · rw [if_pos h2, if_pos (by rw [Nat.add_mul]; omega)]
        simp only [Option.map_some]
        rw [Nat.mod_eq_sub_mod (by omega)]
      · rw [if_neg h2, if_neg (by rw [Nat.add_mul]; omega)]
theorem range_mod_list (zero : Array Value) (n : Nat) : ((Array.range (n * zero.size)).map (zero[· % zero.size]!)).toList = (List.replicate n zero.toList).flatten := by
  apply List.ext_getElem?
  intro k
  rw [Array.getElem?_toList, range_mod]

def buildSliceH (P : Program) (base : Nat) (t : TypeId) (len : Nat) (parts : List (Nat × V)) : Option Eff :=
  match P.underlying t with
  | some (.slice e) => match P.info? e with
    | some ie => bif Nat.beq ie.size 0 || (Nat.ble 16777217 (len * ie.size)) then none else match zeroT P e with
      | some z => match fillC (fun i => some (i * ie.size, ie.size)) (List.replicate len z).flatten parts with
        | some cs => bif V.withins (fun _ => false) cs then match cutC ie.size len cs with
            | some L => some (.sl (.o base) ie.size 0 0 0 len (some len), [(.o base, .rows ie.size len (getL L) false)], [])
            | none => none
          else none
        | none => none
      | none => none
    | none => none
  | _ => none

theorem new_rows {base es n len cap : Nat} {f : Nat → List V} {cells : Array Value} {t : TypeId} {w w0 : World} (hw : w0.heap = w.heap) (H : HRel U ρ [] w) (hf : ρ (.o base) = none) (hsz : cells.size = n * es) (hlc : len ≤ cap) (_hcn : cap ≤ n)
    (h : ∀ i, i < n → ∃ r, CsRel U Env.none (f i) r ∧ r.length = es ∧ ∀ k, k < r.length → cells[i * es + k]? = r[k]?)
    (eo : w0.os = w.os ∧ w0.output = w.output := by exact ⟨rfl, rfl⟩) : ∃ U' ρ', Leaves U ρ [] w (.sl (.o base) es 0 0 0 len (some cap)) [(.o base, .rows es n f false)] (.slice (some ⟨w0.heap.size, 0, none⟩) len cap) U' ρ' { w0 with heap := w0.heap.push (.cells cells t) } := by
  refine ⟨_, _, Leaves.new (m := .o base) (sz := cells.size) H hf (by simp [hw]) ⟨cells, t, 0, 0, rfl, rfl, .inl (Nat.le_refl _), by omega, fun _ => hsz, h⟩ ?_ eo⟩
  rw [VRel]
  have : cap * es ≤ n * es := Nat.mul_le_mul_right _ _hcn
  exact ⟨_, cap, Env.add_self, hlc, fun c e => by cases e; rfl, .inl ⟨rfl, by simp [hw], by simp only [Nat.zero_add]; omega⟩⟩

theorem buildSliceH_ok {base : Nat} {t : TypeId} {len : Nat} {parts : List (Nat × V)} {xs : Array (Nat × Value)} {r : Eff} (h : buildSliceH P base t len parts = some r) (hp : PairsRel U ρ parts xs.toList) {w : World} (H : HRel U ρ [] w) (hf : ρ (.o base) = none) :
    ∃ x w' U' ρ', (Instr.buildSlice t len xs).run P w = .ok x w' ∧ Leaves U ρ [] w r.1 r.2.1 x U' ρ' w' := by
  unfold buildSliceH at h
  cases hu : P.underlying t with
  | none => simp [hu] at h
  | some d =>
    cases d <;> simp only [hu, reduceCtorEq] at h
    rename_i e
    cases hi : P.info? e with
    | none => simp [hi] at h
    | some ie =>
      simp only [hi] at h
      cases hb : (Nat.beq ie.size 0 || Nat.ble 16777217 (len * ie.size)) <;> simp only [hb, cond_true, cond_false, reduceCtorEq] at h
      rw [Bool.or_eq_false_iff] at hb
      have hz0 : ie.size ≠ 0 := fun h0 => by rw [h0] at hb; exact absurd hb.1 (by decide)
      have hbig : ¬ len * ie.size > 2 ^ 24 := fun hh => by
        have : Nat.ble 16777217 (len * ie.size) = true := Nat.ble_eq_true_of_le (by omega)
        rw [this] at hb; exact absurd hb.2 (by decide)
      cases hz : zeroT P e with
      | none => simp [hz] at h
      | some z =>
        simp only [hz] at h
        cases hfl : fillC (fun i => some (i * ie.size, ie.size)) (List.replicate len z).flatten parts with
        | none => simp [hfl] at h
        | some cs =>
          simp only [hfl] at h
          cases hpure : V.withins (fun _ => false) cs <;> simp only [hpure, cond_true, cond_false, reduceCtorEq] at h
          cases hcut : cutC ie.size len cs with
          | none => simp [hcut] at h
          | some L =>
            simp only [hcut, Option.some.injEq] at h
            subst h
            obtain ⟨zv, h1, h2, hzs0⟩ := zeroT_ok (U := U) (ρ := ρ) hz w
            have key : ∀ (zero : Array Value), (List.replicate len zero.toList).flatten = (List.replicate len zv.cells.toList).flatten → (zero.size = ie.size ∨ len = 0) → ∃ l', Instr.fill (fun i => some (i * ie.size, ie.size)) ((Array.range (len * ie.size)).map (zero[· % zero.size]!)) xs.toList = some l' ∧ CsRel U ρ cs l'.toList := by
              intro zero e1 e2
              refine fillC_ok hfl ?_ hp
              rcases e2 with e2 | e2
              · rw [← e2, range_mod_list, e1]; exact zeroes_rel h2 len
              · subst e2; simp [CsRel]
            by_cases hl0 : len = 0
            · subst hl0
              obtain ⟨l', h3, h4⟩ := key #[] (by simp) (.inr rfl)
              obtain ⟨h5, h6⟩ := cutC_ok hcut (noNames cs hpure h4)
              obtain ⟨U', ρ', h7⟩ := new_rows (t := e) (len := 0) (cap := 0) (w0 := w) (cells := l') rfl H hf (by rw [← h5]; simp) (Nat.le_refl _) (Nat.le_refl _) (fun i hi => by omega)
              refine ⟨_, _, U', ρ', ?_, h7⟩
              have hb0 : ¬ ((0 : Nat) > 2 ^ 24) := by decide
              simp only [Nat.zero_mul] at h3
              simp only [Instr.buildSlice, Sem.run_bind, run_under hu, Result.andThen_ok, run_size hi, Nat.zero_mul, hb0, if_false, if_true, Sem.run_pure, h3, newRow, run_newObj]
            · have hzs : zv.cells.size = ie.size := by simpa [szT, hi] using hzs0
              obtain ⟨l', h3, h4⟩ := key zv.cells rfl (.inl hzs)
              obtain ⟨h5, h6⟩ := cutC_ok hcut (noNames cs hpure h4)
              obtain ⟨U', ρ', h7⟩ := new_rows (t := e) (len := len) (cap := len) (w0 := w) (cells := l') rfl H hf (by rw [← h5]; simp) (Nat.le_refl _) (Nat.le_refl _) (fun i hi => by
                obtain ⟨r, h8, h9, h10⟩ := h6 i hi
                exact ⟨r, h8, h9, fun k hk => by rw [← h10 k hk, Array.getElem?_toList]⟩)
              refine ⟨_, _, U', ρ', ?_, h7⟩
              have hne : ¬ len * ie.size = 0 := fun h0 => by rcases Nat.mul_eq_zero.1 h0 with h0 | h0 <;> contradiction
              simp only [Instr.buildSlice, Sem.run_bind, run_under hu, Result.andThen_ok, run_size hi, hbig, if_false, hne, h1, Sem.run_pure, h3, newRow, run_newObj]

/-! ### make -/
def makeSliceH (P : Program) (base : Nat) (t : TypeId) (l c : V) : Option Eff :=
  match l, c with
  | .int .i64 l, .int .i64 c => match P.underlying t with
    | some (.slice e) => match P.info? e with
      | some ie => bif Nat.beq ie.size 0 then none else match zeroT P e with
        | some z => bif V.withins (fun _ => false) z then
            some (.sl (.o base) ie.size 0 0 0 l.toNat (some c.toNat), [(.o base, .rows ie.size c.toNat (fun _ => z) false)], [0 ≤ l ∧ l ≤ c, (ie.bytes : Int) * c ≤ 281474976710656, c ≤ 281474976710656])
          else none
        | none => none
      | none => none
    | _ => none
  | _, _ => none

theorem makeSliceH_ok {base : Nat} {t : TypeId} {l c : V} {xl xc : Value} {r : Eff} (h : makeSliceH P base t l c = some r) (hc : All r.2.2) (hl : VRel U ρ l xl) (hcc : VRel U ρ c xc) {w : World} (H : HRel U ρ [] w) (hf : ρ (.o base) = none) :
    ∃ x w' U' ρ', (Instr.makeSlice t xl xc).run P w = .ok x w' ∧ Leaves U ρ [] w r.1 r.2.1 x U' ρ' w' := by
  unfold makeSliceH at h
  split at h
  · rename_i l c
    rw [VRel] at hl hcc; subst hl; subst hcc
    cases hu : P.underlying t with
    | none => simp [hu] at h
    | some d =>
      cases d <;> simp only [hu, reduceCtorEq] at h
      rename_i e
      cases hi : P.info? e with
      | none => simp [hi] at h
      | some ie =>
        simp only [hi] at h
        cases hb : Nat.beq ie.size 0 <;> simp only [hb, cond_true, cond_false, reduceCtorEq] at h
        have hz0 : ie.size ≠ 0 := fun h0 => by rw [h0] at hb; exact absurd hb (by decide)
        cases hz : zeroT P e with
        | none => simp [hz] at h
        | some z =>
          simp only [hz] at h
          cases hpure : V.withins (fun _ => false) z <;> simp only [hpure, cond_true, cond_false, reduceCtorEq, Option.some.injEq] at h
          subst h
          obtain ⟨⟨c1, c2⟩, c3, c4, _⟩ := hc
          obtain ⟨zv, h1, h2, hzs0⟩ := zeroT_ok (U := U) (ρ := ρ) hz w
          have hzs : zv.cells.size = ie.size := by simpa [szT, hi] using hzs0
          have wl : IntKind.i64.wrap l = l := (inr64 (by omega) (by omega)).wrap
          have wc : IntKind.i64.wrap c = c := (inr64 (by omega) (by omega)).wrap
          have hno : ¬ ((decide (c < 0) || decide ((ie.bytes : Int) * c > 2 ^ 48)) || decide (l < 0) || decide (l > c)) = true := by
            simp only [Bool.or_eq_true, decide_eq_true_eq, not_or, Int.not_lt]
            omega
          have cells : ∀ i, i < c.toNat → ∃ r, CsRel U Env.none z r ∧ r.length = ie.size ∧ ∀ k, k < r.length → ((Array.range (c.toNat * ie.size)).map (zv.cells[· % zv.cells.size]!))[i * ie.size + k]? = r[k]? := by
            intro i hi'
            refine ⟨zv.cells.toList, noNames z hpure h2, by simpa using hzs, fun k hk => ?_⟩
            simp only [Array.length_toList] at hk
            have hlt : i * ie.size + k < c.toNat * ie.size := by
              have : i * ie.size + ie.size ≤ c.toNat * ie.size := by rw [← Nat.succ_mul]; exact Nat.mul_le_mul_right _ hi'
              omega
            simp only [Array.getElem?_map, Array.getElem?_range, hlt, if_true, Option.map_some, Array.getElem?_toList]
            rw [hzs, show (i * ie.size + k) % ie.size = k by rw [Nat.add_comm, Nat.add_mul_mod_self_right, Nat.mod_eq_of_lt (by omega)]]
            rw [getElem!_pos zv.cells k (by omega), Array.getElem?_eq_getElem (by omega)]
          obtain ⟨U', ρ', h7⟩ := new_rows (t := e) (len := l.toNat) (cap := c.toNat) (n := c.toNat) (f := fun _ => z) (w0 := w) (cells := (Array.range (c.toNat * ie.size)).map (zv.cells[· % zv.cells.size]!)) rfl H hf (by simp) (by omega) (Nat.le_refl _) cells
          refine ⟨_, _, U', ρ', ?_, h7⟩
          simp only [Instr.makeSlice, Sem.run_bind, run_under hu, Result.andThen_ok, asInt, asIntOf, Sem.run_pure, run_info hi, wl, wc, hno, if_false, run_askRoom, run_size hi, Bool.false_eq_true]
          by_cases hn0 : c.toNat * ie.size = 0
          · have hr0 : ∀ f : Nat → Value, (Array.range 0).map f = #[] := fun f => by apply Array.ext'; simp
            simp only [hn0, if_true, Sem.run_bind, Sem.run_pure, Result.andThen_ok, newRow, run_newObj, hr0]
          · simp only [hn0, if_false, Sem.run_bind, h1, Sem.run_pure, Result.andThen_ok, newRow, run_newObj]
  · simp at h

end Sy
