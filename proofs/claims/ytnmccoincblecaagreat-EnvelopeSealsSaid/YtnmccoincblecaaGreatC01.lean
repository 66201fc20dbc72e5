/-
  Contracts and laws that the claim's theorem leans on, joined out of the texts Sy8 Sy9 Sy10 Sy11 Sy12 (own work of this seat): Operations on blocks: reading, writing, making; Operations that leave the heap as it is: one function, one law; One operation: a function of the abstract values, and its law; Operations that make, read or write blocks; Reading and writing of blocks, append.
-/
import Derived.Deep.Upon
import Derived.Test.YtnmccoincblecaaGreatC00
set_option linter.unusedVariables false
set_option linter.unusedSimpArgs false
set_option maxHeartbeats 1000000
namespace Sy
open Go
variable {P : Program} {U : Imm} {ρ : Env}
def D0 (b : B) (es i : Nat) : Option (List V × List Prop) := match b with
 | .flat cs => bif Nat.beq es 0 then some (cs, []) else none
 | .rows es' n f _ => bif Nat.beq es es' then some (f i, [i < n]) else none
 | _ => none
def b5_ (b : B) (i : Nat) (cs : List V) : B := match b with
 | .flat _ => .flat cs
 | .rows es n f g => .rows es n (fun k => bif Nat.beq k i then cs else f k) g
 | b => b
def aA0 : B → Bool
 | .rows .. => true
 | _ => false
theorem bX2 (v : V) (h : V.within (fun _ => false) v = true) {x : Value} (hx : c9 U ρ v x) : c9 U Env.none v x :=
 c9.within (Imm.le_refl _) (fun n l hn => by simp at hn) h hx
theorem ai3 (v : List V) (h : V.withins (fun _ => false) v = true) {x : List Value} (hx : i6 U ρ v x) : i6 U Env.none v x :=
 i6.within (Imm.le_refl _) (fun n l hn => by simp at hn) h hx
theorem Env.none_le (ρ : Env) : Env.none.le ρ := fun _ _ h => by cases h
theorem aE9 {t : TypeId} {b : B} {es i o j sz blk : Nat} {cs : List V} {v : V} {c1 c2 : List Prop} {ob : Obj} {w : World} (hb : r8 U ρ sz b ob) (ho : w.heap[blk]? = some ob)
  (he : D0 b es i = some (cs, c1)) (h : Y2 P t cs o j = some (v, c2)) (hc1 : All c1) (hc2 : All c2) :
  ∃ x, (loadVar t ⟨blk, i * es + o + j, none⟩).run P w = .ok x w ∧ c9 U ρ v x := by
 cases b with
 | flat cs0 =>
  unfold D0 at he
  cases hes : Nat.beq es 0 <;> simp only [hes, cond_true, cond_false, reduceCtorEq, Option.some.injEq, Prod.mk.injEq] at he
  obtain ⟨rfl, rfl⟩ := he
  have hes' : es = 0 := Nat.eq_of_beq_eq_true hes
  subst hes'
  obtain ⟨c, el, lo, hi, rfl, h2, h3, h4⟩ := hb
  have := al9 (b := blk) (base := i * 0) h hc2 h4 (w := w) (fun k hk => by rw [I1 ho]; simp)
  exact this
 | rows es' n f g =>
  unfold D0 at he
  cases hes : Nat.beq es es' <;> simp only [hes, cond_true, cond_false, reduceCtorEq, Option.some.injEq, Prod.mk.injEq] at he
  obtain ⟨rfl, rfl⟩ := he
  have hes' : es = es' := Nat.eq_of_beq_eq_true hes
  subst hes'
  obtain ⟨c, el, lo, hi, rfl, h2, h3, h4, h5, h6⟩ := hb
  obtain ⟨r, h7, h8, h9⟩ := h6 i hc1.1
  have := al9 (ρ := ρ) (b := blk) (base := i * es) h hc2 (i6.mono (Imm.le_refl _) (Env.none_le _) h7) (w := w) (fun k hk => by rw [I1 ho]; exact h9 k hk)
  exact this
 | map => simp [D0] at he
 | iter => simp [D0] at he
 | dfr => simp [D0] at he
 | loop => simp [D0] at he
theorem aG3 {l vals : List Value} {o : Nat} (h : o + vals.length ≤ l.length) (k : Nat) : (ad0 l o vals)[k]? = if o ≤ k ∧ k < o + vals.length then vals[k - o]? else l[k]? := by
 unfold ad0
 rw [List.append_assoc, List.getElem?_append]
 simp only [List.length_take, Nat.min_eq_left (show o ≤ l.length by omega)]
 by_cases h1 : k < o
 ·rw [if_pos h1, if_neg (by omega), List.getElem?_take_of_lt h1]
 ·rw [if_neg h1, List.getElem?_append]
  by_cases h2 : k - o < vals.length
  ·rw [if_pos h2, if_pos (by omega)]
  ·rw [if_neg h2, if_neg (by omega), List.getElem?_drop]
   congr 1; omega
theorem aG4 {l vals : List Value} {o : Nat} (h : o + vals.length ≤ l.length) : (ad0 l o vals).length = l.length := by
 unfold ad0; simp; omega
theorem be_ {t : TypeId} {b : B} {es i o j sz blk : Nat} {cs cs' : List V} {v : V} {x : Value} {c1 c2 : List Prop} {ob : Obj} {w : World} {ti : TypeInfo} (hb : r8 U ρ sz b ob) (ho : w.heap[blk]? = some ob)
  (hti : P.info? t = some ti)
  (he : D0 b es i = some (cs, c1)) (h : ag8 P t cs o j v = some (cs', c2)) (hc1 : All c1) (hc2 : All c2) (hx : c9 U ρ v x) (hn : (aA0 b && !V.within (fun _ => false) v) = false) :
  ∃ ob', (storeVar t ⟨blk, i * es + o + j, none⟩ x).run P w = .ok () { w with heap := w.heap.setIfInBounds blk ob' } ∧ r8 U ρ sz (b5_ b i cs') ob' := by
 have hsz : szT P t = ti.size := by simp [szT, hti]
 have run : ∀ {c el lo hi} (vals : List Value), w.heap[blk]? = some (.cells c el (lo, hi)) → (hi = lo ∨ c.size ≤ lo) → x.cells.toList = vals → vals.length = szT P t → (∀ y ∈ vals, y.oneCell' = true) → i * es + o + j + vals.length ≤ c.size →
   (storeVar t ⟨blk, i * es + o + j, none⟩ x).run P w = .ok () { w with heap := w.heap.setIfInBounds blk (.cells (H5 c (i * es + o + j) vals) el (lo, hi)) } := by
  intro c el lo hi vals h1 h2 h3 h4 h5 h6
  have hne : ¬ (x.cells.size ≠ ti.size) := by rw [← Array.length_toList, h3, h4, hsz]; simp
  unfold storeVar
  simp only [Sem.run_bind, z7 hti, Result.andThen_ok, hne, if_false, h3]
  have := Q0 (P := P) (b := blk) (off := i * es + o + j) vals 0 w c h1 h2 (by omega) h5
  rw [Nat.add_zero] at this; exact this
 cases b with
 | flat cs0 =>
  unfold D0 at he
  cases hes : Nat.beq es 0 <;> simp only [hes, cond_true, cond_false, reduceCtorEq, Option.some.injEq, Prod.mk.injEq] at he
  obtain ⟨rfl, rfl⟩ := he
  have hes' : es = 0 := Nat.eq_of_beq_eq_true hes
  subst hes'
  obtain ⟨c, el, lo, hi, rfl, h2, h3, h4⟩ := hb
  obtain ⟨vals, h5, h6, h7, h8, h9⟩ := aw9 h hc2 h4 hx
  refine ⟨_, run vals ho h3 h5 h6 h7 (by simp at h8 ⊢; omega), ?_⟩
  refine ⟨_, el, lo, hi, rfl, by rw [C8]; exact h2, by rw [C8]; exact h3, ?_⟩
  have : (H5 c (i * 0 + o + j) vals).toList = ad0 c.toList (o + j) vals := by
   apply List.ext_getElem?
   intro k
   rw [aG3 h8, Array.getElem?_toList, Q2 vals c _ (by simp at h8 ⊢; omega), Array.getElem?_toList]
   simp
  rw [this]; exact h9
 | rows es' n f g =>
  unfold D0 at he
  cases hes : Nat.beq es es' <;> simp only [hes, cond_true, cond_false, reduceCtorEq, Option.some.injEq, Prod.mk.injEq] at he
  obtain ⟨rfl, rfl⟩ := he
  have hes' : es = es' := Nat.eq_of_beq_eq_true hes
  subst hes'
  obtain ⟨c, el, lo, hi, rfl, h2, h3, h4, h5, h6⟩ := hb
  have hi' := hc1.1
  obtain ⟨r, h7, h8, h9⟩ := h6 i hi'
  have hv : V.within (fun _ => false) v = true := by simpa [aA0] using hn
  obtain ⟨vals, g5, g6, g7, g8, g9⟩ := aw9 h hc2 h7 (bX2 v hv hx)
  have hrow : i * es + es ≤ n * es := by rw [← Nat.succ_mul]; exact Nat.mul_le_mul_right es hi'
  refine ⟨_, run vals ho h3 g5 g6 g7 (by omega), ?_⟩
  refine ⟨_, el, lo, hi, rfl, by rw [C8]; exact h2, by rw [C8]; exact h3, by rw [C8]; exact h4, fun hg => by rw [C8]; exact h5 hg, fun q hq => ?_⟩
  by_cases hqi : q = i
  ·subst hqi
   have : (Nat.beq q q) = true := Nat.beq_refl q
   simp only [this, cond_true]
   refine ⟨_, g9, by rw [aG4 g8]; exact h8, fun k hk => ?_⟩
   rw [aG4 g8] at hk
   rw [Q2 vals c _ (by omega), aG3 g8]
   by_cases hk2 : o + j ≤ k ∧ k < o + j + vals.length
   ·rw [if_pos hk2, if_pos (by omega)]; congr 1; omega
   ·rw [if_neg hk2, if_neg (by omega)]; exact h9 k hk
  ·have : (Nat.beq q i) = false := by
    cases hb : Nat.beq q i
    ·rfl
    ·exact (hqi (Nat.eq_of_beq_eq_true hb)).elim
   simp only [this, cond_false]
   obtain ⟨r', k7, k8, k9⟩ := h6 q hq
   refine ⟨r', k7, k8, fun k hk => ?_⟩
   rw [Q2 vals c _ (by omega), if_neg, k9 k hk]
   intro hh
   rcases Nat.lt_or_gt_of_ne hqi with hlt | hgt
   ·have : q * es + es ≤ i * es := by rw [← Nat.succ_mul]; exact Nat.mul_le_mul_right es hlt
    omega
   ·have : i * es + es ≤ q * es := by rw [← Nat.succ_mul]; exact Nat.mul_le_mul_right es hgt
    omega
 | map => simp [D0] at he
 | iter => simp [D0] at he
 | dfr => simp [D0] at he
 | loop => simp [D0] at he
mutual
def aA3 (P : Program) : Nat → TypeId → Option (List V)
 | 0, _ => none
 | d + 1, t => match P.underlying t with
  | some (.int k) => some [.int k 0]
  | some .bool => some [.bool false]
  | some .string => some [.str ByteArray.empty]
  | some (.pointer _) => some [.pnil]
  | some (.slice _) => some [.snil]
  | some (.map _ _) => some [.mpnil]
  | some .unsafePointer => some [.pnil]
  | some (.func _ _ _) => some [.fnil]
  | some (.interface _) => some [.inil]
  | some (.array n e) => bif J3 P e then match P.underlying e with
    | some (.int k) => some [.seg k n (List.replicate n 0)]
    | _ => none
   else match aA3 P d e with
    | some cs => some (List.flatten (List.replicate n cs))
    | none => none
  | some (.struct fs) => bf4 P d fs.toList
  | _ => none
def bf4 (P : Program) : Nat → List Field → Option (List V)
 | 0, _ => none
 | _ + 1, [] => some []
 | d + 1, f :: fs => match aA3 P d f.type with
  | some a => match bf4 P d fs with
   | some b => some (a ++ b)
   | none => none
  | none => none
end
def V9 (k : IntKind) : List Int → List Value → Option (List Value)
 | [], l => some l
 | x :: xs, .int k' y :: l => if k = k' ∧ x = y then V9 k xs l else none
 | _, _ => none
def A0 : List V → List Value → Bool
 | [], [] => true
 | .seg k m xs :: vs, l => Nat.beq xs.length m && match V9 k xs l with
  | some r => A0 vs r
  | none => false
 | .int k n :: vs, .int k' n' :: l => decide (k = k' ∧ n = n') && A0 vs l
 | .bool b :: vs, .bool b' :: l => b == b' && A0 vs l
 | .str s :: vs, .string s' :: l => decide (s.data.toList = s'.data.toList) && A0 vs l
 | .pnil :: vs, .pointer none :: l => A0 vs l
 | .snil :: vs, .slice none 0 0 :: l => A0 vs l
 | .mpnil :: vs, .map none :: l => A0 vs l
 | .fnil :: vs, .nilFunc :: l => A0 vs l
 | .inil :: vs, .nilIface :: l => A0 vs l
 | _, _ => false
theorem av3 {k : IntKind} : ∀ {xs : List Int} {l r : List Value}, V9 k xs l = some r → l = xs.map (Value.int k) ++ r
 | [], l, r, h => by simp [V9] at h; simp [h]
 | x :: xs, [], r, h => by simp [V9] at h
 | x :: xs, y :: l, r, h => by
  cases y <;> simp only [V9, reduceCtorEq] at h
  split at h
  ·rename_i hk
   obtain ⟨rfl, rfl⟩ := hk
   rw [av3 h]; rfl
  ·simp at h
theorem at2 : ∀ (cs : List V) (l : List Value), A0 cs l = true → i6 U ρ cs l
 | [], l, h => by cases l <;> simp [A0] at h; rw [i6]
 | v :: vs, l, h => by
  have one : ∀ (x : Value) (r : List Value), v.cell = true → c9 U ρ v x → A0 vs r = true → i6 U ρ (v :: vs) (x :: r) := fun x r hc hx hr =>
   (v7 hc).2 ⟨x, r, rfl, hx, at2 vs r hr⟩
  cases v
  case seg k m xs =>
   unfold A0 at h
   rw [Bool.and_eq_true] at h
   cases hr : V9 k xs l with
   | none => rw [hr] at h; simp at h
   | some r =>
    rw [hr] at h
    rw [av3 hr]
    exact F1.2 ⟨Nat.eq_of_beq_eq_true h.1, r, rfl, at2 vs r h.2⟩
  case int k n =>
   cases l with
   | nil => simp [A0] at h
   | cons y l =>
    cases y <;> simp [A0] at h
    obtain ⟨⟨rfl, rfl⟩, h⟩ := h
    exact one _ _ rfl (by rw [c9]) h
  case bool b =>
   cases l with
   | nil => simp [A0] at h
   | cons y l =>
    cases y <;> simp [A0] at h
    obtain ⟨rfl, h⟩ := h
    exact one _ _ rfl (by rw [c9]) h
  case str s =>
   cases l with
   | nil => simp [A0] at h
   | cons y l =>
    cases y <;> simp [A0] at h
    rename_i s'
    obtain ⟨hs, h⟩ := h
    have : s = s' := by cases s; cases s'; simp at hs; simp [hs]
    subst this
    exact one _ _ rfl (by rw [c9]) h
  case pnil =>
   cases l with
   | nil => simp [A0] at h
   | cons y l =>
    cases y <;> (try simp [A0] at h)
    rename_i a; cases a <;> (try simp [A0] at h)
    exact one _ _ rfl (by rw [c9]) h
  case snil =>
   cases l with
   | nil => simp [A0] at h
   | cons y l =>
    cases y <;> (try simp [A0] at h)
    rename_i a n m; cases a <;> cases n <;> cases m <;> (try simp [A0] at h)
    exact one _ _ rfl (by rw [c9]) h
  case mpnil =>
   cases l with
   | nil => simp [A0] at h
   | cons y l =>
    cases y <;> (try simp [A0] at h)
    rename_i a; cases a <;> (try simp [A0] at h)
    exact one _ _ rfl (by rw [c9]) h
  case fnil =>
   cases l with
   | nil => simp [A0] at h
   | cons y l =>
    cases y <;> simp [A0] at h
    exact one _ _ rfl (by rw [c9]) h
  case inil =>
   cases l with
   | nil => simp [A0] at h
   | cons y l =>
    cases y <;> simp [A0] at h
    exact one _ _ rfl (by rw [c9]) h
  all_goals (cases l <;> simp [A0] at h)
def R1 (P : Program) (t : TypeId) : Option (List V) := match P.info? t with
 | some i => match i.zero with
  | some z => match aA3 P 40 t with
   | some cs => bif A0 cs z.cells.toList && Nat.beq (E9 cs) i.size then some cs else none
   | none => none
  | none => none
 | none => none
theorem X2 {t : TypeId} {cs : List V} (h : R1 P t = some cs) (w : World) : ∃ z, (zeroValue t).run P w = .ok z w ∧ i6 U ρ cs z.cells.toList ∧ z.cells.size = szT P t := by
 unfold R1 at h
 cases hi : P.info? t with
 | none => simp [hi] at h
 | some i =>
  cases hz : i.zero with
  | none => simp [hi, hz] at h
  | some z =>
   cases hcs : aA3 P 40 t with
   | none => simp [hi, hz, hcs] at h
   | some cs' =>
    simp only [hi, hz, hcs] at h
    cases hk : (A0 cs' z.cells.toList && Nat.beq (E9 cs') i.size) <;> simp only [hk, cond_true, cond_false, reduceCtorEq, Option.some.injEq] at h
    subst h
    rw [Bool.and_eq_true] at hk
    have hr := at2 (U := U) (ρ := ρ) _ _ hk.1
    refine ⟨z, by simp [zeroValue, am8 hi, hz], hr, ?_⟩
    have := hr.len
    rw [Nat.eq_of_beq_eq_true hk.2] at this
    simpa [szT, hi] using this
end Sy
namespace Sy
open Go
variable {P : Program} {U : Imm} {ρ : Env}
def eqV (P : Program) (t : TypeId) (a b : V) : Option Bool :=
 match P.underlying t with
 | some .bool => match a, b with
  | .bool x, .bool y => some (x == y)
  | _, _ => none
 | some (.pointer _) => match a, b with
  | .pnil, .pnil => some true
  | .pnil, .ptr .. => some false
  | .pnil, .rop .. => some false
  | .ptr .., .pnil => some false
  | .rop .., .pnil => some false
  | _, _ => none
 | some (.slice _) => match a, b with
  | .snil, .snil => some true
  | _, _ => none
 | some (.map _ _) => match a, b with
  | .mpnil, .mpnil => some true
  | .mpnil, .mp .. => some false
  | .mp .., .mpnil => some false
  | _, _ => none
 | some (.func _ _ _) => match a, b with
  | .fnil, .fnil => some true
  | .fnil, .fn .. => some false
  | .fn .., .fnil => some false
  | _, _ => none
 | _ => none
theorem Y6 {n es i o j} {x : Value} (h : c9 U ρ (.ptr n es i o j) x) : ∃ a, x = .pointer (some a) := by
 rw [c9] at h; obtain ⟨l, _, _, h⟩ := h; exact ⟨_, h⟩
theorem Y7 {cs o j} {x : Value} (h : c9 U ρ (.rop cs o j) x) : ∃ a, x = .pointer (some a) := by
 rw [c9] at h; obtain ⟨_, _, _, _, h, _⟩ := h; exact ⟨_, h⟩
theorem aH1 {n es i o j l c} {x : Value} (h : c9 U ρ (.sl n es i o j l c) x) : ∃ a m, x = .slice a l m := by
 rw [c9] at h; obtain ⟨_, _, _, _, _, ⟨_, rfl, _⟩ | ⟨_, rfl, rfl, _⟩⟩ := h <;> exact ⟨_, _, rfl⟩
theorem an1 {n} {x : Value} (h : c9 U ρ (.mp n) x) : ∃ a, x = .map (some a) := by
 rw [c9] at h; obtain ⟨_, _, _, h⟩ := h; exact ⟨_, h⟩
theorem ad2 {f a b} {x : Value} (h : c9 U ρ (.fn f a b) x) : ∃ l m, x = .func f l m := by
 rw [c9] at h; obtain ⟨l, m, h, _⟩ := h; exact ⟨l, m, h⟩
theorem ba0 {t : TypeId} {a b : V} {x y : Value} {r : Bool} (h : eqV P t a b = some r) (ha : c9 U ρ a x) (hb : c9 U ρ b y) (d : Nat) (w : World) : (Op.equalIn (d + 1) t x y).run P w = .ok r w := by
 unfold eqV at h
 cases hu : P.underlying t with
 | none => simp [hu] at h
 | some ds =>
  cases ds <;> simp only [hu, reduceCtorEq] at h
  case bool =>
   split at h
   ·simp only [Option.some.injEq] at h; subst h
    rw [c9] at ha hb; subst ha; subst hb
    simp [Op.equalIn, j2 hu]
   ·simp at h
  case pointer e =>
   split at h <;> simp only [reduceCtorEq, Option.some.injEq] at h <;> subst h
   ·rw [c9] at ha hb; subst ha; subst hb; simp [Op.equalIn, j2 hu]
   ·obtain ⟨_, rfl⟩ := Y6 hb; rw [c9] at ha; subst ha; simp [Op.equalIn, j2 hu]
   ·obtain ⟨_, rfl⟩ := Y7 hb; rw [c9] at ha; subst ha; simp [Op.equalIn, j2 hu]
   ·obtain ⟨_, rfl⟩ := Y6 ha; rw [c9] at hb; subst hb; simp [Op.equalIn, j2 hu]
   ·obtain ⟨_, rfl⟩ := Y7 ha; rw [c9] at hb; subst hb; simp [Op.equalIn, j2 hu]
  case slice e =>
   split at h <;> simp only [reduceCtorEq, Option.some.injEq] at h <;> subst h
   ·rw [c9] at ha hb; subst ha; subst hb; simp [Op.equalIn, j2 hu]
  case map k e =>
   split at h <;> simp only [reduceCtorEq, Option.some.injEq] at h <;> subst h
   ·rw [c9] at ha hb; subst ha; subst hb; simp [Op.equalIn, j2 hu]
   ·obtain ⟨_, rfl⟩ := an1 hb; rw [c9] at ha; subst ha; simp [Op.equalIn, j2 hu]
   ·obtain ⟨_, rfl⟩ := an1 ha; rw [c9] at hb; subst hb; simp [Op.equalIn, j2 hu]
  case func ps rs v =>
   split at h <;> simp only [reduceCtorEq, Option.some.injEq] at h <;> subst h
   ·rw [c9] at ha hb; subst ha; subst hb; simp [Op.equalIn, j2 hu]
   ·obtain ⟨_, _, rfl⟩ := ad2 hb; rw [c9] at ha; subst ha; simp [Op.equalIn, j2 hu]
   ·obtain ⟨_, _, rfl⟩ := ad2 ha; rw [c9] at hb; subst hb; simp [Op.equalIn, j2 hu]
theorem a_4 (a b : ByteArray) : (a == b) = decide (a = b) := by
 obtain ⟨a⟩ := a; obtain ⟨b⟩ := b
 show (a == b) = _
 by_cases h : a = b <;> simp [h]
def aG1 (P : Program) (t : TypeId) : Bool := !P.stoodInHeld t
mutual
def eqG (P : Program) : Nat → TypeId → V → V → Option Bool
 | 0, _, _, _ => none
 | d + 1, t, a, b => match P.underlying t with
  | some (.int _) => match a with
   | .int k x => match b with
    | .int k' y => bif decide (k = k') then some (decide (x = y)) else none
    | _ => none
   | _ => none
  | some .string => match a with
   | .str x => match b with
    | .str y => some (decide (x = y))
    | _ => none
   | _ => none
  | some (.struct fs) => match a with
   | .agg xs => match b with
    | .agg ys => bif aG1 P t then ae7 P d fs.toList xs ys else none
    | _ => none
   | _ => none
  | some (.array len e) => match a with
   | .agg xs => match xs with
    | [.seg k m l] => match b with
     | .agg ys => match ys with
      | [.seg k' m' l'] => bif J3 P e && (Nat.beq m len && (Nat.beq m' len && decide (k = k'))) then some (decide (l = l')) else none
      | _ => none
     | _ => none
    | _ => none
   | _ => none
  | _ => eqV P t a b
def ae7 (P : Program) : Nat → List Field → List V → List V → Option Bool
 | 0, _, _, _ => none
 | d + 1, fs, xs, ys => match fs with
  | [] => some true
  | f :: fs => bif decide (f.name ≠ "_") then match T5 P f.type xs f.offset with
    | none => none
    | some x => match T5 P f.type ys f.offset with
     | none => none
     | some y => match eqG P d f.type x y with
      | none => none
      | some r => match ae7 P d fs xs ys with
       | none => none
       | some r' => some (r && r')
   else ae7 P d fs xs ys
end
def ae9 (P : Program) (D : Nat) (xs ys : Array Value) (f : Field) (_s : Option Bool × Unit) : Sem (ForInStep (Option Bool × Unit)) :=
 if f.name ≠ "_" then do
  let x ← part f.type xs f.offset
  let y ← part f.type ys f.offset
  let b ← Op.equalIn D f.type x y
  if (!b) = true then pure (ForInStep.done (some false, ())) else pure (ForInStep.yield (none, ()))
 else pure (ForInStep.yield (none, ()))
def ao2 (D : Nat) (e : TypeId) (n : Nat) (xs ys : Array Value) (i : Nat) (_s : Option Bool × Unit) : Sem (ForInStep (Option Bool × Unit)) := do
 let x ← part e xs (i * n)
 let y ← part e ys (i * n)
 let b ← Op.equalIn D e x y
 if (!b) = true then pure (ForInStep.done (some false, ())) else pure (ForInStep.yield (none, ()))
def aF7 (r : Bool) : Option Bool × Unit := (match r with
 | true => none
 | false => some false, ())
theorem aV7 {D n : Nat} {e : TypeId} {k : IntKind} (hn : n = 1) (he : ∃ k0, P.underlying e = some (.int k0)) (hagg : R9 P e = false) (w : World) {xs ys : Array Value} : ∀ (l l' : List Int) (s : Nat), l.length = l'.length → (∀ j, j < l.length → xs[s + j]? = (l[j]?).map (Value.int k)) → (∀ j, j < l.length → ys[s + j]? = (l'[j]?).map (Value.int k)) →
  (forIn (List.range' s l.length) (none, ()) (ao2 (D + 1) e n xs ys)).run P w = .ok (aF7 (decide (l = l'))) w
 | [], l', s, hl, _, _ => by
  cases l' with
  | nil => rfl
  | cons _ _ => simp at hl
 | x :: l, l', s, hl, hx, hy => by
  cases l' with
  | nil => simp at hl
  | cons y l' =>
   obtain ⟨k0, hu⟩ := he
   have h0 := hx 0 (by simp)
   have h1 := hy 0 (by simp)
   simp only [Nat.add_zero, List.getElem?_cons_zero, Option.map_some] at h0 h1
   have pt : ∀ (zs : Array Value) (z : Int), zs[s]? = some (Value.int k z) → (part e zs (s * n)).run P w = .ok (.int k z) w := by
    intro zs z hz
    unfold part
    simp only [Sem.run_bind, Y5 hu, Result.andThen_ok, hagg, Bool.false_eq_true, if_false, hn, Nat.mul_one, hz]
    rfl
   have hb : (ao2 (D + 1) e n xs ys s (none, ())).run P w = .ok (bif decide (x = y) then ForInStep.yield (none, ()) else ForInStep.done (some false, ())) w := by
    unfold ao2
    simp only [Sem.run_bind, pt xs x h0, pt ys y h1, Result.andThen_ok, Op.equalIn, j2 hu, if_true, Sem.run_pure]
    by_cases hxy : x = y <;> simp [hxy]
   rw [List.length_cons, List.range'_succ, List.forIn_cons, Sem.run_bind, hb, Result.andThen_ok]
   by_cases hxy : x = y
   ·subst hxy
    simp only [decide_true, cond_true]
    have := aV7 hn ⟨k0, hu⟩ hagg w (D := D) (xs := xs) (ys := ys) l l' (s + 1) (by simpa using hl) (fun j hj => by have := hx (j + 1) (by simp; omega); simpa [Nat.add_assoc, Nat.add_comm 1 j] using this) (fun j hj => by have := hy (j + 1) (by simp; omega); simpa [Nat.add_assoc, Nat.add_comm 1 j] using this)
    rw [this]; simp
   ·simp [hxy, aF7, Sem.run_pure]
mutual
theorem a__ : ∀ {d : Nat} {t : TypeId} {a b : V} {x y : Value} {r : Bool}, eqG P d t a b = some r → c9 U ρ a x → c9 U ρ b y → ∀ (D : Nat), d < D → ∀ w : World, (Op.equalIn D t x y).run P w = .ok r w
 | 0, _, _, _, _, _, _, h, _, _, _, _, _ => by simp [eqG] at h
 | d + 1, t, a, b, x, y, r, h, ha, hb, D, hD, w => by
  obtain ⟨D, rfl⟩ : ∃ D', D = D' + 1 := ⟨D - 1, by omega⟩
  unfold eqG at h
  split at h
  ·rename_i k0 hu
   cases a <;> simp only [reduceCtorEq] at h
   cases b <;> simp only [reduceCtorEq] at h
   rename_i k z k' z'
   cases hk : decide (k = k') <;> simp only [hk, cond_true, cond_false, reduceCtorEq, Option.some.injEq] at h
   have := of_decide_eq_true hk; subst this; subst h
   rw [c9] at ha hb; subst ha; subst hb
   simp only [Op.equalIn, Sem.run_bind, j2 hu, Result.andThen_ok, if_true, Sem.run_pure]
   by_cases hz : z = z' <;> simp [hz]
  ·rename_i hu
   cases a <;> simp only [reduceCtorEq] at h
   cases b <;> simp only [reduceCtorEq, Option.some.injEq] at h
   rename_i z z'
   subst h
   rw [c9] at ha hb; subst ha; subst hb
   simp only [Op.equalIn, Sem.run_bind, j2 hu, Result.andThen_ok, Sem.run_pure, a_4]
  ·rename_i fs hu
   cases a <;> simp only [reduceCtorEq] at h
   cases b <;> simp only [reduceCtorEq] at h
   rename_i xs ys
   cases hp : aG1 P t <;> simp only [hp, cond_true, cond_false, reduceCtorEq] at h
   rw [c9] at ha hb
   obtain ⟨lx, rfl, hlx⟩ := ha
   obtain ⟨ly, rfl, hly⟩ := hb
   have hs : P.stoodInHeld t = false := by simpa [aG1] using hp
   have key := at4 h hlx hly D (by omega) w
   have e1 : (forIn fs (none, ()) (ae9 P D lx ly)).run P w = .ok (aF7 r) w := by rw [← Array.forIn_toList]; exact key
   simp only [Op.equalIn, Sem.run_bind, j2 hu, Result.andThen_ok, run_program, hs, Bool.false_eq_true, if_false]
   show ((forIn fs (none, ()) (ae9 P D lx ly)).run P w).andThen _ = _
   rw [e1, Result.andThen_ok]
   cases r <;> rfl
  ·rename_i len e hu
   split at h
   ·split at h
    ·rename_i k m l
     split at h
     ·split at h
      ·rename_i k' m' l'
       cases hp : (J3 P e && (Nat.beq m len && (Nat.beq m' len && decide (k = k')))) <;> simp only [hp, cond_true, cond_false, reduceCtorEq, Option.some.injEq] at h
       subst h
       simp only [Bool.and_eq_true] at hp
       obtain ⟨p1, p2, p3, p4⟩ := hp
       have := of_decide_eq_true p4; subst this
       have := Nat.eq_of_beq_eq_true p2; subst this
       have := Nat.eq_of_beq_eq_true p3; subst this
       obtain ⟨hk0, hsz, hagg⟩ := J4 p1
       obtain ⟨k0, hu0⟩ := hk0
       obtain ⟨i, hi⟩ := L6 hu0
       rw [c9] at ha hb
       obtain ⟨lx, rfl, hlx⟩ := ha
       obtain ⟨ly, rfl, hly⟩ := hb
       have seg1 : ∀ {l : List Int} {z : List Value} {m : Nat}, i6 U ρ [.seg k m l] z → z = l.map (Value.int k) ∧ l.length = m := by
        intro l z m hz
        rw [i6] at hz
        obtain ⟨l1, l2, rfl, h1, h2⟩ := hz
        rw [i6] at h2; subst h2
        rcases h1 with ⟨k2, m2, xs2, e2, h3, rfl⟩ | ⟨h3, _⟩
        ·cases e2; exact ⟨by simp, h3⟩
        ·simp [V.cell] at h3
       obtain ⟨ex, lx1⟩ := seg1 hlx
       obtain ⟨ey, ly1⟩ := seg1 hly
       have gx : ∀ j, j < l.length → lx[0 + j]? = (l[j]?).map (Value.int k) := fun j _ => by rw [Nat.zero_add, ← Array.getElem?_toList, ex, List.getElem?_map]
       have gy : ∀ j, j < l.length → ly[0 + j]? = (l'[j]?).map (Value.int k) := fun j _ => by rw [Nat.zero_add, ← Array.getElem?_toList, ey, List.getElem?_map]
       have hsize : i.size = 1 := by have := hsz; rwa [szT, hi] at this
       obtain ⟨D, rfl⟩ : ∃ D', D = D' + 1 := ⟨D - 1, by omega⟩
       have key := aV7 (D := D) (k := k) hsize ⟨k0, hu0⟩ hagg w (xs := lx) (ys := ly) l l' 0 (by omega) gx gy
       simp only [Op.equalIn, Sem.run_bind, j2 hu, Result.andThen_ok, z7 hi]
       show ((forIn [:m'] (none, ()) (ao2 (D + 1) e i.size lx ly)).run P w).andThen _ = _
       rw [Std.Legacy.Range.forIn_eq_forIn_range']
       simp only [Std.Legacy.Range.size, Nat.sub_zero, Nat.add_sub_cancel, Nat.div_one]
       rw [lx1] at key
       rw [key, Result.andThen_ok]
       cases decide (l = l') <;> rfl
      ·simp at h
     ·simp at h
    ·simp at h
   ·simp at h
  ·exact ba0 h ha hb D w
theorem at4 : ∀ {d : Nat} {fs : List Field} {xs ys : List V} {lx ly : Array Value} {r : Bool}, ae7 P d fs xs ys = some r → i6 U ρ xs lx.toList → i6 U ρ ys ly.toList → ∀ (D : Nat), d < D → ∀ w : World, (forIn fs (none, ()) (ae9 P D lx ly)).run P w = .ok (aF7 r) w
 | 0, _, _, _, _, _, _, h, _, _, _, _, _ => by simp [ae7] at h
 | d + 1, [], xs, ys, lx, ly, r, h, _, _, D, _, w => by
  simp only [ae7, Option.some.injEq] at h; subst h; rfl
 | d + 1, f :: fs, xs, ys, lx, ly, r, h, hx, hy, D, hD, w => by
  unfold ae7 at h
  simp only at h
  rw [List.forIn_cons, Sem.run_bind]
  cases hf : decide (f.name ≠ "_") <;> simp only [hf, cond_true, cond_false] at h
  ·have hf' : ¬ (f.name ≠ "_") := of_decide_eq_false hf
   rw [ae9, if_neg hf', Sem.run_pure, Result.andThen_ok]
   exact at4 h hx hy D (by omega) w
  ·have hf' : f.name ≠ "_" := of_decide_eq_true hf
   cases h1 : T5 P f.type xs f.offset with
   | none => simp [h1] at h
   | some px =>
    cases h2 : T5 P f.type ys f.offset with
    | none => simp [h1, h2] at h
    | some py =>
     simp only [h1, h2] at h
     cases h3 : eqG P d f.type px py with
     | none => simp [h3] at h
     | some r1 =>
      cases h4 : ae7 P d fs xs ys with
      | none => simp [h3, h4] at h
      | some r2 =>
       simp only [h3, h4, Option.some.injEq] at h
       subst h
       obtain ⟨zx, e1, e2⟩ := Y3 h1 hx w
       obtain ⟨zy, e3, e4⟩ := Y3 h2 hy w
       have e5 := a__ h3 e2 e4 D (by omega) w
       have e6 := at4 h4 hx hy D (by omega) w
       rw [ae9, if_pos hf']
       simp only [Sem.run_bind, e1, e3, e5, Result.andThen_ok]
       cases r1
       ·simp [aF7, Sem.run_pure]
       ·simp only [Bool.not_true, Bool.false_eq_true, if_false, Sem.run_pure, Result.andThen_ok, Bool.true_and]
        exact e6
end
def bm2 (P : Program) (op : BinOp) (t : TypeId) (a b : V) : Option (V × List Prop) :=
 match a with
 | .int k x => match b with
  | .int k' y => match op with
   | .shl => ap8 .shl k x y
   | .shr => ap8 .shr k x y
   | _ => if k = k' then bn5 op k x y else none
  | _ => none
 | .str x => match b with
  | .str y => bt1 op x y
  | _ => none
 | .agg xs => match b with
  | .agg ys => bif P.eqGuardType P.depth t then none else match op with
   | .eql => match eqG P 30 t (.agg xs) (.agg ys) with
    | some r => some (.bool r, [])
    | none => none
   | .neq => match eqG P 30 t (.agg xs) (.agg ys) with
    | some r => some (.bool (!r), [])
    | none => none
   | _ => none
  | _ => none
 | _ => match op with
  | .eql => match eqV P t a b with
   | some r => some (.bool r, [])
   | none => none
  | .neq => match eqV P t a b with
   | some r => some (.bool (!r), [])
   | none => none
  | _ => none
theorem ba1 {t : TypeId} {a b : V} {r : Bool} (h : eqV P t a b = some r) : (∃ x, a = .bool x) ∨ a = .pnil ∨ a = .snil ∨ a = .mpnil ∨ a = .fnil ∨ (∃ n es i o j, a = .ptr n es i o j) ∨ (∃ cs o j, a = .rop cs o j) ∨ (∃ n, a = .mp n) ∨ (∃ f x y, a = .fn f x y) := by
 unfold eqV at h
 cases hu : P.underlying t with
 | none => simp [hu] at h
 | some d => cases d <;> simp only [hu, reduceCtorEq] at h <;> cases a <;> simp_all
theorem bE5 {op : BinOp} {t : TypeId} {a b : V} {v : V} {cs : List Prop} {x y : Value} {ox oy : Operand} (h : bm2 P op t a b = some (v, cs)) (hc : All cs) (ha : c9 U ρ a x) (hb : c9 U ρ b y) (w : World) :
  ∃ z, (do eqGuard op t ox oy x y; binOp op t x y : Sem Value).run P w = .ok z w ∧ c9 U ρ v z := by
 have guard : (∀ l, x ≠ .agg l) → x ≠ .nilIface → (eqGuard op t ox oy x y).run P w = .ok () w := by
  intro h1 h2
  unfold eqGuard
  cases op <;> simp <;> (cases x <;> first | rfl | exact (h1 _ rfl).elim | exact (h2 rfl).elim)
 have eqcase : ∀ r, eqV P t a b = some r → ∃ z, (Op.equal t x y).run P w = .ok r w ∧ (∀ l, x ≠ .agg l) ∧ x ≠ .nilIface ∧ (binOp .eql t x y).run P w = .ok (.bool r) w ∧ (binOp .neq t x y).run P w = .ok (.bool (!r)) w ∧ z = () := by
  intro r hr
  have heq : (Op.equal t x y).run P w = .ok r w := ba0 hr ha hb 9999 w
  refine ⟨(), heq, ?_⟩
  have fin : (∀ l, x ≠ .agg l) → x ≠ .nilIface → ((binOp .eql t x y) = (do pure (.bool (← Op.equal t x y)))) → ((binOp .neq t x y) = (do pure (.bool (!(← Op.equal t x y))))) →
    (∀ l, x ≠ .agg l) ∧ x ≠ .nilIface ∧ (binOp .eql t x y).run P w = .ok (.bool r) w ∧ (binOp .neq t x y).run P w = .ok (.bool (!r)) w ∧ () = () := by
   intro h1 h2 h3 h4
   refine ⟨h1, h2, ?_, ?_, rfl⟩
   ·rw [h3]; simp only [Sem.run_bind, heq, Result.andThen_ok, Sem.run_pure]
   ·rw [h4]; simp only [Sem.run_bind, heq, Result.andThen_ok, Sem.run_pure]
  rcases ba1 hr with ⟨_, rfl⟩ | rfl | rfl | rfl | rfl | ⟨_, _, _, _, _, rfl⟩ | ⟨_, _, _, rfl⟩ | ⟨_, rfl⟩ | ⟨_, _, _, rfl⟩
  ·rw [c9] at ha; subst ha; exact fin (fun l => by simp) (by simp) rfl rfl
  ·rw [c9] at ha; subst ha; exact fin (fun l => by simp) (by simp) rfl rfl
  ·rw [c9] at ha; subst ha; exact fin (fun l => by simp) (by simp) rfl rfl
  ·rw [c9] at ha; subst ha; exact fin (fun l => by simp) (by simp) rfl rfl
  ·rw [c9] at ha; subst ha; exact fin (fun l => by simp) (by simp) rfl rfl
  ·obtain ⟨_, rfl⟩ := Y6 ha; exact fin (fun l => by simp) (by simp) rfl rfl
  ·obtain ⟨_, rfl⟩ := Y7 ha; exact fin (fun l => by simp) (by simp) rfl rfl
  ·obtain ⟨_, rfl⟩ := an1 ha; exact fin (fun l => by simp) (by simp) rfl rfl
  ·obtain ⟨_, _, rfl⟩ := ad2 ha; exact fin (fun l => by simp) (by simp) rfl rfl
 unfold bm2 at h
 cases a
 case int k n =>
  rw [c9] at ha; subst ha
  cases b <;> simp only [reduceCtorEq] at h
  rename_i k' m
  rw [c9] at hb; subst hb
  simp only [Sem.run_bind, guard (fun l => by simp) (by simp), Result.andThen_ok]
  split at h
  ·exact av4 w h hc
  ·exact av4 w h hc
  ·split at h
   ·rename_i hk; subst hk; exact bE_ w h hc
   ·simp at h
 case str s =>
  rw [c9] at ha; subst ha
  cases b <;> simp only [reduceCtorEq] at h
  rw [c9] at hb; subst hb
  simp only [Sem.run_bind, guard (fun l => by simp) (by simp), Result.andThen_ok]
  exact bK9 w h hc
 case agg xs =>
  rw [c9] at ha
  obtain ⟨lx, rfl, hlx⟩ := ha
  cases b <;> simp only [reduceCtorEq] at h
  rename_i ys
  rw [c9] at hb
  obtain ⟨ly, rfl, hly⟩ := hb
  cases hg : P.eqGuardType P.depth t <;> simp only [hg, cond_true, cond_false, reduceCtorEq] at h
  have guard : (eqGuard op t ox oy (.agg lx) (.agg ly)).run P w = .ok () w := by
   unfold eqGuard
   cases op <;> simp [hg]
  have heq : ∀ r, eqG P 30 t (.agg xs) (.agg ys) = some r → (Op.equal t (.agg lx) (.agg ly)).run P w = .ok r w := fun r hr =>
   a__ hr (U := U) (ρ := ρ) (by rw [c9]; exact ⟨lx, rfl, hlx⟩) (by rw [c9]; exact ⟨ly, rfl, hly⟩) 10000 (by decide) w
  split at h
  ·split at h
   ·rename_i r hr
    simp only [Option.some.injEq, Prod.mk.injEq] at h
    obtain ⟨rfl, rfl⟩ := h
    refine ⟨.bool r, ?_, by rw [c9]⟩
    simp only [Sem.run_bind, guard, Result.andThen_ok]
    show ((do pure (.bool (← Op.equal t (.agg lx) (.agg ly))) : Sem Value)).run P w = _
    simp only [Sem.run_bind, heq r hr, Result.andThen_ok, Sem.run_pure]
   ·simp at h
  ·split at h
   ·rename_i r hr
    simp only [Option.some.injEq, Prod.mk.injEq] at h
    obtain ⟨rfl, rfl⟩ := h
    refine ⟨.bool (!r), ?_, by rw [c9]⟩
    simp only [Sem.run_bind, guard, Result.andThen_ok]
    show ((do pure (.bool (!(← Op.equal t (.agg lx) (.agg ly)))) : Sem Value)).run P w = _
    simp only [Sem.run_bind, heq r hr, Result.andThen_ok, Sem.run_pure]
   ·simp at h
  ·simp at h
 all_goals
  simp only at h
  split at h
  ·split at h
   ·rename_i r hr
    simp only [Option.some.injEq, Prod.mk.injEq] at h
    obtain ⟨rfl, rfl⟩ := h
    obtain ⟨_, _, h1, h2, h3, _, _⟩ := eqcase r hr
    exact ⟨_, by simp only [Sem.run_bind, guard h1 h2, Result.andThen_ok]; exact h3, by rw [c9]⟩
   ·simp at h
  ·split at h
   ·rename_i r hr
    simp only [Option.some.injEq, Prod.mk.injEq] at h
    obtain ⟨rfl, rfl⟩ := h
    obtain ⟨_, _, h1, h2, _, h3, _⟩ := eqcase r hr
    exact ⟨_, by simp only [Sem.run_bind, guard h1 h2, Result.andThen_ok]; exact h3, by rw [c9]⟩
   ·simp at h
  ·simp at h
def unV (op : UnOp) (a : V) : Option (V × List Prop) :=
 match op, a with
 | .not, .bool b => some (.bool (!b), [])
 | .neg, .int k n => some (Q5 k (0 - n))
 | .xor, .int k n => some (.int k (j8 (fun _ x y => x ^^^ y) k (if k.signed then -1 else k.max) n), [])
 | _, _ => none
theorem b_4 {op : UnOp} {a v : V} {x : Value} {cs : List Prop} (h : unV op a = some (v, cs)) (hc : All cs) (ha : c9 U ρ a x) (w : World) : ∃ z, (Op.unary op x).run P w = .ok z w ∧ c9 U ρ v z := by
 unfold unV at h
 split at h
 ·simp only [Option.some.injEq, Prod.mk.injEq] at h
  obtain ⟨rfl, rfl⟩ := h
  rw [c9] at ha; subst ha
  exact ⟨_, rfl, by rw [c9]⟩
 ·rename_i k n
  simp only [Option.some.injEq] at h
  rw [c9] at ha; subst ha
  have := M7 (U := U) (ρ := ρ) (k := k) (n := 0 - n) (by rw [h]; exact hc)
  rw [h] at this
  exact ⟨_, rfl, this⟩
 ·rename_i k n
  simp only [Option.some.injEq, Prod.mk.injEq] at h
  obtain ⟨rfl, rfl⟩ := h
  rw [c9] at ha; subst ha
  exact ⟨_, rfl, by rw [c9]; rfl⟩
 ·simp at h
def aR3 (P : Program) (s d : TypeId) (a : V) : Option (V × List Prop) :=
 match P.underlying s with
 | none => none
 | some _ => match P.underlying d, a with
  | some (.int k), .int _ n => some (Q5 k n)
  | some .string, .str s => some (.str s, [])
  | _, _ => none
theorem bm5 {s d : TypeId} {a v : V} {x : Value} {cs : List Prop} (h : aR3 P s d a = some (v, cs)) (hc : All cs) (ha : c9 U ρ a x) (w : World) : ∃ z, (convert s d x).run P w = .ok z w ∧ c9 U ρ v z := by
 unfold aR3 at h
 cases hs : P.underlying s with
 | none => simp [hs] at h
 | some ds =>
  simp only [hs] at h
  split at h
  ·rename_i k k' n hd
   simp only [Option.some.injEq] at h
   rw [c9] at ha; subst ha
   have := M7 (U := U) (ρ := ρ) (k := k) (n := n) (by rw [h]; exact hc)
   rw [h] at this
   refine ⟨_, ?_, this⟩
   simp only [convert, Sem.run_bind, j2 hs, j2 hd, Result.andThen_ok, Conv.intToInt, Sem.run_pure]
  ·rename_i s' hd
   simp only [Option.some.injEq, Prod.mk.injEq] at h
   obtain ⟨rfl, rfl⟩ := h
   rw [c9] at ha; subst ha
   refine ⟨.string s', ?_, by rw [c9]⟩
   simp only [convert, Sem.run_bind, j2 hs, j2 hd, Result.andThen_ok]
   cases ds <;> rfl
  ·simp at h
def aG0 (P : Program) (t : TypeId) : Option (Nat → Option (Nat × Nat)) :=
 match P.underlying t with
 | some (.struct fs) => bif fs.all (fun f => (P.info? f.type).isSome) then some (fun i => (fs[i]?).map fun f => (f.offset, szT P f.type)) else none
 | some (.array _ e) => bif (P.info? e).isSome then some (fun i => some (i * szT P e, szT P e)) else none
 | _ => none
def aq9 (cells : List V) (off size : Nat) (v : V) : Option (List V) := match cells with
 | [.seg k m xs] => match v with
  | .int k' n => bif decide (k = k') && (Nat.beq size 1 && Nat.blt off m) then some [.seg k m (xs.set off n)] else none
  | _ => none
 | _ => none
theorem aK8 {cells cells' : List V} {off size : Nat} {v : V} (h : aq9 cells off size v = some cells') : ∃ k m xs n, cells = [.seg k m xs] ∧ v = .int k n ∧ size = 1 ∧ off < m ∧ cells' = [.seg k m (xs.set off n)] := by
 unfold aq9 at h
 split at h
 ·split at h
  ·rename_i k m xs _ k' n
   cases hb : (decide (k = k') && (Nat.beq size 1 && Nat.blt off m)) <;> simp only [hb, cond_true, cond_false, reduceCtorEq, Option.some.injEq] at h
   rw [Bool.and_eq_true, Bool.and_eq_true, decide_eq_true_eq, Nat.blt_eq] at hb
   obtain ⟨rfl, h2, h3⟩ := hb
   exact ⟨k, m, xs, n, rfl, rfl, Nat.eq_of_beq_eq_true h2, h3, h.symm⟩
  ·simp at h
 ·simp at h
def T4 (place : Nat → Option (Nat × Nat)) (cells : List V) : List (Nat × V) → Option (List V)
 | [] => some cells
 | (i, v) :: rest => match place i with
  | none => none
  | some (off, size) => match aq9 cells off size v with
   | some cells' => T4 place cells' rest
   | none => bif m8 v.cs && Nat.beq (E9 v.cs) size then match u4 cells off with
    | some (a, b) => match u4 b size with
     | some (_, r) => T4 place (a ++ (v.cs ++ r)) rest
     | none => none
    | none => none
   else none
theorem ba5 (vals : List Value) : ∀ (k off : Nat) (c : Array Value), (vals.zipIdx k).foldl (fun cs (x : Value × Nat) => cs.setIfInBounds (off + x.2) x.1) c = H5 c (off + k) vals := by
 induction vals with
 | nil => intro k off c; rfl
 | cons v vs ih => intro k off c; rw [List.zipIdx_cons, List.foldl_cons, ih, H5]; rfl
def G8 (U : Imm) (ρ : Env) : List (Nat × V) → List (Nat × Value) → Prop
 | [], l => l = []
 | p :: ps, l => ∃ x r, l = (p.1, x) :: r ∧ c9 U ρ p.2 x ∧ G8 U ρ ps r
theorem W0 {place : Nat → Option (Nat × Nat)} : ∀ {parts : List (Nat × V)} {cells cells' : List V} {l : Array Value} {xs : List (Nat × Value)}, T4 place cells parts = some cells' → i6 U ρ cells l.toList → G8 U ρ parts xs →
  ∃ l', Instr.fill place l xs = some l' ∧ i6 U ρ cells' l'.toList
 | [], cells, cells', l, xs, h, hl, hp => by
  rw [G8] at hp; subst hp
  simp only [T4, Option.some.injEq] at h; subst h
  exact ⟨l, rfl, hl⟩
 | (i, v) :: rest, cells, cells', l, xs, h, hl, hp => by
  rw [G8] at hp
  obtain ⟨x, r, rfl, hx, hr⟩ := hp
  simp only [T4] at h
  cases hpl : place i with
  | none => simp [hpl] at h
  | some q =>
   obtain ⟨off, size⟩ := q
   simp only [hpl] at h
   cases hsp : aq9 cells off size v with
   | some cells2 =>
    simp only [hsp] at h
    obtain ⟨k, m, xs, n, rfl, rfl, rfl, h3, rfl⟩ := aK8 hsp
    rw [c9] at hx; subst hx
    obtain ⟨e1, r', e2, e3⟩ := F1.1 hl
    rw [i6] at e3; subst e3
    rw [List.append_nil] at e2
    have hsz : l.size = m := by rw [← Array.length_toList, e2, List.length_map]; exact e1
    obtain ⟨l', h9, h10⟩ := W0 (place := place) h (l := l.setIfInBounds off (.int k n)) (F1.2 ⟨by rw [List.length_set]; exact e1, [], by rw [List.append_nil, Array.toList_setIfInBounds, e2, List.map_set], by rw [i6]⟩) hr
    refine ⟨l', ?_, h10⟩
    unfold Instr.fill
    rw [hpl]
    have hno : ¬ ((Value.int k n).cells.size ≠ 1 || decide (off + (Value.int k n).cells.size > l.size)) = true := by
     have : (Value.int k n).cells.size = 1 := rfl
     simp only [Bool.or_eq_true, decide_eq_true_eq, not_or]; omega
    simp only [hno, if_false, Bool.false_eq_true]
    rw [← h9]
    rfl
   | none =>
   simp only [hsp] at h
   cases hb : (m8 v.cs && Nat.beq (E9 v.cs) size) <;> simp only [hb, cond_true, cond_false, reduceCtorEq] at h
   rw [Bool.and_eq_true] at hb
   have hsz : E9 v.cs = size := Nat.eq_of_beq_eq_true hb.2
   cases hs : u4 cells off with
   | none => simp [hs] at h
   | some q =>
    obtain ⟨a, b⟩ := q
    simp only [hs] at h
    cases hs2 : u4 b size with
    | none => simp [hs2] at h
    | some q2 =>
     obtain ⟨b1, b2⟩ := q2
     simp only [hs2] at h
     obtain ⟨rfl, h3⟩ := u9 hs
     obtain ⟨rfl, h4⟩ := u9 hs2
     obtain ⟨la, lb, e, h5, h6⟩ := m4.1 hl
     obtain ⟨lb1, lb2, rfl, h7, h8⟩ := m4.1 h6
     have e1 := h5.len; rw [h3] at e1
     have e2 := h7.len; rw [h4] at e2
     obtain ⟨hv1, hv2⟩ := aC8 hb.1 hx
     have hlen : l.size = la.length + (lb1.length + lb2.length) := by rw [← Array.length_toList, e]; simp
     have hset : (H5 l (off + 0) x.cells.toList).toList = la ++ (x.cells.toList ++ lb2) := by
      apply List.ext_getElem?
      intro k
      rw [Array.getElem?_toList, Q2 _ _ _ (by simp; omega)]
      simp only [Array.length_toList]
      rw [List.getElem?_append]
      by_cases hk : k < la.length
      ·rw [if_pos hk, if_neg (by omega), ← Array.getElem?_toList, e, List.getElem?_append_left hk]
      ·rw [if_neg hk, List.getElem?_append]
       by_cases hk2 : k - la.length < x.cells.toList.length
       ·rw [if_pos hk2, if_pos (by simp at hk2; omega)]; congr 1; omega
       ·rw [if_neg hk2, if_neg (by simp at hk2; omega), ← Array.getElem?_toList, e, List.getElem?_append_right (by omega), List.getElem?_append_right (by simp at hk2; omega)]
        congr 1; simp; omega
     obtain ⟨l', h9, h10⟩ := W0 (place := place) h (l := H5 l (off + 0) x.cells.toList) (by rw [hset]; exact m4.2 ⟨la, _, rfl, h5, m4.2 ⟨_, lb2, rfl, hv1, h8⟩⟩) hr
     refine ⟨l', ?_, h10⟩
     unfold Instr.fill
     rw [hpl]
     have hno : ¬ (x.cells.size ≠ size || decide (off + x.cells.size > l.size)) = true := by
      simp only [Bool.or_eq_true, decide_eq_true_eq, not_or]; omega
     simp only [hno, if_false, Bool.false_eq_true]
     rw [← h9]
     congr 1
     rw [← ba5 x.cells.toList 0 off l, ← Array.toList_zipIdx, Array.foldl_toList]
def aC4 (P : Program) (t : TypeId) (parts : List (Nat × V)) : Option V :=
 match R1 P t with
 | some z => match aG0 P t with
  | some pl => match T4 pl z parts with
   | some cs => some (.agg cs)
   | none => none
  | none => none
 | none => none
theorem aq8 {fs : Array Field} (h : fs.all (fun f => (P.info? f.type).isSome) = true) (w : World) :
  (fs.mapM fun f => do pure (f.offset, ← Go.sizeOf f.type) : Sem (Array (Nat × Nat))).run P w = .ok (fs.map fun f => (f.offset, szT P f.type)) w := by
 have key : ∀ (l : List Field), (∀ f ∈ l, (P.info? f.type).isSome = true) → (l.mapM fun f => do pure (f.offset, ← Go.sizeOf f.type) : Sem (List (Nat × Nat))).run P w = .ok (l.map fun f => (f.offset, szT P f.type)) w := by
  intro l
  induction l with
  | nil => intro _; rfl
  | cons f l ih =>
   intro hl
   obtain ⟨i, hi⟩ := Option.isSome_iff_exists.1 (hl f (by simp))
   simp only [List.mapM_cons, Sem.run_bind, z7 hi, Result.andThen_ok, Sem.run_pure, ih (fun g hg => hl g (by simp [hg])), List.map_cons]
   simp [szT, hi]
 have := key fs.toList (fun f hf => by rw [Array.all_eq_true_iff_forall_mem] at h; exact h f (by simpa using hf))
 rw [Array.mapM_eq_mapM_toList]
 simp only [Sem.run_map, this, Result.andThen_ok]
 congr 1
 apply Array.ext'
 rw [Array.toList_map]
theorem a_3 {t : TypeId} {parts : List (Nat × V)} {v : V} {xs : Array (Nat × Value)} (h : aC4 P t parts = some v) (hp : G8 U ρ parts xs.toList) (w : World) :
  ∃ z, (Instr.build t xs).run P w = .ok z w ∧ c9 U ρ v z := by
 unfold aC4 at h
 cases hz : R1 P t with
 | none => simp [hz] at h
 | some z =>
  obtain ⟨zv, h1, h2, _⟩ := X2 (U := U) (ρ := ρ) hz w
  simp only [hz] at h
  cases hpl : aG0 P t with
  | none => simp [hpl] at h
  | some pl =>
   simp only [hpl] at h
   cases hf : T4 pl z parts with
   | none => simp [hf] at h
   | some cs =>
    simp only [hf, Option.some.injEq] at h
    subst h
    obtain ⟨l', h3, h4⟩ := W0 hf h2 hp
    refine ⟨.agg l', ?_, by rw [c9]; exact ⟨l', rfl, h4⟩⟩
    unfold aG0 at hpl
    unfold Instr.build
    simp only [Sem.run_bind, h1, Result.andThen_ok]
    cases hu : P.underlying t with
    | none => simp [hu] at hpl
    | some d =>
     cases d <;> simp only [hu, reduceCtorEq] at hpl
     case array n e =>
      cases he : (P.info? e).isSome <;> simp only [he, cond_true, cond_false, reduceCtorEq, Option.some.injEq] at hpl
      subst hpl
      obtain ⟨i, hi⟩ := Option.isSome_iff_exists.1 he
      have hsz : szT P e = i.size := by simp [szT, hi]
      rw [hsz] at h3
      simp only [j2 hu, Result.andThen_ok, Sem.run_bind, z7 hi, h3, Sem.run_pure]
     case struct fs =>
      cases he : fs.all (fun f => (P.info? f.type).isSome) <;> simp only [he, cond_true, cond_false, reduceCtorEq, Option.some.injEq] at hpl
      subst hpl
      simp only [j2 hu, Result.andThen_ok, Sem.run_bind, aq8 he]
      have : (fun (i : Nat) => (fs.map fun (f : Field) => (f.offset, szT P f.type))[i]?) = fun (i : Nat) => (fs[i]?).map fun (f : Field) => (f.offset, szT P f.type) := by funext i; simp
      rw [this, h3]; rfl
end Sy
namespace Sy
open Go
variable {P : Program} {U : Imm} {ρ : Env}
def ad3 {α : Type} : Option α → List Prop → Option (α × List Prop)
 | some v, c => some (v, c)
 | none, _ => none
def R3 (P : Program) (t : TypeId) : Bool := match P.underlying t with
 | some (.array _ e) => (P.info? e).isSome
 | some (.slice e) => (P.info? e).isSome
 | _ => true
theorem Z5 {t : TypeId} (h : R3 P t = true) : ∀ e, (∃ len, P.underlying t = some (.array len e)) ∨ P.underlying t = some (.slice e) → (P.info? e).isSome = true := by
 intro e he
 unfold R3 at h
 rcases he with ⟨len, he⟩ | he <;> simpa [he] using h
def at7 (P : Program) (t : TypeId) : Bool := match P.underlying t with
 | some (.interface _) => true
 | none => true
 | _ => false
def bo4 (P : Program) (t : TypeId) (x : V) : Option V :=
 match P.underlying t with
 | some .string => match x with
  | .str s => some (.int .i64 (s.size : Int))
  | _ => none
 | some (.array n _) => some (.int .i64 (n : Int))
 | some (.slice _) => match x with
  | .snil => some (.int .i64 0)
  | .ros _ len _ _ => some (.int .i64 (len : Int))
  | .sl _ _ _ _ _ len _ => some (.int .i64 (len : Int))
  | _ => none
 | some (.map _ _) => match x with
  | .mpnil => some (.int .i64 0)
  | _ => none
 | _ => none
theorem bF2 {t : TypeId} {a v : V} {x : Value} {ts : Array TypeId} {r : TypeId} {xs : Array Value} (h : bo4 P t a = some v) (ha : c9 U ρ a x) (h1 : ts[0]? = some t) (h2 : xs[0]? = some x) (w : World) :
  ∃ z, (Builtin.len_ ts r xs).run P w = .ok z w ∧ c9 U ρ v z := by
 unfold bo4 at h
 have run : (Builtin.len_ ts r xs).run P w = (match ts[0]?, xs[0]? with
  | some t, some x => (Builtin.len_ #[t] r #[x]).run P w
  | _, _ => (Builtin.len_ ts r xs).run P w) := by
  rw [h1, h2]; unfold Builtin.len_; simp [h1, h2]
 rw [run, h1, h2]
 simp only
 cases hu : P.underlying t with
 | none => simp [hu] at h
 | some d =>
  cases d <;> simp only [hu, reduceCtorEq] at h
  case string =>
   cases a <;> simp only [reduceCtorEq, Option.some.injEq] at h
   rename_i s
   subst h
   rw [c9] at ha; subst ha
   exact ⟨.int .i64 (s.size : Int), by simp [Builtin.len_, j2 hu, goInt], by rw [c9]⟩
  case array n e =>
   simp only [Option.some.injEq] at h; subst h
   exact ⟨.int .i64 (n : Int), by simp [Builtin.len_, j2 hu, goInt], by rw [c9]⟩
  case slice e =>
   cases a <;> simp only [reduceCtorEq, Option.some.injEq] at h <;> subst h
   ·rw [c9] at ha; subst ha
    exact ⟨.int .i64 _, by simp [Builtin.len_, j2 hu, goInt]; rfl, by rw [c9]⟩
   ·obtain ⟨_, _, rfl⟩ := aH1 ha
    exact ⟨.int .i64 _, by simp [Builtin.len_, j2 hu, goInt]; rfl, by rw [c9]⟩
   ·rw [c9] at ha; obtain ⟨_, _, rfl, _⟩ := ha
    exact ⟨.int .i64 _, by simp [Builtin.len_, j2 hu, goInt]; rfl, by rw [c9]⟩
  case map k e =>
   cases a <;> simp only [reduceCtorEq, Option.some.injEq] at h
   subst h
   rw [c9] at ha; subst ha
   exact ⟨.int .i64 _, by simp [Builtin.len_, j2 hu, goInt]; rfl, by rw [c9]⟩
def av6 : V → Option V
 | .ptr n es i o j => some (.ptr n es i o j)
 | .rop cs o j => some (.rop cs o j)
 | .fn (.func f) a b => some (.fn (.func f) a b)
 | _ => none
def bn6 (x y : Int) : Int := if y > x then y else x
def K1 (ev : Operand → V) : List Operand → List V
 | [] => []
 | x :: xs => ev x :: K1 ev xs
def aa8 (ev : Operand → V) : List (Nat × Operand) → List (Nat × V)
 | [] => []
 | (i, x) :: xs => (i, ev x) :: aa8 ev xs
theorem R6 {ev : Operand → V} {e : Operand → Value} (h : ∀ x, c9 U ρ (ev x) (e x)) : ∀ l : List Operand, i8 U ρ (K1 ev l) (l.map e)
 | [] => by rw [K1, i8]; rfl
 | x :: xs => by rw [K1, i8]; exact ⟨_, _, rfl, h x, R6 h xs⟩
theorem ac7 {ev : Operand → V} {e : Operand → Value} (h : ∀ x, c9 U ρ (ev x) (e x)) : ∀ l : List (Nat × Operand), G8 U ρ (aa8 ev l) (l.map fun (i, x) => (i, e x))
 | [] => by rw [aa8, G8]; rfl
 | (i, x) :: xs => by rw [aa8, G8]; exact ⟨_, _, rfl, h x, ac7 h xs⟩
def Y4 (P : Program) (ev : Operand → V) : Op → Option (V × List Prop)
 | .move x => some (ev x, [])
 | .assign x => some (ev x, [])
 | .pick c a b => match ev c with
  | .bool t => match t with
   | true => some (ev a, [])
   | false => some (ev b, [])
  | _ => none
 | .build t parts => ad3 (aC4 P t (aa8 ev parts.toList)) []
 | .binOp op t x y _ => bm2 P op t (ev x) (ev y)
 | .unOp op _ x => unV op (ev x)
 | .convert s d x => aR3 P s d (ev x)
 | .makeInterface t x => bif at7 P t then none else some (.ifc t (ev x), [])
 | .makeFunc f a b => some (.fn f (K1 ev a.toList) (K1 ev b.toList), [])
 | .slice t x lo hi mx => match Z6 (lo.map ev) with
  | none => none
  | some l => match Z6 (hi.map ev) with
   | none => none
   | some h => match Z6 (mx.map ev) with
    | none => none
    | some m => bif R3 P t then aH2 P t (ev x) l h m else none
 | .fieldAddr s x f => ad3 (ac1 P s (ev x) f) []
 | .field t x f => ad3 (aD5 P t (ev x) f) []
 | .indexAddr t x i => bif R3 P t then ac2 P t (ev x) (ev i) else none
 | .index t x i => bif R3 P t then aE6 P t (ev x) (ev i) else none
 | .extract x i => match ev x with
  | .tup vs => match vs[i]? with
   | some v => some (v, [])
   | none => none
  | _ => none
 | .nilCheck x => ad3 (av6 (ev x)) []
 | .load t a => match ev a with
  | .rop cs o j => Y2 P t cs o j
  | _ => none
 | .call c => match c.callee with
  | .builtin .len => match c.argTypes[0]? with
   | some t => match c.args[0]? with
    | some x => ad3 (bo4 P t (ev x)) []
    | none => none
   | none => none
  | .builtin .max => match c.args.toList with
   | [x, y] => match ev x with
    | .int k a => match ev y with
     | .int _ b => some (.int k (bn6 a b), [])
     | _ => none
    | _ => none
   | _ => none
  | _ => none
 | _ => none
theorem aV5 {vs : List V} {l : List Value} {i : Nat} {v : V} (h : i8 U ρ vs l) (hv : vs[i]? = some v) : ∃ x, l[i]? = some x ∧ c9 U ρ v x := by
 induction vs generalizing l i with
 | nil => simp at hv
 | cons u us ih =>
  rw [i8] at h
  obtain ⟨x, r, rfl, h1, h2⟩ := h
  cases i with
  | zero => simp at hv; subst hv; exact ⟨x, rfl, h1⟩
  | succ i => simp at hv; obtain ⟨y, h3, h4⟩ := ih h2 hv; exact ⟨y, by simpa using h3, h4⟩
theorem O6 {α : Type} {o : Option α} {c c' : List Prop} {v : α} (h : ad3 o c = some (v, c')) : o = some v ∧ c = c' := by
 cases o <;> simp [ad3] at h
 exact ⟨by rw [h.1], h.2⟩
theorem au3 {ev : Operand → V} {e : Operand → Value} (h : ∀ x, c9 U ρ (ev x) (e x)) {o : Option Operand} {n : Option Int} (hn : Z6 (o.map ev) = some n) : D5 n (o.map e) := by
 refine bn7 (U := U) (ρ := ρ) hn (fun u hu => ?_) (fun hu => ?_)
 ·cases o with
  | none => simp at hu
  | some x => simp at hu; subst hu; exact ⟨_, rfl, h x⟩
 ·cases o with
  | none => rfl
  | some x => simp at hu
theorem bs8 {ev : Operand → V} {e : Operand → Value} {o : Oper} {v : V} {cs : List Prop} (h : Y4 P ev o.op = some (v, cs)) (hc : All cs) (hev : ∀ x, c9 U ρ (ev x) (e x)) {pre : c5} {w : World} (H : HRel U ρ pre w) :
  ∃ x, (execOp e o).run P w = .ok (.value x) w ∧ c9 U ρ v x := by
 have val : ∀ {s : Sem Value} {x : Value}, s.run P w = .ok x w → (do pure (.value (← s)) : Sem Next).run P w = .ok (.value x) w := by
  intro s x hs
  simp only [Sem.run_bind, hs, Result.andThen_ok, Sem.run_pure]
 unfold execOp
 cases hop : o.op <;> rw [hop] at h <;> simp only [Y4, reduceCtorEq] at h
 case move x => simp only [Option.some.injEq, Prod.mk.injEq] at h; obtain ⟨rfl, rfl⟩ := h; exact ⟨_, rfl, hev x⟩
 case assign x => simp only [Option.some.injEq, Prod.mk.injEq] at h; obtain ⟨rfl, rfl⟩ := h; exact ⟨_, rfl, hev x⟩
 case pick c a b =>
  have hcv := hev c
  cases hcc : ev c <;> simp only [hcc, reduceCtorEq] at h
  rename_i t
  rw [hcc, c9] at hcv
  cases t <;> simp only [Option.some.injEq, Prod.mk.injEq] at h <;> obtain ⟨rfl, rfl⟩ := h
  ·exact ⟨e b, by simp [asBool, hcv], hev b⟩
  ·exact ⟨e a, by simp [asBool, hcv], hev a⟩
 case build t parts =>
  obtain ⟨h0, rfl⟩ := O6 h
  obtain ⟨z, h1, h2⟩ := a_3 (xs := parts.map fun (i, x) => (i, e x)) h0 (by rw [Array.toList_map]; exact ac7 hev _) w
  exact ⟨z, val h1, h2⟩
 case load t a =>
  have ha := hev a
  cases haa : ev a <;> simp only [haa, reduceCtorEq] at h
  rename_i c0 o0 j0
  rw [haa, c9] at ha
  obtain ⟨b, base, c, h1, h2, l, h3, h4⟩ := ha
  obtain ⟨el, fr, h5⟩ := H.imm b c h1
  obtain ⟨x, h6, h7⟩ := al9 (ρ := ρ) h hc (i6.mono (Imm.le_refl _) (Env.none_le _) h3) (w := w) (b := b) (base := base) (fun k hk => by rw [I1 h5]; exact h4 k hk)
  exact ⟨x, val (by simp only [Instr.loadAt, h2, Instr.sureAddr, Sem.run_bind, Sem.run_pure, Result.andThen_ok]; exact h6), h7⟩
 case nilCheck x =>
  obtain ⟨h0, rfl⟩ := O6 h
  have hx := hev x
  unfold av6 at h0
  split at h0 <;> simp only [reduceCtorEq, Option.some.injEq] at h0 <;> subst h0 <;> rename_i heq <;> rw [heq] at hx
  ·obtain ⟨a, ha⟩ := Y6 hx; exact ⟨e x, by simp [ha], hx⟩
  ·obtain ⟨a, ha⟩ := Y7 hx; exact ⟨e x, by simp [ha], hx⟩
  ·obtain ⟨l, m, ha⟩ := ad2 hx; exact ⟨e x, by simp [ha], hx⟩
 case binOp op t x y yt =>
  obtain ⟨z, h1, h2⟩ := bE5 (ox := x) (oy := y) h hc (hev x) (hev y) w
  exact ⟨z, val h1, h2⟩
 case unOp op t x =>
  obtain ⟨z, h1, h2⟩ := b_4 h hc (hev x) w
  exact ⟨z, val h1, h2⟩
 case convert s d x =>
  obtain ⟨z, h1, h2⟩ := bm5 h hc (hev x) w
  exact ⟨z, val h1, h2⟩
 case makeInterface t x =>
  cases hi : at7 P t <;> simp only [hi, cond_true, cond_false, reduceCtorEq, Option.some.injEq, Prod.mk.injEq] at h
  obtain ⟨rfl, rfl⟩ := h
  refine ⟨.iface t (e x), val ?_, by rw [c9]; exact ⟨_, rfl, hev x⟩⟩
  unfold at7 at hi
  cases hu : P.underlying t with
  | none => simp [hu] at hi
  | some d =>
   simp only [Instr.makeInterface, Sem.run_bind, j2 hu, Result.andThen_ok]
   cases d <;> first | rfl | (simp [hu] at hi)
 case makeFunc f a b =>
  simp only [Option.some.injEq, Prod.mk.injEq] at h
  obtain ⟨rfl, rfl⟩ := h
  refine ⟨.func f (a.map e) (b.map e), rfl, ?_⟩
  rw [c9]
  exact ⟨_, _, rfl, by rw [Array.toList_map]; exact R6 hev _, by rw [Array.toList_map]; exact R6 hev _⟩
 case slice t x lo hi mx =>
  cases h1 : Z6 (lo.map ev) <;> simp only [h1, reduceCtorEq] at h
  cases h2 : Z6 (hi.map ev) <;> simp only [h2, reduceCtorEq] at h
  cases h3 : Z6 (mx.map ev) <;> simp only [h3, reduceCtorEq] at h
  cases h4 : R3 P t <;> simp only [h4, cond_true, cond_false, reduceCtorEq] at h
  obtain ⟨z, h5, h6⟩ := be8 (af2 P) h hc (hev x) (au3 hev h1) (au3 hev h2) (au3 hev h3) (fun e' he => Z5 h4 e' (he.symm.imp id id)) w
  exact ⟨z, val h5, h6⟩
 case fieldAddr s x f =>
  obtain ⟨h0, rfl⟩ := O6 h
  obtain ⟨z, h1, h2⟩ := ay7 h0 (hev x) w
  exact ⟨z, val h1, h2⟩
 case field t x f =>
  obtain ⟨h0, rfl⟩ := O6 h
  obtain ⟨z, h1, h2⟩ := ba2 h0 (hev x) w
  exact ⟨z, val h1, h2⟩
 case indexAddr t x i =>
  cases h4 : R3 P t <;> simp only [h4, cond_true, cond_false, reduceCtorEq] at h
  obtain ⟨z, h1, h2⟩ := ay8 (af2 P) h hc (hev x) (hev i) (Z5 h4) w
  exact ⟨z, val h1, h2⟩
 case index t x i =>
  cases h4 : R3 P t <;> simp only [h4, cond_true, cond_false, reduceCtorEq] at h
  obtain ⟨z, h1, h2⟩ := bb2 h hc (hev x) (hev i) (fun e' len he => ⟨Z5 h4 e' (.inl ⟨len, he⟩), fun hi => ⟨(J4 hi).2.2, (J4 hi).2.1⟩⟩) w
  exact ⟨z, val h1, h2⟩
 case extract x i =>
  have hx := hev x
  cases hxx : ev x <;> simp only [hxx, reduceCtorEq] at h
  rename_i vs
  cases hvi : vs[i]? <;> simp only [hvi, reduceCtorEq, Option.some.injEq, Prod.mk.injEq] at h
  obtain ⟨rfl, rfl⟩ := h
  rw [hxx, c9] at hx
  obtain ⟨l, h1, h2⟩ := hx
  obtain ⟨y, h3, h4⟩ := aV5 h2 hvi
  refine ⟨y, val ?_, h4⟩
  rw [Array.getElem?_toList] at h3
  simp [Instr.extract, h1, h3]
 case call c =>
  cases hcl : c.callee with
  | value f => simp [hcl] at h
  | invoke r m => simp [hcl] at h
  | builtin b =>
   cases b <;> simp only [hcl, reduceCtorEq] at h
   case len =>
    cases ht : c.argTypes[0]? <;> simp only [ht, reduceCtorEq] at h
    cases hx : c.args[0]? <;> simp only [hx, reduceCtorEq] at h
    rename_i t x
    obtain ⟨h0, rfl⟩ := O6 h
    obtain ⟨z, h1, h2⟩ := bF2 (r := o.type) (ts := c.argTypes) (xs := c.args.map e) h0 (hev x) ht (by simp [hx]) w
    refine ⟨z, ?_, h2⟩
    simp only [resolve, hcl, Sem.run_bind, Sem.run_pure, Result.andThen_ok, invoke, builtin, h1]
   case max =>
    split at h
    rotate_left
    ·simp at h
    rename_i x y hxy
    have hx := hev x
    have hy := hev y
    cases hxx : ev x <;> simp only [hxx, reduceCtorEq] at h
    cases hyy : ev y <;> simp only [hyy, reduceCtorEq] at h
    simp only [Option.some.injEq, Prod.mk.injEq] at h
    obtain ⟨rfl, rfl⟩ := h
    rw [hxx, c9] at hx
    rw [hyy, c9] at hy
    refine ⟨.int _ (bn6 _ _), ?_, by rw [c9]⟩
    have ea : c.args = #[x, y] := by apply Array.ext'; simpa using hxy
    simp only [resolve, hcl, Sem.run_bind, Sem.run_pure, Result.andThen_ok, invoke, builtin, ea]
    have : (#[x, y] : Array Operand).map e = #[e x, e y] := by simp
    rw [this, hx, hy]
    simp [Builtin.max_, Builtin.max2, bn6]
end Sy
namespace Sy
open Go
variable {P : Program} {U : Imm} {ρ : Env}
abbrev Eff := V × c5 × List Prop
def R8 (P : Program) (r : Result Next) (U : Imm) (ρ : Env) (pre : c5) (w : World) (val : V) (post : c5) : Prop :=
 ∃ x w' U' ρ', (r = .ok (.value x) w' ∨ (r = .ok .skip w' ∧ x = undef)) ∧ Leaves U ρ pre w val post x U' ρ' w'
theorem R8.step {s : Sem Next} {pre : c5} {w : World} {val : V} {post : c5} (h : R8 P (s.run P w) U ρ pre w val post) : E8 P s U ρ pre w val post := by
 obtain ⟨x, w', U', ρ', h1, h2⟩ := h
 unfold E8
 rcases h1 with h1 | ⟨h1, rfl⟩ <;> rw [h1] <;> exact ⟨U', ρ', h2⟩
theorem bK8 {s : Sem Value} {x : Value} {w w' : World} (hs : s.run P w = .ok x w') : (do pure (.value (← s)) : Sem Next).run P w = .ok (.value x) w' := by
 simp only [Sem.run_bind, hs, Result.andThen_ok, Sem.run_pure]
def aA_ (P : Program) (base : Nat) (t : TypeId) : Option Eff := match R1 P t with
 | some cs => some (.ptr (.o base) 0 0 0 0, [(.o base, .flat cs)], [])
 | none => none
theorem aF5 {base : Nat} {cs : List V} {cells : Array Value} {t : TypeId} {w : World} (H : HRel U ρ [] w) (hf : ρ (.o base) = none) (h : i6 U ρ cs cells.toList) :
  ∃ U' ρ', Leaves U ρ [] w (.ptr (.o base) 0 0 0 0) [(.o base, .flat cs)] (.pointer (some ⟨w.heap.size, 0, none⟩)) U' ρ' { w with heap := w.heap.push (.cells cells t) } := by
 have hle := Env.le_add hf ⟨w.heap.size, cells.size, true⟩
 refine ⟨_, _, Leaves.new (m := .o base) (sz := cells.size) H hf rfl ⟨cells, t, 0, 0, rfl, rfl, .inl rfl, i6.mono (Imm.le_refl _) hle h⟩ ?_⟩
 rw [c9]; exact ⟨_, Env.add_self, rfl, rfl⟩
theorem aV6 {base : Nat} {t : TypeId} {r : Eff} (h : aA_ P base t = some r) {w : World} (H : HRel U ρ [] w) (hf : ρ (.o base) = none) :
  ∃ x w' U' ρ', (Instr.alloc t true (.tuple #[])).run P w = .ok x w' ∧ Leaves U ρ [] w r.1 r.2.1 x U' ρ' w' := by
 unfold aA_ at h
 cases hz : R1 P t <;> simp only [hz, reduceCtorEq, Option.some.injEq] at h
 subst h
 obtain ⟨z, h1, h2, _⟩ := X2 (U := U) (ρ := ρ) hz w
 obtain ⟨U', ρ', h3⟩ := aF5 (t := t) H hf h2
 refine ⟨_, _, U', ρ', ?_, h3⟩
 simp only [Instr.alloc, Sem.run_bind, h1, Result.andThen_ok, newVar, newRow, run_newObj, Sem.run_pure]
def bm3 (base : Nat) (v : V) : Option Eff := bif m8 v.cs then some (.ptr (.o base) 0 0 0 0, [(.o base, .flat v.cs)], []) else none
theorem bE6 {base : Nat} {t : TypeId} {v : V} {y : Value} {r : Eff} (h : bm3 base v = some r) (hv : c9 U ρ v y) {w : World} (H : HRel U ρ [] w) (hf : ρ (.o base) = none) :
  ∃ x w' U' ρ', (Instr.box t y).run P w = .ok x w' ∧ Leaves U ρ [] w r.1 r.2.1 x U' ρ' w' := by
 unfold bm3 at h
 cases hs : m8 v.cs <;> simp only [hs, cond_true, cond_false, reduceCtorEq, Option.some.injEq] at h
 subst h
 obtain ⟨U', ρ', h3⟩ := aF5 (t := t) H hf (aC8 hs hv).1
 exact ⟨_, _, U', ρ', by simp only [Instr.box, Sem.run_bind, newVar, newRow, run_newObj, Result.andThen_ok, Sem.run_pure], h3⟩
def ak8 (es : Nat) : Nat → List V → Option (List (List V))
 | 0, cs => match cs with
  | [] => some []
  | _ => none
 | n + 1, cs => match u4 cs es with
  | some (a, b) => match ak8 es n b with
   | some l => some (a :: l)
   | none => none
  | none => none
def j3 : List (List V) → Nat → List V
 | [], _ => []
 | x :: _, 0 => x
 | _ :: xs, n + 1 => j3 xs n
theorem at3 {es : Nat} : ∀ {n : Nat} {cs : List V} {L : List (List V)} {l : List Value}, ak8 es n cs = some L → i6 U ρ cs l →
  l.length = n * es ∧ ∀ i, i < n → ∃ r, i6 U ρ (j3 L i) r ∧ r.length = es ∧ ∀ k, k < r.length → l[i * es + k]? = r[k]?
 | 0, cs, L, l, h, hl => by
  unfold ak8 at h
  split at h
  ·rw [i6] at hl; subst hl; exact ⟨by simp, fun i hi => by omega⟩
  ·simp at h
 | n + 1, cs, L, l, h, hl => by
  unfold ak8 at h
  cases hs : u4 cs es with
  | none => simp [hs] at h
  | some p =>
   obtain ⟨a, b⟩ := p
   simp only [hs] at h
   cases hc : ak8 es n b with
   | none => simp [hc] at h
   | some L' =>
    simp only [hc, Option.some.injEq] at h
    subst h
    obtain ⟨rfl, h3⟩ := u9 hs
    obtain ⟨la, lb, rfl, h4, h5⟩ := m4.1 hl
    have e1 := h4.len; rw [h3] at e1
    obtain ⟨h6, h7⟩ := at3 hc h5
    refine ⟨by rw [List.length_append, h6, e1, Nat.add_mul]; omega, fun i hi => ?_⟩
    cases i with
    | zero => exact ⟨la, h4, e1, fun k hk => by rw [Nat.zero_mul, Nat.zero_add, List.getElem?_append_left hk]⟩
    | succ i =>
     obtain ⟨r, h8, h9, h10⟩ := h7 i (by omega)
     refine ⟨r, h8, h9, fun k hk => ?_⟩
     rw [← h10 k hk, List.getElem?_append_right (by rw [Nat.add_mul]; omega)]
     congr 1; rw [Nat.add_mul]; omega
theorem ad7 {z : List V} {zero : Array Value} (h : i6 U ρ z zero.toList) : ∀ n, i6 U ρ (List.replicate n z).flatten ((List.replicate n zero.toList).flatten)
 | 0 => by simp [i6]
 | n + 1 => by rw [List.replicate_succ, List.flatten_cons, List.replicate_succ, List.flatten_cons]; exact m4.2 ⟨_, _, rfl, h, ad7 h n⟩
theorem aw0 (zero : Array Value) : ∀ (n k : Nat), ((Array.range (n * zero.size)).map (zero[· % zero.size]!))[k]? = ((List.replicate n zero.toList).flatten)[k]?
 | 0, k => by simp
 | n + 1, k => by
  have ih := aw0 zero n (k - zero.size)
  rw [List.replicate_succ, List.flatten_cons, List.getElem?_append]
  simp only [Array.getElem?_map, Array.getElem?_range, Array.length_toList, Array.getElem?_toList]
  by_cases hk : k < zero.size
  ·rw [if_pos hk, if_pos (by rw [Nat.add_mul]; omega)]
   simp [Nat.mod_eq_of_lt hk, hk]
  ·rw [if_neg hk, ← ih]
   simp only [Array.getElem?_map, Array.getElem?_range]
   by_cases h2 : k - zero.size < n * zero.size
   ·rw [if_pos h2, if_pos (by rw [Nat.add_mul]; omega)]
    simp only [Option.map_some]
    rw [Nat.mod_eq_sub_mod (by omega)]
   ·rw [if_neg h2, if_neg (by rw [Nat.add_mul]; omega)]
theorem ab0 (zero : Array Value) (n : Nat) : ((Array.range (n * zero.size)).map (zero[· % zero.size]!)).toList = (List.replicate n zero.toList).flatten := by
 apply List.ext_getElem?
 intro k
 rw [Array.getElem?_toList, aw0]
def Z4 (P : Program) (base : Nat) (t : TypeId) (len : Nat) (parts : List (Nat × V)) : Option Eff :=
 match P.underlying t with
 | some (.slice e) => match P.info? e with
  | some ie => bif Nat.beq ie.size 0 || (Nat.ble 16777217 (len * ie.size)) then none else match R1 P e with
   | some z => match T4 (fun i => some (i * ie.size, ie.size)) (List.replicate len z).flatten parts with
    | some cs => bif V.withins (fun _ => false) cs then match ak8 ie.size len cs with
      | some L => some (.sl (.o base) ie.size 0 0 0 len (some len), [(.o base, .rows ie.size len (j3 L) false)], [])
      | none => none
     else bif Nat.beq ie.size 1 then some (.sl (.o base) 0 0 0 0 len (some len), [(.o base, .flat cs)], []) else none
    | none => none
   | none => none
  | none => none
 | _ => none
theorem am0 {base es n len cap : Nat} {f : Nat → List V} {cells : Array Value} {t : TypeId} {w w0 : World} (hw : w0.heap = w.heap) (H : HRel U ρ [] w) (hf : ρ (.o base) = none) (hsz : cells.size = n * es) (hlc : len ≤ cap) (_hcn : cap ≤ n)
  (h : ∀ i, i < n → ∃ r, i6 U Env.none (f i) r ∧ r.length = es ∧ ∀ k, k < r.length → cells[i * es + k]? = r[k]?)
  (eo : w0.os = w.os ∧ w0.output = w.output := by exact ⟨rfl, rfl⟩) : ∃ U' ρ', Leaves U ρ [] w (.sl (.o base) es 0 0 0 len (some cap)) [(.o base, .rows es n f false)] (.slice (some ⟨w0.heap.size, 0, none⟩) len cap) U' ρ' { w0 with heap := w0.heap.push (.cells cells t) } := by
 refine ⟨_, _, Leaves.new (m := .o base) (sz := cells.size) H hf (by simp [hw]) ⟨cells, t, 0, 0, rfl, rfl, .inl rfl, by omega, fun _ => hsz, h⟩ ?_ eo⟩
 rw [c9]
 have : cap * es ≤ n * es := Nat.mul_le_mul_right _ _hcn
 exact ⟨_, cap, Env.add_self, hlc, fun c e => by cases e; rfl, .inl ⟨rfl, by simp [hw], by simp only [Nat.zero_add]; omega⟩⟩
theorem av5 {base len : Nat} {cs : List V} {cells : Array Value} {t : TypeId} {w : World} (H : HRel U ρ [] w) (hf : ρ (.o base) = none) (h : i6 U ρ cs cells.toList) :
  ∃ U' ρ', Leaves U ρ [] w (.sl (.o base) 0 0 0 0 len (some len)) [(.o base, .flat cs)] (.slice (some ⟨w.heap.size, 0, none⟩) len len) U' ρ' { w with heap := w.heap.push (.cells cells t) } := by
 have hle := Env.le_add hf ⟨w.heap.size, cells.size, true⟩
 refine ⟨_, _, Leaves.new (m := .o base) (sz := cells.size) H hf rfl ⟨cells, t, 0, 0, rfl, rfl, .inl rfl, i6.mono (Imm.le_refl _) hle h⟩ ?_⟩
 rw [c9]
 exact ⟨_, len, Env.add_self, Nat.le_refl _, fun c e => by cases e; rfl, .inl ⟨rfl, rfl, by simp⟩⟩
theorem at0 {base : Nat} {t : TypeId} {len : Nat} {parts : List (Nat × V)} {xs : Array (Nat × Value)} {r : Eff} (h : Z4 P base t len parts = some r) (hp : G8 U ρ parts xs.toList) {w : World} (H : HRel U ρ [] w) (hf : ρ (.o base) = none) :
  ∃ x w' U' ρ', (Instr.buildSlice t len xs).run P w = .ok x w' ∧ Leaves U ρ [] w r.1 r.2.1 x U' ρ' w' := by
 unfold Z4 at h
 cases hu : P.underlying t with
 | none => simp [hu] at h
 | some d =>
  cases d <;> simp only [hu, reduceCtorEq] at h
  rename_i e
  cases hi : P.info? e with
  | none => simp [hi] at h
  | some ie =>
   simp only [hi] at h
   cases hb : (Nat.beq ie.size 0 || Nat.ble 16777217 (len * ie.size)) <;> simp only [hb, cond_true, cond_false, reduceCtorEq] at h
   rw [Bool.or_eq_false_iff] at hb
   have hz0 : ie.size ≠ 0 := fun h0 => by rw [h0] at hb; exact absurd hb.1 (by decide)
   have hbig : ¬ len * ie.size > 2 ^ 24 := fun hh => by
    have : Nat.ble 16777217 (len * ie.size) = true := Nat.ble_eq_true_of_le (by omega)
    rw [this] at hb; exact absurd hb.2 (by decide)
   cases hz : R1 P e with
   | none => simp [hz] at h
   | some z =>
    simp only [hz] at h
    cases hfl : T4 (fun i => some (i * ie.size, ie.size)) (List.replicate len z).flatten parts with
    | none => simp [hfl] at h
    | some cs =>
     simp only [hfl] at h
     cases hpure : V.withins (fun _ => false) cs <;> simp only [hpure, cond_true, cond_false, reduceCtorEq] at h
     ·cases h1s : Nat.beq ie.size 1 <;> simp only [h1s, cond_true, cond_false, reduceCtorEq, Option.some.injEq] at h
      subst h
      obtain ⟨zv, h1, h2, hzs0⟩ := X2 (U := U) (ρ := ρ) hz w
      have key : ∀ (zero : Array Value), (List.replicate len zero.toList).flatten = (List.replicate len zv.cells.toList).flatten → (zero.size = ie.size ∨ len = 0) → ∃ l', Instr.fill (fun i => some (i * ie.size, ie.size)) ((Array.range (len * ie.size)).map (zero[· % zero.size]!)) xs.toList = some l' ∧ i6 U ρ cs l'.toList := by
       intro zero e1 e2
       refine W0 hfl ?_ hp
       rcases e2 with e2 | e2
       ·rw [← e2, ab0, e1]; exact ad7 h2 len
       ·subst e2; simp [i6]
      by_cases hl0 : len = 0
      ·subst hl0
       obtain ⟨l', h3, h4⟩ := key #[] (by simp) (.inr rfl)
       obtain ⟨U', ρ', h7⟩ := av5 (t := e) (len := 0) (w := w) (cells := l') H hf h4
       refine ⟨_, _, U', ρ', ?_, h7⟩
       have hb0 : ¬ ((0 : Nat) > 2 ^ 24) := by decide
       simp only [Nat.zero_mul] at h3
       simp only [Instr.buildSlice, Sem.run_bind, j2 hu, Result.andThen_ok, z7 hi, Nat.zero_mul, hb0, if_false, if_true, Sem.run_pure, h3, newRow, run_newObj]
      ·have hzs : zv.cells.size = ie.size := by simpa [szT, hi] using hzs0
       obtain ⟨l', h3, h4⟩ := key zv.cells rfl (.inl hzs)
       obtain ⟨U', ρ', h7⟩ := av5 (t := e) (len := len) (w := w) (cells := l') H hf h4
       refine ⟨_, _, U', ρ', ?_, h7⟩
       have hne : ¬ len * ie.size = 0 := fun h0 => by rcases Nat.mul_eq_zero.1 h0 with h0 | h0 <;> contradiction
       simp only [Instr.buildSlice, Sem.run_bind, j2 hu, Result.andThen_ok, z7 hi, hbig, if_false, hne, h1, Sem.run_pure, h3, newRow, run_newObj]
     cases hcut : ak8 ie.size len cs with
     | none => simp [hcut] at h
     | some L =>
      simp only [hcut, Option.some.injEq] at h
      subst h
      obtain ⟨zv, h1, h2, hzs0⟩ := X2 (U := U) (ρ := ρ) hz w
      have key : ∀ (zero : Array Value), (List.replicate len zero.toList).flatten = (List.replicate len zv.cells.toList).flatten → (zero.size = ie.size ∨ len = 0) → ∃ l', Instr.fill (fun i => some (i * ie.size, ie.size)) ((Array.range (len * ie.size)).map (zero[· % zero.size]!)) xs.toList = some l' ∧ i6 U ρ cs l'.toList := by
       intro zero e1 e2
       refine W0 hfl ?_ hp
       rcases e2 with e2 | e2
       ·rw [← e2, ab0, e1]; exact ad7 h2 len
       ·subst e2; simp [i6]
      by_cases hl0 : len = 0
      ·subst hl0
       obtain ⟨l', h3, h4⟩ := key #[] (by simp) (.inr rfl)
       obtain ⟨h5, h6⟩ := at3 hcut (ai3 cs hpure h4)
       obtain ⟨U', ρ', h7⟩ := am0 (t := e) (len := 0) (cap := 0) (w0 := w) (cells := l') rfl H hf (by rw [← h5]; simp) (Nat.le_refl _) (Nat.le_refl _) (fun i hi => by omega)
       refine ⟨_, _, U', ρ', ?_, h7⟩
       have hb0 : ¬ ((0 : Nat) > 2 ^ 24) := by decide
       simp only [Nat.zero_mul] at h3
       simp only [Instr.buildSlice, Sem.run_bind, j2 hu, Result.andThen_ok, z7 hi, Nat.zero_mul, hb0, if_false, if_true, Sem.run_pure, h3, newRow, run_newObj]
      ·have hzs : zv.cells.size = ie.size := by simpa [szT, hi] using hzs0
       obtain ⟨l', h3, h4⟩ := key zv.cells rfl (.inl hzs)
       obtain ⟨h5, h6⟩ := at3 hcut (ai3 cs hpure h4)
       obtain ⟨U', ρ', h7⟩ := am0 (t := e) (len := len) (cap := len) (w0 := w) (cells := l') rfl H hf (by rw [← h5]; simp) (Nat.le_refl _) (Nat.le_refl _) (fun i hi => by
        obtain ⟨r, h8, h9, h10⟩ := h6 i hi
        exact ⟨r, h8, h9, fun k hk => by rw [← h10 k hk, Array.getElem?_toList]⟩)
       refine ⟨_, _, U', ρ', ?_, h7⟩
       have hne : ¬ len * ie.size = 0 := fun h0 => by rcases Nat.mul_eq_zero.1 h0 with h0 | h0 <;> contradiction
       simp only [Instr.buildSlice, Sem.run_bind, j2 hu, Result.andThen_ok, z7 hi, hbig, if_false, hne, h1, Sem.run_pure, h3, newRow, run_newObj]
def ac3 (P : Program) (base : Nat) (t : TypeId) (l c : V) : Option Eff :=
 match l, c with
 | .int .i64 l, .int .i64 c => match P.underlying t with
  | some (.slice e) => match P.info? e with
   | some ie => bif Nat.beq ie.size 0 then none else match R1 P e with
    | some z => bif V.withins (fun _ => false) z then
      some (.sl (.o base) ie.size 0 0 0 l.toNat (some c.toNat), [(.o base, .rows ie.size c.toNat (fun _ => z) false)], [0 ≤ l ∧ l ≤ c, (ie.bytes : Int) * c ≤ 281474976710656, c ≤ 281474976710656])
     else none
    | none => none
   | none => none
  | _ => none
 | _, _ => none
theorem ay9 {base : Nat} {t : TypeId} {l c : V} {xl xc : Value} {r : Eff} (h : ac3 P base t l c = some r) (hc : All r.2.2) (hl : c9 U ρ l xl) (hcc : c9 U ρ c xc) {w : World} (H : HRel U ρ [] w) (hf : ρ (.o base) = none) :
  ∃ x w' U' ρ', (Instr.makeSlice t xl xc).run P w = .ok x w' ∧ Leaves U ρ [] w r.1 r.2.1 x U' ρ' w' := by
 unfold ac3 at h
 split at h
 ·rename_i l c
  rw [c9] at hl hcc; subst hl; subst hcc
  cases hu : P.underlying t with
  | none => simp [hu] at h
  | some d =>
   cases d <;> simp only [hu, reduceCtorEq] at h
   rename_i e
   cases hi : P.info? e with
   | none => simp [hi] at h
   | some ie =>
    simp only [hi] at h
    cases hb : Nat.beq ie.size 0 <;> simp only [hb, cond_true, cond_false, reduceCtorEq] at h
    have hz0 : ie.size ≠ 0 := fun h0 => by rw [h0] at hb; exact absurd hb (by decide)
    cases hz : R1 P e with
    | none => simp [hz] at h
    | some z =>
     simp only [hz] at h
     cases hpure : V.withins (fun _ => false) z <;> simp only [hpure, cond_true, cond_false, reduceCtorEq, Option.some.injEq] at h
     subst h
     obtain ⟨⟨c1, c2⟩, c3, c4, _⟩ := hc
     obtain ⟨zv, h1, h2, hzs0⟩ := X2 (U := U) (ρ := ρ) hz w
     have hzs : zv.cells.size = ie.size := by simpa [szT, hi] using hzs0
     have wl : IntKind.i64.wrap l = l := (bx0 (by omega) (by omega)).wrap
     have wc : IntKind.i64.wrap c = c := (bx0 (by omega) (by omega)).wrap
     have hno : ¬ ((decide (c < 0) || decide ((ie.bytes : Int) * c > 2 ^ 48)) || decide (l < 0) || decide (l > c)) = true := by
      simp only [Bool.or_eq_true, decide_eq_true_eq, not_or, Int.not_lt]
      omega
     have cells : ∀ i, i < c.toNat → ∃ r, i6 U Env.none z r ∧ r.length = ie.size ∧ ∀ k, k < r.length → ((Array.range (c.toNat * ie.size)).map (zv.cells[· % zv.cells.size]!))[i * ie.size + k]? = r[k]? := by
      intro i hi'
      refine ⟨zv.cells.toList, ai3 z hpure h2, by simpa using hzs, fun k hk => ?_⟩
      simp only [Array.length_toList] at hk
      have hlt : i * ie.size + k < c.toNat * ie.size := by
       have : i * ie.size + ie.size ≤ c.toNat * ie.size := by rw [← Nat.succ_mul]; exact Nat.mul_le_mul_right _ hi'
       omega
      simp only [Array.getElem?_map, Array.getElem?_range, hlt, if_true, Option.map_some, Array.getElem?_toList]
      rw [hzs, show (i * ie.size + k) % ie.size = k by rw [Nat.add_comm, Nat.add_mul_mod_self_right, Nat.mod_eq_of_lt (by omega)]]
      rw [getElem!_pos zv.cells k (by omega), Array.getElem?_eq_getElem (by omega)]
     obtain ⟨U', ρ', h7⟩ := am0 (t := e) (len := l.toNat) (cap := c.toNat) (n := c.toNat) (f := fun _ => z) (w0 := w) (cells := (Array.range (c.toNat * ie.size)).map (zv.cells[· % zv.cells.size]!)) rfl H hf (by simp) (by omega) (Nat.le_refl _) cells
     refine ⟨_, _, U', ρ', ?_, h7⟩
     simp only [Instr.makeSlice, Sem.run_bind, j2 hu, Result.andThen_ok, asInt, asIntOf, Sem.run_pure, am8 hi, wl, wc, hno, if_false, run_askRoom, z7 hi, Bool.false_eq_true]
     by_cases hn0 : c.toNat * ie.size = 0
     ·have hr0 : ∀ f : Nat → Value, (Array.range 0).map f = #[] := fun f => by apply Array.ext'; simp
      simp only [hn0, if_true, Sem.run_bind, Sem.run_pure, Result.andThen_ok, newRow, run_newObj, hr0]
     ·simp only [hn0, if_false, Sem.run_bind, h1, Sem.run_pure, Result.andThen_ok, newRow, run_newObj]
 ·simp at h
end Sy
namespace Sy
open Go
variable {P : Program} {U : Imm} {ρ : Env}
def ai0 (P : Program) (t : TypeId) (a : V) (bs : c5) : Option Eff :=
 match a with
 | .ptr n es i o j => match bs with
  | [(n', b)] => bif n.beq n' then match D0 b es i with
    | some (cs, c1) => match Y2 P t cs o j with
     | some (v, c2) => some (v, [(n', b)], c1 ++ c2)
     | none => none
    | none => none
   else none
  | _ => none
 | _ => none
theorem bo5 {t : TypeId} {a : V} {x : Value} {bs : c5} {r : Eff} (h : ai0 P t a bs = some r) (hc : All r.2.2) (ha : c9 U ρ a x) {w : World} (H : HRel U ρ bs w) :
  ∃ y w' U' ρ', (Instr.loadAt t x).run P w = .ok y w' ∧ Leaves U ρ bs w r.1 r.2.1 y U' ρ' w' := by
 unfold ai0 at h
 cases a <;> simp only [reduceCtorEq] at h
 rename_i n es i o j
 split at h
 ·rename_i n' b
  cases hn : n.beq n' <;> simp only [hn, cond_true, cond_false, reduceCtorEq] at h
  have hn' := Nm.beq_iff.1 hn; subst hn'
  cases he : D0 b es i with
  | none => simp [he] at h
  | some p =>
   obtain ⟨cs, c1⟩ := p
   simp only [he] at h
   cases hl : Y2 P t cs o j with
   | none => simp [hl] at h
   | some q =>
    obtain ⟨v, c2⟩ := q
    simp only [hl, Option.some.injEq] at h
    subst h
    obtain ⟨h1, h2⟩ := f6.1 hc
    rw [c9] at ha
    obtain ⟨l, e1, e2, rfl⟩ := ha
    obtain ⟨ob, g1, g2, _⟩ := H.real (List.mem_singleton.2 rfl) e1 e2
    obtain ⟨y, g3, g4⟩ := aE9 g2 g1 he hl h1 h2
    exact ⟨y, w, U, ρ, by simp only [Instr.loadAt, Instr.sureAddr, Sem.run_bind, Sem.run_pure, Result.andThen_ok]; exact g3, Leaves.same H g4 rfl⟩
 ·simp at h
def aH3 (P : Program) (t : TypeId) (a v : V) (bs : c5) : Option Eff :=
 match a with
 | .ptr n es i o j => match bs with
  | [(n', b)] => bif n.beq n' && ((P.info? t).isSome && !(aA0 b && !V.within (fun _ => false) v)) then match D0 b es i with
    | some (cs, c1) => match ag8 P t cs o j v with
     | some (cs', c2) => some (.any, [(n', b5_ b i cs')], c1 ++ c2)
     | none => none
    | none => none
   else none
  | _ => none
 | _ => none
theorem bf0 {t : TypeId} {a v : V} {x y : Value} {bs : c5} {r : Eff} (h : aH3 P t a v bs = some r) (hc : All r.2.2) (ha : c9 U ρ a x) (hv : c9 U ρ v y) {w : World} (H : HRel U ρ bs w) :
  ∃ w' U' ρ', (Instr.storeAt t x y).run P w = .ok () w' ∧ Leaves U ρ bs w r.1 r.2.1 undef U' ρ' w' := by
 unfold aH3 at h
 cases a <;> simp only [reduceCtorEq] at h
 rename_i n es i o j
 split at h
 ·rename_i n' b
  cases hn : (n.beq n' && ((P.info? t).isSome && !(aA0 b && !V.within (fun _ => false) v))) <;> simp only [hn, cond_true, cond_false, reduceCtorEq] at h
  rw [Bool.and_eq_true, Bool.and_eq_true] at hn
  obtain ⟨hn1, hn2, hn3⟩ := hn
  have hn' := Nm.beq_iff.1 hn1; subst hn'
  obtain ⟨ti, hti⟩ := Option.isSome_iff_exists.1 hn2
  cases he : D0 b es i with
  | none => simp [he] at h
  | some p =>
   obtain ⟨cs, c1⟩ := p
   simp only [he] at h
   cases hl : ag8 P t cs o j v with
   | none => simp [hl] at h
   | some q =>
    obtain ⟨cs', c2⟩ := q
    simp only [hl, Option.some.injEq] at h
    subst h
    obtain ⟨h1, h2⟩ := f6.1 hc
    rw [c9] at ha
    obtain ⟨l, e1, e2, rfl⟩ := ha
    obtain ⟨ob, g1, g2, _⟩ := H.real (List.mem_singleton.2 rfl) e1 e2
    obtain ⟨ob', g3, g4⟩ := be_ g2 g1 hti he hl h1 h2 hv (by rw [Bool.not_eq_true'] at hn3; exact hn3)
    exact ⟨_, U, ρ, by simp only [Instr.storeAt, Instr.sureAddr, Sem.run_bind, Sem.run_pure, Result.andThen_ok]; exact g3, Leaves.set H e1 e2 rfl g4 (by rw [c9]; trivial)⟩
 ·simp at h
theorem Leaves.move {pre : c5} {w w' : World} {val : V} {x : Value} {n m : Nm} {b b' : B} {l : Loc} {o' : Obj} (H : HRel U ρ ((n, b) :: pre) w) (hm : ρ m = none) (hl : ρ n = some l) (hr : l.real = true)
  (e : w'.heap = w.heap.setIfInBounds l.blk o') (hb : r8 U (ρ.add m l) l.sz b' o') (hv : c9 U (ρ.add m l) val x) (eo : w'.os = w.os ∧ w'.output = w.output := by exact ⟨rfl, rfl⟩) : Leaves U ρ ((n, b) :: pre) w val ((m, b') :: pre) x U (ρ.add m l) w' := by
 obtain ⟨o, h2, h3, h4⟩ := H.real (List.mem_cons_self ..) hl hr
 have hlt := A2 h2
 have hle := Env.le_add hm l
 have hold : ∀ k, k ≠ l.blk → w'.heap[k]? = w.heap[k]? := fun k hk => by rw [e, Array.getElem?_setIfInBounds]; simp [Ne.symm hk]
 have hpm : ∀ b0, (m, b0) ∉ pre := fun b0 h => by obtain ⟨l0, h1, _⟩ := H.blk m b0 (List.mem_cons_of_mem _ h); rw [hm] at h1; cases h1
 have hne : ∀ k b0, (k, b0) ∈ pre → k ≠ m := fun k b0 h e => hpm b0 (e ▸ h)
 have hna : ∀ k b0, (k, b0) ∈ pre → k ≠ n := fun k b0 h e => by
  have := H.nd
  rw [List.map_cons, List.nodup_cons] at this
  exact this.1 (List.mem_map.2 ⟨(k, b0), h, e⟩)
 have hval : ∀ k b0 l0, (k, b0) ∈ pre → ρ.add m l k = some l0 → ρ k = some l0 := fun k b0 l0 h e => by simpa [Env.add, hne k b0 h] using e
 refine ⟨hv, ⟨fun k b0 h => ?_, fun k b1 k' b2 l1 l2 h1 h2 e1 e2 r1 r2 e3 => ?_, ?_, fun k c hk => ?_⟩, fun k l0 _ h => hle k l0 h, fun k l0 h => ?_, ⟨by rw [e]; simp, Imm.le_refl _, fun k hk hn => hold k ?_, fun k l0 hd h hr0 => ?_, fun _ _ h => .inl h, eo⟩⟩
 ·rcases List.mem_cons.1 h with h | h
  ·cases h
   exact ⟨l, Env.add_self, .inl ⟨hr, o', by rw [e, Array.getElem?_setIfInBounds]; simp [hlt], hb, h4⟩⟩
  ·obtain ⟨l0, g1, g2⟩ := H.blk k b0 (List.mem_cons_of_mem _ h)
   refine ⟨l0, hle _ _ g1, g2.imp ?_ id⟩
   rintro ⟨hr0, ob, g3, g4, g5⟩
   refine ⟨hr0, ob, ?_, r8.mono (Imm.le_refl _) hle g4, g5⟩
   rw [hold _ fun hk => hna k b0 h (H.inj k b0 n b l0 l (List.mem_cons_of_mem _ h) (List.mem_cons_self ..) g1 hl hr0 hr hk)]
   exact g3
 ·rcases List.mem_cons.1 h1 with h1 | h1 <;> rcases List.mem_cons.1 h2 with h2 | h2
  ·cases h1; cases h2; rfl
  ·cases h1
   rw [Env.add_self] at e1; cases e1
   exact absurd (H.inj n b k' b2 l l2 (List.mem_cons_self ..) (List.mem_cons_of_mem _ h2) hl (hval _ _ _ h2 e2) hr r2 e3) (Ne.symm (hna k' b2 h2))
  ·cases h2
   rw [Env.add_self] at e2; cases e2
   exact absurd (H.inj n b k b1 l l1 (List.mem_cons_self ..) (List.mem_cons_of_mem _ h1) hl (hval _ _ _ h1 e1) hr r1 e3.symm) (Ne.symm (hna k b1 h1))
  ·exact H.inj k b1 k' b2 l1 l2 (List.mem_cons_of_mem _ h1) (List.mem_cons_of_mem _ h2) (hval _ _ _ h1 e1) (hval _ _ _ h2 e2) r1 r2 e3
 ·have := H.nd
  rw [List.map_cons, List.nodup_cons] at this ⊢
  refine ⟨fun h => ?_, this.2⟩
  obtain ⟨⟨k, b0⟩, h1, rfl⟩ := List.mem_map.1 h
  exact hpm b0 h1
 ·obtain ⟨el, fr, h⟩ := H.imm k c hk
  exact ⟨el, fr, by rw [hold k (fun hk' => by rw [hk', h4] at hk; cases hk)]; exact h⟩
 ·by_cases hk : k = m
  ·subst hk; exact .inl ⟨b', List.mem_cons_self ..⟩
  ·exact .inr (by simpa [Env.add, hk] using h)
 ·intro hk'; exact hn n l ⟨b, List.mem_cons_self ..⟩ hl hr hk'.symm
 ·obtain ⟨b1, h1⟩ := hd
  rcases List.mem_cons.1 h1 with h1 | h1
  ·cases h1
   rw [Env.add_self] at h; cases h
   exact .inr ⟨n, l, ⟨b, List.mem_cons_self ..⟩, hl, hr, rfl⟩
  ·exact .inr ⟨k, l0, ⟨b1, List.mem_cons_of_mem _ h1⟩, hval _ _ _ h1 h, hr0, rfl⟩
def an2 (es : Nat) (v : V) (bs : c5) : Option (Nat × (Nat → List V) × List Prop) :=
 match v with
 | .snil => match bs with
  | [] => some (0, fun _ => [], [])
  | _ => none
 | .ros es' len f _ => match bs with
  | [] => bif Nat.beq es es' then some (len, f, [∀ k, k < len → m8 (f k) = true]) else none
  | _ => none
 | .str s => match bs with
  | [] => bif Nat.beq es 1 then some (s.size, fun k => [.int .u8 (s9 s k)], []) else none
  | _ => none
 | .sl n es' i o j len _ => match bs with
  | [(n', .rows es2 nn f _)] => bif n.beq n' && (Nat.beq es es' && (Nat.beq es es2 && (Nat.beq o 0 && Nat.beq j 0))) then
    some (len, fun k => f (i + k), [i + len ≤ nn, ∀ k, k < len → m8 (f (i + k)) = true])
   else none
  | [(n', .flat cs)] => bif n.beq n' && (Nat.beq es 1 && Nat.beq es' 0) then match u4 cs o with
    | some (_, .seg k m xs :: _) => some (len, fun q => [.int k (xs.getD (j + q) 0)], [j + len ≤ m])
    | _ => none
   else none
  | _ => none
 | _ => none
def ag6 (P : Program) (v : V) (tx : TypeId) : Bool := match v with
 | .str _ => match P.underlying tx with
  | some .string => true
  | _ => false
 | _ => match P.underlying tx with
  | some (.slice _) => true
  | _ => false
def Rows (U : Imm) (es m : Nat) (g : Nat → List V) (l : List Value) : Prop :=
 l.length = m * es ∧ ∀ i, i < m → ∃ r, i6 U Env.none (g i) r ∧ r.length = es ∧ ∀ k, k < r.length → l[i * es + k]? = r[k]?
theorem Q8 {es base m : Nat} {g : Nat → List V} {c : Array Value} (h : ∀ i, i < m → ∃ r, i6 U Env.none (g i) r ∧ r.length = es ∧ ∀ k, k < r.length → c[base + i * es + k]? = r[k]?) :
  ∃ l, Rows U es m g l ∧ ∀ j v, l[j]? = some v → c[base + j]? = some v := by
 have hsz : base + m * es ≤ c.size ∨ m * es = 0 := by
  rcases Nat.eq_zero_or_pos m with h0 | h0
  ·right; rw [h0, Nat.zero_mul]
  ·rcases Nat.eq_zero_or_pos es with h1 | h1
   ·right; rw [h1, Nat.mul_zero]
   ·obtain ⟨r, _, h3, h4⟩ := h (m - 1) (by omega)
    have := h4 (es - 1) (by omega)
    left
    have h5 : r[es - 1]? ≠ none := by rw [ne_eq, List.getElem?_eq_none_iff]; omega
    rw [← this, ne_eq, Array.getElem?_eq_none_iff] at h5
    have : m * es = (m - 1) * es + es := by rw [← Nat.succ_mul]; congr 1; omega
    omega
 refine ⟨(c.toList.drop base).take (m * es), ⟨?_, fun i hi => ?_⟩, fun j v hj => ?_⟩
 ·rcases hsz with h0 | h0
  ·simp; omega
  ·simp [h0]
 ·obtain ⟨r, h2, h3, h4⟩ := h i hi
  refine ⟨r, h2, h3, fun k hk => ?_⟩
  have hlt : i * es + k < m * es := by
   have : i * es + es ≤ m * es := by rw [← Nat.succ_mul]; exact Nat.mul_le_mul_right _ hi
   omega
  rw [List.getElem?_take_of_lt hlt, List.getElem?_drop, Array.getElem?_toList, ← h4 k hk]
  congr 1; omega
 ·have hlt : j < m * es := by
   rcases Nat.lt_or_ge j (m * es) with h0 | h0
   ·exact h0
   ·rw [List.getElem?_eq_none (by simp; omega)] at hj; cases hj
  rw [List.getElem?_take_of_lt hlt, List.getElem?_drop, Array.getElem?_toList] at hj
  exact hj
theorem bt0 {es m : Nat} {g : Nat → List V} {l : List Value} (h : Rows U es m g l) (hs : ∀ k, k < m → m8 (g k) = true) : ∀ u ∈ l, u.oneCell' = true := by
 intro u hu
 obtain ⟨j, hj, rfl⟩ := List.mem_iff_getElem.1 hu
 have hes : 0 < es := by
  rcases Nat.eq_zero_or_pos es with h0 | h0
  ·rw [h.1, h0, Nat.mul_zero] at hj; omega
  ·exact h0
 have hi : j / es < m := by
  rw [Nat.div_lt_iff_lt_mul hes, ← h.1]; exact hj
 obtain ⟨r, h2, h3, h4⟩ := h.2 (j / es) hi
 have := h4 (j % es) (by rw [h3]; exact Nat.mod_lt _ hes)
 have e : j / es * es + j % es = j := by rw [Nat.mul_comm]; exact Nat.div_add_mod j es
 rw [e, List.getElem?_eq_getElem hj] at this
 exact aa0 (hs _ hi) h2 _ (List.mem_of_getElem? this.symm)
theorem am6 {es : Nat} {tx e : TypeId} {a : Addr} {cap m : Nat} {g : Nat → List V} {l : List Value} {w : World} (hk : P.underlying tx = some (.slice e)) (hl : Rows U es m g l)
  (h : ∀ j v, l[j]? = some v → w.cell? (a.add j) = some v) (hs : ∀ k, k < m → m8 (g k) = true) : Src P es tx (.slice (some a) m cap) m l w :=
 Src.ofSlice w hk a m cap l hl.1 h (bt0 hl hs)
theorem aM1 {es : Nat} {v : V} {bs : c5} {m : Nat} {g : Nat → List V} {cs : List Prop} {tx : TypeId} {x : Value} {w : World} (h : an2 es v bs = some (m, g, cs)) (hk : ag6 P v tx = true) (hc : All cs) (hv : c9 U ρ v x) (H : HRel U ρ bs w) :
  ∃ l, Src P es tx x m l w ∧ Rows U es m g l := by
 have slk : ∀ {v : V}, (∀ s, v ≠ .str s) → ag6 P v tx = true → ∃ e, P.underlying tx = some (.slice e) := by
  intro v hv hk
  unfold ag6 at hk
  cases v <;> simp only at hk <;> first
   | exact (hv _ rfl).elim
   | (cases hu : P.underlying tx with
      | none => simp [hu] at hk
      | some d => cases d <;> simp only [hu, Bool.false_eq_true, reduceCtorEq] at hk <;> exact ⟨_, rfl⟩)
 unfold an2 at h
 split at h
 ·obtain ⟨e, hke⟩ := slk (by simp) hk
  split at h <;> simp only [reduceCtorEq, Option.some.injEq, Prod.mk.injEq] at h
  obtain ⟨rfl, rfl, rfl⟩ := h
  rw [c9] at hv; subst hv
  exact ⟨[], Src.ofNil w hke 0, by simp, fun i hi => by omega⟩
 ·obtain ⟨e, hke⟩ := slk (by simp) hk
  rename_i es' len f clip
  cases bs <;> simp only [reduceCtorEq] at h
  cases hb : Nat.beq es es' <;> simp only [hb, cond_true, cond_false, reduceCtorEq, Option.some.injEq, Prod.mk.injEq] at h
  obtain ⟨rfl, rfl, rfl⟩ := h
  have := Nat.eq_of_beq_eq_true hb; subst this
  rw [c9] at hv
  obtain ⟨a, cp, rfl, h2, h3, h4⟩ := hv
  rcases Nat.eq_zero_or_pos len with h0 | h0
  ·subst h0
   refine ⟨[], ?_, by simp, fun i hi => by omega⟩
   cases a with
   | none => exact Src.ofNil w hke cp
   | some a => exact Src.ofSlice w hke a 0 cp [] (by simp) (by simp) (by simp)
  ·obtain ⟨b, base, c, rfl, hU, _⟩ := h4 0 h0
   obtain ⟨el, fr, hw⟩ := H.imm b c hU
   obtain ⟨l, h5, h6⟩ := Q8 (U := U) (c := c) (base := base) (g := f) (m := len) (es := es) (fun i hi => by
    obtain ⟨b', base', c', e1, hU', l', h7, h8, h9⟩ := h4 i hi
    cases e1
    rw [hU] at hU'; cases hU'
    exact ⟨l', h7, h8, h9⟩)
   exact ⟨l, am6 hke h5 (fun j v hj => by rw [Addr.add_lit, I1 hw]; exact h6 j v hj) hc.1, h5⟩
 ·rename_i s
  cases bs <;> simp only [reduceCtorEq] at h
  cases hb : Nat.beq es 1 <;> simp only [hb, cond_true, cond_false, reduceCtorEq, Option.some.injEq, Prod.mk.injEq] at h
  obtain ⟨rfl, rfl, rfl⟩ := h
  have := Nat.eq_of_beq_eq_true hb; subst this
  rw [c9] at hv; subst hv
  have hk' : P.underlying tx = some .string := by
   unfold ag6 at hk
   cases hu : P.underlying tx with
   | none => simp [hu] at hk
   | some d => cases d <;> simp only [hu, Bool.false_eq_true, reduceCtorEq] at hk <;> rfl
  refine ⟨byteCells s, Src.ofString w hk' s, by rw [byteCells_length, Nat.mul_one], fun i hi => ?_⟩
  refine ⟨[.int .u8 (s9 s i)], (v7 rfl).2 ⟨_, [], rfl, by rw [c9], by rw [i6]⟩, rfl, fun k hk => ?_⟩
  simp only [List.length_singleton, Nat.lt_one_iff] at hk
  subst hk
  have hi' : i < s.data.toList.length := by rw [Array.length_toList]; exact hi
  simp only [byteCells, Nat.mul_one, Nat.add_zero, List.getElem?_map, List.getElem?_eq_getElem hi', Option.map_some, List.getElem?_cons_zero, s9, List.getD_eq_getElem?_getD, Option.getD_some]
 ·obtain ⟨e, hke⟩ := slk (by simp) hk
  rename_i n es' i o j len cap
  split at h
  ·rename_i n' es2 nn f gr
   cases hb : (n.beq n' && (Nat.beq es es' && (Nat.beq es es2 && (Nat.beq o 0 && Nat.beq j 0)))) <;> simp only [hb, cond_true, cond_false, reduceCtorEq, Option.some.injEq, Prod.mk.injEq] at h
   obtain ⟨rfl, rfl, rfl⟩ := h
   simp only [Bool.and_eq_true] at hb
   obtain ⟨b1, b2, b3, b4, b5⟩ := hb
   have := Nm.beq_iff.1 b1; subst this
   have := Nat.eq_of_beq_eq_true b2; subst this
   have := Nat.eq_of_beq_eq_true b3; subst this
   have := Nat.eq_of_beq_eq_true b4; subst this
   have := Nat.eq_of_beq_eq_true b5; subst this
   obtain ⟨c1, c2, _⟩ := hc
   rw [c9] at hv
   obtain ⟨l, cp, e1, e2, e3, e4⟩ := hv
   rcases e4 with ⟨hr, rfl, _⟩ | ⟨hr, rfl, e5, e6⟩
   ·obtain ⟨ob, g1, g2, _⟩ := H.real (List.mem_singleton.2 rfl) e1 hr
    obtain ⟨c, el, lo, hi, rfl, q2, q3, q4, q5, q6⟩ := g2
    obtain ⟨l', h5, h6⟩ := Q8 (U := U) (c := c) (base := i * es) (g := fun k => f (i + k)) (m := len) (es := es) (fun q hq => by
     obtain ⟨r, h7, h8, h9⟩ := q6 (i + q) (by omega)
     exact ⟨r, h7, h8, fun k hk => by rw [← h9 k hk]; congr 1; rw [Nat.add_mul]⟩)
    exact ⟨l', am6 hke h5 (fun j v hj => by rw [Addr.add_lit, I1 g1]; simp only [Nat.add_zero]; exact h6 j v hj) c2, h5⟩
   ·subst e5
    exact ⟨[], Src.ofNil w hke 0, by simp, fun i hi => by omega⟩
  ·rename_i n' cs0
   cases hb : (n.beq n' && (Nat.beq es 1 && Nat.beq es' 0)) <;> simp only [hb, cond_true, cond_false, reduceCtorEq] at h
   simp only [Bool.and_eq_true] at hb
   obtain ⟨b1, b2, b3⟩ := hb
   have := Nm.beq_iff.1 b1; subst this
   have := Nat.eq_of_beq_eq_true b2; subst this
   have := Nat.eq_of_beq_eq_true b3; subst this
   split at h
   ·rename_i pa k mm xs rest hs
    simp only [Option.some.injEq, Prod.mk.injEq] at h
    obtain ⟨rfl, rfl, rfl⟩ := h
    have c1 := hc.1
    rw [c9] at hv
    obtain ⟨l, cp, e1, e2, e3, e4⟩ := hv
    rcases e4 with ⟨hr, rfl, _⟩ | ⟨hr, rfl, e5, e6⟩
    ·obtain ⟨ob, g1, g2, _⟩ := H.real (List.mem_singleton.2 rfl) e1 hr
     obtain ⟨c, el, lo, hi, rfl, q2, q3, q4⟩ := g2
     obtain ⟨rfl, hsz⟩ := u9 hs
     obtain ⟨la, lb, ec, h5, h6⟩ := m4.1 q4
     rw [i6] at h6
     obtain ⟨l1, l2, rfl, h7, h8⟩ := h6
     have hla := h5.len; rw [hsz] at hla
     obtain ⟨hl1, hlen⟩ : l1 = xs.map (Value.int k) ∧ xs.length = mm := by
      rcases h7 with ⟨k2, m2, xs2, ee, h9, rfl⟩ | ⟨h9, _⟩
      ·cases ee; exact ⟨rfl, h9⟩
      ·simp [V.cell] at h9
     subst hl1
     have hget : ∀ q, q < xs.length → c[o + q]? = some (Value.int k (xs.getD q 0)) := by
      intro q hq
      rw [← Array.getElem?_toList, ec, List.getElem?_append_right (by omega), hla, Nat.add_sub_cancel_left, List.getElem?_append_left (by simpa using hq), List.getElem?_map, List.getElem?_eq_getElem hq]
      simp [List.getD_eq_getElem?_getD, List.getElem?_eq_getElem hq]
     have hrows : Rows U 1 len (fun q => [V.int k (xs.getD (j + q) 0)]) ((List.range len).map fun q => Value.int k (xs.getD (j + q) 0)) := by
      refine ⟨by simp, fun q hq => ⟨[Value.int k (xs.getD (j + q) 0)], (v7 rfl).2 ⟨_, [], rfl, by rw [c9], by rw [i6]⟩, rfl, fun t ht => ?_⟩⟩
      simp only [List.length_singleton, Nat.lt_one_iff] at ht
      subst ht
      simp [hq]
     refine ⟨_, am6 hke hrows (fun q v hq => ?_) fun _ _ => rfl, hrows⟩
     have hq1 : q < len := by
      rcases Nat.lt_or_ge q len with h0 | h0
      ·exact h0
      ·rw [List.getElem?_eq_none (by simpa using h0)] at hq; cases hq
     rw [List.getElem?_map, List.getElem?_range hq1] at hq
     simp only [Option.map_some, Option.some.injEq] at hq
     subst hq
     rw [Addr.add_lit, I1 g1, ← hget (j + q) (by omega)]
     congr 1; simp only [Nat.mul_zero, Nat.zero_add]; omega
    ·subst e5
     exact ⟨[], Src.ofNil w hke 0, by simp, fun i hi => by omega⟩
   ·simp at h
  ·simp at h
 ·simp at h
def l9 : List V → Int
 | [.int _ n] => n
 | _ => 0
def isB : List V → Bool
 | [.int k _] => decide (k = .u8)
 | _ => false
def E5 (m : Nat) (g : Nat → List V) : ByteArray := ⟨((List.range m).map fun k => UInt8.ofNat (l9 (g k)).toNat).toArray⟩
theorem bn9 {v : List V} (h : isB v = true) : v = [.int .u8 (l9 v)] := by
 unfold isB at h
 split at h
 ·have := of_decide_eq_true h; subst this; rfl
 ·simp at h
def au7 (c : Value) (s : ByteArray) : Sem (ForInStep ByteArray) := do
 let .int .u8 n := c | stuck "bytesToString: byte expected"
 pure (ForInStep.yield (s.push (UInt8.ofNat n.toNat)))
theorem aM2 (w : World) : ∀ (xs : List Int) (s : ByteArray), (forIn (xs.map (Value.int .u8)) s au7).run P w = .ok ⟨s.data ++ (xs.map fun n => UInt8.ofNat n.toNat).toArray⟩ w
 | [], s => by simp [Sem.run_pure]
 | x :: xs, s => by
  rw [List.map_cons, List.forIn_cons, Sem.run_bind]
  have : (au7 (.int .u8 x) s).run P w = .ok (.yield (s.push (UInt8.ofNat x.toNat))) w := rfl
  rw [this, Result.andThen_ok]
  simp only
  rw [aM2 w xs]
  simp [ByteArray.push]
theorem ak7 {tx : TypeId} {a : Option Addr} {len cp m : Nat} {g : Nat → List V} {news : List Value} {w : World} (hS : Src P 1 tx (.slice a len cp) m news w) (hR : Rows U 1 m g news) (hb : ∀ k, k < m → isB (g k) = true) :
  (Conv.bytesToString (.slice a len cp)).run P w = .ok (.string (E5 m g)) w := by
 have hl := hS.len w
 have hc := hS.cells
 have hnews : news = ((List.range m).map fun k => l9 (g k)).map (Value.int .u8) := by
  apply List.ext_getElem?
  intro q
  rcases Nat.lt_or_ge q m with h0 | h0
  ·obtain ⟨r, h1, h2, h3⟩ := hR.2 q h0
   rw [bn9 (hb q h0)] at h1
   obtain ⟨x, r', rfl, h4, h5⟩ := (v7 rfl).1 h1
   rw [i6] at h5; subst h5
   rw [c9] at h4; subst h4
   have := h3 0 (by simp)
   rw [Nat.mul_one, Nat.add_zero] at this
   rw [this]; simp [h0]
  ·rw [List.getElem?_eq_none (by rw [hR.1]; omega), List.getElem?_eq_none (by simp; omega)]
 cases a with
 | none =>
  have : news = [] := by
   have e : (Builtin.firstCells 1 m (.slice none len cp)).run P w = .ok #[] w := rfl
   rw [e] at hc
   have := (Result.ok.inj hc).1
   simpa using this.symm
  have hm : m = 0 := by have := hR.1; rw [this] at this; simp_all
  subst hm
  rfl
 | some ad =>
  have hlm : len = m := by
   have e : (Builtin.lenOf (.slice (some ad) len cp)).run P w = .ok len w := rfl
   rw [e] at hl
   exact (Result.ok.inj hl).1
  subst hlm
  have hc' : (loadCells ad len).run P w = .ok news.toArray w := by
   have e : Builtin.firstCells 1 len (.slice (some ad) len cp) = loadCells ad (len * 1) := rfl
   rw [e, Nat.mul_one] at hc; exact hc
  unfold Conv.bytesToString
  simp only [Sem.run_bind, hc', Result.andThen_ok]
  show ((forIn news.toArray ByteArray.empty au7).run P w).andThen _ = _
  rw [← Array.forIn_toList]
  simp only
  rw [hnews, aM2 w, Result.andThen_ok]
  simp only [Sem.run_pure]
  simp [E5, ByteArray.empty, List.map_map, Function.comp_def, ByteArray.emptyWithCapacity]
  rfl
def V7 (P : Program) (s d : TypeId) : Bool := match P.underlying s with
 | some (.slice e) => match P.underlying d with
  | some .string => match P.underlying e with
   | some (.int k) => decide (k = .u8)
   | _ => false
  | _ => false
 | _ => false
def bt6 (P : Program) (s d : TypeId) (v : V) (bs : c5) : Option (V × List Prop) :=
 bif V7 P s d then match v with
  | .str _ => none
  | v => match an2 1 v bs with
   | some (m, g, cs) => some (.str (E5 m g), (∀ k, k < m → isB (g k) = true) :: cs)
   | none => none
 else none
theorem bL2 {s d : TypeId} {v r : V} {x : Value} {bs : c5} {cs : List Prop} {w : World} (h : bt6 P s d v bs = some (r, cs)) (hc : All cs) (hv : c9 U ρ v x) (H : HRel U ρ bs w) :
  ∃ y, (convert s d x).run P w = .ok y w ∧ c9 U ρ r y := by
 unfold bt6 at h
 cases hb : V7 P s d <;> simp only [hb, cond_true, cond_false, reduceCtorEq] at h
 have key : ∀ (m : Nat) (g : Nat → List V) (cs' : List Prop), (∀ s0, v ≠ .str s0) → an2 1 v bs = some (m, g, cs') → r = .str (E5 m g) → cs = (∀ k, k < m → isB (g k) = true) :: cs' → ∃ y, (convert s d x).run P w = .ok y w ∧ c9 U ρ r y := by
  intro m g cs' hns hs hr hcs
  subst hcs
  obtain ⟨hc1, hc2⟩ := hc
  unfold V7 at hb
  split at hb
  ·rename_i e hse
   split at hb
   ·rename_i hde
    split at hb
    ·rename_i k hke
     have := of_decide_eq_true hb; subst this
     have hk : ag6 P v s = true := by
      unfold ag6
      split
      ·exact (hns _ rfl).elim
      ·rw [hse]
     obtain ⟨news, h1, h2⟩ := aM1 hs hk hc2 hv H
     have hx : ∃ a l c, x = .slice a l c := by
      unfold an2 at hs
      cases v <;> simp only [reduceCtorEq] at hs
      ·exact (hns _ rfl).elim
      ·rw [c9] at hv; exact ⟨_, _, _, hv⟩
      ·obtain ⟨a, m, h⟩ := aH1 hv; exact ⟨_, _, _, h⟩
      ·rw [c9] at hv; obtain ⟨a, cp, h, _⟩ := hv; exact ⟨_, _, _, h⟩
     obtain ⟨a, l, c, rfl⟩ := hx
     refine ⟨.string (E5 m g), ?_, by rw [hr, c9]⟩
     have hbs := ak7 h1 h2 hc1
     simp only [convert, Sem.run_bind, j2 hse, j2 hde, Result.andThen_ok, j2 hke]
     exact hbs
    ·simp at hb
   ·simp at hb
  ·simp at hb
 split at h
 ·simp at h
 ·rename_i v' hns
  split at h
  ·rename_i m g cs' hs
   simp only [Option.some.injEq, Prod.mk.injEq] at h
   exact key m g cs' (fun s0 e => hns s0 e) hs h.1.symm h.2.symm
  ·simp at h
def r7 (m : Nat) (xs : List Int) (j cnt : Nat) (g : Nat → List V) : List Int := (List.range m).map fun q => bif Nat.ble j q && Nat.blt q (j + cnt) then l9 (g (q - j)) else xs.getD q 0
def bt3 : V → Option (Nat × (Nat → List V))
 | .snil => some (0, fun _ => [])
 | .ros es len f _ => bif Nat.beq es 1 then some (len, f) else none
 | _ => none
def isK (k : IntKind) : List V → Bool
 | [.int k' _] => decide (k' = k)
 | _ => false
theorem bn_ {k : IntKind} {v : List V} (h : isK k v = true) : v = [.int k (l9 v)] := by
 unfold isK at h
 split at h
 ·have := of_decide_eq_true h; subst this; rfl
 ·simp at h
theorem bL1 {s : V} {x : Value} {m n : Nat} {g : Nat → List V} {k : IntKind} {bs : c5} {w : World} (h : bt3 s = some (m, g)) (hn : n ≤ m) (hk : ∀ q, q < m → isK k (g q) = true) (hv : c9 U ρ s x) (H : HRel U ρ bs w) :
  (Builtin.lenOf x).run P w = .ok m w ∧ (Builtin.firstCells 1 n x).run P w = .ok ((List.range n).map fun q => Value.int k (l9 (g q))).toArray w := by
 unfold bt3 at h
 cases s <;> simp only [reduceCtorEq] at h
 ·simp only [Option.some.injEq, Prod.mk.injEq] at h
  obtain ⟨rfl, rfl⟩ := h
  rw [c9] at hv; subst hv
  have : n = 0 := by omega
  subst this
  exact ⟨rfl, rfl⟩
 ·rename_i es len f clip
  cases hb : Nat.beq es 1 <;> simp only [hb, cond_true, cond_false, reduceCtorEq, Option.some.injEq, Prod.mk.injEq] at h
  obtain ⟨rfl, rfl⟩ := h
  have := Nat.eq_of_beq_eq_true hb; subst this
  rw [c9] at hv
  obtain ⟨a, cp, rfl, h2, h3, h4⟩ := hv
  refine ⟨rfl, ?_⟩
  rcases Nat.eq_zero_or_pos n with h0 | h0
  ·subst h0
   cases a with
   | none => rfl
   | some a => exact run_firstCells_some w 1 0 a len cp [] (by simp) (by simp)
  ·obtain ⟨b, base, c, rfl, hU, _⟩ := h4 0 (by omega)
   obtain ⟨el, fr, hw⟩ := H.imm b c hU
   refine run_firstCells_some w 1 n _ len cp _ (by simp) fun q v hq => ?_
   have hq1 : q < n := by
    rcases Nat.lt_or_ge q n with h5 | h5
    ·exact h5
    ·rw [List.getElem?_eq_none (by simpa using h5)] at hq; cases hq
   rw [List.getElem?_map, List.getElem?_range hq1] at hq
   simp only [Option.map_some, Option.some.injEq] at hq
   subst hq
   obtain ⟨b', base', c', e1, hU', l', h7, h8, h9⟩ := h4 q (by omega)
   cases e1
   rw [hU] at hU'; cases hU'
   rw [bn_ (hk q (by omega))] at h7
   obtain ⟨y, r', rfl, h10, h11⟩ := (v7 rfl).1 h7
   rw [i6] at h11; subst h11
   rw [c9] at h10; subst h10
   have := h9 0 (by simp)
   rw [Addr.add_lit, I1 hw]
   simpa using this
def az6 (P : Program) (t : TypeId) (d s : V) (pre : c5) : Option (V × c5 × List Prop) :=
 match d with
 | .sl n es i o j len _ => match pre with
  | [(n', .flat cs)] => bif n.beq n' && (Nat.beq es 0 && (match P.underlying t with
    | some (.slice e) => J3 P e
    | _ => false)) then match u4 cs o with
    | some (a, .seg k m xs :: r) => match bt3 s with
     | some (ms, g) => some (.int .i64 ((Nat.min ms len : Nat) : Int), [(n', .flat (a ++ .seg k m (r7 m xs j (Nat.min ms len) g) :: r))], [j + len ≤ m, ∀ q, q < ms → isK k (g q) = true])
     | none => none
    | _ => none
   else none
  | _ => none
 | _ => none
theorem aC7 {t tx ty : TypeId} {d s : V} {x y : Value} {pre : c5} {r : Eff} {w : World} (h : az6 P t d s pre = some r) (hc : All r.2.2) (hd : c9 U ρ d x) (hs : c9 U ρ s y) (H : HRel U ρ pre w) :
  ∃ z w' U' ρ', (Builtin.copy_ #[t, tx] ty #[x, y]).run P w = .ok z w' ∧ Leaves U ρ pre w r.1 r.2.1 z U' ρ' w' := by
 unfold az6 at h
 split at h
 ·rename_i n es i o j len cap
  split at h
  ·rename_i n' cs
   cases hb : (n.beq n' && (Nat.beq es 0 && (match P.underlying t with
    | some (.slice e) => J3 P e
    | _ => false))) <;> simp only [hb, cond_true, cond_false, reduceCtorEq] at h
   rw [Bool.and_eq_true, Bool.and_eq_true] at hb
   obtain ⟨b1, b2, b3⟩ := hb
   have := Nm.beq_iff.1 b1; subst this
   have := Nat.eq_of_beq_eq_true b2; subst this
   split at b3
   ·rename_i e hu
    split at h
    ·rename_i a k m xs rr hsp
     split at h
     ·rename_i ms g hsrc
      simp only [Option.some.injEq] at h
      subst h
      obtain ⟨c1, c2, _⟩ := hc
      obtain ⟨_, hsz, _⟩ := J4 b3
      obtain ⟨hk0, _, _⟩ := J4 b3
      obtain ⟨k0, hu0⟩ := hk0
      obtain ⟨ie, hie⟩ := L6 hu0
      have hsize : ie.size = 1 := by have := hsz; rwa [szT, hie] at this
      obtain ⟨hlen, hcells⟩ := bL1 (P := P) hsrc (Nat.min_le_left ms len) c2 hs H
      rw [c9] at hd
      obtain ⟨l, cp, e1, e2, e3, e4⟩ := hd
      obtain ⟨l0, g1, g2⟩ := H.blk n (.flat cs) (List.mem_singleton.2 rfl)
      rw [e1] at g1; cases g1
      rcases e4 with ⟨hr, rfl, _⟩ | ⟨hr, _⟩
      ·obtain ⟨ob, q1, q2, q3⟩ := H.real (List.mem_singleton.2 rfl) e1 hr
       obtain ⟨c, el, lo, hi, rfl, q4, q5, q6⟩ := q2
       obtain ⟨rfl, hsz0⟩ := u9 hsp
       obtain ⟨la, lb, ec, h5, h6⟩ := m4.1 q6
       rw [i6] at h6
       obtain ⟨l1, l2, rfl, h7, h8⟩ := h6
       have hla := h5.len; rw [hsz0] at hla
       obtain ⟨hl1, hlx⟩ : l1 = xs.map (Value.int k) ∧ xs.length = m := by
        rcases h7 with ⟨k2, m2, xs2, ee, h9, rfl⟩ | ⟨h9, _⟩
        ·cases ee; exact ⟨rfl, h9⟩
        ·simp [V.cell] at h9
       subst hl1
       have hcs : c.size = o + m + l2.length := by
        rw [← Array.length_toList, ec, List.length_append, List.length_append, List.length_map, hla, hlx]; omega
       have hmin : Nat.min ms len ≤ len := Nat.min_le_right _ _
       have hst := Q0 (P := P) (b := l.blk) (off := o + j) (el := el) (lo := lo) (hi := hi) ((List.range (Nat.min ms len)).map fun q => Value.int k (l9 (g q))) 0 w c q1 q5 (by simp only [List.length_map, List.length_range]; omega) (by
        intro v hv
        obtain ⟨q, _, rfl⟩ := List.mem_map.1 hv
        rfl)
       refine ⟨.int .i64 ((Nat.min ms len : Nat) : Int), { w with heap := w.heap.setIfInBounds l.blk (.cells (H5 c (o + j + 0) ((List.range (Nat.min ms len)).map fun q => Value.int k (l9 (g q)))) el (lo, hi)) }, U, ρ, ?_, Leaves.set H e1 hr rfl ⟨_, el, lo, hi, rfl, by rw [C8]; exact q4, by rw [C8]; exact q5, ?_⟩ (by rw [c9])⟩
       ·unfold Builtin.copy_
        simp only [Nat.mul_zero, Nat.zero_add]
        have e0 : (#[t, tx] : Array TypeId)[0]? = some t := rfl
        have e1 : (#[Value.slice (some ⟨l.blk, o + j, none⟩) len cp, y] : Array Value)[0]? = some (Value.slice (some ⟨l.blk, o + j, none⟩) len cp) := rfl
        have e2 : (#[Value.slice (some ⟨l.blk, o + j, none⟩) len cp, y] : Array Value)[1]? = some y := rfl
        simp only [e0, e1, e2, Sem.run_bind, j2 hu, Result.andThen_ok, hlen, z7 hie, hsize, hcells, hst, Sem.run_pure, goInt]
       ·have hset : ∀ i, (H5 c (o + j + 0) ((List.range (Nat.min ms len)).map fun q => Value.int k (l9 (g q))))[i]? = if o + j + 0 ≤ i ∧ i < o + j + 0 + Nat.min ms len then some (Value.int k (l9 (g (i - (o + j + 0))))) else c[i]? := by
         intro i
         rw [Q2 _ _ _ (by simp only [List.length_map, List.length_range]; omega)]
         simp only [List.length_map, List.length_range]
         split
         ·rename_i hh
          rw [List.getElem?_map, List.getElem?_range (by omega)]; rfl
         ·rfl
        have hfin : (H5 c (o + j + 0) ((List.range (Nat.min ms len)).map fun q => Value.int k (l9 (g q)))).toList = la ++ ((r7 m xs j (Nat.min ms len) g).map (Value.int k) ++ l2) := by
         apply List.ext_getElem?
         intro i
         rw [Array.getElem?_toList, hset]
         have hc : ∀ i, c[i]? = (la ++ (xs.map (Value.int k) ++ l2))[i]? := fun i => by rw [← ec, Array.getElem?_toList]
         have hss : (r7 m xs j (Nat.min ms len) g).length = m := by simp [r7]
         rcases Nat.lt_or_ge i o with h1 | h1
         ·rw [if_neg (by omega), hc, List.getElem?_append_left (by omega), List.getElem?_append_left (by omega)]
         ·rcases Nat.lt_or_ge i (o + m) with h2 | h2
          ·rw [List.getElem?_append_right (by omega), hla, List.getElem?_append_left (by rw [List.length_map, hss]; omega), List.getElem?_map]
           have e3 : (r7 m xs j (Nat.min ms len) g)[i - o]? = some (bif Nat.ble j (i - o) && Nat.blt (i - o) (j + Nat.min ms len) then l9 (g (i - o - j)) else xs.getD (i - o) 0) := by
            unfold r7
            rw [List.getElem?_map, List.getElem?_range (by omega)]; rfl
           rw [e3]
           by_cases h3 : o + j + 0 ≤ i ∧ i < o + j + 0 + Nat.min ms len
           ·rw [if_pos h3]
            have e4 : (Nat.ble j (i - o) && Nat.blt (i - o) (j + Nat.min ms len)) = true := by
             rw [Bool.and_eq_true, Nat.ble_eq, Nat.blt_eq]; omega
            rw [e4, cond_true, Option.map_some, show i - (o + j + 0) = i - o - j by omega]
           ·rw [if_neg h3]
            have e4 : (Nat.ble j (i - o) && Nat.blt (i - o) (j + Nat.min ms len)) = false := by
             rw [Bool.and_eq_false_iff, ← Bool.not_eq_true, ← Bool.not_eq_true, Nat.ble_eq, Nat.blt_eq]; omega
            rw [e4, cond_false, Option.map_some, hc, List.getElem?_append_right (by omega), hla, List.getElem?_append_left (by simp; omega), List.getElem?_map, List.getElem?_eq_getElem (by omega)]
            simp [List.getD_eq_getElem?_getD, List.getElem?_eq_getElem (show i - o < xs.length by omega)]
          ·rw [if_neg (by omega), hc, List.getElem?_append_right (by omega), List.getElem?_append_right (by simp; omega), List.getElem?_append_right (by omega), List.getElem?_append_right (by rw [List.length_map, hss]; omega)]
           simp [hss, hlx]
        rw [hfin]
        refine m4.2 ⟨la, _, rfl, h5, ?_⟩
        rw [i6]
        exact ⟨_, l2, rfl, .inl ⟨k, m, _, rfl, by simp [r7], rfl⟩, h8⟩
      ·rcases g2 with ⟨hr', _⟩ | ⟨_, es', f', hf⟩
       ·rw [hr] at hr'; cases hr'
       ·cases hf
     ·simp at h
    ·simp at h
   ·simp at b3
  ·simp at h
 ·simp at h
def Imm.add (U : Imm) (b : Nat) (c : Array Value) : Imm := fun k => if k = b then some c else U k
theorem Leaves.newImm {w w' : World} {val : V} {x : Value} {c : Array Value} {el : TypeId} {fr : Nat × Nat} (H : HRel U ρ [] w) (hsz : w.heap.size ≤ w'.heap.size) (hold : ∀ k, k < w.heap.size → w'.heap[k]? = w.heap[k]?)
  (hnew : w'.heap[w.heap.size]? = some (.cells c el fr)) (eo : w'.os = w.os ∧ w'.output = w.output) (hv : c9 (U.add w.heap.size c) ρ val x) : Leaves U ρ [] w val [] x (U.add w.heap.size c) ρ w' := by
 have hU : ∀ b c', U b = some c' → b < w.heap.size := fun b c' h => by obtain ⟨el, fr, h1⟩ := H.imm b c' h; exact A2 h1
 refine ⟨hv, ⟨fun n b h => absurd h List.not_mem_nil, fun n b n' b' l l' h => absurd h List.not_mem_nil, List.nodup_nil, fun b c' h => ?_⟩, fun n l ⟨b, hb⟩ => absurd hb List.not_mem_nil, fun n l e => .inr e, ⟨hsz, fun b c' h => ?_, fun b hb _ => hold b hb, fun n l ⟨b, hb⟩ => absurd hb List.not_mem_nil, fun b c' h => ?_, eo⟩⟩
 ·unfold Imm.add at h
  split at h
  ·rename_i hb; subst hb; cases h; exact ⟨el, fr, hnew⟩
  ·obtain ⟨el', fr', h1⟩ := H.imm b c' h
   exact ⟨el', fr', by rw [hold b (hU b c' h)]; exact h1⟩
 ·unfold Imm.add
  rw [if_neg (by have := hU b c' h; omega)]; exact h
 ·unfold Imm.add at h
  split at h
  ·rename_i hb; subst hb; exact .inr (.inl (Nat.le_refl _))
  ·exact .inl h
def an4 (P : Program) (s d : TypeId) (v : V) : Option V := match P.underlying s with
 | some .string => match P.underlying d with
  | some (.slice e) => match P.underlying e with
   | some (.int k) => bif decide (k = .u8) then match v with
     | .str x => some (.ros 1 x.size (fun q => [.int .u8 (s9 x q)]) false)
     | _ => none
    else none
   | _ => none
  | _ => none
 | _ => none
theorem aK_ {s d : TypeId} {v r : V} {x : Value} {w : World} (h : an4 P s d v = some r) (hv : c9 U ρ v x) (H : HRel U ρ [] w) :
  ∃ y w' U' ρ', (convert s d x).run P w = .ok y w' ∧ Leaves U ρ [] w r [] y U' ρ' w' := by
 unfold an4 at h
 split at h
 ·rename_i hs
  split at h
  ·rename_i e hd
   split at h
   ·rename_i k hk
    cases hb : decide (k = .u8) <;> simp only [hb, cond_true, cond_false, reduceCtorEq] at h
    have := of_decide_eq_true hb; subst this
    split at h
    ·rename_i z
     simp only [Option.some.injEq] at h
     subst h
     rw [c9] at hv; subst hv
     simp only [convert, Sem.run_bind, j2 hs, j2 hd, Result.andThen_ok, j2 hk, Conv.stringToBytes, run_choose, newRow, run_newObj, Sem.run_pure, markStringish, run_shape, Question.forced, Bool.false_eq_true, if_false]
     generalize hcap : (Question.appendCap z.size 0 e).cut (w.tape w.drawn (Question.appendCap z.size 0 e)) = cap
     have hge : z.size ≤ cap := by rw [← hcap]; simp [Question.cut]
     generalize hc : (Array.map (fun b => Value.int IntKind.u8 ↑b.toNat) z.data ++ Array.replicate (cap - z.size) (Value.int IntKind.u8 0)) = c
     have hget : ∀ i, i < z.size → c[i]? = some (.int .u8 (s9 z i)) := by
      intro i hi
      have hi' : i < z.data.size := hi
      rw [← hc, Array.getElem?_append_left (by simpa using hi'), Array.getElem?_map, Array.getElem?_eq_getElem hi']
      simp only [s9, List.getD_eq_getElem?_getD, Array.getElem?_toList, Array.getElem?_eq_getElem hi', Option.map_some, Option.getD_some]
     have hsh : ∀ (t : Nat → Question → Nat) (dr : Nat), World.shape? { heap := w.heap.push (Obj.cells c e), tape := t, drawn := dr, os := w.os, output := w.output } w.heap.size = some (e, c.size) := by
      intro t dr; simp [World.shape?]
     simp only [hsh, run_freeze, Result.andThen_ok, Sem.run_pure]
     refine ⟨_, _, _, _, rfl, Leaves.newImm (c := c) (el := e) (fr := (c.size, c.size + 1)) H ?_ (fun k hk => ?_) ?_ ⟨rfl, rfl⟩ ?_⟩
     ·simp [World.freeze]
     ·simp only [World.freeze, Nat.one_ne_zero, if_false]
      rw [Array.getElem?_modify, if_neg (by omega), Array.getElem?_push, if_neg (by omega)]
     ·simp only [World.freeze, Nat.one_ne_zero, if_false]
      rw [Array.getElem?_modify, if_pos rfl]
      simp
     ·rw [c9]
      refine ⟨_, cap, rfl, hge, fun hh => absurd hh (by simp), fun i hi => ⟨w.heap.size, 0, c, rfl, by simp [Imm.add], [.int .u8 (s9 z i)], (v7 rfl).2 ⟨_, [], rfl, by rw [c9], by rw [i6]⟩, rfl, fun k hk => ?_⟩⟩
      simp only [List.length_singleton, Nat.lt_one_iff] at hk
      subst hk
      simp only [Nat.zero_add, Nat.mul_one, Nat.add_zero, List.getElem?_cons_zero]
      exact hget i hi
    ·simp at h
   ·simp at h
  ·simp at h
 ·simp at h
def ag0 (P : Program) (s d : TypeId) (v : V) (rd : c5) : Bool :=
 Nat.beq s d && ((match P.underlying d with
  | some (.slice e) => match P.underlying e with
   | some (.int k) => decide (k = .u8)
   | _ => false
  | _ => false) && (match v with
  | .sl n _ _ _ _ _ _ => match rd with
   | [(n', .rows _ _ _ g)] => n.beq n' && !g
   | _ => false
  | _ => false))
theorem aG8 {s d : TypeId} {v : V} {rd : c5} {x : Value} {w : World} (h : ag0 P s d v rd = true) (hv : c9 U ρ v x) (H : HRel U ρ rd w) :
  ∃ w', (convert s d x).run P w = .ok x w' ∧ Leaves U ρ rd w v rd x U ρ w' := by
 unfold ag0 at h
 simp only [Bool.and_eq_true] at h
 obtain ⟨h1, h2, h3⟩ := h
 have hsd := Nat.eq_of_beq_eq_true h1
 subst hsd
 split at h2
 ·rename_i e hd
  split at h2
  ·rename_i k hk
   have := of_decide_eq_true h2; subst this
   split at h3
   ·rename_i n es i o j len cap
    split at h3
    ·rename_i n' es2 m f g
     rw [Bool.and_eq_true] at h3
     obtain ⟨h4, h5⟩ := h3
     have := Nm.beq_iff.1 h4; subst this
     have hg : g = false := by simpa using h5
     subst hg
     obtain ⟨l0, g1, g2⟩ := H.blk _ _ (List.mem_cons_self ..)
     rcases g2 with ⟨hr, ob, q1, q2, q3⟩ | ⟨_, _, _, g2⟩
     ·have hv0 := hv
      rw [c9] at hv
      obtain ⟨lo, cp, e1, e2, e3, e4⟩ := hv
      rw [g1] at e1; cases e1
      rcases e4 with ⟨_, rfl, e5⟩ | ⟨hr', _⟩
      ·obtain ⟨c, el, lo2, hi, rfl, q4, q5, q6, q7, q8⟩ := q2
       have hmod : ∀ fr : Nat → Nat → Nat × Nat, w.heap.modify l0.blk (fun | .cells c elem (lo, hi) => .cells c elem (fr lo hi) | o => o) = w.heap.setIfInBounds l0.blk (.cells c el (fr lo2 hi)) := fun fr => by
        apply Array.ext_getElem?
        intro k
        rw [Array.getElem?_modify, Array.getElem?_setIfInBounds]
        by_cases hk : l0.blk = k
        ·subst hk
         rw [if_pos rfl, if_pos rfl, if_pos (A2 q1), q1]; rfl
        ·rw [if_neg hk, if_neg hk]
       have hfr : ∃ lo' hi', (if lo2 == hi then (c.size, c.size + 1) else (min lo2 c.size, max hi (c.size + 1))) = (lo', hi') ∧ c.size ≤ lo' := by
        rcases q5 with q5 | q5
        ·exact ⟨c.size, c.size + 1, by rw [if_pos (by rw [q5]; exact beq_self_eq_true _)], Nat.le_refl _⟩
        ·by_cases hb : (lo2 == hi) = true
         ·exact ⟨c.size, c.size + 1, by rw [if_pos hb], Nat.le_refl _⟩
         ·exact ⟨min lo2 c.size, max hi (c.size + 1), by rw [if_neg hb], by omega⟩
       obtain ⟨lo', hi', hfr, hle⟩ := hfr
       refine ⟨w.freeze ⟨l0.blk, c.size, none⟩ 1, ?_, Leaves.set H g1 hr (o' := .cells c el (lo', hi')) ?_ ⟨c, el, lo', hi', rfl, q4, .inr hle, q6, q7, q8⟩ hv0 ⟨rfl, rfl⟩⟩
       ·simp only [convert, Sem.run_bind, j2 hd, Result.andThen_ok, j2 hk, markStringish, run_shape, World.shape?, q1, run_freeze, Sem.run_pure, beq_self_eq_true]
       ·rw [← hfr]
        simp only [World.freeze, Nat.one_ne_zero, if_false]
        exact hmod fun lo hi => if lo == hi then (c.size, c.size + 1) else (min lo c.size, max hi (c.size + 1))
      ·rw [hr] at hr'; cases hr'
     ·cases g2
    ·simp at h3
   ·simp at h3
  ·simp at h2
 ·simp at h2
def aR6 (es : Nat) (v : V) (bs : c5) : Option (Nat × (Nat → List V) × List Prop) :=
 match v with
 | .snil => match bs with
  | [] => some (0, fun _ => [], [])
  | _ => none
 | .ros es' len f clip => match bs with
  | [] => bif clip && Nat.beq es es' then some (len, f, []) else none
  | _ => none
 | .sl n es' i o j len _ => match bs with
  | [(n', .rows es2 nn f _)] => bif n.beq n' && (Nat.beq es es' && (Nat.beq es es2 && (Nat.beq i 0 && (Nat.beq o 0 && Nat.beq j 0)))) then
    some (len, f, [len = nn])
   else none
  | _ => none
 | _ => none
def bW3 (v : V) (m : Nat) : List Prop := match v with
 | .ros .. => [0 < m]
 | _ => []
def m5 (len : Nat) (f g : Nat → List V) : Nat → List V := fun k => bif Nat.blt k len then f k else g (k - len)
theorem Rows.cat {es n m : Nat} {f g : Nat → List V} {a b : List Value} (ha : Rows U es n f a) (hb : Rows U es m g b) : Rows U es (n + m) (m5 n f g) (a ++ b) := by
 refine ⟨by rw [List.length_append, ha.1, hb.1, Nat.add_mul], fun i hi => ?_⟩
 by_cases h : i < n
 ·obtain ⟨r, h1, h2, h3⟩ := ha.2 i h
  refine ⟨r, by rw [m5, show Nat.blt i n = true by rw [Nat.blt_eq]; exact h]; exact h1, h2, fun k hk => ?_⟩
  have : i * es + es ≤ n * es := by rw [← Nat.succ_mul]; exact Nat.mul_le_mul_right _ h
  rw [List.getElem?_append_left (by rw [ha.1]; omega), h3 k hk]
 ·obtain ⟨r, h1, h2, h3⟩ := hb.2 (i - n) (by omega)
  have hf : Nat.blt i n = false := by
   cases hh : Nat.blt i n
   ·rfl
   ·rw [Nat.blt_eq] at hh; omega
  refine ⟨r, by rw [m5, hf]; exact h1, h2, fun k hk => ?_⟩
  have : n * es + (i - n) * es = i * es := by rw [← Nat.add_mul]; congr 1; omega
  rw [List.getElem?_append_right (by rw [ha.1]; omega), ← h3 k hk, ha.1]
  congr 1; omega
def U4 (P : Program) (base : Nat) (t tx : TypeId) (d s : V) (db sb : c5) : Option Eff :=
 match P.underlying t with
 | some (.slice e) => match P.info? e with
  | some ie => match ie.zero with
   | some z => bif Nat.beq z.cells.size ie.size && (Nat.ble 1 ie.bytes && ag6 P s tx) then
     match aR6 ie.size d db with
     | some (len, f, c1) => match an2 ie.size s sb with
      | some (m, g, c2) => some (.sl (.o base) ie.size 0 0 0 (len + m) none, (.o base, .rows ie.size (len + m) (m5 len f g) true) :: sb,
        c1 ++ (c2 ++ (bW3 d m ++ [(len + m) * ie.bytes ≤ 140737488355328])))
      | none => none
     | none => none
    else none
   | none => none
  | none => none
 | _ => none
theorem bE8 {es : Nat} {v : V} {bs rest : c5} {len : Nat} {f : Nat → List V} {cs : List Prop} {x : Value} {w : World} (h : aR6 es v bs = some (len, f, cs)) (hc : All cs) (hv : c9 U ρ v x) (H : HRel U ρ (bs ++ rest) w) :
  ∃ a cp olds, x = .slice a len cp ∧ len ≤ cp ∧ (Builtin.firstCells es len (.slice a len cp)).run P w.drew = .ok olds.toArray w.drew ∧ Rows U es len f olds ∧
   ((bs = [] ∧ cp = len ∧ (∀ m, All (bW3 v m) → m = 0 → a = none ∧ len = 0)) ∨
    (∃ n b l, bs = [(n, b)] ∧ ρ n = some l ∧ ((l.real = true ∧ a = some ⟨l.blk, 0, none⟩ ∧ cp * es ≤ l.sz ∧ ∃ (c : Array Value) (el : TypeId) (lo hi : Nat), w.heap[l.blk]? = some (.cells c el (lo, hi)) ∧ c.size = l.sz ∧ (hi = lo ∨ c.size ≤ lo) ∧ (∀ (j : Nat) (v : Value), olds[j]? = some v → c[j]? = some v)) ∨
     (l.real = false ∧ a = none ∧ len = 0 ∧ cp = 0)))) := by
 unfold aR6 at h
 split at h
 ·split at h <;> simp only [reduceCtorEq, Option.some.injEq, Prod.mk.injEq] at h
  obtain ⟨rfl, rfl, rfl⟩ := h
  rw [c9] at hv; subst hv
  exact ⟨none, 0, [], rfl, Nat.le_refl _, run_firstCells_none .., ⟨by simp, fun i hi => by omega⟩, .inl ⟨rfl, rfl, fun _ _ _ => ⟨rfl, rfl⟩⟩⟩
 ·rename_i es' len' f' clip
  cases bs <;> simp only [reduceCtorEq] at h
  cases hb : (clip && Nat.beq es es') <;> simp only [hb, cond_true, cond_false, reduceCtorEq, Option.some.injEq, Prod.mk.injEq] at h
  obtain ⟨rfl, rfl, rfl⟩ := h
  rw [Bool.and_eq_true] at hb
  have := Nat.eq_of_beq_eq_true hb.2; subst this
  rw [c9] at hv
  obtain ⟨a, cp, rfl, h2, h3, h4⟩ := hv
  have hcp := h3 hb.1
  subst hcp
  rcases Nat.eq_zero_or_pos cp with h0 | h0
  ·subst h0
   refine ⟨a, 0, [], rfl, Nat.le_refl _, ?_, ⟨by simp, fun i hi => by omega⟩, .inl ⟨rfl, rfl, fun m hm h0 => by have := hm.1; omega⟩⟩
   cases a with
   | none => exact run_firstCells_none ..
   | some a => exact run_firstCells_some (P := P) w.drew es 0 a 0 0 [] (by simp) (by simp)
  ·obtain ⟨b, base, c, rfl, hU, _⟩ := h4 0 h0
   obtain ⟨el, fr, hw⟩ := H.imm b c hU
   obtain ⟨l, h5, h6⟩ := Q8 (U := U) (c := c) (base := base) (g := f') (m := cp) (es := es) (fun i hi => by
    obtain ⟨b', base', c', e1, hU', l', h7, h8, h9⟩ := h4 i hi
    cases e1
    rw [hU] at hU'; cases hU'
    exact ⟨l', h7, h8, h9⟩)
   have hw' : w.drew.heap[b]? = some (.cells c el fr) := hw
   refine ⟨some ⟨b, base, none⟩, cp, l, rfl, Nat.le_refl _, run_firstCells_some (P := P) w.drew es cp _ cp cp l h5.1 (fun j v hj => by rw [Addr.add_lit, I1 hw']; exact h6 j v hj), h5, .inl ⟨rfl, rfl, fun m hm h0 => by have := hm.1; omega⟩⟩
 ·rename_i n es' i o j len' cap
  split at h
  ·rename_i n' es2 nn f' gr
   cases hb : (n.beq n' && (Nat.beq es es' && (Nat.beq es es2 && (Nat.beq i 0 && (Nat.beq o 0 && Nat.beq j 0))))) <;> simp only [hb, cond_true, cond_false, reduceCtorEq, Option.some.injEq, Prod.mk.injEq] at h
   obtain ⟨rfl, rfl, rfl⟩ := h
   simp only [Bool.and_eq_true] at hb
   obtain ⟨b1, b2, b3, b6, b4, b5⟩ := hb
   have := Nm.beq_iff.1 b1; subst this
   have := Nat.eq_of_beq_eq_true b2; subst this
   have := Nat.eq_of_beq_eq_true b3; subst this
   have := Nat.eq_of_beq_eq_true b4; subst this
   have := Nat.eq_of_beq_eq_true b5; subst this
   have := Nat.eq_of_beq_eq_true b6; subst this
   have hnn : len' = nn := hc.1
   subst hnn
   rw [c9] at hv
   obtain ⟨l, cp, e1, e2, e3, e4⟩ := hv
   rcases e4 with ⟨hr, rfl, e7⟩ | ⟨hr, rfl, e5, e6⟩
   ·obtain ⟨ob, g1, g2, _⟩ := H.real (b := .rows es len' f' gr) (by simp) e1 hr
    obtain ⟨c, el, lo, hi, rfl, q2, q3, q4, q5, q6⟩ := g2
    obtain ⟨l', h5, h6⟩ := Q8 (U := U) (c := c) (base := 0) (g := f') (m := len') (es := es) (fun q hq => by
     obtain ⟨r, h7, h8, h9⟩ := q6 q (by omega)
     exact ⟨r, h7, h8, fun k hk => by rw [← h9 k hk]; congr 1; omega⟩)
    have hw' : w.drew.heap[l.blk]? = some (.cells c el (lo, hi)) := g1
    refine ⟨some ⟨l.blk, 0, none⟩, cp, l', by simp, e2, run_firstCells_some (P := P) w.drew es len' _ len' cp l' h5.1 (fun j v hj => by rw [Addr.add_lit, I1 hw']; exact h6 j v hj), h5,
     .inr ⟨n, _, l, rfl, e1, .inl ⟨hr, rfl, by simpa using e7, c, el, lo, hi, g1, q2, q3, fun j v hj => by have := h6 j v hj; rwa [Nat.zero_add] at this⟩⟩⟩
   ·subst e5; subst e6
    exact ⟨none, 0, [], rfl, Nat.le_refl _, run_firstCells_none .., ⟨by simp, fun i hi => by omega⟩, .inr ⟨n, _, l, rfl, e1, .inr ⟨hr, rfl, rfl, rfl⟩⟩⟩
  ·simp at h
 ·simp at h
theorem aN1 (w : World) (o : Obj) : (w.drew.alloc o).heap = w.heap.push o := rfl
theorem au9 (z : Array Value) (n : Nat) : (Builtin.zeroCells z n).size = n * z.size := by simp [Builtin.zeroCells]
theorem ao1 {base : Nat} {t tx ty : TypeId} {d s : V} {db sb : c5} {r : Eff} {xd xs : Value} {w : World} (h : U4 P base t tx d s db sb = some r) (hc : All r.2.2) (hd : c9 U ρ d xd) (hs : c9 U ρ s xs)
  (H : HRel U ρ (db ++ sb) w) (hf : ρ (.o base) = none) : ∃ y w' U' ρ', (Builtin.append_ #[t, tx] ty #[xd, xs]).run P w = .ok y w' ∧ Leaves U ρ (db ++ sb) w r.1 r.2.1 y U' ρ' w' := by
 unfold U4 at h
 cases hu : P.underlying t with
 | none => simp [hu] at h
 | some dd =>
  cases dd <;> simp only [hu, reduceCtorEq] at h
  rename_i e
  cases hi : P.info? e with
  | none => simp [hi] at h
  | some ie =>
   simp only [hi] at h
   cases hz : ie.zero with
   | none => simp [hz] at h
   | some z =>
    simp only [hz] at h
    cases hb : (Nat.beq z.cells.size ie.size && (Nat.ble 1 ie.bytes && ag6 P s tx)) <;> simp only [hb, cond_true, cond_false, reduceCtorEq] at h
    simp only [Bool.and_eq_true] at hb
    obtain ⟨hb1, hb2, hb3⟩ := hb
    have hzs := Nat.eq_of_beq_eq_true hb1
    have hby := Nat.le_of_ble_eq_true hb2
    cases hdg : aR6 ie.size d db with
    | none => simp [hdg] at h
    | some q1 =>
     obtain ⟨len, f, c1⟩ := q1
     simp only [hdg] at h
     cases hsg : an2 ie.size s sb with
     | none => simp [hsg] at h
     | some q2 =>
      obtain ⟨m, g, c2⟩ := q2
      simp only [hsg, Option.some.injEq] at h
      subst h
      simp only [f6] at hc
      obtain ⟨k1, k2, k3, k4, _⟩ := hc
      obtain ⟨news, s1, s2⟩ := aM1 hsg hb3 k2 hs H.right
      obtain ⟨a, cp, olds, rfl, d1, d2, d3, d4⟩ := bE8 hdg k1 hd H
      have hbig : len + m ≤ 140737488355328 := Nat.le_trans (Nat.le_mul_of_pos_right _ hby) k4
      have hcat := Rows.cat d3 s2
      have hcl : (olds ++ news).length = (len + m) * ie.size := hcat.1
      by_cases hroom : len + m ≤ cp
      ·-- no new block
       have nothing : ∀ (l0 : c5), m = 0 → len = 0 → cp = 0 → a = none → (∀ n, c5.dom (((.o base, .rows ie.size (len + m) (m5 len f g) true) : Nm × B) :: (l0 ++ sb)) n → c5.dom ((((.o base, .rows ie.size (len + m) (m5 len f g) true) : Nm × B)) :: sb) n ∨ ∃ l, ρ n = some l) → l0 = db →
         ∃ y w' U' ρ', (Builtin.append_ #[t, tx] ty #[.slice a len cp, xs]).run P w = .ok y w' ∧ Leaves U ρ (db ++ sb) w (.sl (.o base) ie.size 0 0 0 (len + m) none) ((.o base, .rows ie.size (len + m) (m5 len f g) true) :: sb) y U' ρ' w' := by
        intro l0 e1 e2 e3 e4 e5 e6
        subst e6
        subst e1; subst e2; subst e3; subst e4
        have hn0 : news = [] := List.eq_nil_of_length_eq_zero (by rw [s2.1]; omega)
        subst hn0
        have hrun := run_append_nothing w t tx ty e ie hu hi none 0 0 (Nat.le_refl _) xs s1
        refine ⟨_, _, U, _, hrun, Leaves.drop (Leaves.newG (m := .o base) (l := ⟨0, 0, false⟩) H hf (Nat.le_refl _) (fun _ _ => rfl) (.inr ⟨rfl, _, _, rfl⟩) ?_) ?_ e5⟩
        ·rw [c9]; exact ⟨_, 0, Env.add_self, Nat.le_refl _, by simp, .inr ⟨rfl, rfl, rfl, rfl⟩⟩
        ·exact (List.sublist_append_right l0 sb).cons_cons _
       rcases d4 with ⟨e1, e2, e3⟩ | ⟨n, b, l, e1, e2, e3⟩
       ·have hm0 : m = 0 := by omega
        obtain ⟨e4, e5⟩ := e3 m k3 hm0
        exact nothing [] hm0 e5 (by omega) e4 (fun n h => .inl h) e1.symm
       ·rcases e3 with ⟨hr, e3, e4, c, el, lo, hi', e5, e6, e7, e8⟩ | ⟨hr, e3, e4, e5⟩
        ·subst e3; subst e1
         have hle : (len + m) * ie.size ≤ c.size := by rw [e6]; exact Nat.le_trans (Nat.mul_le_mul_right _ hroom) e4
         have hlm : len * ie.size + news.length ≤ c.size := by rw [s2.1, ← Nat.add_mul]; exact hle
         have hst := Q0 (P := P) (b := l.blk) (off := len * ie.size) (el := el) (lo := lo) (hi := hi') news 0 w c e5 e7 (by omega) s1.one
         have hrun : (Builtin.append_ #[t, tx] ty #[.slice (some ⟨l.blk, 0, none⟩) len cp, xs]).run P w = .ok (.slice (some ⟨l.blk, 0, none⟩) (len + m) cp) { w with heap := w.heap.setIfInBounds l.blk (.cells (H5 c (len * ie.size + 0) news) el (lo, hi')) } := by
          rcases s1.kind with ⟨e', hk⟩ | hk <;> simp [Builtin.append_, run_underlying hu, run_underlying hk, Go.sizeOf, typeInfo, hi, s1.len, hroom, s1.cells, Addr.add_lit, hst]
         refine ⟨_, _, U, _, hrun, Leaves.move H hf e2 hr rfl ⟨_, el, lo, hi', rfl, by rw [C8]; exact e6, by rw [C8]; exact e7, by rw [C8]; exact hle, by simp, fun i hi => ?_⟩ ?_⟩
         ·obtain ⟨r, g1, g2, g3⟩ := hcat.2 i hi
          refine ⟨r, g1, g2, fun k hk => ?_⟩
          rw [← g3 k hk, Q2 _ _ _ (by omega)]
          have hlt : i * ie.size + k < (len + m) * ie.size := by
           have : i * ie.size + ie.size ≤ (len + m) * ie.size := by rw [← Nat.succ_mul]; exact Nat.mul_le_mul_right _ hi
           omega
          rw [List.getElem?_append, d3.1]
          by_cases hh : i * ie.size + k < len * ie.size
          ·rw [if_pos hh, if_neg (by omega)]
           have hj : i * ie.size + k < olds.length := by rw [d3.1]; exact hh
           rw [List.getElem?_eq_getElem hj]
           exact e8 _ _ (List.getElem?_eq_getElem hj)
          ·rw [if_neg hh, if_pos (by rw [s2.1, Nat.add_zero, ← Nat.add_mul]; omega)]; rfl
         ·rw [c9]; exact ⟨l, cp, Env.add_self, hroom, by simp, .inl ⟨hr, by simp, by simpa using e4⟩⟩
        ·exact nothing db (by omega) e4 e5 e3 (fun k h => by
          obtain ⟨b', hb'⟩ := h
          rcases List.mem_cons.1 hb' with hb' | hb'
          ·cases hb'; exact .inl ⟨_, List.mem_cons_self ..⟩
          ·rcases List.mem_append.1 hb' with hb' | hb'
           ·rw [e1] at hb'; simp only [List.mem_singleton, Prod.mk.injEq] at hb'
            exact .inr ⟨l, by rw [hb'.1]; exact e2⟩
           ·exact .inl ⟨_, List.mem_cons_of_mem _ hb'⟩) rfl
      ·have hg : cp < len + m := by omega
       have hrun := run_append_grow_src w t tx ty e ie z hu hi hz a len cp olds d2 xs m news s1 hg (by omega) (growslice_fits hg k4)
       have hge := grownCap_ge w (len + m) cp e
       refine ⟨_, _, U, _, hrun, Leaves.drop (Leaves.new (m := .o base) (sz := grownCap w (len + m) cp e * ie.size) (b := .rows ie.size (len + m) (m5 len f g) true) H hf (aN1 _ _) ⟨_, e, 0, 0, rfl, ?_, .inl rfl, ?_, by simp, fun i hi => ?_⟩ ?_) ?_ (fun k h => ?_)⟩
       ·rw [Array.size_append, au9, hzs, List.size_toArray, hcl, ← Nat.add_mul]; congr 1; omega
       ·rw [Array.size_append, List.size_toArray, hcl]; omega
       ·obtain ⟨r, g1, g2, g3⟩ := hcat.2 i hi
        refine ⟨r, g1, g2, fun k hk => ?_⟩
        have hlt : i * ie.size + k < (len + m) * ie.size := by
         have : i * ie.size + ie.size ≤ (len + m) * ie.size := by rw [← Nat.succ_mul]; exact Nat.mul_le_mul_right _ hi
         omega
        rw [← g3 k hk, Array.getElem?_append_left (by rw [List.size_toArray, hcl]; exact hlt), List.getElem?_toArray]
       ·rw [c9]; exact ⟨_, _, Env.add_self, hge, by simp, .inl ⟨rfl, by simp, by simp⟩⟩
       ·exact (List.sublist_append_right db sb).cons_cons _
       ·obtain ⟨b', hb'⟩ := h
        rcases List.mem_cons.1 hb' with hb' | hb'
        ·cases hb'; exact .inl ⟨_, List.mem_cons_self ..⟩
        ·rcases List.mem_append.1 hb' with hb' | hb'
         ·obtain ⟨l, hl, _⟩ := H.left.blk _ _ hb'; exact .inr ⟨l, hl⟩
         ·exact .inl ⟨_, List.mem_cons_of_mem _ hb'⟩
end Sy
