/-
  Operations that leave the heap as it is: one function, one law (own work of this seat).
-/
import Derived.Test.YthifjamdfpjilaaSy8
namespace Sy
open Go

variable {P : Program} {U : Imm} {ρ : Env}

/-! ### Equality of plain values -/
def eqV (P : Program) (t : TypeId) (a b : V) : Option Bool :=
  match P.underlying t with
  | some .bool => match a, b with
    | .bool x, .bool y => some (x == y)
    | _, _ => none
  | some (.pointer _) => match a, b with
    | .pnil, .pnil => some true
    | .pnil, .ptr .. => some false
    | .pnil, .rop .. => some false
    | .ptr .., .pnil => some false
    | .rop .., .pnil => some false
    | _, _ => none
  | some (.slice _) => match a, b with
    | .snil, .snil => some true
    | _, _ => none
  | some (.map _ _) => match a, b with
    | .mpnil, .mpnil => some true
    | .mpnil, .mp .. => some false
    | .mp .., .mpnil => some false
    | _, _ => none
  | some (.func _ _ _) => match a, b with
    | .fnil, .fnil => some true
    | .fnil, .fn .. => some false
    | .fn .., .fnil => some false
    | _, _ => none
  | _ => none
theorem shape_ptr {n es i o j} {x : Value} (h : VRel U ρ (.ptr n es i o j) x) : ∃ a, x = .pointer (some a) := by
  rw [VRel] at h; obtain ⟨l, _, _, h⟩ := h; exact ⟨_, h⟩
theorem shape_rop {cs o j} {x : Value} (h : VRel U ρ (.rop cs o j) x) : ∃ a, x = .pointer (some a) := by
  rw [VRel] at h; obtain ⟨_, _, _, _, h, _⟩ := h; exact ⟨_, h⟩
theorem shape_sl {n es i o j l c} {x : Value} (h : VRel U ρ (.sl n es i o j l c) x) : ∃ a m, x = .slice a l m := by
  rw [VRel] at h; obtain ⟨_, _, _, _, _, ⟨_, rfl, _⟩ | ⟨_, rfl, rfl, _⟩⟩ := h <;> exact ⟨_, _, rfl⟩
theorem shape_mp {n} {x : Value} (h : VRel U ρ (.mp n) x) : ∃ a, x = .map (some a) := by
  rw [VRel] at h; obtain ⟨_, _, _, h⟩ := h; exact ⟨_, h⟩
theorem shape_fn {f a b} {x : Value} (h : VRel U ρ (.fn f a b) x) : ∃ l m, x = .func f l m := by
  rw [VRel] at h; obtain ⟨l, m, h, _⟩ := h; exact ⟨l, m, h⟩

theorem eqV_ok {t : TypeId} {a b : V} {x y : Value} {r : Bool} (h : eqV P t a b = some r) (ha : VRel U ρ a x) (hb : VRel U ρ b y) (d : Nat) (w : World) : (Op.equalIn (d + 1) t x y).run P w = .ok r w := by
  unfold eqV at h
  cases hu : P.underlying t with
  | none => simp [hu] at h
  | some ds =>
    cases ds <;> simp only [hu, reduceCtorEq] at h
    case bool =>
      split at h
      · simp only [Option.some.injEq] at h; subst h
        rw [VRel] at ha hb; subst ha; subst hb
        simp [Op.equalIn, run_under hu]
      · simp at h
    case pointer e =>
      split at h <;> simp only [reduceCtorEq, Option.some.injEq] at h <;> subst h
      · rw [VRel] at ha hb; subst ha; subst hb; simp [Op.equalIn, run_under hu]
      · obtain ⟨_, rfl⟩ := shape_ptr hb; rw [VRel] at ha; subst ha; simp [Op.equalIn, run_under hu]
      · obtain ⟨_, rfl⟩ := shape_rop hb; rw [VRel] at ha; subst ha; simp [Op.equalIn, run_under hu]
      · obtain ⟨_, rfl⟩ := shape_ptr ha; rw [VRel] at hb; subst hb; simp [Op.equalIn, run_under hu]
      · obtain ⟨_, rfl⟩ := shape_rop ha; rw [VRel] at hb; subst hb; simp [Op.equalIn, run_under hu]
    case slice e =>
      split at h <;> simp only [reduceCtorEq, Option.some.injEq] at h <;> subst h
      · rw [VRel] at ha hb; subst ha; subst hb; simp [Op.equalIn, run_under hu]
    case map k e =>
      split at h <;> simp only [reduceCtorEq, Option.some.injEq] at h <;> subst h
      · rw [VRel] at ha hb; subst ha; subst hb; simp [Op.equalIn, run_under hu]
      · obtain ⟨_, rfl⟩ := shape_mp hb; rw [VRel] at ha; subst ha; simp [Op.equalIn, run_under hu]
      · obtain ⟨_, rfl⟩ := shape_mp ha; rw [VRel] at hb; subst hb; simp [Op.equalIn, run_under hu]
    case func ps rs v =>
      split at h <;> simp only [reduceCtorEq, Option.some.injEq] at h <;> subst h
      · rw [VRel] at ha hb; subst ha; subst hb; simp [Op.equalIn, run_under hu]
      · obtain ⟨_, _, rfl⟩ := shape_fn hb; rw [VRel] at ha; subst ha; simp [Op.equalIn, run_under hu]
      · obtain ⟨_, _, rfl⟩ := shape_fn ha; rw [VRel] at hb; subst hb; simp [Op.equalIn, run_under hu]

/-! ### Equality of structs and arrays -/
theorem bytes_beq (a b : ByteArray) : (a == b) = decide (a = b) := by
  obtain ⟨a⟩ := a; obtain ⟨b⟩ := b
  show (a == b) = _
  by_cases h : a = b <;> simp [h]
def plainS (P : Program) (t : TypeId) : Bool := !P.stoodInHeld t
mutual
def eqG (P : Program) : Nat → TypeId → V → V → Option Bool
  | 0, _, _, _ => none
  | d + 1, t, a, b => match P.underlying t with
    | some (.int _) => match a with
      | .int k x => match b with
        | .int k' y => bif decide (k = k') then some (decide (x = y)) else none
        | _ => none
      | _ => none
    | some .string => match a with
      | .str x => match b with
        | .str y => some (decide (x = y))
        | _ => none
      | _ => none
    | some (.struct fs) => match a with
      | .agg xs => match b with
        | .agg ys => bif plainS P t then eqFs P d fs.toList xs ys else none
        | _ => none
      | _ => none
    | some (.array len e) => match a with
      | .agg xs => match xs with
        | [.seg k m l] => match b with
          | .agg ys => match ys with
            | [.seg k' m' l'] => bif intT P e && (Nat.beq m len && (Nat.beq m' len && decide (k = k'))) then some (decide (l = l')) else none
            | _ => none
          | _ => none
        | _ => none
      | _ => none
    | _ => eqV P t a b
def eqFs (P : Program) : Nat → List Field → List V → List V → Option Bool
  | 0, _, _, _ => none
  | d + 1, fs, xs, ys => match fs with
    | [] => some true
    | f :: fs => bif decide (f.name ≠ "_") then match partC P f.type xs f.offset with
        | none => none
        | some x => match partC P f.type ys f.offset with
          | none => none
          | some y => match eqG P d f.type x y with
            | none => none
            | some r => match eqFs P d fs xs ys with
              | none => none
              | some r' => some (r && r')
      else eqFs P d fs xs ys
end


def fsBody (P : Program) (D : Nat) (xs ys : Array Value) (f : Field) (_s : Option Bool × Unit) : Sem (ForInStep (Option Bool × Unit)) :=
  if f.name ≠ "_" then do
    let x ← part f.type xs f.offset
    let y ← part f.type ys f.offset
    let b ← Op.equalIn D f.type x y
    if (!b) = true then pure (ForInStep.done (some false, ())) else pure (ForInStep.yield (none, ()))
  else pure (ForInStep.yield (none, ()))

def arBody (D : Nat) (e : TypeId) (n : Nat) (xs ys : Array Value) (i : Nat) (_s : Option Bool × Unit) : Sem (ForInStep (Option Bool × Unit)) := do
  let x ← part e xs (i * n)
  let y ← part e ys (i * n)
  let b ← Op.equalIn D e x y
  if (!b) = true then pure (ForInStep.done (some false, ())) else pure (ForInStep.yield (none, ()))

def outB (r : Bool) : Option Bool × Unit := (match r with
  | true => none
  | false => some false, ())

theorem arLoop {D n : Nat} {e : TypeId} {k : IntKind} (hn : n = 1) (he : ∃ k0, P.underlying e = some (.int k0)) (hagg : aggT P e = false) (w : World) {xs ys : Array Value} : ∀ (l l' : List Int) (s : Nat), l.length = l'.length → (∀ j, j < l.length → xs[s + j]? = (l[j]?).map (Value.int k)) → (∀ j, j < l.length → ys[s + j]? = (l'[j]?).map (Value.int k)) →
    (forIn (List.range' s l.length) (none, ()) (arBody (D + 1) e n xs ys)).run P w = .ok (outB (decide (l = l'))) w
  | [], l', s, hl, _, _ => by
    cases l' with
    | nil => rfl
    | cons _ _ => simp at hl
  | x :: l, l', s, hl, hx, hy => by
    cases l' with
    | nil => simp at hl
    | cons y l' =>
      obtain ⟨k0, hu⟩ := he
      have h0 := hx 0 (by simp)
      have h1 := hy 0 (by simp)
      simp only [Nat.add_zero, List.getElem?_cons_zero, Option.map_some] at h0 h1
      have pt : ∀ (zs : Array Value) (z : Int), zs[s]? = some (Value.int k z) → (part e zs (s * n)).run P w = .ok (.int k z) w := by
        intro zs z hz
        unfold part
        simp only [Sem.run_bind, run_isAgg hu, Result.andThen_ok, hagg, Bool.false_eq_true, if_false, hn, Nat.mul_one, hz]
        rfl
      have hb : (arBody (D + 1) e n xs ys s (none, ())).run P w = .ok (bif decide (x = y) then ForInStep.yield (none, ()) else ForInStep.done (some false, ())) w := by
        unfold arBody
        simp only [Sem.run_bind, pt xs x h0, pt ys y h1, Result.andThen_ok, Op.equalIn, run_under hu, if_true, Sem.run_pure]
        by_cases hxy : x = y <;> simp [hxy]
      rw [List.length_cons, List.range'_succ, List.forIn_cons, Sem.run_bind, hb, Result.andThen_ok]
      by_cases hxy : x = y
      · subst hxy
        simp only [decide_true, cond_true]
        have := arLoop hn ⟨k0, hu⟩ hagg w (D := D) (xs := xs) (ys := ys) l l' (s + 1) (by simpa using hl) (fun j hj => by have := hx (j + 1) (by simp; omega); simpa [Nat.add_assoc, Nat.add_comm 1 j] using this) (fun j hj => by have := hy (j + 1) (by simp; omega); simpa [Nat.add_assoc, Nat.add_comm 1 j] using this)
        rw [this]; simp
      · simp [hxy, outB, Sem.run_pure]

mutual
theorem eqG_ok : ∀ {d : Nat} {t : TypeId} {a b : V} {x y : Value} {r : Bool}, eqG P d t a b = some r → VRel U ρ a x → VRel U ρ b y → ∀ (D : Nat), d < D → ∀ w : World, (Op.equalIn D t x y).run P w = .ok r w
  | 0, _, _, _, _, _, _, h, _, _, _, _, _ => by simp [eqG] at h
  | d + 1, t, a, b, x, y, r, h, ha, hb, D, hD, w => by
    obtain ⟨D, rfl⟩ : ∃ D', D = D' + 1 := ⟨D - 1, by omega⟩
    unfold eqG at h
    split at h
    · rename_i k0 hu
      cases a <;> simp only [reduceCtorEq] at h
      cases b <;> simp only [reduceCtorEq] at h
      rename_i k z k' z'
      cases hk : decide (k = k') <;> simp only [hk, cond_true, cond_false, reduceCtorEq, Option.some.injEq] at h
      have := of_decide_eq_true hk; subst this; subst h
      rw [VRel] at ha hb; subst ha; subst hb
      simp only [Op.equalIn, Sem.run_bind, run_under hu, Result.andThen_ok, if_true, Sem.run_pure]
      by_cases hz : z = z' <;> simp [hz]
    · rename_i hu
      cases a <;> simp only [reduceCtorEq] at h
      cases b <;> simp only [reduceCtorEq, Option.some.injEq] at h
      rename_i z z'
      subst h
      rw [VRel] at ha hb; subst ha; subst hb
      simp only [Op.equalIn, Sem.run_bind, run_under hu, Result.andThen_ok, Sem.run_pure, bytes_beq]
    · rename_i fs hu
      cases a <;> simp only [reduceCtorEq] at h
      cases b <;> simp only [reduceCtorEq] at h
      rename_i xs ys
      cases hp : plainS P t <;> simp only [hp, cond_true, cond_false, reduceCtorEq] at h
      rw [VRel] at ha hb
      obtain ⟨lx, rfl, hlx⟩ := ha
      obtain ⟨ly, rfl, hly⟩ := hb
      have hs : P.stoodInHeld t = false := by simpa [plainS] using hp
      have key := eqFs_ok h hlx hly D (by omega) w
      have e1 : (forIn fs (none, ()) (fsBody P D lx ly)).run P w = .ok (outB r) w := by rw [← Array.forIn_toList]; exact key
      simp only [Op.equalIn, Sem.run_bind, run_under hu, Result.andThen_ok, run_program, hs, Bool.false_eq_true, if_false]
      show ((forIn fs (none, ()) (fsBody P D lx ly)).run P w).andThen _ = _
      rw [e1, Result.andThen_ok]
      cases r <;> rfl
    · rename_i len e hu
      split at h
      · split at h
        · rename_i k m l
          split at h
          · split at h
            · rename_i k' m' l'
              cases hp : (intT P e && (Nat.beq m len && (Nat.beq m' len && decide (k = k')))) <;> simp only [hp, cond_true, cond_false, reduceCtorEq, Option.some.injEq] at h
              subst h
              simp only [Bool.and_eq_true] at hp
              obtain ⟨p1, p2, p3, p4⟩ := hp
              have := of_decide_eq_true p4; subst this
              have := Nat.eq_of_beq_eq_true p2; subst this
              have := Nat.eq_of_beq_eq_true p3; subst this
              obtain ⟨hk0, hsz, hagg⟩ := intT_spec p1
              obtain ⟨k0, hu0⟩ := hk0
              obtain ⟨i, hi⟩ := info_of_under hu0
              rw [VRel] at ha hb
              obtain ⟨lx, rfl, hlx⟩ := ha
              obtain ⟨ly, rfl, hly⟩ := hb
              have seg1 : ∀ {l : List Int} {z : List Value} {m : Nat}, CsRel U ρ [.seg k m l] z → z = l.map (Value.int k) ∧ l.length = m := by
                intro l z m hz
                rw [CsRel] at hz
                obtain ⟨l1, l2, rfl, h1, h2⟩ := hz
                rw [CsRel] at h2; subst h2
                rcases h1 with ⟨k2, m2, xs2, e2, h3, rfl⟩ | ⟨h3, _⟩
                · cases e2; exact ⟨by simp, h3⟩
                · simp [V.cell] at h3
              obtain ⟨ex, lx1⟩ := seg1 hlx
              obtain ⟨ey, ly1⟩ := seg1 hly
              have gx : ∀ j, j < l.length → lx[0 + j]? = (l[j]?).map (Value.int k) := fun j _ => by rw [Nat.zero_add, ← Array.getElem?_toList, ex, List.getElem?_map]
              have gy : ∀ j, j < l.length → ly[0 + j]? = (l'[j]?).map (Value.int k) := fun j _ => by rw [Nat.zero_add, ← Array.getElem?_toList, ey, List.getElem?_map]
              have hsize : i.size = 1 := by have := hsz; rwa [szT, hi] at this
              obtain ⟨D, rfl⟩ : ∃ D', D = D' + 1 := ⟨D - 1, by omega⟩
              have key := arLoop (D := D) (k := k) hsize ⟨k0, hu0⟩ hagg w (xs := lx) (ys := ly) l l' 0 (by omega) gx gy
              simp only [Op.equalIn, Sem.run_bind, run_under hu, Result.andThen_ok, run_size hi]
              show ((forIn [:m'] (none, ()) (arBody (D + 1) e i.size lx ly)).run P w).andThen _ = _
              rw [Std.Legacy.Range.forIn_eq_forIn_range']
              simp only [Std.Legacy.Range.size, Nat.sub_zero, Nat.add_sub_cancel, Nat.div_one]
              rw [lx1] at key
              rw [key, Result.andThen_ok]
              cases decide (l = l') <;> rfl
            · simp at h
          · simp at h
        · simp at h
      · simp at h
    · exact eqV_ok h ha hb D w
theorem eqFs_ok : ∀ {d : Nat} {fs : List Field} {xs ys : List V} {lx ly : Array Value} {r : Bool}, eqFs P d fs xs ys = some r → CsRel U ρ xs lx.toList → CsRel U ρ ys ly.toList → ∀ (D : Nat), d < D → ∀ w : World, (forIn fs (none, ()) (fsBody P D lx ly)).run P w = .ok (outB r) w
  | 0, _, _, _, _, _, _, h, _, _, _, _, _ => by simp [eqFs] at h
  | d + 1, [], xs, ys, lx, ly, r, h, _, _, D, _, w => by
    simp only [eqFs, Option.some.injEq] at h; subst h; rfl
  | d + 1, f :: fs, xs, ys, lx, ly, r, h, hx, hy, D, hD, w => by
    unfold eqFs at h
    simp only at h
    rw [List.forIn_cons, Sem.run_bind]
    cases hf : decide (f.name ≠ "_") <;> simp only [hf, cond_true, cond_false] at h
    · have hf' : ¬ (f.name ≠ "_") := of_decide_eq_false hf
      rw [fsBody, if_neg hf', Sem.run_pure, Result.andThen_ok]
      exact eqFs_ok h hx hy D (by omega) w
    · have hf' : f.name ≠ "_" := of_decide_eq_true hf
      cases h1 : partC P f.type xs f.offset with
      | none => simp [h1] at h
      | some px =>
        cases h2 : partC P f.type ys f.offset with
        | none => simp [h1, h2] at h
        | some py =>
          simp only [h1, h2] at h
          cases h3 : eqG P d f.type px py with
          | none => simp [h3] at h
          | some r1 =>
            cases h4 : eqFs P d fs xs ys with
            | none => simp [h3, h4] at h
            | some r2 =>
              simp only [h3, h4, Option.some.injEq] at h
              subst h
              obtain ⟨zx, e1, e2⟩ := partC_rel h1 hx w
              obtain ⟨zy, e3, e4⟩ := partC_rel h2 hy w
              have e5 := eqG_ok h3 e2 e4 D (by omega) w
              have e6 := eqFs_ok h4 hx hy D (by omega) w
              rw [fsBody, if_pos hf']
              simp only [Sem.run_bind, e1, e3, e5, Result.andThen_ok]
              cases r1
              · simp [outB, Sem.run_pure]
              · simp only [Bool.not_true, Bool.false_eq_true, if_false, Sem.run_pure, Result.andThen_ok, Bool.true_and]
                exact e6
end

def binV (P : Program) (op : BinOp) (t : TypeId) (a b : V) : Option (V × List Prop) :=
  match a with
  | .int k x => match b with
    | .int k' y => match op with
      | .shl => ishift .shl k x y
      | .shr => ishift .shr k x y
      | _ => if k = k' then ibin op k x y else none
    | _ => none
  | .str x => match b with
    | .str y => sbin op x y
    | _ => none
  | .agg xs => match b with
    | .agg ys => bif P.eqGuardType P.depth t then none else match op with
      | .eql => match eqG P 30 t (.agg xs) (.agg ys) with
        | some r => some (.bool r, [])
        | none => none
      | .neq => match eqG P 30 t (.agg xs) (.agg ys) with
        | some r => some (.bool (!r), [])
        | none => none
      | _ => none
    | _ => none
  | _ => match op with
    | .eql => match eqV P t a b with
      | some r => some (.bool r, [])
      | none => none
    | .neq => match eqV P t a b with
      | some r => some (.bool (!r), [])
      | none => none
    | _ => none

theorem eqV_shape {t : TypeId} {a b : V} {r : Bool} (h : eqV P t a b = some r) : (∃ x, a = .bool x) ∨ a = .pnil ∨ a = .snil ∨ a = .mpnil ∨ a = .fnil ∨ (∃ n es i o j, a = .ptr n es i o j) ∨ (∃ cs o j, a = .rop cs o j) ∨ (∃ n, a = .mp n) ∨ (∃ f x y, a = .fn f x y) := by
  unfold eqV at h
  cases hu : P.underlying t with
  | none => simp [hu] at h
  | some d => cases d <;> simp only [hu, reduceCtorEq] at h <;> cases a <;> simp_all

theorem binV_ok {op : BinOp} {t : TypeId} {a b : V} {v : V} {cs : List Prop} {x y : Value} {ox oy : Operand} (h : binV P op t a b = some (v, cs)) (hc : All cs) (ha : VRel U ρ a x) (hb : VRel U ρ b y) (w : World) :
    ∃ z, (do eqGuard op t ox oy x y; binOp op t x y : Sem Value).run P w = .ok z w ∧ VRel U ρ v z := by
  have guard : (∀ l, x ≠ .agg l) → x ≠ .nilIface → (eqGuard op t ox oy x y).run P w = .ok () w := by
    intro h1 h2
    unfold eqGuard
    cases op <;> simp <;> (cases x <;> first | rfl | exact (h1 _ rfl).elim | exact (h2 rfl).elim)
  have eqcase : ∀ r, eqV P t a b = some r → ∃ z, (Op.equal t x y).run P w = .ok r w ∧ (∀ l, x ≠ .agg l) ∧ x ≠ .nilIface ∧ (binOp .eql t x y).run P w = .ok (.bool r) w ∧ (binOp .neq t x y).run P w = .ok (.bool (!r)) w ∧ z = () := by
    intro r hr
    have heq : (Op.equal t x y).run P w = .ok r w := eqV_ok hr ha hb 9999 w
    refine ⟨(), heq, ?_⟩
    have fin : (∀ l, x ≠ .agg l) → x ≠ .nilIface → ((binOp .eql t x y) = (do pure (.bool (← Op.equal t x y)))) → ((binOp .neq t x y) = (do pure (.bool (!(← Op.equal t x y))))) →
        (∀ l, x ≠ .agg l) ∧ x ≠ .nilIface ∧ (binOp .eql t x y).run P w = .ok (.bool r) w ∧ (binOp .neq t x y).run P w = .ok (.bool (!r)) w ∧ () = () := by
      intro h1 h2 h3 h4
      refine ⟨h1, h2, ?_, ?_, rfl⟩
      · rw [h3]; simp only [Sem.run_bind, heq, Result.andThen_ok, Sem.run_pure]
      · rw [h4]; simp only [Sem.run_bind, heq, Result.andThen_ok, Sem.run_pure]
    rcases eqV_shape hr with ⟨_, rfl⟩ | rfl | rfl | rfl | rfl | ⟨_, _, _, _, _, rfl⟩ | ⟨_, _, _, rfl⟩ | ⟨_, rfl⟩ | ⟨_, _, _, rfl⟩
    · rw [VRel] at ha; subst ha; exact fin (fun l => by simp) (by simp) rfl rfl
    · rw [VRel] at ha; subst ha; exact fin (fun l => by simp) (by simp) rfl rfl
    · rw [VRel] at ha; subst ha; exact fin (fun l => by simp) (by simp) rfl rfl
    · rw [VRel] at ha; subst ha; exact fin (fun l => by simp) (by simp) rfl rfl
    · rw [VRel] at ha; subst ha; exact fin (fun l => by simp) (by simp) rfl rfl
    · obtain ⟨_, rfl⟩ := shape_ptr ha; exact fin (fun l => by simp) (by simp) rfl rfl
    · obtain ⟨_, rfl⟩ := shape_rop ha; exact fin (fun l => by simp) (by simp) rfl rfl
    · obtain ⟨_, rfl⟩ := shape_mp ha; exact fin (fun l => by simp) (by simp) rfl rfl
    · obtain ⟨_, _, rfl⟩ := shape_fn ha; exact fin (fun l => by simp) (by simp) rfl rfl
  unfold binV at h
  cases a
  case int k n =>
    rw [VRel] at ha; subst ha
    cases b <;> simp only [reduceCtorEq] at h
    rename_i k' m
    rw [VRel] at hb; subst hb
    simp only [Sem.run_bind, guard (fun l => by simp) (by simp), Result.andThen_ok]
    split at h
    · exact ishift_ok w h hc
    · exact ishift_ok w h hc
    · split at h
      · rename_i hk; subst hk; exact ibin_ok w h hc
      · simp at h
  case str s =>
    rw [VRel] at ha; subst ha
    cases b <;> simp only [reduceCtorEq] at h
    rw [VRel] at hb; subst hb
    simp only [Sem.run_bind, guard (fun l => by simp) (by simp), Result.andThen_ok]
    exact sbin_ok w h hc
  case agg xs =>
    rw [VRel] at ha
    obtain ⟨lx, rfl, hlx⟩ := ha
    cases b <;> simp only [reduceCtorEq] at h
    rename_i ys
    rw [VRel] at hb
    obtain ⟨ly, rfl, hly⟩ := hb
    cases hg : P.eqGuardType P.depth t <;> simp only [hg, cond_true, cond_false, reduceCtorEq] at h
    have guard : (eqGuard op t ox oy (.agg lx) (.agg ly)).run P w = .ok () w := by
      unfold eqGuard
      cases op <;> simp [hg]
    have heq : ∀ r, eqG P 30 t (.agg xs) (.agg ys) = some r → (Op.equal t (.agg lx) (.agg ly)).run P w = .ok r w := fun r hr =>
      eqG_ok hr (U := U) (ρ := ρ) (by rw [VRel]; exact ⟨lx, rfl, hlx⟩) (by rw [VRel]; exact ⟨ly, rfl, hly⟩) 10000 (by decide) w
    split at h
    · split at h
      · rename_i r hr
        simp only [Option.some.injEq, Prod.mk.injEq] at h
        obtain ⟨rfl, rfl⟩ := h
        refine ⟨.bool r, ?_, by rw [VRel]⟩
        simp only [Sem.run_bind, guard, Result.andThen_ok]
        show ((do pure (.bool (← Op.equal t (.agg lx) (.agg ly))) : Sem Value)).run P w = _
        simp only [Sem.run_bind, heq r hr, Result.andThen_ok, Sem.run_pure]
      · simp at h
    · split at h
      · rename_i r hr
        simp only [Option.some.injEq, Prod.mk.injEq] at h
        obtain ⟨rfl, rfl⟩ := h
        refine ⟨.bool (!r), ?_, by rw [VRel]⟩
        simp only [Sem.run_bind, guard, Result.andThen_ok]
        show ((do pure (.bool (!(← Op.equal t (.agg lx) (.agg ly)))) : Sem Value)).run P w = _
        simp only [Sem.run_bind, heq r hr, Result.andThen_ok, Sem.run_pure]
      · simp at h
    · simp at h
  all_goals
    simp only at h
    split at h
    · split at h
      · rename_i r hr
        simp only [Option.some.injEq, Prod.mk.injEq] at h
        obtain ⟨rfl, rfl⟩ := h
        obtain ⟨_, _, h1, h2, h3, _, _⟩ := eqcase r hr
        exact ⟨_, by simp only [Sem.run_bind, guard h1 h2, Result.andThen_ok]; exact h3, by rw [VRel]⟩
      · simp at h
    · split at h
      · rename_i r hr
        simp only [Option.some.injEq, Prod.mk.injEq] at h
        obtain ⟨rfl, rfl⟩ := h
        obtain ⟨_, _, h1, h2, _, h3, _⟩ := eqcase r hr
        exact ⟨_, by simp only [Sem.run_bind, guard h1 h2, Result.andThen_ok]; exact h3, by rw [VRel]⟩
      · simp at h
    · simp at h

def unV (op : UnOp) (a : V) : Option (V × List Prop) :=
  match op, a with
  | .not, .bool b => some (.bool (!b), [])
  | .neg, .int k n => some (arith k (0 - n))
  | .xor, .int k n => some (.int k (ibits (fun _ x y => x ^^^ y) k (if k.signed then -1 else k.max) n), [])
  | _, _ => none
theorem unV_ok {op : UnOp} {a v : V} {x : Value} {cs : List Prop} (h : unV op a = some (v, cs)) (hc : All cs) (ha : VRel U ρ a x) (w : World) : ∃ z, (Op.unary op x).run P w = .ok z w ∧ VRel U ρ v z := by
  unfold unV at h
  split at h
  · simp only [Option.some.injEq, Prod.mk.injEq] at h
    obtain ⟨rfl, rfl⟩ := h
    rw [VRel] at ha; subst ha
    exact ⟨_, rfl, by rw [VRel]⟩
  · rename_i k n
    simp only [Option.some.injEq] at h
    rw [VRel] at ha; subst ha
    have := arith_rel (U := U) (ρ := ρ) (k := k) (n := 0 - n) (by rw [h]; exact hc)
    rw [h] at this
    exact ⟨_, rfl, this⟩
  · rename_i k n
    simp only [Option.some.injEq, Prod.mk.injEq] at h
    obtain ⟨rfl, rfl⟩ := h
    rw [VRel] at ha; subst ha
    exact ⟨_, rfl, by rw [VRel]; rfl⟩
  · simp at h

def convV (P : Program) (s d : TypeId) (a : V) : Option (V × List Prop) :=
  match P.underlying s with
  | none => none
  | some _ => match P.underlying d, a with
    | some (.int k), .int _ n => some (arith k n)
    | some .string, .str s => some (.str s, [])
    | _, _ => none
theorem convV_ok {s d : TypeId} {a v : V} {x : Value} {cs : List Prop} (h : convV P s d a = some (v, cs)) (hc : All cs) (ha : VRel U ρ a x) (w : World) : ∃ z, (convert s d x).run P w = .ok z w ∧ VRel U ρ v z := by
  unfold convV at h
  cases hs : P.underlying s with
  | none => simp [hs] at h
  | some ds =>
    simp only [hs] at h
    split at h
    · rename_i k k' n hd
      simp only [Option.some.injEq] at h
      rw [VRel] at ha; subst ha
      have := arith_rel (U := U) (ρ := ρ) (k := k) (n := n) (by rw [h]; exact hc)
      rw [h] at this
      refine ⟨_, ?_, this⟩
      simp only [convert, Sem.run_bind, run_under hs, run_under hd, Result.andThen_ok, Conv.intToInt, Sem.run_pure]
    · rename_i s' hd
      simp only [Option.some.injEq, Prod.mk.injEq] at h
      obtain ⟨rfl, rfl⟩ := h
      rw [VRel] at ha; subst ha
      refine ⟨.string s', ?_, by rw [VRel]⟩
      simp only [convert, Sem.run_bind, run_under hs, run_under hd, Result.andThen_ok]
      cases ds <;> rfl
    · simp at h

/-! ### Struct and array values -/
def placeT (P : Program) (t : TypeId) : Option (Nat → Option (Nat × Nat)) :=
  match P.underlying t with
  | some (.struct fs) => bif fs.all (fun f => (P.info? f.type).isSome) then some (fun i => (fs[i]?).map fun f => (f.offset, szT P f.type)) else none
  | some (.array _ e) => bif (P.info? e).isSome then some (fun i => some (i * szT P e, szT P e)) else none
  | _ => none
def fillC (place : Nat → Option (Nat × Nat)) (cells : List V) : List (Nat × V) → Option (List V)
  | [] => some cells
  | (i, v) :: rest => match place i with
    | none => none
    | some (off, size) => bif solid v.cs && Nat.beq (csize v.cs) size then match splitC cells off with
        | some (a, b) => match splitC b size with
          | some (_, r) => fillC place (a ++ (v.cs ++ r)) rest
          | none => none
        | none => none
      else none

theorem foldl_set (vals : List Value) : ∀ (k off : Nat) (c : Array Value), (vals.zipIdx k).foldl (fun cs (x : Value × Nat) => cs.setIfInBounds (off + x.2) x.1) c = setR c (off + k) vals := by
  induction vals with
  | nil => intro k off c; rfl
  | cons v vs ih => intro k off c; rw [List.zipIdx_cons, List.foldl_cons, ih, setR]; rfl

def PairsRel (U : Imm) (ρ : Env) : List (Nat × V) → List (Nat × Value) → Prop
  | [], l => l = []
  | p :: ps, l => ∃ x r, l = (p.1, x) :: r ∧ VRel U ρ p.2 x ∧ PairsRel U ρ ps r

theorem fillC_ok {place : Nat → Option (Nat × Nat)} : ∀ {parts : List (Nat × V)} {cells cells' : List V} {l : Array Value} {xs : List (Nat × Value)}, fillC place cells parts = some cells' → CsRel U ρ cells l.toList → PairsRel U ρ parts xs →
    ∃ l', Instr.fill place l xs = some l' ∧ CsRel U ρ cells' l'.toList
  | [], cells, cells', l, xs, h, hl, hp => by
    rw [PairsRel] at hp; subst hp
    simp only [fillC, Option.some.injEq] at h; subst h
    exact ⟨l, rfl, hl⟩
  | (i, v) :: rest, cells, cells', l, xs, h, hl, hp => by
    rw [PairsRel] at hp
    obtain ⟨x, r, rfl, hx, hr⟩ := hp
    simp only [fillC] at h
    cases hpl : place i with
    | none => simp [hpl] at h
    | some q =>
      obtain ⟨off, size⟩ := q
      simp only [hpl] at h
      cases hb : (solid v.cs && Nat.beq (csize v.cs) size) <;> simp only [hb, cond_true, cond_false, reduceCtorEq] at h
      rw [Bool.and_eq_true] at hb
      have hsz : csize v.cs = size := Nat.eq_of_beq_eq_true hb.2
      cases hs : splitC cells off with
      | none => simp [hs] at h
      | some q =>
        obtain ⟨a, b⟩ := q
        simp only [hs] at h
        cases hs2 : splitC b size with
        | none => simp [hs2] at h
        | some q2 =>
          obtain ⟨b1, b2⟩ := q2
          simp only [hs2] at h
          obtain ⟨rfl, h3⟩ := splitC_spec hs
          obtain ⟨rfl, h4⟩ := splitC_spec hs2
          obtain ⟨la, lb, e, h5, h6⟩ := CsRel_append.1 hl
          obtain ⟨lb1, lb2, rfl, h7, h8⟩ := CsRel_append.1 h6
          have e1 := h5.len; rw [h3] at e1
          have e2 := h7.len; rw [h4] at e2
          obtain ⟨hv1, hv2⟩ := cs_rel hb.1 hx
          have hlen : l.size = la.length + (lb1.length + lb2.length) := by rw [← Array.length_toList, e]; simp
          have hset : (setR l (off + 0) x.cells.toList).toList = la ++ (x.cells.toList ++ lb2) := by
            apply List.ext_getElem?
            intro k
            rw [Array.getElem?_toList, setR_get _ _ _ (by simp; omega)]
            simp only [Array.length_toList]
            rw [List.getElem?_append]
            by_cases hk : k < la.length
            · rw [if_pos hk, if_neg (by omega), ← Array.getElem?_toList, e, List.getElem?_append_left hk]
            · rw [if_neg hk, List.getElem?_append]
              by_cases hk2 : k - la.length < x.cells.toList.length
              · rw [if_pos hk2, if_pos (by simp at hk2; omega)]; congr 1; omega
              · rw [if_neg hk2, if_neg (by simp at hk2; omega), ← Array.getElem?_toList, e, List.getElem?_append_right (by omega), List.getElem?_append_right (by simp at hk2; omega)]
                congr 1; simp; omega
          obtain ⟨l', h9, h10⟩ := fillC_ok (place := place) h (l := setR l (off + 0) x.cells.toList) (by rw [hset]; exact CsRel_append.2 ⟨la, _, rfl, h5, CsRel_append.2 ⟨_, lb2, rfl, hv1, h8⟩⟩) hr
          refine ⟨l', ?_, h10⟩
          unfold Instr.fill
          rw [hpl]
          have hno : ¬ (x.cells.size ≠ size || decide (off + x.cells.size > l.size)) = true := by
            simp only [Bool.or_eq_true, decide_eq_true_eq, not_or]; omega
          simp only [hno, if_false, Bool.false_eq_true]
          rw [← h9]
          congr 1
          rw [← foldl_set x.cells.toList 0 off l, ← Array.toList_zipIdx, Array.foldl_toList]

def buildV (P : Program) (t : TypeId) (parts : List (Nat × V)) : Option V :=
  match zeroT P t with
  | some z => match placeT P t with
    | some pl => match fillC pl z parts with
      | some cs => some (.agg cs)
      | none => none
    | none => none
  | none => none

theorem run_mapM_places {fs : Array Field} (h : fs.all (fun f => (P.info? f.type).isSome) = true) (w : World) :
    (fs.mapM fun f => do pure (f.offset, ← Go.sizeOf f.type) : Sem (Array (Nat × Nat))).run P w = .ok (fs.map fun f => (f.offset, szT P f.type)) w := by
  have key : ∀ (l : List Field), (∀ f ∈ l, (P.info? f.type).isSome = true) → (l.mapM fun f => do pure (f.offset, ← Go.sizeOf f.type) : Sem (List (Nat × Nat))).run P w = .ok (l.map fun f => (f.offset, szT P f.type)) w := by
    intro l
    induction l with
    | nil => intro _; rfl
    | cons f l ih =>
      intro hl
      obtain ⟨i, hi⟩ := Option.isSome_iff_exists.1 (hl f (by simp))
      simp only [List.mapM_cons, Sem.run_bind, run_size hi, Result.andThen_ok, Sem.run_pure, ih (fun g hg => hl g (by simp [hg])), List.map_cons]
      simp [szT, hi]
  have := key fs.toList (fun f hf => by rw [Array.all_eq_true_iff_forall_mem] at h; exact h f (by simpa using hf))
  rw [Array.mapM_eq_mapM_toList]
  simp only [Sem.run_map, this, Result.andThen_ok]
  congr 1
  apply Array.ext'
  rw [Array.toList_map]

theorem buildV_ok {t : TypeId} {parts : List (Nat × V)} {v : V} {xs : Array (Nat × Value)} (h : buildV P t parts = some v) (hp : PairsRel U ρ parts xs.toList) (w : World) :
    ∃ z, (Instr.build t xs).run P w = .ok z w ∧ VRel U ρ v z := by
  unfold buildV at h
  cases hz : zeroT P t with
  | none => simp [hz] at h
  | some z =>
    obtain ⟨zv, h1, h2, _⟩ := zeroT_ok (U := U) (ρ := ρ) hz w
    simp only [hz] at h
    cases hpl : placeT P t with
    | none => simp [hpl] at h
    | some pl =>
      simp only [hpl] at h
      cases hf : fillC pl z parts with
      | none => simp [hf] at h
      | some cs =>
        simp only [hf, Option.some.injEq] at h
        subst h
        obtain ⟨l', h3, h4⟩ := fillC_ok hf h2 hp
        refine ⟨.agg l', ?_, by rw [VRel]; exact ⟨l', rfl, h4⟩⟩
        unfold placeT at hpl
        unfold Instr.build
        simp only [Sem.run_bind, h1, Result.andThen_ok]
        cases hu : P.underlying t with
        | none => simp [hu] at hpl
        | some d =>
          cases d <;> simp only [hu, reduceCtorEq] at hpl
          case array n e =>
            cases he : (P.info? e).isSome <;> simp only [he, cond_true, cond_false, reduceCtorEq, Option.some.injEq] at hpl
            subst hpl
            obtain ⟨i, hi⟩ := Option.isSome_iff_exists.1 he
            have hsz : szT P e = i.size := by simp [szT, hi]
            rw [hsz] at h3
            simp only [run_under hu, Result.andThen_ok, Sem.run_bind, run_size hi, h3, Sem.run_pure]
          case struct fs =>
            cases he : fs.all (fun f => (P.info? f.type).isSome) <;> simp only [he, cond_true, cond_false, reduceCtorEq, Option.some.injEq] at hpl
            subst hpl
            simp only [run_under hu, Result.andThen_ok, Sem.run_bind, run_mapM_places he]
            have : (fun (i : Nat) => (fs.map fun (f : Field) => (f.offset, szT P f.type))[i]?) = fun (i : Nat) => (fs[i]?).map fun (f : Field) => (f.offset, szT P f.type) := by funext i; simp
            rw [this, h3]; rfl

end Sy
