/-
  Knowing less: weaker values, weaker states, other names (own work of this seat).
-/
import Derived.Test.YthifjamdfpjilaaSy15
namespace Sy
open Go

variable {P : Program}

def kindEq (k k' : IntKind) : Bool := decide (k = k')
def fnEq : Fn → Fn → Bool
  | .func a, .func b => Nat.beq a b
  | _, _ => false

def V.isSeg : V → Bool
  | .seg .. => true
  | _ => false
def segC : V → V → Option (List Prop)
  | .seg k m xs, u => match u with
    | .seg k' m' xs' => bif kindEq k k' then some [m = m', xs = xs'] else none
    | _ => none
  | _, _ => none

mutual
/-- May the first be taken for the second? 'dr': blocks that are let go. -/
def leV (dr : Heap) : V → V → Option (List Prop)
  | .bool a, v' => match v' with
    | .bool b => some [a = b]
    | .any => some []
    | _ => none
  | .int k a, v' => match v' with
    | .int k' b => bif kindEq k k' then some [a = b] else none
    | .any => some []
    | _ => none
  | .str a, v' => match v' with
    | .str b => some [a = b]
    | .any => some []
    | _ => none
  | .pnil, v' => match v' with
    | .pnil => some []
    | .any => some []
    | _ => none
  | .ptr n es i o j, v' => match v' with
    | .ptr n' es' i' o' j' => bif n.beq n' && Nat.beq es es' then some [i = i', o = o', j = j'] else none
    | .rop cs' o' j' => match pull n dr with
      | some (b, _) => match b with
        | .flat cs => bif Nat.beq es 0 && V.withins (fun _ => false) cs then some [cs = cs', o = o', j = j'] else none
        | .rows es2 m f _ => bif Nat.beq es es2 then some [i < m, f i = cs', o = o', j = j'] else none
        | _ => none
      | none => none
    | .any => some []
    | _ => none
  | .rop cs o j, v' => match v' with
    | .rop cs' o' j' => some [cs = cs', o = o', j = j']
    | .any => some []
    | _ => none
  | .snil, v' => match v' with
    | .snil => some []
    | .ros _ len' _ _ => some [len' = 0]
    | .any => some []
    | _ => none
  | .sl n es i o j len cap, v' => match v' with
    | .sl n' es' i' o' j' len' cap' => bif n.beq n' && Nat.beq es es' then some [i = i', o = o', j = j', len = len', cap' = none ∨ cap' = cap] else none
    | .ros es' len' f' clip' => match pull n dr with
      | some (b, _) => match b with
        | .rows es2 m f _ => bif Nat.beq es es2 && (Nat.beq es es' && (Nat.beq o 0 && Nat.beq j 0)) then some [len = len', i + len ≤ m, ∀ k, k < len → f (i + k) = f' k, clip' = true → cap = some len] else none
        | _ => none
      | none => none
    | .any => some []
    | _ => none
  | .ros es len f c, v' => match v' with
    | .ros es' len' f' c' => bif Nat.beq es es' then some [len = len', ∀ k, k < len → f k = f' k, c' = true → c = true] else none
    | .any => some []
    | _ => none
  | .fn f a b, v' => match v' with
    | .fn f' a' b' => bif fnEq f f' then match leVs dr a a' with
      | some c1 => match leVs dr b b' with
        | some c2 => some (c1 ++ c2)
        | none => none
      | none => none
      else none
    | .any => some []
    | _ => none
  | .fnil, v' => match v' with
    | .fnil => some []
    | .any => some []
    | _ => none
  | .ifc t v, v' => match v' with
    | .ifc t' u => bif Nat.beq t t' then leV dr v u else none
    | .any => some []
    | _ => none
  | .inil, v' => match v' with
    | .inil => some []
    | .any => some []
    | _ => none
  | .agg cs, v' => match v' with
    | .agg cs' => leCs dr cs cs'
    | .any => some []
    | _ => none
  | .tup vs, v' => match v' with
    | .tup vs' => leVs dr vs vs'
    | .any => some []
    | _ => none
  | .mp n, v' => match v' with
    | .mp n' => bif n.beq n' then some [] else none
    | .any => some []
    | _ => none
  | .yld n, v' => match v' with
    | .yld n' => bif n.beq n' then some [] else none
    | .any => some []
    | _ => none
  | .mpnil, v' => match v' with
    | .mpnil => some []
    | .any => some []
    | _ => none
  | .any, v' => match v' with
    | .any => some []
    | _ => none
  | .seg _ _ _, _ => none
def leVs (dr : Heap) : List V → List V → Option (List Prop)
  | [], l => match l with
    | [] => some []
    | _ => none
  | v :: vs, l => match l with
    | [] => none
    | u :: us => match leV dr v u with
      | some c1 => match leVs dr vs us with
        | some c2 => some (c1 ++ c2)
        | none => none
      | none => none
def leCs (dr : Heap) : List V → List V → Option (List Prop)
  | [], l => match l with
    | [] => some []
    | _ => none
  | v :: vs, l => match l with
    | [] => none
    | u :: us => match leCs dr vs us with
      | none => none
      | some c2 => match v.isSeg with
        | true => match segC v u with
          | some c1 => some (c1 ++ c2)
          | none => none
        | false => bif u.cell then match leV dr v u with
          | some c1 => some (c1 ++ c2)
          | none => none
          else none
end

/-- The blocks that are let go are immutable from now on. -/
def Frozen (U U' : Imm) (ρ : Env) (dr : Heap) : Prop :=
  ∀ n b, (n, b) ∈ dr → ∀ l, ρ n = some l → l.real = true →
    (∀ cs, b = .flat cs → ∃ c, U' l.blk = some c ∧ CsRel U ρ cs c.toList) ∧
    (∀ es m f g, b = .rows es m f g → ∃ c, U' l.blk = some c ∧ ∀ i, i < m → ∃ r, CsRel U Env.none (f i) r ∧ r.length = es ∧ ∀ k, k < r.length → c[i * es + k]? = r[k]?)
def Held (ρ : Env) (dr : Heap) : Prop := ∀ n b l, (n, b) ∈ dr → ρ n = some l → l.real = false → ∃ es f, b = .rows es 0 f true

section
variable {U U' : Imm} {ρ : Env} {dr : Heap}

theorem pull_mem {n : Nm} {h : Heap} {b : B} {r : Heap} (e : pull n h = some (b, r)) : (n, b) ∈ h := (pull_perm e).mem_iff.2 (List.mem_cons_self ..)

mutual
theorem leV_ok (hU : U.le U') (hF : Frozen U U' ρ dr) : ∀ (v v' : V) (cs : List Prop) (x : Value), leV dr v v' = some cs → All cs → VRel U ρ v x → VRel U' ρ v' x
  | .bool a, v', cs, x, h, hc, hv => by
    unfold leV at h
    cases v' <;> simp only [reduceCtorEq, Option.some.injEq] at h <;> subst h
    · rw [VRel]; trivial
    · rw [← hc.1]; exact VRel.mono hU (Env.le_refl _) hv
  | .int k a, v', cs, x, h, hc, hv => by
    unfold leV at h
    cases v' <;> simp only [reduceCtorEq, Option.some.injEq] at h
    · rw [VRel]; trivial
    · rename_i k' b
      cases hk : kindEq k k' <;> simp only [hk, cond_true, cond_false, reduceCtorEq, Option.some.injEq] at h
      subst h
      have : k = k' := of_decide_eq_true hk
      subst this
      rw [← hc.1]; exact VRel.mono hU (Env.le_refl _) hv
  | .str a, v', cs, x, h, hc, hv => by
    unfold leV at h
    cases v' <;> simp only [reduceCtorEq, Option.some.injEq] at h <;> subst h
    · rw [VRel]; trivial
    · rw [← hc.1]; exact VRel.mono hU (Env.le_refl _) hv
  | .pnil, v', cs, x, h, hc, hv => by
    unfold leV at h
    cases v' <;> simp only [reduceCtorEq] at h
    · rw [VRel]; trivial
    · exact VRel.mono hU (Env.le_refl _) hv
  | .ptr n es i o j, v', cs, x, h, hc, hv => by
    unfold leV at h
    cases v' <;> simp only [reduceCtorEq] at h
    · rw [VRel]; trivial
    · rename_i n' es' i' o' j'
      cases hb : (n.beq n' && Nat.beq es es') <;> simp only [hb, cond_true, cond_false, reduceCtorEq, Option.some.injEq] at h
      subst h
      rw [Bool.and_eq_true] at hb
      have := Nm.beq_iff.1 hb.1; subst this
      have := Nat.eq_of_beq_eq_true hb.2; subst this
      obtain ⟨rfl, rfl, rfl, _⟩ := hc
      exact VRel.mono hU (Env.le_refl _) hv
    · rename_i cs' o' j'
      cases hp : pull n dr with
      | none => simp [hp] at h
      | some q =>
        obtain ⟨b, r⟩ := q
        simp only [hp] at h
        rw [VRel] at hv
        obtain ⟨l, e1, e2, rfl⟩ := hv
        have hF' := hF n b (pull_mem hp) l e1 e2
        cases b <;> simp only [reduceCtorEq] at h
        · rename_i cs0
          cases hb : (Nat.beq es 0 && V.withins (fun _ => false) cs0) <;> simp only [hb, cond_true, cond_false, reduceCtorEq, Option.some.injEq] at h
          subst h
          rw [Bool.and_eq_true] at hb
          have := Nat.eq_of_beq_eq_true hb.1; subst this
          obtain ⟨rfl, rfl, rfl, _⟩ := hc
          obtain ⟨c, g1, g2⟩ := hF'.1 cs0 rfl
          rw [VRel]
          exact ⟨l.blk, 0, c, g1, by simp, c.toList, CsRel.imm hU _ _ (noNames cs0 hb.2 g2), fun k hk => by simp⟩
        · rename_i es2 m f g
          cases hb : Nat.beq es es2 <;> simp only [hb, cond_true, cond_false, reduceCtorEq, Option.some.injEq] at h
          subst h
          have := Nat.eq_of_beq_eq_true hb; subst this
          obtain ⟨h1, rfl, rfl, rfl, _⟩ := hc
          obtain ⟨c, g1, g2⟩ := hF'.2 es m f g rfl
          obtain ⟨r', g3, g4, g5⟩ := g2 i h1
          rw [VRel]
          exact ⟨l.blk, i * es, c, g1, rfl, r', CsRel.imm hU _ _ g3, g5⟩
  | .rop a o j, v', cs, x, h, hc, hv => by
    unfold leV at h
    cases v' <;> simp only [reduceCtorEq, Option.some.injEq] at h <;> subst h
    · rw [VRel]; trivial
    · obtain ⟨rfl, rfl, rfl, _⟩ := hc
      exact VRel.mono hU (Env.le_refl _) hv
  | .snil, v', cs, x, h, hc, hv => by
    unfold leV at h
    cases v' <;> simp only [reduceCtorEq, Option.some.injEq] at h
    · rw [VRel]; trivial
    · exact VRel.mono hU (Env.le_refl _) hv
    · subst h
      have := hc.1
      subst this
      rw [VRel] at hv; subst hv
      rw [VRel]
      exact ⟨none, 0, rfl, Nat.le_refl _, fun _ => rfl, fun i hi => by omega⟩
  | .sl n es i o j len cap, v', cs, x, h, hc, hv => by
    unfold leV at h
    cases v' <;> simp only [reduceCtorEq] at h
    · rw [VRel]; trivial
    · rename_i n' es' i' o' j' len' cap'
      cases hb : (n.beq n' && Nat.beq es es') <;> simp only [hb, cond_true, cond_false, reduceCtorEq, Option.some.injEq] at h
      subst h
      rw [Bool.and_eq_true] at hb
      have := Nm.beq_iff.1 hb.1; subst this
      have := Nat.eq_of_beq_eq_true hb.2; subst this
      obtain ⟨rfl, rfl, rfl, rfl, hcap, _⟩ := hc
      rw [VRel] at hv ⊢
      obtain ⟨l, cp, e1, e2, e3, e4⟩ := hv
      refine ⟨l, cp, e1, e2, fun c hc => ?_, e4⟩
      rcases hcap with h | h
      · rw [h] at hc; cases hc
      · rw [h] at hc; exact e3 c hc
    · rename_i es' len' f' clip'
      cases hp : pull n dr with
      | none => simp [hp] at h
      | some q =>
        obtain ⟨b, r⟩ := q
        simp only [hp] at h
        cases b <;> simp only [reduceCtorEq] at h
        rename_i es2 m f g
        cases hb : (Nat.beq es es2 && (Nat.beq es es' && (Nat.beq o 0 && Nat.beq j 0))) <;> simp only [hb, cond_true, cond_false, reduceCtorEq, Option.some.injEq] at h
        subst h
        simp only [Bool.and_eq_true] at hb
        obtain ⟨b1, b2, b3, b4⟩ := hb
        have := Nat.eq_of_beq_eq_true b1; subst this
        have := Nat.eq_of_beq_eq_true b2; subst this
        have := Nat.eq_of_beq_eq_true b3; subst this
        have := Nat.eq_of_beq_eq_true b4; subst this
        obtain ⟨rfl, c1, c2, c3, _⟩ := hc
        rw [VRel] at hv
        rw [VRel]
        obtain ⟨l, cp, e1, e2, e3, e4⟩ := hv
        rcases e4 with ⟨hr, rfl, _⟩ | ⟨hr, rfl, rfl, rfl⟩
        · refine ⟨_, cp, rfl, e2, fun hcl => e3 _ (c3 hcl), fun k hk => ?_⟩
          obtain ⟨c, g1, g2⟩ := (hF n _ (pull_mem hp) l e1 hr).2 es m f g rfl
          obtain ⟨r', g3, g4, g5⟩ := g2 (i + k) (by omega)
          rw [c2 k hk] at g3
          refine ⟨l.blk, i * es, c, by simp, g1, r', CsRel.imm hU _ _ g3, g4, fun q hq => ?_⟩
          rw [← g5 q hq]; congr 1; rw [Nat.add_mul]
        · exact ⟨none, 0, rfl, Nat.le_refl _, fun _ => rfl, fun k hk => by omega⟩
  | .ros es len f c, v', cs, x, h, hc, hv => by
    unfold leV at h
    cases v' <;> simp only [reduceCtorEq] at h
    · rw [VRel]; trivial
    · rename_i es' len' f' c'
      cases hb : Nat.beq es es' <;> simp only [hb, cond_true, cond_false, reduceCtorEq, Option.some.injEq] at h
      subst h
      have := Nat.eq_of_beq_eq_true hb; subst this
      obtain ⟨rfl, c1, c2, _⟩ := hc
      rw [VRel] at hv ⊢
      obtain ⟨a, cp, rfl, e2, e3, e4⟩ := hv
      refine ⟨a, cp, rfl, e2, fun h => e3 (c2 h), fun i hi => ?_⟩
      obtain ⟨b, base, c0, g1, g2, l, g3, g4⟩ := e4 i hi
      rw [c1 i hi] at g3
      exact ⟨b, base, c0, g1, hU _ _ g2, l, CsRel.imm hU _ _ g3, g4⟩
  | .fn f a b, v', cs, x, h, hc, hv => by
    unfold leV at h
    cases v' <;> simp only [reduceCtorEq] at h
    · rw [VRel]; trivial
    · rename_i f' a' b'
      cases hb : fnEq f f' <;> simp only [hb, cond_true, cond_false, reduceCtorEq] at h
      cases h1 : leVs dr a a' with
      | none => simp [h1] at h
      | some c1 =>
        cases h2 : leVs dr b b' with
        | none => simp [h1, h2] at h
        | some c2 =>
          simp only [h1, h2, Option.some.injEq] at h
          subst h
          obtain ⟨k1, k2⟩ := All_append.1 hc
          have hff : f = f' := by
            cases f <;> cases f' <;> simp [fnEq] at hb ⊢ <;> exact hb
          subst hff
          rw [VRel] at hv ⊢
          obtain ⟨l, m, rfl, g1, g2⟩ := hv
          exact ⟨l, m, rfl, leVs_ok hU hF _ _ _ _ h1 k1 g1, leVs_ok hU hF _ _ _ _ h2 k2 g2⟩
  | .fnil, v', cs, x, h, hc, hv => by
    unfold leV at h
    cases v' <;> simp only [reduceCtorEq] at h
    · rw [VRel]; trivial
    · exact VRel.mono hU (Env.le_refl _) hv
  | .ifc t v, v', cs, x, h, hc, hv => by
    unfold leV at h
    cases v' <;> simp only [reduceCtorEq] at h
    · rw [VRel]; trivial
    · rename_i t' u
      cases hb : Nat.beq t t' <;> simp only [hb, cond_true, cond_false, reduceCtorEq] at h
      have := Nat.eq_of_beq_eq_true hb; subst this
      rw [VRel] at hv ⊢
      obtain ⟨y, rfl, g1⟩ := hv
      exact ⟨y, rfl, leV_ok hU hF _ _ _ _ h hc g1⟩
  | .inil, v', cs, x, h, hc, hv => by
    unfold leV at h
    cases v' <;> simp only [reduceCtorEq] at h
    · rw [VRel]; trivial
    · exact VRel.mono hU (Env.le_refl _) hv
  | .agg cs0, v', cs, x, h, hc, hv => by
    unfold leV at h
    cases v' <;> simp only [reduceCtorEq] at h
    · rw [VRel]; trivial
    · rw [VRel] at hv ⊢
      obtain ⟨l, rfl, g1⟩ := hv
      exact ⟨l, rfl, leCs_ok hU hF _ _ _ _ h hc g1⟩
  | .tup vs, v', cs, x, h, hc, hv => by
    unfold leV at h
    cases v' <;> simp only [reduceCtorEq] at h
    · rw [VRel]; trivial
    · rw [VRel] at hv ⊢
      obtain ⟨l, rfl, g1⟩ := hv
      exact ⟨l, rfl, leVs_ok hU hF _ _ _ _ h hc g1⟩
  | .mp n, v', cs, x, h, hc, hv => by
    unfold leV at h
    cases v' <;> simp only [reduceCtorEq] at h
    · rw [VRel]; trivial
    · rename_i n'
      cases hb : n.beq n' <;> simp only [hb, cond_true, cond_false, reduceCtorEq] at h
      have := Nm.beq_iff.1 hb; subst this
      exact VRel.mono hU (Env.le_refl _) hv
  | .yld n, v', cs, x, h, hc, hv => by
    unfold leV at h
    cases v' <;> simp only [reduceCtorEq] at h
    · rw [VRel]; trivial
    · rename_i n'
      cases hb : n.beq n' <;> simp only [hb, cond_true, cond_false, reduceCtorEq] at h
      have := Nm.beq_iff.1 hb; subst this
      exact VRel.mono hU (Env.le_refl _) hv
  | .mpnil, v', cs, x, h, hc, hv => by
    unfold leV at h
    cases v' <;> simp only [reduceCtorEq] at h
    · rw [VRel]; trivial
    · exact VRel.mono hU (Env.le_refl _) hv
  | .any, v', cs, x, h, hc, hv => by
    unfold leV at h
    cases v' <;> simp only [reduceCtorEq] at h
    rw [VRel]; trivial
  | .seg _ _ _, v', cs, x, h, hc, hv => by simp [leV] at h
theorem leVs_ok (hU : U.le U') (hF : Frozen U U' ρ dr) : ∀ (v v' : List V) (cs : List Prop) (x : List Value), leVs dr v v' = some cs → All cs → VsRel U ρ v x → VsRel U' ρ v' x
  | [], l, cs, x, h, _, hv => by
    unfold leVs at h
    cases l <;> simp only [reduceCtorEq] at h
    rw [VsRel] at hv ⊢; exact hv
  | v :: vs, l, cs, x, h, hc, hv => by
    unfold leVs at h
    cases l with
    | nil => simp at h
    | cons u us =>
      simp only at h
      cases h1 : leV dr v u with
      | none => simp [h1] at h
      | some c1 =>
        cases h2 : leVs dr vs us with
        | none => simp [h1, h2] at h
        | some c2 =>
          simp only [h1, h2, Option.some.injEq] at h
          subst h
          obtain ⟨k1, k2⟩ := All_append.1 hc
          rw [VsRel] at hv ⊢
          obtain ⟨y, r, rfl, g1, g2⟩ := hv
          exact ⟨y, r, rfl, leV_ok hU hF _ _ _ _ h1 k1 g1, leVs_ok hU hF _ _ _ _ h2 k2 g2⟩
theorem leCs_ok (hU : U.le U') (hF : Frozen U U' ρ dr) : ∀ (v v' : List V) (cs : List Prop) (x : List Value), leCs dr v v' = some cs → All cs → CsRel U ρ v x → CsRel U' ρ v' x
  | [], l, cs, x, h, _, hv => by
    unfold leCs at h
    cases l <;> simp only [reduceCtorEq] at h
    rw [CsRel] at hv ⊢; exact hv
  | v :: vs, l, cs, x, h, hc, hv => by
    unfold leCs at h
    cases l with
    | nil => simp at h
    | cons u us =>
      simp only at h
      cases h2 : leCs dr vs us with
      | none => simp [h2] at h
      | some c2 =>
        simp only [h2] at h
        rw [CsRel] at hv ⊢
        obtain ⟨l1, l2, rfl, g1, g2⟩ := hv
        cases hseg : v.isSeg with
        | true =>
          simp only [hseg] at h
          cases h1 : segC v u with
          | none => simp [h1] at h
          | some c1 =>
            simp only [h1, Option.some.injEq] at h
            subst h
            obtain ⟨k1, k2⟩ := All_append.1 hc
            cases v <;> simp only [V.isSeg, reduceCtorEq, Bool.false_eq_true] at hseg
            rename_i k m xs
            unfold segC at h1
            cases u <;> simp only [reduceCtorEq] at h1
            rename_i k' m' xs'
            cases hk : kindEq k k' <;> simp only [hk, cond_true, cond_false, reduceCtorEq, Option.some.injEq] at h1
            subst h1
            have : k = k' := of_decide_eq_true hk
            subst this
            obtain ⟨rfl, rfl, _⟩ := k1
            refine ⟨l1, l2, rfl, ?_, leCs_ok hU hF _ _ _ _ h2 k2 g2⟩
            rcases g1 with g1 | ⟨g1, _⟩
            · exact .inl g1
            · simp [V.cell] at g1
        | false =>
          simp only [hseg] at h
          cases hcell : u.cell <;> simp only [hcell, cond_true, cond_false, reduceCtorEq] at h
          cases h1 : leV dr v u with
          | none => simp [h1] at h
          | some c1 =>
            simp only [h1, Option.some.injEq] at h
            subst h
            obtain ⟨k1, k2⟩ := All_append.1 hc
            refine ⟨l1, l2, rfl, ?_, leCs_ok hU hF _ _ _ _ h2 k2 g2⟩
            rcases g1 with ⟨k, m, xs, e, _⟩ | ⟨_, y, e, g1⟩
            · subst e; simp [V.isSeg] at hseg
            · exact .inr ⟨rfl, y, e, leV_ok hU hF _ _ _ _ h1 k1 g1⟩
end
end

/-! ### States -/
/-- All names in it were there when the activation began. -/
def pinH (p : Nat) : Heap → Bool
  | [] => true
  | q :: h => q.1.pin p && (q.2.within (Nm.pin p) && pinH p h)
def PinH (p : Nat) (h : Heap) : Prop := ∀ q ∈ h, q.1.pin p = true ∧ q.2.within (Nm.pin p) = true
theorem pinH_ok {p : Nat} : ∀ {h : Heap}, pinH p h = true → PinH p h
  | [], _, q, hq => by cases hq
  | x :: h, e, q, hq => by
    rw [pinH, Bool.and_eq_true, Bool.and_eq_true] at e
    rcases List.mem_cons.1 hq with rfl | hq
    · exact ⟨e.1, e.2.1⟩
    · exact pinH_ok e.2.2 q hq

def restrict (p : Nat) (ρ : Env) : Env := fun n => match n.pin p with
  | true => ρ n
  | false => none
theorem restrict_pin {p : Nat} {ρ : Env} {n : Nm} (h : n.pin p = true) : restrict p ρ n = ρ n := by simp [restrict, h]

inductive K where
  | keep
  | drop
  | set (v : V)
inductive HK where
  | keep
  | set (b : B)

def swapB (a b n : Nm) : Nm := bif n.beq a then b else bif n.beq b then a else n
theorem swapB_swapB (a b n : Nm) : swapB a b (swapB a b n) = n := by
  have : swapB a b = Nm.swap a b := by
    funext n
    unfold swapB Nm.swap
    by_cases h : n = a
    · rw [if_pos h, Nm.beq_iff.2 h]; rfl
    · rw [if_neg h]
      have h1 : n.beq a = false := Bool.eq_false_iff.2 fun hh => h (Nm.beq_iff.1 hh)
      rw [h1]
      by_cases h' : n = b
      · rw [if_pos h', Nm.beq_iff.2 h']; rfl
      · rw [if_neg h']
        have h2 : n.beq b = false := Bool.eq_false_iff.2 fun hh => h' (Nm.beq_iff.1 hh)
        rw [h2]; rfl
  rw [this]; exact Nm.swap_swap a b n
def swaps : List (Nm × Nm) → Nm → Nm
  | [], n => n
  | q :: r, n => swaps r (swapB q.1 q.2 n)
def unswaps : List (Nm × Nm) → Nm → Nm
  | [], n => n
  | q :: r, n => swapB q.1 q.2 (unswaps r n)
theorem unswaps_swaps : ∀ (l : List (Nm × Nm)) (n : Nm), unswaps l (swaps l n) = n
  | [], _ => rfl
  | q :: r, n => by rw [swaps, unswaps, unswaps_swaps r, swapB_swapB]
theorem swaps_unswaps : ∀ (l : List (Nm × Nm)) (n : Nm), swaps l (unswaps l n) = n
  | [], _ => rfl
  | q :: r, n => by rw [swaps, unswaps, swapB_swapB, swaps_unswaps r]
def swOk (p : Nat) : List (Nm × Nm) → Bool
  | [] => true
  | q :: r => !q.1.pin p && (!q.2.pin p && swOk p r)
theorem swaps_pin {p : Nat} : ∀ {l : List (Nm × Nm)}, swOk p l = true → ∀ n, n.pin p = true → swaps l n = n
  | [], _, _, _ => rfl
  | q :: r, h, n, hn => by
    simp only [swOk, Bool.and_eq_true, Bool.not_eq_true'] at h
    have h1 : n.beq q.1 = false := by
      cases hh : n.beq q.1
      · rfl
      · have := Nm.beq_iff.1 hh; rw [← this, hn] at h; exact absurd h.1 (by simp)
    have h2 : n.beq q.2 = false := by
      cases hh : n.beq q.2
      · rfl
      · have := Nm.beq_iff.1 hh; rw [← this, hn] at h; exact absurd h.2.1 (by simp)
    rw [swaps, swapB, h1, h2]
    exact swaps_pin h.2.2 n hn

theorem VRel.unren {U : Imm} {ρ : Env} {sw : List (Nm × Nm)} {v : V} {x : Value} (h : VRel U ρ (V.ren (swaps sw) v) x) : VRel U (fun n => ρ (swaps sw n)) v x := by
  have := VRel.tr (σ := unswaps sw) (S := fun _ => true) (ρ' := fun n => ρ (swaps sw n)) (Imm.le_refl U) (fun n l _ e => by simp only [swaps_unswaps]; exact e) _ _ (V.within_true _) h
  rw [V.ren_ren] at this
  rwa [show (fun n => unswaps sw (swaps sw n)) = fun n => n from funext fun n => unswaps_swaps sw n, V.ren_id] at this
theorem BRel.unren {U : Imm} {ρ : Env} {sw : List (Nm × Nm)} {sz : Nat} {b : B} {o : Obj} (h : BRel U ρ sz (b.ren (swaps sw)) o) : BRel U (fun n => ρ (swaps sw n)) sz b o := by
  have := BRel.tr (σ := unswaps sw) (S := fun _ => true) (ρ' := fun n => ρ (swaps sw n)) (Imm.le_refl U) (fun n l _ e => by simp only [swaps_unswaps]; exact e) (B.within_true _) h
  rw [B.ren_ren] at this
  rwa [show (fun n => unswaps sw (swaps sw n)) = fun n => n from funext fun n => unswaps_swaps sw n, B.ren_id] at this

def kFor : List (Nat × K) → Nat → K
  | [], _ => .drop
  | q :: r, t => bif Nat.beq q.1 t then q.2 else kFor r t
def wkTmps (p nx : Nat) (sw : List (Nm × Nm)) (dr : Heap) (spec : List (Nat × K)) : Nat → List V → Option (List V × List Prop)
  | _, [] => some ([], [])
  | t, v :: vs => match wkTmps p nx sw dr spec (t + 1) vs with
    | none => none
    | some (vs', cs) => match kFor spec t with
      | .drop => some (.any :: vs', cs)
      | .keep => some (v :: vs', (V.within (Nm.pin p) v = true) :: cs)
      | .set u => bif V.within (Nm.pin nx) u then match leV dr v (V.ren (swaps sw) u) with
        | some c => some (u :: vs', c ++ cs)
        | none => none
        else none
def leB (dr : Heap) : B → B → Option (List Prop)
  | .flat cs, b => match b with
    | .flat cs' => leCs dr cs cs'
    | _ => none
  | .rows es n f g, b => match b with
    | .rows es' n' f' g' => bif Nat.beq es es' then some [n = n', ∀ k, k < n → f k = f' k, g' = false → g = false] else none
    | _ => none
  | .dfr, b => match b with
    | .dfr => some []
    | _ => none
  | _, _ => none
def wkHeap (p nx : Nat) (sw : List (Nm × Nm)) (dr : Heap) : List (Nm × HK) → Heap → Option (Heap × List Prop)
  | [], h => match h with
    | [] => some ([], [])
    | _ => none
  | q :: qs, h => match h with
    | [] => none
    | x :: xs => match wkHeap p nx sw dr qs xs with
      | none => none
      | some (h', cs) => bif x.1.beq (swaps sw q.1) && q.1.pin nx then match q.2 with
          | .keep => some ((q.1, x.2) :: h', (B.within (Nm.pin p) x.2 = true) :: cs)
          | .set b => bif B.within (Nm.pin nx) b then match leB dr x.2 (b.ren (swaps sw)) with
            | some c => some ((q.1, b) :: h', c ++ cs)
            | none => none
            else none
        else none

structure W where
  sw : List (Nm × Nm)
  tm : List (Nat × K)
  hp : List (Nm × HK)
  tl : Option Nat
  nx : Nat

def mapSw (sw : List (Nm × Nm)) : List (Nm × HK) → List Nm
  | [] => []
  | q :: r => swaps sw q.1 :: mapSw sw r
def allPin (p : Nat) : List Nm → Bool
  | [] => true
  | n :: r => n.pin p && allPin p r

def wkE (p : Nat) (k : W) (st : St) : Option (St × List Prop) :=
  match takeH (mapSw k.sw k.hp) st.heap with
  | none => none
  | some (bs, r) =>
    let dr := match k.tl with
      | some m => r.take m
      | none => r
    let tl := match k.tl with
      | some m => r.drop m
      | none => []
    match wkHeap p k.nx k.sw dr k.hp bs with
    | none => none
    | some (h', c1) => match wkTmps p k.nx k.sw dr k.tm 0 st.tmps with
      | none => none
      | some (ts, c2) => bif swOk p k.sw && (Nat.ble p k.nx && allPin p st.dfs) then
          match k.tl with
          | some _ => some (⟨ts, h' ++ tl, k.nx, st.dfs⟩, PinH p tl :: (c1 ++ c2))
          | none => some (⟨ts, h', k.nx, st.dfs⟩, c1 ++ c2)
        else none

theorem Nm.pin_mono {p q : Nat} (h : p ≤ q) {n : Nm} (hn : n.pin p = true) : n.pin q = true := by
  cases n with
  | o k => simp only [Nm.pin, decide_eq_true_eq] at hn ⊢; omega
  | g k => rfl

theorem wkTmps_ok {p nx : Nat} {sw : List (Nm × Nm)} {dr : Heap} {spec : List (Nat × K)} {U U' : Imm} {ρ ρ' : Env} (hU : U.le U') (hF : Frozen U U' ρ dr) (hsw : swOk p sw = true) (hp : p ≤ nx)
    (hρ : ∀ n l, n.pin nx = true → ρ (swaps sw n) = some l → ρ' n = some l) : ∀ (t : Nat) (vs ts : List V) (cs : List Prop) (xs : List Value), wkTmps p nx sw dr spec t vs = some (ts, cs) → All cs → VsRel U ρ vs xs → VsRel U' ρ' ts xs
  | t, [], ts, cs, xs, h, _, hv => by
    simp only [wkTmps, Option.some.injEq, Prod.mk.injEq] at h
    obtain ⟨rfl, rfl⟩ := h
    rw [VsRel] at hv ⊢; exact hv
  | t, v :: vs, ts, cs, xs, h, hc, hv => by
    unfold wkTmps at h
    cases hr : wkTmps p nx sw dr spec (t + 1) vs with
    | none => simp [hr] at h
    | some q =>
      obtain ⟨vs', c2⟩ := q
      simp only [hr] at h
      rw [VsRel] at hv
      obtain ⟨x, r, rfl, g1, g2⟩ := hv
      cases hk : kFor spec t <;> simp only [hk] at h
      · simp only [Option.some.injEq, Prod.mk.injEq] at h
        obtain ⟨rfl, rfl⟩ := h
        rw [VsRel]
        refine ⟨x, r, rfl, ?_, wkTmps_ok hU hF hsw hp hρ (t + 1) vs vs' c2 r hr hc.2 g2⟩
        exact VRel.within hU (fun n l hn e => hρ n l (Nm.pin_mono hp hn) (by rw [swaps_pin hsw n hn]; exact e)) hc.1 g1
      · simp only [Option.some.injEq, Prod.mk.injEq] at h
        obtain ⟨rfl, rfl⟩ := h
        rw [VsRel]
        exact ⟨x, r, rfl, by rw [VRel]; trivial, wkTmps_ok hU hF hsw hp hρ (t + 1) vs vs' c2 r hr hc g2⟩
      · rename_i u
        cases hw : V.within (Nm.pin nx) u <;> simp only [hw, cond_true, cond_false, reduceCtorEq] at h
        cases hl : leV dr v (V.ren (swaps sw) u) with
        | none => simp [hl] at h
        | some c =>
          simp only [hl, Option.some.injEq, Prod.mk.injEq] at h
          obtain ⟨rfl, rfl⟩ := h
          obtain ⟨k1, k2⟩ := All_append.1 hc
          rw [VsRel]
          refine ⟨x, r, rfl, ?_, wkTmps_ok hU hF hsw hp hρ (t + 1) vs vs' c2 r hr k2 g2⟩
          exact VRel.within (Imm.le_refl _) (fun n l hn e => hρ n l hn e) hw (VRel.unren (leV_ok hU hF _ _ _ _ hl k1 g1))

theorem leB_ok {U U' : Imm} {ρ : Env} {dr : Heap} (hU : U.le U') (hF : Frozen U U' ρ dr) {b b' : B} {cs : List Prop} {sz : Nat} {o : Obj} (h : leB dr b b' = some cs) (hc : All cs) (hb : BRel U ρ sz b o) : BRel U' ρ sz b' o := by
  cases b with
  | flat cs0 =>
    cases b' <;> simp only [leB, reduceCtorEq] at h
    obtain ⟨c, el, lo, hi, rfl, h2, h3, h4⟩ := hb
    exact ⟨c, el, lo, hi, rfl, h2, h3, leCs_ok hU hF _ _ _ _ h hc h4⟩
  | rows es n f g =>
    cases b' <;> simp only [leB, reduceCtorEq] at h
    rename_i es' n' f' g'
    cases hk : Nat.beq es es' <;> simp only [hk, cond_true, cond_false, reduceCtorEq, Option.some.injEq] at h
    subst h
    have := Nat.eq_of_beq_eq_true hk; subst this
    obtain ⟨rfl, k1, k2, _⟩ := hc
    obtain ⟨c, el, lo, hi, rfl, h2, h3, h4, h5, h6⟩ := hb
    refine ⟨c, el, lo, hi, rfl, h2, h3, h4, fun hg => h5 (k2 hg), fun i hi' => ?_⟩
    obtain ⟨r, h7, h8, h9⟩ := h6 i hi'
    rw [k1 i hi'] at h7
    exact ⟨r, CsRel.imm hU _ _ h7, h8, h9⟩
  | dfr =>
    cases b' <;> simp only [leB, reduceCtorEq] at h
    exact hb
  | map => simp [leB] at h
  | loop => simp [leB] at h

/-- The new heap: each block of it, as one of the old ones. -/
theorem wkHeap_ok {p nx : Nat} {sw : List (Nm × Nm)} {dr : Heap} (hsw : swOk p sw = true) (hp : p ≤ nx) : ∀ (qs : List (Nm × HK)) (h h' : Heap) (cs : List Prop), wkHeap p nx sw dr qs h = some (h', cs) → All cs →
    h'.map (fun q => swaps sw q.1) = h.map Prod.fst ∧ ∀ n b, (n, b) ∈ h' → n.pin nx = true ∧ ∃ b0, (swaps sw n, b0) ∈ h ∧ (∀ es f, b0 = .rows es 0 f true → ∃ es f, b = .rows es 0 f true) ∧
      ∀ (U U' : Imm) (ρ ρ' : Env), Imm.le U U' → Frozen U U' ρ dr → (∀ n l, n.pin nx = true → ρ (swaps sw n) = some l → ρ' n = some l) → ∀ sz o, BRel U ρ sz b0 o → BRel U' ρ' sz b o
  | [], h, h', cs, e, _ => by
    unfold wkHeap at e
    cases h <;> simp only [reduceCtorEq, Option.some.injEq, Prod.mk.injEq] at e
    obtain ⟨rfl, rfl⟩ := e
    exact ⟨rfl, fun n b hm => by cases hm⟩
  | q :: qs, h, h', cs, e, hc => by
    unfold wkHeap at e
    cases h with
    | nil => simp at e
    | cons x xs =>
      simp only at e
      cases hr : wkHeap p nx sw dr qs xs with
      | none => simp [hr] at e
      | some q2 =>
        obtain ⟨h2, c2⟩ := q2
        simp only [hr] at e
        cases hb : (x.1.beq (swaps sw q.1) && q.1.pin nx) <;> simp only [hb, cond_true, cond_false, reduceCtorEq] at e
        rw [Bool.and_eq_true] at hb
        have hx := Nm.beq_iff.1 hb.1
        obtain ⟨n0, k⟩ := q
        obtain ⟨xn, xb⟩ := x
        simp only at hx hb e
        subst hx
        cases k with
        | keep =>
          simp only [Option.some.injEq, Prod.mk.injEq] at e
          obtain ⟨rfl, rfl⟩ := e
          obtain ⟨i1, i2⟩ := wkHeap_ok hsw hp qs xs h2 c2 hr hc.2
          refine ⟨by rw [List.map_cons, List.map_cons, i1], fun n b hm => ?_⟩
          rcases List.mem_cons.1 hm with hm | hm
          · cases hm
            exact ⟨hb.2, _, List.mem_cons_self .., fun es f e => ⟨es, f, e⟩, fun U U' ρ ρ' hU hF hρ sz o ho => BRel.within hU (fun n l hn e => hρ n l (Nm.pin_mono hp hn) (by rw [swaps_pin hsw n hn]; exact e)) hc.1 ho⟩
          · obtain ⟨g0, b0, g1, g2⟩ := i2 n b hm
            exact ⟨g0, b0, List.mem_cons_of_mem _ g1, g2⟩
        | set b' =>
          simp only at e
          cases hw : B.within (Nm.pin nx) b' <;> simp only [hw, cond_true, cond_false, reduceCtorEq] at e
          cases hl : leB dr xb (b'.ren (swaps sw)) with
          | none => simp [hl] at e
          | some c =>
            simp only [hl, Option.some.injEq, Prod.mk.injEq] at e
            obtain ⟨rfl, rfl⟩ := e
            obtain ⟨k1, k2⟩ := All_append.1 hc
            obtain ⟨i1, i2⟩ := wkHeap_ok hsw hp qs xs h2 c2 hr k2
            refine ⟨by rw [List.map_cons, List.map_cons, i1], fun n b hm => ?_⟩
            rcases List.mem_cons.1 hm with hm | hm
            · cases hm
              refine ⟨hb.2, xb, List.mem_cons_self .., fun es f e => ?_, fun U U' ρ ρ' hU hF hρ sz o ho => BRel.within (Imm.le_refl _) (fun n l hn e => hρ n l hn e) hw (BRel.unren (leB_ok hU hF hl k1 ho))⟩
              subst e
              cases b' <;> simp only [B.ren, leB, reduceCtorEq] at hl
              rename_i es' n' f' g'
              cases hk : Nat.beq es es' <;> simp only [hk, cond_true, cond_false, reduceCtorEq, Option.some.injEq] at hl
              subst hl
              obtain ⟨e1, _, e2, _⟩ := k1
              subst e1
              cases g' with
              | true => exact ⟨_, _, rfl⟩
              | false => exact absurd (e2 rfl) (by simp)
            · obtain ⟨g0, b0, g1, g2⟩ := i2 n b hm
              exact ⟨g0, b0, List.mem_cons_of_mem _ g1, g2⟩

open Classical in
/-- What is immutable, and the blocks that are let go besides. -/
noncomputable def freeze (U : Imm) (ρ : Env) (dr : Heap) (w : World) : Imm := fun k =>
  if ∃ n b l, (n, b) ∈ dr ∧ ρ n = some l ∧ l.real = true ∧ l.blk = k then
    match w.heap[k]? with
    | some (.cells c _ _) => some c
    | _ => none
  else U k

theorem mapSw_eq (sw : List (Nm × Nm)) : ∀ l : List (Nm × HK), mapSw sw l = l.map fun q => swaps sw q.1
  | [] => rfl
  | q :: r => by rw [mapSw, mapSw_eq sw r]; rfl
theorem allPin_ok {p : Nat} : ∀ {l : List Nm}, allPin p l = true → ∀ n ∈ l, n.pin p = true
  | [], _, n, hn => by cases hn
  | x :: r, h, n, hn => by
    rw [allPin, Bool.and_eq_true] at h
    rcases List.mem_cons.1 hn with rfl | hn
    · exact h.1
    · exact allPin_ok h.2 n hn

theorem wk_core {p nx : Nat} {sw : List (Nm × Nm)} {dr keep : Heap} {st : St} {h' : Heap} {ts : List V}
    (hsw : swOk p sw = true) (hp : p ≤ nx) (hperm : st.heap.Perm (keep ++ dr)) (hdf : allPin p st.dfs = true)
    (hT : ∀ U U' ρ ρ' xs, Imm.le U U' → Frozen U U' ρ dr → (∀ n l, n.pin nx = true → ρ (swaps sw n) = some l → ρ' n = some l) → VsRel U ρ st.tmps xs → VsRel U' ρ' ts xs)
    (hnames : ∀ n b, (n, b) ∈ h' → n.pin nx = true ∧ ∃ b0, (swaps sw n, b0) ∈ keep ∧ (∀ es f, b0 = .rows es 0 f true → ∃ es f, b = .rows es 0 f true) ∧
      ∀ U U' ρ ρ', Imm.le U U' → Frozen U U' ρ dr → (∀ n l, n.pin nx = true → ρ (swaps sw n) = some l → ρ' n = some l) → ∀ sz o, BRel U ρ sz b0 o → BRel U' ρ' sz b o)
    (hnd : (h'.map fun q => swaps sw q.1) = keep.map Prod.fst) : Wk p st ⟨ts, h', nx, st.dfs⟩ := by
  intro U ρ a w hs
  have H := hs.heap.perm hperm
  have hfU : ∀ n b l, (n, b) ∈ dr → ρ n = some l → l.real = true → U l.blk = none := fun n b l hm e hr => by
    obtain ⟨_, _, _, h⟩ := H.right.real hm e hr; exact h
  have hU : U.le (freeze U ρ dr w) := fun k c e => by
    unfold freeze
    split
    · rename_i hh
      obtain ⟨n, b, l, h1, h2, h3, rfl⟩ := hh
      rw [hfU n b l h1 h2 h3] at e; cases e
    · exact e
  have hF : Frozen U (freeze U ρ dr w) ρ dr := fun n b hm l e hr => by
    have hex : ∃ n b l', (n, b) ∈ dr ∧ ρ n = some l' ∧ l'.real = true ∧ l'.blk = l.blk := ⟨n, b, l, hm, e, hr, rfl⟩
    obtain ⟨o, h1, h2, h3⟩ := H.right.real hm e hr
    constructor
    · rintro cs rfl
      obtain ⟨c, el, lo, hi, rfl, _, _, h4⟩ := h2
      exact ⟨c, by unfold freeze; rw [if_pos hex, h1], h4⟩
    · rintro es m f g rfl
      obtain ⟨c, el, lo, hi, rfl, _, _, _, _, h4⟩ := h2
      exact ⟨c, by unfold freeze; rw [if_pos hex, h1], h4⟩
  let ρ' : Env := fun n => match n.pin nx with
    | true => ρ (swaps sw n)
    | false => none
  have hρ : ∀ n l, n.pin nx = true → ρ (swaps sw n) = some l → ρ' n = some l := fun n l hn e => by simp [ρ', hn, e]
  have hρ' : ∀ n, n.pin nx = true → ρ' n = ρ (swaps sw n) := fun n hn => by simp [ρ', hn]
  have hpin : ∀ n, n.pin p = true → ρ' n = ρ n := fun n hn => by rw [hρ' n (Nm.pin_mono hp hn), swaps_pin hsw n hn]
  have hkd : ∀ n b b', (n, b) ∈ keep → (n, b') ∉ dr := fun n b b' h1 h2 => by
    have := H.nd
    rw [List.map_append, List.nodup_append] at this
    exact this.2.2 n (List.mem_map.2 ⟨_, h1, rfl⟩) n (List.mem_map.2 ⟨_, h2, rfl⟩) rfl
  have hinj : ∀ a b, swaps sw a = swaps sw b → a = b := fun a b e => by rw [← unswaps_swaps sw a, ← unswaps_swaps sw b, e]
  refine ⟨freeze U ρ dr w, ρ', ⟨hT U _ ρ ρ' _ hU hF hρ hs.tmps, ?_, ⟨fun n b hm => ?_, fun n b n' b' l l' m m' e1 e2 r1 r2 e3 => ?_, ?_, fun k c hk => ?_⟩, fun k hk => ?_⟩, ⟨⟨Nat.le_refl _, hU, fun _ _ _ => rfl, fun n l ⟨b, hb⟩ e hr => ?_, fun k c hk => ?_, rfl, rfl⟩, fun n hn => ⟨hpin n hn, fun ⟨b, hb⟩ => ?_⟩⟩⟩
  · have hd := hs.dfs
    have : ∀ (l : List Nm) (d : List Deferred), (∀ n ∈ l, n.pin p = true) → DfRel ρ l d → DfRel ρ' l d := by
      intro l
      induction l with
      | nil => exact fun d _ h => h
      | cons n ns ih =>
        rintro d hpn ⟨lc, r, e1, e2, e3⟩
        exact ⟨lc, r, by rw [hpin n (hpn n (List.mem_cons_self ..))]; exact e1, e2, ih _ (fun m hm => hpn m (List.mem_cons_of_mem _ hm)) e3⟩
    exact this _ _ (allPin_ok hdf) hd
  · obtain ⟨h1, b0, h2, h3, h4⟩ := hnames n b hm
    obtain ⟨l, g1, g2⟩ := H.left.blk _ _ h2
    refine ⟨l, hρ n l h1 g1, ?_⟩
    rcases g2 with ⟨hr, o, g3, g4, g5⟩ | ⟨hr, es, f, rfl⟩
    · refine .inl ⟨hr, o, g3, h4 U _ ρ ρ' hU hF hρ _ _ g4, ?_⟩
      unfold freeze
      rw [if_neg]
      · exact g5
      · rintro ⟨n', b', l', k1, k2, k3, k4⟩
        have := H.inj n' b' (swaps sw n) b0 l' l (List.mem_append_right _ k1) (List.mem_append_left _ h2) k2 g1 k3 hr k4
        rw [this] at k1
        exact hkd _ _ _ h2 k1
    · exact .inr ⟨hr, h3 es f rfl⟩
  · obtain ⟨h1, b0, h2, _⟩ := hnames n b m
    obtain ⟨h1', b0', h2', _⟩ := hnames n' b' m'
    rw [hρ' n h1] at e1
    rw [hρ' n' h1'] at e2
    exact hinj _ _ (H.inj _ b0 _ b0' l l' (List.mem_append_left _ h2) (List.mem_append_left _ h2') e1 e2 r1 r2 e3)
  · have : (h'.map fun q => swaps sw q.1) = (h'.map Prod.fst).map (swaps sw) := by rw [List.map_map]; rfl
    have hnd2 := H.left.nd
    rw [← hnd, this] at hnd2
    exact (List.pairwise_map.1 hnd2).imp fun h e => h (by rw [e])
  · unfold freeze at hk
    split at hk
    · split at hk
      · rename_i c' el fr hh
        simp only [Option.some.injEq] at hk; subst hk
        exact ⟨el, fr, hh⟩
      · cases hk
    · exact hs.heap.imm k c hk
  · have : (Nm.o k).pin nx = false := by simp only [Nm.pin, decide_eq_false_iff_not]; exact Nat.not_lt.2 hk
    simp [ρ', this]
  · obtain ⟨h1, b0, h2, _⟩ := hnames n b hb
    rw [hρ' n h1] at e
    exact .inr ⟨_, l, ⟨b0, hperm.mem_iff.2 (List.mem_append_left _ h2)⟩, e, hr, rfl⟩
  · unfold freeze at hk
    split at hk
    · rename_i hh
      obtain ⟨n, b, l, h1, h2, h3, h4⟩ := hh
      exact .inr (.inr ⟨n, l, ⟨b, hperm.mem_iff.2 (List.mem_append_right _ h1)⟩, h2, h3, h4⟩)
    · exact .inl hk
  · obtain ⟨_, b0, h2, _⟩ := hnames n b hb
    rw [swaps_pin hsw n hn] at h2
    exact ⟨b0, hperm.mem_iff.2 (List.mem_append_left _ h2)⟩

theorem wkE_ok {p : Nat} {k : W} {st st' : St} {cs : List Prop} (h : wkE p k st = some (st', cs)) (hc : All cs) : Wk p st st' ∧ p ≤ st'.next := by
  unfold wkE at h
  cases ht : takeH (mapSw k.sw k.hp) st.heap with
  | none => simp [ht] at h
  | some q =>
    obtain ⟨bs, r⟩ := q
    simp only [ht] at h
    have hperm := takeH_perm ht
    generalize hdr : (match k.tl with
      | some m => r.take m
      | none => r) = dr at h
    generalize htl : (match k.tl with
      | some m => r.drop m
      | none => []) = tl at h
    have hsplit : r.Perm (tl ++ dr) := by
      cases hk : k.tl with
      | none => simp only [hk] at hdr htl; subst hdr; subst htl; exact List.Perm.refl _
      | some m =>
        simp only [hk] at hdr htl; subst hdr; subst htl
        exact (List.Perm.of_eq (List.take_append_drop m r).symm).trans List.perm_append_comm
    cases hw : wkHeap p k.nx k.sw dr k.hp bs with
    | none => simp [hw] at h
    | some q =>
      obtain ⟨h', c1⟩ := q
      simp only [hw] at h
      cases hts : wkTmps p k.nx k.sw dr k.tm 0 st.tmps with
      | none => simp [hts] at h
      | some q =>
        obtain ⟨ts, c2⟩ := q
        simp only [hts] at h
        cases hb : (swOk p k.sw && (Nat.ble p k.nx && allPin p st.dfs)) <;> simp only [hb, cond_true, cond_false, reduceCtorEq] at h
        simp only [Bool.and_eq_true] at hb
        obtain ⟨b1, b2, b3⟩ := hb
        have hp := Nat.le_of_ble_eq_true b2
        have fin : All c1 → All c2 → PinH p tl → Wk p st ⟨ts, h' ++ tl, k.nx, st.dfs⟩ := by
          intro k1 k2 k3
          refine wk_core (keep := bs ++ tl) (dr := dr) b1 hp (hperm.trans ((hsplit.append_left bs).trans (by rw [List.append_assoc]))) b3
            (fun U U' ρ ρ' xs hU hF hρ hv => wkTmps_ok hU hF b1 hp hρ 0 _ _ _ _ hts k2 hv) (fun n b hm => ?_) ?_
          · rcases List.mem_append.1 hm with hm | hm
            · obtain ⟨g1, b0, g2, g3, g4⟩ := (wkHeap_ok b1 hp k.hp bs h' c1 hw k1).2 n b hm
              exact ⟨g1, b0, List.mem_append_left _ g2, g3, g4⟩
            · obtain ⟨g1, g2⟩ := k3 _ hm
              refine ⟨Nm.pin_mono hp g1, b, by rw [swaps_pin b1 n g1]; exact List.mem_append_right _ hm, fun es f e => ⟨es, f, e⟩, fun U U' ρ ρ' hU hF hρ sz o ho => ?_⟩
              exact BRel.within hU (fun m l hn e => hρ m l (Nm.pin_mono hp hn) (by rw [swaps_pin b1 m hn]; exact e)) g2 ho
          · rw [List.map_append, List.map_append, (wkHeap_ok b1 hp k.hp bs h' c1 hw k1).1]
            congr 1
            exact List.map_congr_left fun q hq => swaps_pin b1 _ (k3 q hq).1
        cases hk : k.tl with
        | none =>
          simp only [hk, Option.some.injEq, Prod.mk.injEq] at h htl
          obtain ⟨rfl, rfl⟩ := h
          subst htl
          obtain ⟨k1, k2⟩ := All_append.1 hc
          have := fin k1 k2 (fun q hq => by cases hq)
          rw [List.append_nil] at this
          exact ⟨this, hp⟩
        | some m =>
          simp only [hk, Option.some.injEq, Prod.mk.injEq] at h
          obtain ⟨rfl, rfl⟩ := h
          obtain ⟨k3, k12⟩ := hc
          obtain ⟨k1, k2⟩ := All_append.1 k12
          exact ⟨fin k1 k2 k3, hp⟩
end Sy
