/-
  Code, executed along hints; a call's contract out of it (own work of this seat).
-/
import Derived.Test.YthifjamdfpjilaaSyWk
namespace Sy
open Go

variable {P : Program}

/-! ### A nil slice, as an own one -/
def virtE (t es : Nat) (st : St) : Option St := match getV st.tmps t with
  | .snil => some ⟨setV st.tmps t (.sl (.o st.next) es 0 0 0 0 none), (.o st.next, .rows es 0 (fun _ => []) true) :: st.heap, st.next + 1, st.dfs⟩
  | _ => none
theorem setV_rel' {U : Imm} {ρ : Env} {u v : V} (h : ∀ x, VRel U ρ u x → VRel U ρ v x) : ∀ {l : List V} {xs : List Value} {t : Nat}, getV l t = u → VsRel U ρ l xs → VsRel U ρ (setV l t v) xs
  | [], xs, t, _, hv => by simpa [setV] using hv
  | w :: vs, xs, 0, hg, hv => by
    rw [VsRel] at hv
    obtain ⟨x, r, rfl, h1, h2⟩ := hv
    simp only [getV] at hg; subst hg
    simp only [setV]; rw [VsRel]; exact ⟨x, r, rfl, h x h1, h2⟩
  | w :: vs, xs, t + 1, hg, hv => by
    rw [VsRel] at hv
    obtain ⟨x, r, rfl, h1, h2⟩ := hv
    simp only [getV] at hg
    simp only [setV]; rw [VsRel]; exact ⟨x, r, rfl, h1, setV_rel' h hg h2⟩
theorem DfRel.mono {ρ ρ' : Env} (h : ρ.le ρ') : ∀ {l : List Nm} {d : List Deferred}, DfRel ρ l d → DfRel ρ' l d
  | [], _, hd => hd
  | n :: ns, d, hd => by obtain ⟨lc, r, e1, e2, e3⟩ := hd; exact ⟨lc, r, h _ _ e1, e2, DfRel.mono h e3⟩
theorem virtE_ok {p t es : Nat} {st st' : St} (h : virtE t es st = some st') (hp : p ≤ st.next) : Wk p st st' ∧ p ≤ st'.next := by
  unfold virtE at h
  cases hg : getV st.tmps t <;> simp only [hg, reduceCtorEq, Option.some.injEq] at h
  subst h
  refine ⟨fun U ρ a w hs => ?_, Nat.le_succ_of_le hp⟩
  have hm := hs.fresh st.next (Nat.le_refl _)
  have hle := Env.le_add hm (⟨0, 0, false⟩ : Loc)
  have L := Leaves.newG (val := .snil) (x := .slice none 0 0) (m := .o st.next) (b := .rows es 0 (fun _ => []) true) (l := ⟨0, 0, false⟩) (w' := w) hs.heap hm (Nat.le_refl _) (fun _ _ => rfl) (.inr ⟨rfl, _, _, rfl⟩) (by rw [VRel])
  refine ⟨U, _, ⟨?_, DfRel.mono hle hs.dfs, L.heap, fun k hk => ?_⟩, ⟨L.ext, fun n hn => ?_⟩⟩
  · refine setV_rel' (fun x hx => ?_) hg (VsRel.mono (Imm.le_refl _) hle hs.tmps)
    rw [VRel] at hx; subst hx
    rw [VRel]
    exact ⟨_, 0, Env.add_self, Nat.le_refl _, by simp, .inr ⟨rfl, rfl, rfl, rfl⟩⟩
  · have hk' : st.next + 1 ≤ k := hk
    have : Nm.o k ≠ Nm.o st.next := fun e => by cases e; omega
    simp only [Env.add, this, if_false]; exact hs.fresh k (by omega)
  · have hne : n ≠ Nm.o st.next := fun e => by subst e; simp only [Nm.pin, decide_eq_true_eq] at hn; omega
    refine ⟨by simp [Env.add, hne], fun ⟨b, hb⟩ => ?_⟩
    rcases List.mem_cons.1 hb with hb | hb
    · cases hb; exact (hne rfl).elim
    · exact ⟨b, hb⟩

inductive Hint where
  | reg (l : List (Nat × OH))
  | br (b : Bool)
  | loop (m : Nat) (k : W) (e : Exit) (st1 : St)
  | rounds (n : Nat)
  | wk (k : W)
  | virt (t es : Nat)

/-- Hints that turn the state before what comes next. -/
def prep (p : Nat) : List Hint → St → Option (St × List Prop × List Hint)
  | [], st => some (st, [], [])
  | h :: hs, st => match h with
    | .wk k => match wkE p k st with
      | none => none
      | some (st1, c1) => match prep p hs st1 with
        | none => none
        | some (st2, c2, hs2) => some (st2, c1 ++ c2, hs2)
    | .virt t es => match virtE t es st with
      | none => none
      | some st1 => prep p hs st1
    | h => some (st, [], h :: hs)
theorem prep_ok {p : Nat} : ∀ {hs hs' : List Hint} {st st' : St} {cs : List Prop}, prep p hs st = some (st', cs, hs') → All cs → p ≤ st.next → Wk p st st' ∧ p ≤ st'.next
  | [], hs', st, st', cs, h, _, hp => by
    simp only [prep, Option.some.injEq, Prod.mk.injEq] at h
    obtain ⟨rfl, rfl, rfl⟩ := h
    exact ⟨Wk.refl _, hp⟩
  | h0 :: hs, hs', st, st', cs, h, hc, hp => by
    unfold prep at h
    split at h
    · rename_i k
      cases hw : wkE p k st with
      | none => simp [hw] at h
      | some q =>
        obtain ⟨st1, c1⟩ := q
        simp only [hw] at h
        cases hr : prep p hs st1 with
        | none => simp [hr] at h
        | some q =>
          obtain ⟨st2, c2, hs2⟩ := q
          simp only [hr, Option.some.injEq, Prod.mk.injEq] at h
          obtain ⟨rfl, rfl, rfl⟩ := h
          obtain ⟨k1, k2⟩ := All_append.1 hc
          obtain ⟨g1, g2⟩ := wkE_ok hw k1
          obtain ⟨g3, g4⟩ := prep_ok hr k2 g2
          exact ⟨g1.trans g3, g4⟩
    · rename_i t es
      cases hw : virtE t es st with
      | none => simp [hw] at h
      | some st1 =>
        simp only [hw] at h
        obtain ⟨g1, g2⟩ := virtE_ok hw hp
        obtain ⟨g3, g4⟩ := prep_ok h hc g2
        exact ⟨g1.trans g3, g4⟩
    · simp only [Option.some.injEq, Prod.mk.injEq] at h
      obtain ⟨rfl, rfl, rfl⟩ := h
      exact ⟨Wk.refl _, hp⟩

def cL : Code → Code
  | .seq x _ => x
  | _ => .skip
def cR : Code → Code
  | .seq _ y => y
  | _ => .skip
def cT : Code → Code
  | .cond _ x _ => x
  | _ => .skip
def cE : Code → Code
  | .cond _ _ y => y
  | _ => .skip
def cB : Code → Code
  | .block _ c => c
  | .loop c => c
  | _ => .skip

structure RunR where
  e : Exit
  st : St
  cs : List Prop
  hs : List Hint

def hungryOp (o : Oper) : Bool := match o.guard with
  | some _ => true
  | none => match o.op with
    | .call c => match c.callee with
      | .value _ => true
      | _ => false
    | _ => false
def hungry (ops : Array Oper) : Bool := ops.toList.any hungryOp

def addCs (cs : List Prop) (r : Option RunR) : Option RunR := match r with
  | none => none
  | some r => some { r with cs := cs ++ r.cs }

def iter (f : St → List Hint → Option RunR) : Nat → St → List Hint → Option RunR
  | 0, _, _ => none
  | n + 1, st, hs => match f st hs with
    | none => none
    | some r => match r.e with
      | .normal => addCs r.cs (iter f n r.st r.hs)
      | _ => some r

def isNormal : Exit → Bool
  | .normal => true
  | _ => false

/-- The second code is the first one, named shortly. -/
def run (P : Program) (ro : Option Nat) (p : Nat) : Code → Code → St → List Hint → Option RunR
  | .skip, _, st, hs => some ⟨.normal, st, [], hs⟩
  | .ret, _, st, hs => some ⟨.ret, st, [], hs⟩
  | .exit id, _, st, hs => some ⟨.exit id, st, [], hs⟩
  | .region _ ops draw, _, st, hs =>
    match hungry ops with
    | false => match regE P ops draw [] st with
      | none => none
      | some (st', cs) => some ⟨.normal, st', cs, hs⟩
    | true => match hs with
      | .reg l :: hs' => match regE P ops draw l st with
        | none => none
        | some (st', cs) => some ⟨.normal, st', cs, hs'⟩
      | _ => match regE P ops draw [] st with
        | none => none
        | some (st', cs) => some ⟨.normal, st', cs, hs⟩
  | .seq x y, c', st, hs => match run P ro p x (cL c') st hs with
    | none => none
    | some r => match r.e with
      | .normal => match prep p r.hs r.st with
        | none => none
        | some (st2, c2, hs2) => addCs (r.cs ++ c2) (run P ro p y (cR c') st2 hs2)
      | _ => some r
  | .cond o x y, c', st, hs => match evV st.tmps o with
    | .bool c => match hs with
      | .br b :: hs' => match b with
        | true => addCs [c = true] (run P ro p x (cT c') st hs')
        | false => addCs [c = false] (run P ro p y (cE c') st hs')
      | _ => match c with
        | true => run P ro p x (cT c') st hs
        | false => run P ro p y (cE c') st hs
    | _ => none
  | .block id c, c', st, hs => match run P ro p c (cB c') st hs with
    | none => none
    | some r => match r.e with
      | .normal => some r
      | .exit k => bif Nat.beq k id then some { r with e := .normal } else some r
      | _ => some r
  | .loop c, c', st, hs => match hs with
    | .loop m k e st1 :: hs' => bif Nat.ble p st1.next then match wkE p k st with
        | none => none
        | some (st0, c0) => some ⟨e, st1, RLoop P ro p (cB c') m st0 e st1 :: c0, hs'⟩
      else none
    | .rounds n :: hs' => iter (run P ro p c (cB c')) n st hs'
    | _ => none
  | _, _, _, _ => none

theorem addCs_some {cs : List Prop} {r : Option RunR} {r' : RunR} (h : addCs cs r = some r') : ∃ r0, r = some r0 ∧ r' = { r0 with cs := cs ++ r0.cs } := by
  unfold addCs at h
  cases r with
  | none => simp at h
  | some r0 => simp only [Option.some.injEq] at h; exact ⟨r0, rfl, h.symm⟩

def RunOk (P : Program) (ro : Option Nat) (p : Nat) (c : Code) : Prop :=
  ∀ (c' : Code), c' = c → ∀ (st : St) (hs : List Hint) (r : RunR), run P ro p c c' st hs = some r → All r.cs → p ≤ st.next → p ≤ r.st.next ∧ R P ro p c st r.e r.st

theorem iter_ok {ro : Option Nat} {p : Nat} {c c' : Code} (hcc : c' = c) (h : RunOk P ro p c) : ∀ (n : Nat) (st : St) (hs : List Hint) (r : RunR), iter (run P ro p c c') n st hs = some r → All r.cs → p ≤ st.next → p ≤ r.st.next ∧ RLoop P ro p c n st r.e r.st
  | 0, st, hs, r, he, _, _ => by simp [iter] at he
  | n + 1, st, hs, r, he, hc, hp => by
    unfold iter at he
    cases hr : run P ro p c c' st hs with
    | none => simp [hr] at he
    | some r1 =>
      simp only [hr] at he
      by_cases hn : r1.e = .normal
      · simp only [hn] at he
        obtain ⟨r0, h1, rfl⟩ := addCs_some he
        obtain ⟨k1, k2⟩ := All_append.1 hc
        obtain ⟨g1, g2⟩ := h c' hcc st hs r1 hr k1 hp
        obtain ⟨g3, g4⟩ := iter_ok hcc h n r1.st r1.hs r0 h1 k2 g1
        rw [hn] at g2
        exact ⟨g3, RLoop.step g2 g4⟩
      · have : some r1 = some r := by
          cases he1 : r1.e <;> simp only [he1] at he hn <;> first | exact he | exact (hn trivial).elim
        simp only [Option.some.injEq] at this
        subst this
        obtain ⟨g1, g2⟩ := h c' hcc st hs r1 hr hc hp
        exact ⟨g1, RLoop.out g2 hn⟩

theorem run_ok (hng : NoNG P) (hm : P.follows .mixedOrders = true) {ro : Option Nat} {p : Nat} : ∀ c : Code, RunOk P ro p c := by
  intro c
  induction c with
  | skip => intro c' _ st hs r h hc hp; simp only [run, Option.some.injEq] at h; subst h; exact ⟨hp, R.skip st⟩
  | ret => intro c' _ st hs r h hc hp; simp only [run, Option.some.injEq] at h; subst h; exact ⟨hp, R.ret st⟩
  | exit id => intro c' _ st hs r h hc hp; simp only [run, Option.some.injEq] at h; subst h; exact ⟨hp, R.exit id st⟩
  | region id ops draw =>
    intro c' _ st hs r h hc hp
    have key : ∀ (l : List (Nat × OH)) (hs1 : List Hint), (match regE P ops draw l st with
        | none => none
        | some (st', cs) => some (⟨.normal, st', cs, hs1⟩ : RunR)) = some r → p ≤ r.st.next ∧ R P ro p (.region id ops draw) st r.e r.st := by
      intro l hs1 he
      cases hr : regE P ops draw l st with
      | none => simp [hr] at he
      | some q =>
        obtain ⟨st', cs⟩ := q
        simp only [hr, Option.some.injEq] at he
        subst he
        exact regE_ok hng hm hr hc hp
    unfold run at h
    split at h
    · exact key _ _ h
    · split at h
      · exact key _ _ h
      · exact key _ _ h
  | seq x y ihx ihy =>
    intro c' hcc st hs r h hc hp
    subst hcc
    unfold run at h
    simp only [cL, cR] at h
    cases hr : run P ro p x x st hs with
    | none => simp [hr] at h
    | some r1 =>
      simp only [hr] at h
      by_cases hn : r1.e = .normal
      · simp only [hn] at h
        cases hpr : prep p r1.hs r1.st with
        | none => simp [hpr] at h
        | some q =>
          obtain ⟨st2, c2, hs2⟩ := q
          simp only [hpr] at h
          obtain ⟨r0, h1, rfl⟩ := addCs_some h
          simp only [All_append] at hc
          obtain ⟨⟨k1, k2⟩, k3⟩ := hc
          obtain ⟨g1, g2⟩ := ihx x rfl st hs r1 hr k1 hp
          obtain ⟨g5, g6⟩ := prep_ok hpr k2 g1
          obtain ⟨g3, g4⟩ := ihy y rfl st2 hs2 r0 h1 k3 g6
          rw [hn] at g2
          exact ⟨g3, R.seq g2 (R.pre g5 g4)⟩
      · have : some r1 = some r := by
          cases he1 : r1.e <;> simp only [he1] at h hn <;> first | exact h | exact (hn trivial).elim
        simp only [Option.some.injEq] at this
        subst this
        obtain ⟨g1, g2⟩ := ihx x rfl st hs r1 hr hc hp
        exact ⟨g1, R.seq_out g2 hn⟩
  | cond o x y ihx ihy =>
    intro c' hcc st hs r h hc hp
    subst hcc
    unfold run at h
    simp only [cT, cE] at h
    cases hv : evV st.tmps o <;> simp only [hv, reduceCtorEq] at h
    rename_i c
    have hb : ∀ U ρ a w, StRel U ρ st a w → a.eval o = .bool c := fun U ρ a w hs => by
      have := evV_rel hs.tmps o
      rw [hv, VRel] at this; exact this
    split at h
    · split at h
      · obtain ⟨r0, h1, rfl⟩ := addCs_some h
        have hcc : c = true := hc.1
        subst hcc
        obtain ⟨g1, g2⟩ := ihx _ rfl _ _ _ h1 hc.2 hp
        exact ⟨g1, R.cond hb (by simpa using g2)⟩
      · obtain ⟨r0, h1, rfl⟩ := addCs_some h
        have hcc : c = false := hc.1
        subst hcc
        obtain ⟨g1, g2⟩ := ihy _ rfl _ _ _ h1 hc.2 hp
        exact ⟨g1, R.cond hb (by simpa using g2)⟩
    · cases c with
      | true =>
        obtain ⟨g1, g2⟩ := ihx _ rfl _ _ _ h hc hp
        exact ⟨g1, R.cond hb (by simpa using g2)⟩
      | false =>
        obtain ⟨g1, g2⟩ := ihy _ rfl _ _ _ h hc hp
        exact ⟨g1, R.cond hb (by simpa using g2)⟩
  | block id c ih =>
    intro c' hcc st hs r h hc hp
    subst hcc
    unfold run at h
    simp only [cB] at h
    cases hr : run P ro p c c st hs with
    | none => simp [hr] at h
    | some r1 =>
      simp only [hr] at h
      cases he : r1.e with
      | normal =>
        simp only [he, Option.some.injEq] at h; subst h
        obtain ⟨g1, g2⟩ := ih c rfl st hs r1 hr hc hp
        rw [he] at g2
        rw [he]
        exact ⟨g1, R.block g2⟩
      | exit k =>
        simp only [he] at h
        cases hb : Nat.beq k id <;> simp only [hb, cond_true, cond_false, Option.some.injEq] at h <;> subst h
        · obtain ⟨g1, g2⟩ := ih c rfl st hs r1 hr hc hp
          refine ⟨g1, R.block_out g2 (by rw [he]; simp) ?_⟩
          rw [he]
          intro hh
          cases hh
          rw [Nat.beq_refl] at hb; cases hb
        · have hk := Nat.eq_of_beq_eq_true hb
          subst hk
          obtain ⟨g1, g2⟩ := ih c rfl st hs r1 hr hc hp
          rw [he] at g2
          exact ⟨g1, R.block_exit g2⟩
      | _ =>
        simp only [he, Option.some.injEq] at h; subst h
        obtain ⟨g1, g2⟩ := ih c rfl st hs r1 hr hc hp
        exact ⟨g1, R.block_out g2 (by rw [he]; simp) (by rw [he]; simp)⟩
  | loop c ih =>
    intro c' hcc st hs r h hc hp
    subst hcc
    unfold run at h
    simp only [cB] at h
    split at h
    · rename_i m k e st1 hs'
      cases hb : Nat.ble p st1.next <;> simp only [hb, cond_true, cond_false, reduceCtorEq] at h
      cases hw : wkE p k st with
      | none => simp [hw] at h
      | some q =>
        obtain ⟨st0, c0⟩ := q
        simp only [hw, Option.some.injEq] at h
        subst h
        obtain ⟨k1, k2⟩ := hc
        exact ⟨Nat.le_of_ble_eq_true hb, R.loop (RLoop.pre (wkE_ok hw k2).1 k1)⟩
    · obtain ⟨g1, g2⟩ := iter_ok rfl ih _ _ _ _ h hc hp
      exact ⟨g1, R.loop g2⟩
    · simp at h
  | rangeFunc f ps a b iha ihb => intro c' _ st hs r h; simp [run] at h
  | scope b ih => intro c' _ st hs r h; simp [run] at h
  | label l => intro c' _ st hs r h; simp [run] at h
  | goto l => intro c' _ st hs r h; simp [run] at h
  | refuse w => intro c' _ st hs r h; simp [run] at h

/-- A piece of code along hints, weakened at its end. -/
def bodyRun (P : Program) (ro : Option Nat) (p : Nat) (c : Code) (st : St) (hs : List Hint) (k : W) : Option (Exit × St × List Prop) :=
  match prep p hs st with
  | none => none
  | some (st1, c1, hs1) => match run P ro p c c st1 hs1 with
    | none => none
    | some r => match prep p r.hs r.st with
      | none => none
      | some (st2, c2, _) => match wkE p k st2 with
        | none => none
        | some (st', c3) => some (r.e, st', c1 ++ (r.cs ++ (c2 ++ c3)))
theorem R_of_bodyRun (hng : NoNG P) (hm : P.follows .mixedOrders = true) {ro : Option Nat} {p : Nat} {c : Code} {st st' : St} {hs : List Hint} {k : W} {e : Exit} {cs : List Prop} (h : bodyRun P ro p c st hs k = some (e, st', cs)) (hc : All cs) (hp : p ≤ st.next) :
    R P ro p c st e st' := by
  unfold bodyRun at h
  cases h1 : prep p hs st with
  | none => simp [h1] at h
  | some q =>
    obtain ⟨st1, c1, hs1⟩ := q
    simp only [h1] at h
    cases h2 : run P ro p c c st1 hs1 with
    | none => simp [h2] at h
    | some r =>
      simp only [h2] at h
      cases h3 : prep p r.hs r.st with
      | none => simp [h3] at h
      | some q =>
        obtain ⟨st2, c2, hs2⟩ := q
        simp only [h3] at h
        cases h4 : wkE p k st2 with
        | none => simp [h4] at h
        | some q =>
          obtain ⟨st3, c3⟩ := q
          simp only [h4, Option.some.injEq, Prod.mk.injEq] at h
          obtain ⟨rfl, rfl, rfl⟩ := h
          simp only [All_append] at hc
          obtain ⟨k1, k2, k3, k4⟩ := hc
          obtain ⟨g1, g2⟩ := prep_ok h1 k1 hp
          obtain ⟨g3, g4⟩ := run_ok hng hm c c rfl st1 hs1 r h2 k2 g2
          obtain ⟨g5, g6⟩ := prep_ok h3 k3 g3
          exact R.post (R.pre g1 g4) (g5.trans (wkE_ok h4 k4).1)

/-- A loop by its invariant: m rounds, then one that ends otherwise. -/
theorem RLoop.inv {ro : Option Nat} {p : Nat} {c : Code} {e : Exit} {st1 : St} (I : Nat → St) (m : Nat) (hs : ∀ k, k < m → R P ro p c (I k) .normal (I (k + 1))) (he : R P ro p c (I m) e st1) (hn : e ≠ .normal) : RLoop P ro p c (m + 1) (I 0) e st1 := by
  have : ∀ j, j ≤ m → RLoop P ro p c (j + 1) (I (m - j)) e st1 := by
    intro j
    induction j with
    | zero => intro _; exact RLoop.out he hn
    | succ j ih =>
      intro hj
      have h1 := hs (m - (j + 1)) (by omega)
      rw [show m - (j + 1) + 1 = m - j by omega] at h1
      exact RLoop.step h1 (ih (by omega))
  have h := this m (Nat.le_refl _)
  rwa [Nat.sub_self] at h

end Sy
