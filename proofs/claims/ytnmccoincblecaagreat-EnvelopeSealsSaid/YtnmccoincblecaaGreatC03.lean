/-
  Contracts and laws that the claim's theorem leans on, joined out of the texts Sy17 Sy18 SyPlan (own work of this seat): A call's contract out of its body; A call's contract out of its body, weakened at its end; Hints for a body, found along a path of choices; nothing is proved of it.
-/
import Derived.Test.YtnmccoincblecaaGreatC02
set_option linter.unusedVariables false
set_option linter.unusedSimpArgs false
set_option maxHeartbeats 1000000
namespace Sy
open Go
variable {P : Program}
variable {X : List Deferred}
theorem ch6 {p : Nat} {U : Imm} {ρ : Env} {pre : c5} {w : World} {args : List V} {xs : Array Value} {k : Nat} (H : HRel U ρ pre w) (ha : i8 U ρ args xs.toList) (hpin : V1 p pre) (hargs : V.withins (Nm.pin p) args = true) :
  StRel [] U (J7 p ρ) ⟨args ++ List.replicate k (.tup []), pre, p, []⟩ { tmps := xs ++ Array.replicate k undef, defers := [] } w := by
 have hle : ∀ n l, n.pin p = true → ρ n = some l → J7 p ρ n = some l := fun n l hn e => by rw [C7 hn]; exact e
 refine ⟨?_, rfl, ⟨fun n b hm => ?_, fun n b n' b' l l' m m' e1 e2 r1 r2 e3 => ?_, H.nd, H.imm⟩, fun j hj => ?_⟩
 ·simp only [Array.toList_append, Array.toList_replicate]
  refine V3.2 ⟨_, _, rfl, i8.within (Imm.le_refl _) hle hargs ha, ?_⟩
  clear ha
  induction k with
  | zero => simp [i8]
  | succ k ih => rw [List.replicate_succ, List.replicate_succ, i8]; exact ⟨_, _, rfl, by rw [c9]; exact ⟨#[], rfl, by simp [i8]⟩, ih⟩
 ·obtain ⟨h1, h2⟩ := hpin _ hm
  obtain ⟨l, h3, h4⟩ := H.blk n b hm
  refine ⟨l, hle n l h1 h3, h4.imp ?_ id⟩
  rintro ⟨hr, o, h5, h6, h7⟩
  exact ⟨hr, o, h5, r8.within (Imm.le_refl _) hle h2 h6, h7⟩
 ·rw [C7 (hpin _ m).1] at e1
  rw [C7 (hpin _ m').1] at e2
  exact H.inj n b n' b' l l' m m' e1 e2 r1 r2 e3
 ·have : (Nm.o j).pin p = false := by simp only [Nm.pin, decide_eq_false_iff_not]; exact Nat.not_lt.2 hj
  simp [J7, this]
theorem bW4 {p : Nat} {U U' : Imm} {ρ ρ' : Env} {pre post heap' : c5} {w w' : World} {val : V} {x : Value} (hpin : V1 p pre) (hfr : ∀ n, post.dom n → pre.dom n ∨ ρ n = none)
  (hv : c9 U' ρ' val x) (hh : HRel U' ρ' post w') (ht : Turn p U (J7 p ρ) pre w U' ρ' heap' w') (hsub : ∀ n, post.dom n → heap'.dom n)
  (hwv : ∃ S : Nm → Bool, val.within S = true ∧ ∀ m, S m = true → m.pin p = true ∨ post.dom m)
  (hwp : ∀ q ∈ post, ∃ S : Nm → Bool, q.2.within S = true ∧ ∀ m, S m = true → m.pin p = true ∨ post.dom m) :
  Leaves U ρ pre w val post x U' (Env.both post ρ' ρ) w' := by
 have hp : ∀ n, post.dom n → Env.both post ρ' ρ n = ρ' n := fun n h => by simp [Env.both, h]
 have hq : ∀ n, ¬ post.dom n → Env.both post ρ' ρ n = ρ n := fun n h => by simp [Env.both, h]
 have hle : ∀ (S : Nm → Bool), (∀ m, S m = true → m.pin p = true ∨ post.dom m) → ∀ n l, S n = true → ρ' n = some l → Env.both post ρ' ρ n = some l := by
  intro S hS n l hn e
  by_cases hd : post.dom n
  ·rw [hp n hd]; exact e
  ·rw [hq n hd]
   have hpn := (hS n hn).resolve_right hd
   rw [(ht.pins n hpn).1, C7 hpn] at e; exact e
 obtain ⟨S, hs1, hs2⟩ := hwv
 refine ⟨c9.within (Imm.le_refl _) (hle S hs2) hs1 hv, ⟨fun n b hm => ?_, fun n b n' b' l l' m m' e1 e2 r1 r2 e3 => ?_, hh.nd, hh.imm⟩, fun n l hd e => ?_, fun n l e => ?_, ⟨ht.ext.size, ht.ext.imm, fun b hb hn => ?_, fun n l hd e hr => ?_, fun b c e => ?_, ht.ext.out⟩⟩
 ·obtain ⟨S', hs3, hs4⟩ := hwp _ hm
  obtain ⟨l, h1, h2⟩ := hh.blk n b hm
  refine ⟨l, by rw [hp n ⟨b, hm⟩]; exact h1, h2.imp ?_ id⟩
  rintro ⟨hr, o, h5, h6, h7⟩
  exact ⟨hr, o, h5, r8.within (Imm.le_refl _) (hle S' hs4) hs3 h6, h7⟩
 ·rw [hp n ⟨b, m⟩] at e1
  rw [hp n' ⟨b', m'⟩] at e2
  exact hh.inj n b n' b' l l' m m' e1 e2 r1 r2 e3
 ·rcases hfr n hd with ⟨b, hb⟩ | h
  ·have hpn := (hpin _ hb).1
   rw [hp n hd, (ht.pins n hpn).1, C7 hpn]; exact e
  ·rw [h] at e; cases e
 ·by_cases hd : post.dom n
  ·exact .inl hd
  ·rw [hq n hd] at e; exact .inr e
 ·exact ht.ext.frame b hb fun n l ⟨b0, hb0⟩ e hr => hn n l ⟨b0, hb0⟩ (by rw [C7 (hpin _ hb0).1] at e; exact e) hr
 ·rw [hp n hd] at e
  rcases ht.ext.new n l (hsub n hd) e hr with h | ⟨n0, l0, ⟨b0, hb0⟩, h2, h3⟩
  ·exact .inl h
  ·exact .inr ⟨n0, l0, ⟨b0, hb0⟩, by rw [C7 (hpin _ hb0).1] at h2; exact h2, h3⟩
 ·rcases ht.ext.newImm b c e with h | h | ⟨n0, l0, ⟨b0, hb0⟩, h2, h3⟩
  ·exact .inl h
  ·exact .inr (.inl h)
  ·exact .inr (.inr ⟨n0, l0, ⟨b0, hb0⟩, by rw [C7 (hpin _ hb0).1] at h2; exact h2, h3⟩)
def Q4 : List Nm → c5 → Option c5
 | [], h => some h
 | n :: ns, h => match A4 n h with
  | some (b, r) => match b with
   | .dfr => Q4 ns r
   | _ => none
  | none => none
theorem b_5 {p : Nat} {U : Imm} {ρ : Env} {st : St} {a : Act} {w : World} {n : Nm} {ns : List Nm} {r : c5} (hs : StRel X U ρ st a w) (hd : st.dfs = n :: ns) (hpl : A4 n st.heap = some (.dfr, r)) :
  ∃ l ds w', a.defers = { target := .collected l, args := #[] } :: ds ∧ (Instr.takeDeferred l).run P w = .ok [] w' ∧ StRel X U ρ { st with heap := r, dfs := ns } { a with defers := ds } w' ∧ Turn p U ρ st.heap w U ρ r w' := by
 have hdf := hs.dfs
 rw [hd] at hdf
 obtain ⟨lc, ds, e1, e2, e3⟩ := hdf
 have hperm := N4 hpl
 have H := hs.heap.perm hperm
 have hreal : lc.real = true := by
  obtain ⟨l, h1, h2⟩ := H.blk n .dfr (List.mem_cons_self ..)
  rw [e1] at h1; cases h1
  rcases h2 with ⟨h, _⟩ | ⟨_, es, f, h⟩
  ·exact h
  ·cases h
 obtain ⟨o, h1, h2, h3⟩ := H.real (List.mem_cons_self ..) e1 hreal
 have ho : o = .deferred (some []) := h2
 subst ho
 have hlt := A2 h1
 have hold : ∀ k, k ≠ lc.blk → (w.heap.setIfInBounds lc.blk (.deferred none))[k]? = w.heap[k]? := fun k hk => by rw [Array.getElem?_setIfInBounds]; simp [Ne.symm hk]
 have hna : ∀ k b0, (k, b0) ∈ r → k ≠ n := fun k b0 h e => by
  have := H.nd
  rw [List.map_cons, List.nodup_cons] at this
  exact this.1 (List.mem_map.2 ⟨(k, b0), h, e⟩)
 refine ⟨lc.blk, ds, { w with heap := w.heap.setIfInBounds lc.blk (.deferred none) }, e2, ?_, ⟨hs.tmps, e3, ⟨fun k b0 h => ?_, fun k b1 k' b2 l1 l2 m1 m2 => H.inj k b1 k' b2 l1 l2 (List.mem_cons_of_mem _ m1) (List.mem_cons_of_mem _ m2), ?_, fun k c hk => ?_⟩, hs.fresh⟩, ⟨⟨by simp, Imm.le_refl _, fun k hk hn => ?_, fun k l ⟨b0, hb0⟩ e hr => ?_, fun _ _ h => .inl h, rfl, rfl⟩, fun k _ => ⟨rfl, fun ⟨b0, hb0⟩ => ⟨b0, hperm.mem_iff.2 (List.mem_cons_of_mem _ hb0)⟩⟩⟩⟩
 ·have e1 : (getObj lc.blk).run P w = .ok (.deferred (some [])) w := by simp [getObj, Sem.run, h1]
  have e2 : (setObj lc.blk (.deferred none)).run P w = .ok () { w with heap := w.heap.setIfInBounds lc.blk (.deferred none) } := by simp [setObj, Sem.run, h1]
  simp only [Instr.takeDeferred, Sem.run_bind, e1, e2, Result.andThen_ok, Sem.run_pure]
 ·obtain ⟨l0, g1, g2⟩ := H.blk k b0 (List.mem_cons_of_mem _ h)
  refine ⟨l0, g1, g2.imp ?_ id⟩
  rintro ⟨hr0, ob, g3, g4, g5⟩
  refine ⟨hr0, ob, ?_, g4, g5⟩
  rw [hold _ fun hk => hna k b0 h (H.inj k b0 n .dfr l0 lc (List.mem_cons_of_mem _ h) (List.mem_cons_self ..) g1 e1 hr0 hreal hk)]
  exact g3
 ·have := H.nd
  rw [List.map_cons, List.nodup_cons] at this
  exact this.2
 ·obtain ⟨el, fr, h⟩ := H.imm k c hk
  exact ⟨el, fr, by rw [hold k (fun hk' => by rw [hk', h3] at hk; cases hk)]; exact h⟩
 ·exact hold k fun hk' => hn n lc ⟨.dfr, hperm.mem_iff.2 (List.mem_cons_self ..)⟩ e1 hreal hk'.symm
 ·exact .inr ⟨k, l, ⟨b0, hperm.mem_iff.2 (List.mem_cons_of_mem _ hb0)⟩, e, hr, rfl⟩
theorem af3 {F : Fence} {p n : Nat} {fn : Func} {R : Ending → World → Prop} {U : Imm} {ρ : Env} : ∀ (ns : List Nm) (st : St) (a : Act) (w : World) (h' : c5), st.dfs = ns → Q4 ns st.heap = some h' → StRel [] U ρ st a w →
  (∀ w', StRel [] U ρ { st with heap := h', dfs := [] } { a with defers := [] } w' → Turn p U ρ st.heap w U ρ h' w' → ∃ v, (results fn a.tmps).run P w' = .ok v w' ∧ R (.returned v) w') → LeavesInM F n P fn a.tmps R a.defers .returning w
 | [], st, a, w, h', hd, hu, hs, hk => by
  simp only [Q4, Option.some.injEq] at hu
  have e : a.defers = [] := by have := hs.dfs; rw [hd] at this; exact this
  rw [e]
  obtain ⟨t, d⟩ := a
  simp only at e; subst e
  refine hk w ?_ (by rw [← hu]; exact Turn.refl _ _ _ _ _)
  rw [← hu]
  exact ⟨hs.tmps, rfl, hs.heap, hs.fresh⟩
 | m :: ns, st, a, w, h', hd, hu, hs, hk => by
  unfold Q4 at hu
  cases hp : A4 m st.heap with
  | none => simp [hp] at hu
  | some q =>
   obtain ⟨b, r⟩ := q
   simp only [hp] at hu
   cases b <;> simp only [reduceCtorEq] at hu
   obtain ⟨l, ds, w', e1, e2, e3, e4⟩ := b_5 (P := P) (p := p) hs hd hp
   rw [e1]
   refine ⟨by simp, .inl ⟨l, w', rfl, e2, ?_⟩⟩
   exact af3 ns { st with heap := r, dfs := ns } { a with defers := ds } w' h' rfl hu e3 fun w'' h1 t1 => hk w'' h1 (e4.trans t1)
def aq6 (P : Program) (tmps : List V) (h : c5) : ResultVar → Option (V × List Prop)
 | .tmp t => some (m6 tmps t, [])
 | .cell a t => match m6 tmps a with
  | .ptr n es i o j => match A4 n h with
   | some (b, _) => match D0 b es i with
    | some (cs, c1) => match Y2 P t cs o j with
     | some (v, c2) => some (v, c1 ++ c2)
     | none => none
    | none => none
   | none => none
  | _ => none
def O3 (P : Program) (tmps : List V) (h : c5) : List ResultVar → Option (List V × List Prop)
 | [] => some ([], [])
 | r :: rs => match aq6 P tmps h r with
  | some (v, c) => match O3 P tmps h rs with
   | some (vs, cs) => some (v :: vs, c ++ cs)
   | none => none
  | none => none
def W6 : List V → V
 | [] => .tup []
 | v :: vs => match vs with
  | [] => v
  | _ => .tup (v :: vs)
theorem aw4 {U : Imm} {ρ : Env} {tmps : List V} {h : c5} {a : Array Value} {w : World} (ht : i8 U ρ tmps a.toList) (H : HRel U ρ h w) : ∀ {rs : List ResultVar} {vs : List V} {cs : List Prop}, O3 P tmps h rs = some (vs, cs) → All cs →
  ∃ l, (rs.mapM fun (x : ResultVar) => (match x with
   | .tmp t => pure (a.getD t undef)
   | .cell b t => do loadVar t (← asAddr (a.getD b undef)) : Sem Value)).run P w = .ok l w ∧ i8 U ρ vs l
 | [], vs, cs, e, _ => by
  simp only [O3, Option.some.injEq, Prod.mk.injEq] at e
  obtain ⟨rfl, rfl⟩ := e
  exact ⟨[], rfl, by rw [i8]⟩
 | r :: rs, vs, cs, e, hc => by
  unfold O3 at e
  cases ho : aq6 P tmps h r with
  | none => simp [ho] at e
  | some q =>
   obtain ⟨v, c⟩ := q
   simp only [ho] at e
   cases ha : O3 P tmps h rs with
   | none => simp [ha] at e
   | some q2 =>
    obtain ⟨vs', cs'⟩ := q2
    simp only [ha, Option.some.injEq, Prod.mk.injEq] at e
    obtain ⟨rfl, rfl⟩ := e
    obtain ⟨k1, k2⟩ := f6.1 hc
    obtain ⟨l, h1, h2⟩ := aw4 ht H ha k2
    have one : ∃ x, ((match r with
      | .tmp t => pure (a.getD t undef)
      | .cell b t => do loadVar t (← asAddr (a.getD b undef)) : Sem Value)).run P w = .ok x w ∧ c9 U ρ v x := by
     cases r with
     | tmp t =>
      simp only [aq6, Option.some.injEq, Prod.mk.injEq] at ho
      obtain ⟨rfl, rfl⟩ := ho
      refine ⟨_, rfl, ?_⟩
      have := W4 t ht
      simpa using this
     | cell b t =>
      have hb := W4 b ht
      simp only [aq6] at ho
      cases hg : m6 tmps b <;> simp only [hg, reduceCtorEq] at ho
      rename_i n es i o j
      rw [hg, c9] at hb
      obtain ⟨lc, e1, e2, e3⟩ := hb
      cases hp : A4 n h with
      | none => simp [hp] at ho
      | some q =>
       obtain ⟨b', r'⟩ := q
       simp only [hp] at ho
       cases he : D0 b' es i with
       | none => simp [he] at ho
       | some q3 =>
        obtain ⟨cs3, c3⟩ := q3
        simp only [he] at ho
        cases hl : Y2 P t cs3 o j with
        | none => simp [hl] at ho
        | some q4 =>
         obtain ⟨v4, c4⟩ := q4
         simp only [hl, Option.some.injEq, Prod.mk.injEq] at ho
         obtain ⟨rfl, rfl⟩ := ho
         obtain ⟨d1, d2⟩ := f6.1 k1
         obtain ⟨ob, g1, g2, _⟩ := (H.perm (N4 hp)).real (List.mem_cons_self ..) e1 e2
         obtain ⟨y, g3, g4⟩ := aE9 g2 g1 he hl d1 d2
         refine ⟨y, ?_, g4⟩
         have e3' : a.getD b undef = .pointer (some ⟨lc.blk, i * es + o + j, none⟩) := by simpa using e3
         simp only [e3', asAddr, Sem.run_bind, Sem.run_pure, Result.andThen_ok]
         exact g3
    obtain ⟨x, g1, g2⟩ := one
    refine ⟨x :: l, ?_, by rw [i8]; exact ⟨x, l, rfl, g2, h2⟩⟩
    simp only [List.mapM_cons, Sem.run_bind, g1, h1, Result.andThen_ok, Sem.run_pure]
theorem aU0 {U : Imm} {ρ : Env} {tmps : List V} {h : c5} {a : Array Value} {w : World} {fn : Func} {vs : List V} {cs : List Prop} (ht : i8 U ρ tmps a.toList) (H : HRel U ρ h w) (hr : O3 P tmps h fn.results.toList = some (vs, cs)) (hc : All cs) :
  ∃ v, (results fn a).run P w = .ok v w ∧ c9 U ρ (W6 vs) v := by
 obtain ⟨l, h1, h2⟩ := aw4 ht H hr hc
 have hrun : (results fn a).run P w = .ok (if h : l.toArray.size = 1 then l.toArray[0] else .tuple l.toArray) w := by
  unfold results
  rw [Array.mapM_eq_mapM_toList]
  simp only [Sem.run_bind, Sem.run_map]
  generalize hg : Sem.run P (List.mapM _ fn.results.toList) w = z
  have hz : z = .ok l w := hg.symm.trans h1
  rw [hz]; rfl
 refine ⟨_, hrun, ?_⟩
 cases vs with
 | nil => rw [i8] at h2; subst h2; simp only [W6]; rw [c9]; exact ⟨#[], rfl, by rw [i8]⟩
 | cons v vs =>
  rw [i8] at h2
  obtain ⟨x, r, rfl, g1, g2⟩ := h2
  cases vs with
  | nil => rw [i8] at g2; subst g2; simpa [W6] using g1
  | cons u us =>
   have g2' := g2
   rw [i8] at g2
   obtain ⟨y, r', rfl, g3, g4⟩ := g2
   simp only [W6]
   rw [c9]
   refine ⟨(x :: y :: r').toArray, by simp, ?_⟩
   rw [i8]; exact ⟨x, _, rfl, g1, g2'⟩
def ap7 : Exit → Bool
 | .ret => true
 | .normal => true
 | _ => false
def V0 (S : Nm → Bool) : c5 → Bool
 | [] => true
 | q :: h => q.2.within S && V0 S h
theorem ar4 {S : Nm → Bool} : ∀ {h : c5}, V0 S h = true → ∀ q ∈ h, q.2.within S = true
 | [], _, q, hq => by cases hq
 | x :: h, e, q, hq => by
  rw [V0, Bool.and_eq_true] at e
  rcases List.mem_cons.1 hq with rfl | hq
  ·exact e.1
  ·exact ar4 e.2 q hq
end Sy
namespace Sy
open Go
variable {P : Program}
variable {X : List Deferred}
def V6 (P : Program) (ro : Option Nat) (p : Nat) (c : Code) (st : St) (hs : List Hint) (k : Option W) : Option (Exit × St × List Prop) :=
 match k with
 | some k => as_ P ro p c st hs k
 | none => match M3 p hs st with
  | none => none
  | some (st1, c1, hs1) => match run P ro p c c st1 hs1 with
   | none => none
   | some r => some (r.e, r.st, c1 ++ r.cs)
theorem ad8 (hng : L8 P) (hm : P.follows .mixedOrders = true) {ro : Option Nat} {p : Nat} {c : Code} {st st' : St} {hs : List Hint} {k : Option W} {e : Exit} {cs : List Prop} (h : V6 P ro p c st hs k = some (e, st', cs)) (hc : All cs) (hp : p ≤ st.next) :
  R P ro p c st e st' := by
 unfold V6 at h
 cases k with
 | some k => exact aA5 hng hm h hc hp
 | none =>
  simp only at h
  cases h1 : M3 p hs st with
  | none => simp [h1] at h
  | some q =>
   obtain ⟨st1, c1, hs1⟩ := q
   simp only [h1] at h
   cases h2 : run P ro p c c st1 hs1 with
   | none => simp [h2] at h
   | some r =>
    simp only [h2, Option.some.injEq, Prod.mk.injEq] at h
    obtain ⟨rfl, rfl, rfl⟩ := h
    simp only [f6] at hc
    obtain ⟨k1, k2⟩ := hc
    obtain ⟨g1, g2⟩ := U7 h1 k1 hp
    obtain ⟨g3, g4⟩ := be5 hng hm c c rfl st1 hs1 r h2 k2 g2
    exact R.pre g1 g4
def ap4 (P : Program) (fn : Func) (base : Nat) (names : List Nm) (tl : Option Nat) (e : Exit) (st : St) (cs : List Prop) : Option (V × c5 × List Prop) :=
 match ap7 e with
 | false => none
 | true => match Q4 st.dfs st.heap with
  | none => none
  | some h => match O3 P st.tmps h fn.results.toList with
   | none => none
   | some (vs, c2) => match L7 names h with
    | none => none
    | some (bs, rest) => bif (W6 vs).within (fun n => n.pin base || F4 n bs) && V0 (fun n => n.pin base || F4 n bs) bs then match tl with
      | none => some (W6 vs, bs, cs ++ c2)
      | some k => some (W6 vs, bs ++ rest.drop k, V1 base (rest.drop k) :: (cs ++ c2))
     else none
def fnB (P : Program) (fn : Func) (c : Code) (args : List V) (pre : c5) (base : Nat) (hs : List Hint) (k : Option W) (names : List Nm) (tl : Option Nat) : Option (V × c5 × List Prop) :=
 match V6 P none base c ⟨args ++ List.replicate (fn.ntmps - args.length) (.tup []), pre, base, []⟩ hs k with
 | none => none
 | some (e, st, cs) => ap4 P fn base names tl e st cs
theorem aA7 {f : FuncId} {fn : Func} {c : Code} (hf : P.funcs[f]? = some fn) (hb : fn.body = some c) {args : List V} {pre post : c5} {base : Nat} {names : List Nm} {tl : Option Nat} {e : Exit} {st : St} {c0 : List Prop} {val : V} {cs : List Prop}
  (hR : R P none base c ⟨args ++ List.replicate (fn.ntmps - args.length) (.tup []), pre, base, []⟩ e st)
  (h : ap4 P fn base names tl e st c0 = some (val, post, cs)) (hc : All cs) (hpin : V1 base pre) (hargs : V.withins (Nm.pin base) args = true) : T P f args pre val post := by
 unfold ap4 at h
 cases hret : ap7 e <;> simp only [hret, reduceCtorEq] at h
 cases hum : Q4 st.dfs st.heap with
 | none => simp [hum] at h
 | some h' =>
  simp only [hum] at h
  cases hres : O3 P st.tmps h' fn.results.toList with
  | none => simp [hres] at h
  | some q =>
   obtain ⟨vs, c2⟩ := q
   simp only [hres] at h
   cases htk : L7 names h' with
   | none => simp [htk] at h
   | some q =>
    obtain ⟨bs, rest⟩ := q
    simp only [htk] at h
    cases hw : ((W6 vs).within (fun n => n.pin base || F4 n bs) && V0 (fun n => n.pin base || F4 n bs) bs) <;> simp only [hw, cond_true, cond_false, reduceCtorEq] at h
    rw [Bool.and_eq_true] at hw
    have key : All c2 ∧ val = W6 vs ∧ ∃ t, (∃ rest', (bs ++ rest).Perm (post ++ rest')) ∧ post = bs ++ t ∧ V1 base t := by
     cases tl with
     | none =>
      simp only [Option.some.injEq, Prod.mk.injEq] at h
      obtain ⟨rfl, rfl, rfl⟩ := h
      obtain ⟨k1, k2⟩ := f6.1 hc
      exact ⟨k2, rfl, [], ⟨rest, List.Perm.refl _⟩, by simp, fun q hq => by cases hq⟩
     | some k =>
      simp only [Option.some.injEq, Prod.mk.injEq] at h
      obtain ⟨rfl, rfl, rfl⟩ := h
      obtain ⟨k0, k12⟩ := hc
      obtain ⟨k1, k2⟩ := f6.1 k12
      refine ⟨k2, rfl, rest.drop k, ⟨rest.take k, ?_⟩, rfl, k0⟩
      rw [List.append_assoc]
      exact List.Perm.append_left bs ((List.Perm.of_eq (List.take_append_drop k rest).symm).trans List.perm_append_comm)
    obtain ⟨k2, rfl, t, ⟨rest', hperm⟩, hpost, hpt⟩ := key
    have hdom : ∀ m, F4 m bs = true → c5.dom post m := fun m hmm => by rw [hpost]; exact j7.2 (.inl (af4 hmm))
    have hS : ∀ m, (m.pin base || F4 m bs) = true → m.pin base = true ∨ c5.dom post m := fun m hmm => by
     rw [Bool.or_eq_true] at hmm; exact hmm.imp id (hdom m)
    intro U ρ w xs hh ha hfr
    refine (callsIn_wide (n := 0)).1 ?_
    have hlen : xs.size = args.length := by
     have : ∀ {vs : List V} {l : List Value}, i8 U ρ vs l → l.length = vs.length := by
      intro vs
      induction vs with
      | nil => intro l h; rw [i8] at h; subst h; rfl
      | cons v vs ih => intro l h; rw [i8] at h; obtain ⟨x, r, rfl, _, h⟩ := h; simp [ih h]
     rw [← Array.length_toList]; exact this ha
    refine callsIn_of_wp_marks hf hb trivial ?_ rfl
    rw [hlen]
    have hQ : ∀ (e : Exit), ap7 e = true → ∀ U' ρ' a' w', StRel [] U' ρ' st a' w' → Turn base U (J7 base ρ) pre w U' ρ' st.heap w' →
      LeavesInM Fence.wide 0 P fn a'.tmps (fun e w' => ∃ x U' ρ', e = .returned x ∧ Leaves U ρ pre w (W6 vs) post x U' ρ' w') a'.defers .returning w' := by
     intro e _ U' ρ' a' w' hst ht
     refine af3 (p := base) st.dfs st a' w' h' rfl hum hst fun w'' hs' ht' => ?_
     have hperm' : h'.Perm (post ++ rest') := (T7 htk).trans hperm
     obtain ⟨v, g1, g2⟩ := aU0 (P := P) hs'.tmps hs'.heap hres k2
     refine ⟨v, g1, v, U', _, rfl, bW4 hpin hfr g2 (HRel.left (hs'.heap.perm hperm')) (ht.trans ht') (fun n hn => (E6 hperm' n).2 (j7.2 (.inl hn))) ⟨_, hw.1, hS⟩ fun q hq => ?_⟩
     rw [hpost] at hq
     rcases List.mem_append.1 hq with hq | hq
     ·exact ⟨_, ar4 hw.2 q hq, hS⟩
     ·exact ⟨_, (hpt q hq).2, fun m hm => .inl hm⟩
    refine hR U (J7 base ρ) _ w _ (ch6 hh ha hpin hargs) fun U' ρ' a' w' hst ht => ?_
    cases he : e <;> rw [he] at hret <;> simp only [ap7, Bool.false_eq_true] at hret
    ·exact hQ .normal rfl U' ρ' a' w' hst ht
    ·exact hQ .ret rfl U' ρ' a' w' hst ht
theorem aK5 {fn : Func} {base : Nat} {names : List Nm} {tl : Option Nat} {e : Exit} {st : St} {c0 : List Prop} {val : V} {post : c5} {cs : List Prop} (h : ap4 P fn base names tl e st c0 = some (val, post, cs)) (hc : All cs) : All c0 := by
 unfold ap4 at h
 cases hret : ap7 e <;> simp only [hret, reduceCtorEq] at h
 cases hum : Q4 st.dfs st.heap with
 | none => simp [hum] at h
 | some h' =>
  simp only [hum] at h
  cases hres : O3 P st.tmps h' fn.results.toList with
  | none => simp [hres] at h
  | some q =>
   obtain ⟨vs, c2⟩ := q
   simp only [hres] at h
   cases htk : L7 names h' with
   | none => simp [htk] at h
   | some q =>
    obtain ⟨bs, rest⟩ := q
    simp only [htk] at h
    cases hw : ((W6 vs).within (fun n => n.pin base || F4 n bs) && V0 (fun n => n.pin base || F4 n bs) bs) <;> simp only [hw, cond_true, cond_false, reduceCtorEq] at h
    cases tl with
    | none =>
     simp only [Option.some.injEq, Prod.mk.injEq] at h
     obtain ⟨rfl, rfl, rfl⟩ := h
     exact (f6.1 hc).1
    | some k =>
     simp only [Option.some.injEq, Prod.mk.injEq] at h
     obtain ⟨rfl, rfl, rfl⟩ := h
     exact (f6.1 hc.2).1
theorem bf8 (hng : L8 P) (hm : P.follows .mixedOrders = true) {f : FuncId} {fn : Func} {c : Code} (hf : P.funcs[f]? = some fn) (hb : fn.body = some c) {args : List V} {pre post : c5} {base : Nat} {hs : List Hint} {k : Option W} {names : List Nm} {tl : Option Nat} {val : V} {cs : List Prop}
  (h : fnB P fn c args pre base hs k names tl = some (val, post, cs)) (hc : All cs) (hpin : V1 base pre) (hargs : V.withins (Nm.pin base) args = true) : T P f args pre val post := by
 unfold fnB at h
 cases hr : V6 P none base c ⟨args ++ List.replicate (fn.ntmps - args.length) (.tup []), pre, base, []⟩ hs k with
 | none => simp [hr] at h
 | some q =>
  obtain ⟨e, st, c0⟩ := q
  simp only [hr] at h
  exact aA7 hf hb (ad8 hng hm hr (aK5 h hc) (Nat.le_refl _)) h hc hpin hargs
end Sy
namespace Sy
open Go
inductive PR.{u} (α : Type u) where
 | ok (a : α)
 | need (c : Option Bool)
 | call (k lo : Nat) (args : List V) (h : c5)
 | bad (n : Nat) (st : List V) (h : c5)
structure Cl where
 sym : Bool := false
 rd : List Nm := []
 pre : List Nm := []
 tl : Option (Nat × c5) := none
 val : V
 post : c5 := []
structure Kb where
 db : Nat → List V → c5 → Nat → List Cl
 lp : Nat → St → List (Prop × Hint) := fun _ _ => []
 fx : Nat → St → List Hint := fun _ _ => []
 lit : Bool := false
 vl : Nat → List Cl := fun _ => []
 pr : Prim → List V → c5 → Nat → List Cl := fun _ _ _ _ => []
def aq2 (kb : Kb) (c : Bool) (path : List Bool) : Option (Bool × List Bool) := match kb.lit with
 | true => match c with
  | true => some (true, path)
  | false => some (false, path)
 | false => match path with
  | [] => none
  | b :: path => some (b, path)
def af0 (ops : Array Oper) (i : Nat) : Bool := ops.toList.any fun o => match o.guard with
 | some g => Nat.beq g.1 i
 | none => false
structure RegO where
 hs : List (Nat × OH)
 as : List Prop
 path : List Bool
def choose.{u} {α : Type u} : List α → List Bool → PR (α × List Bool)
 | [], _ => .bad 1 [] []
 | [a], p => .ok (a, p)
 | a :: l, p => match p with
  | [] => .need none
  | b :: p' => match b with
   | true => .ok (a, p')
   | false => choose l p'
def bW2 (P : Program) (kb : Kb) (ops : Array Oper) (base i : Nat) (s : S) (path : List Bool) : PR (Option OH × List Prop × List Bool) :=
 match ai6 P ops base [] i s with
 | none => .bad (60000 + i) s.tmps s.heap
 | some r => match r.ent.val with
  | .bool c => match aq2 kb c path with
   | none => .need (some c)
   | some (x, path') => .ok (some (.dir x), [c = x], path')
  | _ => .bad (70000 + i) s.tmps s.heap
def b4_ (kb : Kb) (ev : Operand → V) (h : c5) (lo : Nat) (op : Op) : List Cl := match aa_ op with
 | some (pr, xs) => kb.pr pr (K1 ev xs) h lo
 | none => []
def bP7 (P : Program) (kb : Kb) (ops : Array Oper) (base i : Nat) (s : S) (path : List Bool) : PR (Option OH × List Prop × List Bool) :=
 match ops[i]? with
 | none => .bad 2 s.tmps s.heap
 | some o =>
  let ls := I4 s.tmps (bn3 ops o ++ ah0 o.op.operands.toList)
  match ai7 ops ls o with
  | none => .bad (30000 + i) s.tmps s.heap
  | some w => match w with
   | false => .ok (none, [], path)
   | true => match b4_ kb (evL ls) s.heap (base + 64 * i) o.op with
    | cl :: _ => match af0 ops i with
     | false => .ok (some (.prim cl.rd cl.pre cl.val cl.post), [], path)
     | true => match cl.val with
      | .bool c => match aq2 kb c path with
       | none => .need (some c)
       | some (x, path') => .ok (some (.prim cl.rd cl.pre (.bool x) cl.post), [c = x], path')
      | _ => .bad 3 s.tmps s.heap
    | [] => match o.op with
    | .call c => match c.callee with
     | .value f => match kb.vl (base + 64 * i) with
      | cl :: _ => match af0 ops i with
       | false => .ok (some (.call true cl.rd cl.pre cl.tl cl.val cl.post), [], path)
       | true => match cl.val with
        | .bool c => match aq2 kb c path with
         | none => .need (some c)
         | some (x, path') => .ok (some (.call true cl.rd cl.pre cl.tl (.bool x) cl.post), [c = x], path')
        | _ => .bad 3 s.tmps s.heap
      | [] => match evL ls f with
      | .fn g a b => match g with
       | .func k => match choose (kb.db k (a ++ (K1 (evL ls) c.args.toList ++ b)) s.heap (base + 64 * i)) path with
        | .need c => .need c
        | .call k lo as h => .call k lo as h
        | .bad _ _ _ => .call k (base + 64 * i) (a ++ (K1 (evL ls) c.args.toList ++ b)) s.heap
        | .ok (cl, path) => match af0 ops i with
         | false => .ok (some (.call cl.sym cl.rd cl.pre cl.tl cl.val cl.post), [], path)
         | true => match cl.val with
          | .bool c => match aq2 kb c path with
           | none => .need (some c)
           | some (x, path') => .ok (some (.call cl.sym cl.rd cl.pre cl.tl (.bool x) cl.post), [c = x], path')
          | _ => .bad 3 s.tmps s.heap
       | _ => .bad 4 s.tmps s.heap
      | _ => .bad (50000 + i) s.tmps s.heap
     | _ => match af0 ops i with
      | false => .ok (none, [], path)
      | true => bW2 P kb ops base i s path
    | _ => match af0 ops i with
     | false => .ok (none, [], path)
     | true => bW2 P kb ops base i s path
def bv6 (P : Program) (kb : Kb) (ops : Array Oper) (base : Nat) : List Nat → S → List Bool → PR (RegO × List V)
 | [], s, path => .ok (⟨[], [], path⟩, s.tmps)
 | i :: l, s, path => match bP7 P kb ops base i s path with
  | .need c => .need c
  | .call k lo as h => .call k lo as h
  | .bad n st h => .bad n st h
  | .ok (oh, as, path) =>
   let hs := match oh with
    | some h => [(i, h)]
    | none => []
   match ai6 P ops base hs i s with
   | none => .bad (20000 + i) s.tmps s.heap
   | some r => match bv6 P kb ops base l r.s path with
    | .need c => .need c
    | .call k lo as h => .call k lo as h
    | .bad n st h => .bad n st h
    | .ok (ro, ts) => .ok (⟨hs ++ ro.hs, as ++ ro.as, ro.path⟩, ts)
structure PO where
 e : Exit
 st : St
 hs : List Hint
 as : List Prop
 path : List Bool
def R4 : Code → Nat
 | .region id _ _ => id
 | .seq x _ => R4 x
 | .block _ c => R4 c
 | .loop c => R4 c
 | .scope c => R4 c
 | _ => 0
def am4 (p : Nat) (hs : List Hint) (st : St) : PR St := match M3 p hs st with
 | none => .bad 5 st.tmps st.heap
 | some q => .ok q.1
def aG2 (f : St → List Bool → PR PO) : Nat → St → List Bool → PR PO
 | 0, st, _ => .bad 6 st.tmps st.heap
 | n + 1, st, path => match f st path with
  | .need c => .need c
  | .call k lo as h => .call k lo as h
  | .bad n st h => .bad n st h
  | .ok r => match r.e with
   | .normal => match aG2 f n r.st r.path with
    | .need c => .need c
    | .call k lo as h => .call k lo as h
    | .bad n st h => .bad n st h
    | .ok r2 => .ok { r2 with hs := r.hs ++ r2.hs, as := r.as ++ r2.as }
   | _ => .ok r
def ac9 (P : Program) (kb : Kb) (p : Nat) : Nat → Code → St → List Bool → PR PO
 | _, .skip, st, path => .ok ⟨.normal, st, [], [], path⟩
 | _, .ret, st, path => .ok ⟨.ret, st, [], [], path⟩
 | _, .exit id, st, path => .ok ⟨.exit id, st, [], [], path⟩
 | _, .region id ops draw, st, path => match bv6 P kb ops st.next (List.range ops.size) ⟨st.tmps, st.heap⟩ path with
  | .need c => .need c
  | .call k lo as h => .call k lo as h
  | .bad n st h => .bad (100000 * id + n) st h
  | .ok (ro, _) => match af9 P ops draw ro.hs st with
   | none => .bad (100000 * id + 7) st.tmps st.heap
   | some (st', _) => .ok ⟨.normal, st', (match ba_ ops with
     | true => [.reg ro.hs]
     | false => []), ro.as, ro.path⟩
 | _, .seq x y, st, path => match ac9 P kb p 0 x st path with
  | .need c => .need c
  | .call k lo as h => .call k lo as h
  | .bad n st h => .bad n st h
  | .ok r => match r.e with
   | .normal =>
    let hs := kb.fx (R4 y) r.st
    match am4 p hs r.st with
    | .need c => .need c
    | .call k lo as h => .call k lo as h
    | .bad n st h => .bad (100000 * R4 y + n) st h
    | .ok st2 => match ac9 P kb p 0 y st2 r.path with
     | .need c => .need c
     | .call k lo as h => .call k lo as h
     | .bad n st h => .bad n st h
     | .ok r2 => .ok ⟨r2.e, r2.st, r.hs ++ (hs ++ r2.hs), r.as ++ r2.as, r2.path⟩
   | _ => .ok r
 | _, .cond o x y, st, path => match evV st.tmps o with
  | .bool c => match aq2 kb c path with
   | none => .need (some c)
   | some (b, path) => match b with
    | true => match ac9 P kb p 0 x st path with
     | .need c => .need c
     | .call k lo as h => .call k lo as h
     | .bad n st h => .bad n st h
     | .ok r => .ok { r with hs := .br true :: r.hs, as := (c = true) :: r.as }
    | false => match ac9 P kb p 0 y st path with
     | .need c => .need c
     | .call k lo as h => .call k lo as h
     | .bad n st h => .bad n st h
     | .ok r => .ok { r with hs := .br false :: r.hs, as := (c = false) :: r.as }
  | _ => .bad 8 st.tmps st.heap
 | _, .block id c, st, path => match ac9 P kb p id c st path with
  | .need c => .need c
  | .call k lo as h => .call k lo as h
  | .bad n st h => .bad n st h
  | .ok r => match r.e with
   | .exit k => bif Nat.beq k id then .ok { r with e := .normal } else .ok r
   | _ => .ok r
 | id, .loop c, st, path => match choose (kb.lp id st) path with
  | .need c => .need c
  | .call k lo as h => .call k lo as h
  | .bad _ _ _ => .bad (40000 + id) st.tmps st.heap
  | .ok ((a, h), path) => match h with
   | .loop m k e st1 => .ok ⟨e, st1, [.loop m k e st1], [a], path⟩
   | .rounds n => match aG2 (ac9 P kb p 0 c) n st path with
    | .need c => .need c
    | .call k lo as h => .call k lo as h
    | .bad n st h => .bad n st h
    | .ok r => .ok { r with hs := .rounds n :: r.hs }
   | _ => .bad 9 st.tmps st.heap
 | id, .rangeFunc _ _ _ _, st, path => match choose (kb.lp (id + 1000) st) path with
  | .need c => .need c
  | .call k lo as h => .call k lo as h
  | .bad _ _ _ => .bad (45000 + id) st.tmps st.heap
  | .ok ((a, h), path) => match h with
   | .loop m k e st1 => .ok ⟨e, st1, [.loop m k e st1], [a], path⟩
   | _ => .bad 9 st.tmps st.heap
 | _, .scope c, st, path => match ac9 P kb p 0 c st path with
  | .need c => .need c
  | .call k lo as h => .call k lo as h
  | .bad n st h => .bad n st h
  | .ok r => match r.e with
   | .goto _ => .bad 11 st.tmps st.heap
   | _ => .ok r
 | _, .label _, st, path => .ok ⟨.normal, st, [], [], path⟩
 | _, _, st, _ => .bad 10 st.tmps st.heap
structure Bd where
 f : Func
 args : List V
 pre : c5 := []
 base : Nat := 0
 kb : Kb
 k : Exit → St → Option W := fun _ _ => none
 names : St → List Nm := fun _ => []
 tl : Option Nat := none
def f1 (fn : Func) : Code := match fn.body with
 | some c => c
 | none => .skip
structure PW where
 po : PO
 hs : List Hint
 k : Option W
 names : List Nm
def bx9 (P : Program) (b : Bd) (path : List Bool) : PR PW :=
 let st0 : St := ⟨b.args ++ List.replicate (b.f.ntmps - b.args.length) (.tup []), b.pre, b.base, []⟩
 let hs0 := b.kb.fx (R4 (f1 b.f)) st0
 match am4 b.base hs0 st0 with
 | .need c => .need c
 | .call k lo as h => .call k lo as h
 | .bad n st h => .bad n st h
 | .ok st1 => match ac9 P b.kb b.base 0 (f1 b.f) st1 path with
  | .need c => .need c
  | .call k lo as h => .call k lo as h
  | .bad n st h => .bad n st h
  | .ok r => .ok ⟨r, hs0 ++ r.hs, b.k r.e r.st, b.names r.st⟩
def e9 (P : Program) (b : Bd) (path : List Bool) : Option (V × c5 × List Prop) := match bx9 P b path with
 | .ok w => fnB P b.f (f1 b.f) b.args b.pre b.base w.hs w.k w.names b.tl
 | _ => none
theorem T9 {P : Program} (hng : L8 P) (hm : P.follows .mixedOrders = true) {f : FuncId} {b : Bd} (path : List Bool) {val : V} {post : c5} {cs : List Prop} (h : e9 P b path = some (val, post, cs)) (hf : P.funcs[f]? = some b.f) (hb : b.f.body = some (f1 b.f)) (hc : All cs) (hpin : V1 b.base b.pre) (hargs : V.withins (Nm.pin b.base) b.args = true) :
  T P f b.args b.pre val post := by
 unfold e9 at h
 cases hp : bx9 P b path <;> simp only [hp, reduceCtorEq] at h
 exact bf8 hng hm hf hb h hc hpin hargs
structure Pc where
 c : Code
 st : St
 p : Nat := 0
 kb : Kb
 k : Exit → St → Option W := fun _ _ => none
 ro : Option Nat := none
def be1 (P : Program) (b : Pc) (path : List Bool) : PR PW :=
 let hs0 := b.kb.fx (R4 b.c) b.st
 match am4 b.p hs0 b.st with
 | .need c => .need c
 | .call k lo as h => .call k lo as h
 | .bad n st h => .bad n st h
 | .ok st1 => match ac9 P b.kb b.p 0 b.c st1 path with
  | .need c => .need c
  | .call k lo as h => .call k lo as h
  | .bad n st h => .bad n st h
  | .ok r => .ok ⟨r, hs0 ++ r.hs, b.k r.e r.st, []⟩
def i5 (P : Program) (b : Pc) (path : List Bool) : Option (Exit × St × List Prop) := match be1 P b path with
 | .ok w => V6 P b.ro b.p b.c b.st w.hs w.k
 | _ => none
theorem f4 {P : Program} (hng : L8 P) (hm : P.follows .mixedOrders = true) {b : Pc} (path : List Bool) {e : Exit} {st' : St} {cs : List Prop} (h : i5 P b path = some (e, st', cs)) (hc : All cs) (hp : b.p ≤ b.st.next) : R P b.ro b.p b.c b.st e st' := by
 unfold i5 at h
 cases hp' : be1 P b path <;> simp only [hp', reduceCtorEq] at h
 exact ad8 hng hm h hc hp
def lst : List (List V) → Nat → List V
 | [], _ => []
 | v :: _, 0 => v
 | _ :: r, n + 1 => lst r n
def aM3 : Nat → (Nat → Prop) → Prop
 | 0, _ => True
 | n + 1, p => aM3 n p ∧ p n
theorem aM3.all : ∀ {n : Nat} {p : Nat → Prop}, aM3 n p → ∀ k, k < n → p k
 | 0, _, _, k, h => absurd h (Nat.not_lt_zero k)
 | n + 1, p, h, k, hk => by
  by_cases e : k = n
  ·subst e; exact h.2
  ·exact aM3.all h.1 k (by omega)
def mkT (n : Nat) (l : List (Nat × V)) : List V := (List.range n).map fun i => al2 l i
def ag4 : List (Nat × V) → List (Nat × K)
 | [] => []
 | p :: r => (p.1, .set p.2) :: ag4 r
def I2 : c5 → List (Nm × HK)
 | [] => []
 | p :: r => (p.1, .set p.2) :: I2 r
def az8 : Nat → List V → List (Nat × V)
 | _, [] => []
 | n, v :: r => match v with
  | .any => az8 (n + 1) r
  | v => (n, v) :: az8 (n + 1) r
def wTo (st : St) : W := ⟨[], ag4 (az8 0 st.tmps), I2 st.heap, none, st.next⟩
def w6 (sw : List (Nm × Nm)) (st : St) : W := ⟨sw, ag4 (az8 0 st.tmps), I2 st.heap, none, st.next⟩
end Sy
