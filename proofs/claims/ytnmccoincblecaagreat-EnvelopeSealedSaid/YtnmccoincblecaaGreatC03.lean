/-
  Contracts and laws that the claim's theorem leans on, joined out of the texts Sy17 Sy18 SyPlan (own work of this seat): A call's contract out of its body; A call's contract out of its body, weakened at its end; Hints for a body, found along a path of choices; nothing is proved of it.
-/
import Derived.Test.YtnmccoincblecaaGreatC02
set_option linter.unusedVariables false
set_option linter.unusedSimpArgs false
set_option maxHeartbeats 1000000
namespace Sy
open Go
variable {P : Program}
variable {X : List Deferred}
theorem cx1 {p : Nat} {U : Imm} {ρ : Env} {pre : c5} {w : World} {args : List V} {xs : Array Value} {k : Nat} (H : HRel U ρ pre w) (ha : j1 U ρ args xs.toList) (hpin : aa_ p pre) (hargs : V.withins (Nm.pin p) args = true) :
  StRel [] U (P9 p ρ) ⟨args ++ List.replicate k (.tup []), pre, p, []⟩ { tmps := xs ++ Array.replicate k undef, defers := [] } w := by
 have hle : ∀ n l, n.pin p = true → ρ n = some l → P9 p ρ n = some l := fun n l hn e => by rw [G0 hn]; exact e
 refine ⟨?_, rfl, ⟨fun n b hm => ?_, fun n b n' b' l l' m m' e1 e2 r1 r2 e3 => ?_, H.nd, H.imm⟩, fun j hj => ?_⟩
 ·simp only [Array.toList_append, Array.toList_replicate]
  refine ab2.2 ⟨_, _, rfl, j1.within (Imm.le_refl _) hle hargs ha, ?_⟩
  clear ha
  induction k with
  | zero => simp [j1]
  | succ k ih => rw [List.replicate_succ, List.replicate_succ, j1]; exact ⟨_, _, rfl, by rw [e9]; exact ⟨#[], rfl, by simp [j1]⟩, ih⟩
 ·obtain ⟨h1, h2⟩ := hpin _ hm
  obtain ⟨l, h3, h4⟩ := H.blk n b hm
  refine ⟨l, hle n l h1 h3, h4.imp ?_ id⟩
  rintro ⟨hr, o, h5, h6, h7⟩
  exact ⟨hr, o, h5, z6.within (Imm.le_refl _) hle h2 h6, h7⟩
 ·rw [G0 (hpin _ m).1] at e1
  rw [G0 (hpin _ m').1] at e2
  exact H.inj n b n' b' l l' m m' e1 e2 r1 r2 e3
 ·have : (Nm.o j).pin p = false := by simp only [Nm.pin, decide_eq_false_iff_not]; exact Nat.not_lt.2 hj
  simp [P9, this]
theorem cl1 {p : Nat} {U U' : Imm} {ρ ρ' : Env} {pre post heap' : c5} {w w' : World} {val : V} {x : Value} (hpin : aa_ p pre) (hfr : ∀ n, post.dom n → pre.dom n ∨ ρ n = none)
  (hv : e9 U' ρ' val x) (hh : HRel U' ρ' post w') (ht : Turn p U (P9 p ρ) pre w U' ρ' heap' w') (hsub : ∀ n, post.dom n → heap'.dom n)
  (hwv : ∃ S : Nm → Bool, val.within S = true ∧ ∀ m, S m = true → m.pin p = true ∨ post.dom m)
  (hwp : ∀ q ∈ post, ∃ S : Nm → Bool, q.2.within S = true ∧ ∀ m, S m = true → m.pin p = true ∨ post.dom m) :
  Leaves U ρ pre w val post x U' (Env.both post ρ' ρ) w' := by
 have hp : ∀ n, post.dom n → Env.both post ρ' ρ n = ρ' n := fun n h => by simp [Env.both, h]
 have hq : ∀ n, ¬ post.dom n → Env.both post ρ' ρ n = ρ n := fun n h => by simp [Env.both, h]
 have hle : ∀ (S : Nm → Bool), (∀ m, S m = true → m.pin p = true ∨ post.dom m) → ∀ n l, S n = true → ρ' n = some l → Env.both post ρ' ρ n = some l := by
  intro S hS n l hn e
  by_cases hd : post.dom n
  ·rw [hp n hd]; exact e
  ·rw [hq n hd]
   have hpn := (hS n hn).resolve_right hd
   rw [(ht.pins n hpn).1, G0 hpn] at e; exact e
 obtain ⟨S, hs1, hs2⟩ := hwv
 refine ⟨e9.within (Imm.le_refl _) (hle S hs2) hs1 hv, ⟨fun n b hm => ?_, fun n b n' b' l l' m m' e1 e2 r1 r2 e3 => ?_, hh.nd, hh.imm⟩, fun n l hd e => ?_, fun n l e => ?_, ⟨ht.ext.size, ht.ext.imm, fun b hb hn => ?_, fun n l hd e hr => ?_, fun b c e => ?_, ht.ext.out⟩⟩
 ·obtain ⟨S', hs3, hs4⟩ := hwp _ hm
  obtain ⟨l, h1, h2⟩ := hh.blk n b hm
  refine ⟨l, by rw [hp n ⟨b, hm⟩]; exact h1, h2.imp ?_ id⟩
  rintro ⟨hr, o, h5, h6, h7⟩
  exact ⟨hr, o, h5, z6.within (Imm.le_refl _) (hle S' hs4) hs3 h6, h7⟩
 ·rw [hp n ⟨b, m⟩] at e1
  rw [hp n' ⟨b', m'⟩] at e2
  exact hh.inj n b n' b' l l' m m' e1 e2 r1 r2 e3
 ·rcases hfr n hd with ⟨b, hb⟩ | h
  ·have hpn := (hpin _ hb).1
   rw [hp n hd, (ht.pins n hpn).1, G0 hpn]; exact e
  ·rw [h] at e; cases e
 ·by_cases hd : post.dom n
  ·exact .inl hd
  ·rw [hq n hd] at e; exact .inr e
 ·exact ht.ext.frame b hb fun n l ⟨b0, hb0⟩ e hr => hn n l ⟨b0, hb0⟩ (by rw [G0 (hpin _ hb0).1] at e; exact e) hr
 ·rw [hp n hd] at e
  rcases ht.ext.new n l (hsub n hd) e hr with h | ⟨n0, l0, ⟨b0, hb0⟩, h2, h3⟩
  ·exact .inl h
  ·exact .inr ⟨n0, l0, ⟨b0, hb0⟩, by rw [G0 (hpin _ hb0).1] at h2; exact h2, h3⟩
 ·rcases ht.ext.newImm b c e with h | h | ⟨n0, l0, ⟨b0, hb0⟩, h2, h3⟩
  ·exact .inl h
  ·exact .inr (.inl h)
  ·exact .inr (.inr ⟨n0, l0, ⟨b0, hb0⟩, by rw [G0 (hpin _ hb0).1] at h2; exact h2, h3⟩)
def X5 : List Nm → c5 → Option c5
 | [], h => some h
 | n :: ns, h => match B3 n h with
  | some (b, r) => match b with
   | .dfr => X5 ns r
   | _ => none
  | none => none
theorem cp7 {p : Nat} {U : Imm} {ρ : Env} {st : St} {a : Act} {w : World} {n : Nm} {ns : List Nm} {r : c5} (hs : StRel X U ρ st a w) (hd : st.dfs = n :: ns) (hpl : B3 n st.heap = some (.dfr, r)) :
  ∃ l ds w', a.defers = { target := .collected l, args := #[] } :: ds ∧ (Instr.takeDeferred l).run P w = .ok [] w' ∧ StRel X U ρ { st with heap := r, dfs := ns } { a with defers := ds } w' ∧ Turn p U ρ st.heap w U ρ r w' := by
 have hdf := hs.dfs
 rw [hd] at hdf
 obtain ⟨lc, ds, e1, e2, e3⟩ := hdf
 have hperm := U4 hpl
 have H := hs.heap.perm hperm
 have hreal : lc.real = true := by
  obtain ⟨l, h1, h2⟩ := H.blk n .dfr (List.mem_cons_self ..)
  rw [e1] at h1; cases h1
  rcases h2 with ⟨h, _⟩ | ⟨_, es, f, h⟩
  ·exact h
  ·cases h
 obtain ⟨o, h1, h2, h3⟩ := H.real (List.mem_cons_self ..) e1 hreal
 have ho : o = .deferred (some []) := h2
 subst ho
 have hlt := C5 h1
 have hold : ∀ k, k ≠ lc.blk → (w.heap.setIfInBounds lc.blk (.deferred none))[k]? = w.heap[k]? := fun k hk => by rw [Array.getElem?_setIfInBounds]; simp [Ne.symm hk]
 have hna : ∀ k b0, (k, b0) ∈ r → k ≠ n := fun k b0 h e => by
  have := H.nd
  rw [List.map_cons, List.nodup_cons] at this
  exact this.1 (List.mem_map.2 ⟨(k, b0), h, e⟩)
 refine ⟨lc.blk, ds, { w with heap := w.heap.setIfInBounds lc.blk (.deferred none) }, e2, ?_, ⟨hs.tmps, e3, ⟨fun k b0 h => ?_, fun k b1 k' b2 l1 l2 m1 m2 => H.inj k b1 k' b2 l1 l2 (List.mem_cons_of_mem _ m1) (List.mem_cons_of_mem _ m2), ?_, fun k c hk => ?_⟩, hs.fresh⟩, ⟨⟨by simp, Imm.le_refl _, fun k hk hn => ?_, fun k l ⟨b0, hb0⟩ e hr => ?_, fun _ _ h => .inl h, rfl, rfl⟩, fun k _ => ⟨rfl, fun ⟨b0, hb0⟩ => ⟨b0, hperm.mem_iff.2 (List.mem_cons_of_mem _ hb0)⟩⟩⟩⟩
 ·have e1 : (getObj lc.blk).run P w = .ok (.deferred (some [])) w := by simp [getObj, Sem.run, h1]
  have e2 : (setObj lc.blk (.deferred none)).run P w = .ok () { w with heap := w.heap.setIfInBounds lc.blk (.deferred none) } := by simp [setObj, Sem.run, h1]
  simp only [Instr.takeDeferred, Sem.run_bind, e1, e2, Result.andThen_ok, Sem.run_pure]
 ·obtain ⟨l0, g1, g2⟩ := H.blk k b0 (List.mem_cons_of_mem _ h)
  refine ⟨l0, g1, g2.imp ?_ id⟩
  rintro ⟨hr0, ob, g3, g4, g5⟩
  refine ⟨hr0, ob, ?_, g4, g5⟩
  rw [hold _ fun hk => hna k b0 h (H.inj k b0 n .dfr l0 lc (List.mem_cons_of_mem _ h) (List.mem_cons_self ..) g1 e1 hr0 hreal hk)]
  exact g3
 ·have := H.nd
  rw [List.map_cons, List.nodup_cons] at this
  exact this.2
 ·obtain ⟨el, fr, h⟩ := H.imm k c hk
  exact ⟨el, fr, by rw [hold k (fun hk' => by rw [hk', h3] at hk; cases hk)]; exact h⟩
 ·exact hold k fun hk' => hn n lc ⟨.dfr, hperm.mem_iff.2 (List.mem_cons_self ..)⟩ e1 hreal hk'.symm
 ·exact .inr ⟨k, l, ⟨b0, hperm.mem_iff.2 (List.mem_cons_of_mem _ hb0)⟩, e, hr, rfl⟩
theorem ap3 {F : Fence} {p n : Nat} {fn : Func} {R : Ending → World → Prop} {U : Imm} {ρ : Env} : ∀ (ns : List Nm) (st : St) (a : Act) (w : World) (h' : c5), st.dfs = ns → X5 ns st.heap = some h' → StRel [] U ρ st a w →
  (∀ w', StRel [] U ρ { st with heap := h', dfs := [] } { a with defers := [] } w' → Turn p U ρ st.heap w U ρ h' w' → ∃ v, (results fn a.tmps).run P w' = .ok v w' ∧ R (.returned v) w') → LeavesInM F n P fn a.tmps R a.defers .returning w
 | [], st, a, w, h', hd, hu, hs, hk => by
  simp only [X5, Option.some.injEq] at hu
  have e : a.defers = [] := by have := hs.dfs; rw [hd] at this; exact this
  rw [e]
  obtain ⟨t, d⟩ := a
  simp only at e; subst e
  refine hk w ?_ (by rw [← hu]; exact Turn.refl _ _ _ _ _)
  rw [← hu]
  exact ⟨hs.tmps, rfl, hs.heap, hs.fresh⟩
 | m :: ns, st, a, w, h', hd, hu, hs, hk => by
  unfold X5 at hu
  cases hp : B3 m st.heap with
  | none => simp [hp] at hu
  | some q =>
   obtain ⟨b, r⟩ := q
   simp only [hp] at hu
   cases b <;> simp only [reduceCtorEq] at hu
   obtain ⟨l, ds, w', e1, e2, e3, e4⟩ := cp7 (P := P) (p := p) hs hd hp
   rw [e1]
   refine ⟨by simp, .inl ⟨l, w', rfl, e2, ?_⟩⟩
   exact ap3 ns { st with heap := r, dfs := ns } { a with defers := ds } w' h' rfl hu e3 fun w'' h1 t1 => hk w'' h1 (e4.trans t1)
def aC2 (P : Program) (tmps : List V) (h : c5) : ResultVar → Option (V × List Prop)
 | .tmp t => some (r9 tmps t, [])
 | .cell a t => match r9 tmps a with
  | .ptr n es i o j => match B3 n h with
   | some (b, _) => match G5 b es i with
    | some (cs, c1) => match ag0 P t cs o j with
     | some (v, c2) => some (v, c1 ++ c2)
     | none => none
    | none => none
   | none => none
  | _ => none
def V1 (P : Program) (tmps : List V) (h : c5) : List ResultVar → Option (List V × List Prop)
 | [] => some ([], [])
 | r :: rs => match aC2 P tmps h r with
  | some (v, c) => match V1 P tmps h rs with
   | some (vs, cs) => some (v :: vs, c ++ cs)
   | none => none
  | none => none
def ac2 : List V → V
 | [] => .tup []
 | v :: vs => match vs with
  | [] => v
  | _ => .tup (v :: vs)
theorem aJ0 {U : Imm} {ρ : Env} {tmps : List V} {h : c5} {a : Array Value} {w : World} (ht : j1 U ρ tmps a.toList) (H : HRel U ρ h w) : ∀ {rs : List ResultVar} {vs : List V} {cs : List Prop}, V1 P tmps h rs = some (vs, cs) → All cs →
  ∃ l, (rs.mapM fun (x : ResultVar) => (match x with
   | .tmp t => pure (a.getD t undef)
   | .cell b t => do loadVar t (← asAddr (a.getD b undef)) : Sem Value)).run P w = .ok l w ∧ j1 U ρ vs l
 | [], vs, cs, e, _ => by
  simp only [V1, Option.some.injEq, Prod.mk.injEq] at e
  obtain ⟨rfl, rfl⟩ := e
  exact ⟨[], rfl, by rw [j1]⟩
 | r :: rs, vs, cs, e, hc => by
  unfold V1 at e
  cases ho : aC2 P tmps h r with
  | none => simp [ho] at e
  | some q =>
   obtain ⟨v, c⟩ := q
   simp only [ho] at e
   cases ha : V1 P tmps h rs with
   | none => simp [ha] at e
   | some q2 =>
    obtain ⟨vs', cs'⟩ := q2
    simp only [ha, Option.some.injEq, Prod.mk.injEq] at e
    obtain ⟨rfl, rfl⟩ := e
    obtain ⟨k1, k2⟩ := f3.1 hc
    obtain ⟨l, h1, h2⟩ := aJ0 ht H ha k2
    have one : ∃ x, ((match r with
      | .tmp t => pure (a.getD t undef)
      | .cell b t => do loadVar t (← asAddr (a.getD b undef)) : Sem Value)).run P w = .ok x w ∧ e9 U ρ v x := by
     cases r with
     | tmp t =>
      simp only [aC2, Option.some.injEq, Prod.mk.injEq] at ho
      obtain ⟨rfl, rfl⟩ := ho
      refine ⟨_, rfl, ?_⟩
      have := ac1 t ht
      simpa using this
     | cell b t =>
      have hb := ac1 b ht
      simp only [aC2] at ho
      cases hg : r9 tmps b <;> simp only [hg, reduceCtorEq] at ho
      rename_i n es i o j
      rw [hg, e9] at hb
      obtain ⟨lc, e1, e2, e3⟩ := hb
      cases hp : B3 n h with
      | none => simp [hp] at ho
      | some q =>
       obtain ⟨b', r'⟩ := q
       simp only [hp] at ho
       cases he : G5 b' es i with
       | none => simp [he] at ho
       | some q3 =>
        obtain ⟨cs3, c3⟩ := q3
        simp only [he] at ho
        cases hl : ag0 P t cs3 o j with
        | none => simp [hl] at ho
        | some q4 =>
         obtain ⟨v4, c4⟩ := q4
         simp only [hl, Option.some.injEq, Prod.mk.injEq] at ho
         obtain ⟨rfl, rfl⟩ := ho
         obtain ⟨d1, d2⟩ := f3.1 k1
         obtain ⟨ob, g1, g2, _⟩ := (H.perm (U4 hp)).real (List.mem_cons_self ..) e1 e2
         obtain ⟨y, g3, g4⟩ := aS1 g2 g1 he hl d1 d2
         refine ⟨y, ?_, g4⟩
         have e3' : a.getD b undef = .pointer (some ⟨lc.blk, i * es + o + j, none⟩) := by simpa using e3
         simp only [e3', asAddr, Sem.run_bind, Sem.run_pure, Result.andThen_ok]
         exact g3
    obtain ⟨x, g1, g2⟩ := one
    refine ⟨x :: l, ?_, by rw [j1]; exact ⟨x, l, rfl, g2, h2⟩⟩
    simp only [List.mapM_cons, Sem.run_bind, g1, h1, Result.andThen_ok, Sem.run_pure]
theorem bg7 {U : Imm} {ρ : Env} {tmps : List V} {h : c5} {a : Array Value} {w : World} {fn : Func} {vs : List V} {cs : List Prop} (ht : j1 U ρ tmps a.toList) (H : HRel U ρ h w) (hr : V1 P tmps h fn.results.toList = some (vs, cs)) (hc : All cs) :
  ∃ v, (results fn a).run P w = .ok v w ∧ e9 U ρ (ac2 vs) v := by
 obtain ⟨l, h1, h2⟩ := aJ0 ht H hr hc
 have hrun : (results fn a).run P w = .ok (if h : l.toArray.size = 1 then l.toArray[0] else .tuple l.toArray) w := by
  unfold results
  rw [Array.mapM_eq_mapM_toList]
  simp only [Sem.run_bind, Sem.run_map]
  generalize hg : Sem.run P (List.mapM _ fn.results.toList) w = z
  have hz : z = .ok l w := hg.symm.trans h1
  rw [hz]; rfl
 refine ⟨_, hrun, ?_⟩
 cases vs with
 | nil => rw [j1] at h2; subst h2; simp only [ac2]; rw [e9]; exact ⟨#[], rfl, by rw [j1]⟩
 | cons v vs =>
  rw [j1] at h2
  obtain ⟨x, r, rfl, g1, g2⟩ := h2
  cases vs with
  | nil => rw [j1] at g2; subst g2; simpa [ac2] using g1
  | cons u us =>
   have g2' := g2
   rw [j1] at g2
   obtain ⟨y, r', rfl, g3, g4⟩ := g2
   simp only [ac2]
   rw [e9]
   refine ⟨(x :: y :: r').toArray, by simp, ?_⟩
   rw [j1]; exact ⟨x, _, rfl, g1, g2'⟩
def aB2 : Exit → Bool
 | .ret => true
 | .normal => true
 | _ => false
def aa9 (S : Nm → Bool) : c5 → Bool
 | [] => true
 | q :: h => q.2.within S && aa9 S h
theorem aD5 {S : Nm → Bool} : ∀ {h : c5}, aa9 S h = true → ∀ q ∈ h, q.2.within S = true
 | [], _, q, hq => by cases hq
 | x :: h, e, q, hq => by
  rw [aa9, Bool.and_eq_true] at e
  rcases List.mem_cons.1 hq with rfl | hq
  ·exact e.1
  ·exact aD5 e.2 q hq
end Sy
namespace Sy
open Go
variable {P : Program}
variable {X : List Deferred}
def ab4 (P : Program) (ro : Option Nat) (p : Nat) (c : Code) (st : St) (hs : List Hint) (k : Option W) : Option (Exit × St × List Prop) :=
 match k with
 | some k => aF0 P ro p c st hs k
 | none => match T2 p hs st with
  | none => none
  | some (st1, c1, hs1) => match run P ro p c c st1 hs1 with
   | none => none
   | some r => some (r.e, r.st, c1 ++ r.cs)
theorem am7 (hng : S9 P) (hm : P.follows .mixedOrders = true) {ro : Option Nat} {p : Nat} {c : Code} {st st' : St} {hs : List Hint} {k : Option W} {e : Exit} {cs : List Prop} (h : ab4 P ro p c st hs k = some (e, st', cs)) (hc : All cs) (hp : p ≤ st.next) :
  R P ro p c st e st' := by
 unfold ab4 at h
 cases k with
 | some k => exact aM_ hng hm h hc hp
 | none =>
  simp only at h
  cases h1 : T2 p hs st with
  | none => simp [h1] at h
  | some q =>
   obtain ⟨st1, c1, hs1⟩ := q
   simp only [h1] at h
   cases h2 : run P ro p c c st1 hs1 with
   | none => simp [h2] at h
   | some r =>
    simp only [h2, Option.some.injEq, Prod.mk.injEq] at h
    obtain ⟨rfl, rfl, rfl⟩ := h
    simp only [f3] at hc
    obtain ⟨k1, k2⟩ := hc
    obtain ⟨g1, g2⟩ := aa8 h1 k1 hp
    obtain ⟨g3, g4⟩ := bu3 hng hm c c rfl st1 hs1 r h2 k2 g2
    exact R.pre g1 g4
def aA6 (P : Program) (fn : Func) (base : Nat) (names : List Nm) (tl : Option Nat) (e : Exit) (st : St) (cs : List Prop) : Option (V × c5 × List Prop) :=
 match aB2 e with
 | false => none
 | true => match X5 st.dfs st.heap with
  | none => none
  | some h => match V1 P st.tmps h fn.results.toList with
   | none => none
   | some (vs, c2) => match S7 names h with
    | none => none
    | some (bs, rest) => bif (ac2 vs).within (fun n => n.pin base || J9 n bs) && aa9 (fun n => n.pin base || J9 n bs) bs then match tl with
      | none => some (ac2 vs, bs, cs ++ c2)
      | some k => some (ac2 vs, bs ++ rest.drop k, aa_ base (rest.drop k) :: (cs ++ c2))
     else none
def fnB (P : Program) (fn : Func) (c : Code) (args : List V) (pre : c5) (base : Nat) (hs : List Hint) (k : Option W) (names : List Nm) (tl : Option Nat) : Option (V × c5 × List Prop) :=
 match ab4 P none base c ⟨args ++ List.replicate (fn.ntmps - args.length) (.tup []), pre, base, []⟩ hs k with
 | none => none
 | some (e, st, cs) => aA6 P fn base names tl e st cs
theorem aN2 {f : FuncId} {fn : Func} {c : Code} (hf : P.funcs[f]? = some fn) (hb : fn.body = some c) {args : List V} {pre post : c5} {base : Nat} {names : List Nm} {tl : Option Nat} {e : Exit} {st : St} {c0 : List Prop} {val : V} {cs : List Prop}
  (hR : R P none base c ⟨args ++ List.replicate (fn.ntmps - args.length) (.tup []), pre, base, []⟩ e st)
  (h : aA6 P fn base names tl e st c0 = some (val, post, cs)) (hc : All cs) (hpin : aa_ base pre) (hargs : V.withins (Nm.pin base) args = true) : T P f args pre val post := by
 unfold aA6 at h
 cases hret : aB2 e <;> simp only [hret, reduceCtorEq] at h
 cases hum : X5 st.dfs st.heap with
 | none => simp [hum] at h
 | some h' =>
  simp only [hum] at h
  cases hres : V1 P st.tmps h' fn.results.toList with
  | none => simp [hres] at h
  | some q =>
   obtain ⟨vs, c2⟩ := q
   simp only [hres] at h
   cases htk : S7 names h' with
   | none => simp [htk] at h
   | some q =>
    obtain ⟨bs, rest⟩ := q
    simp only [htk] at h
    cases hw : ((ac2 vs).within (fun n => n.pin base || J9 n bs) && aa9 (fun n => n.pin base || J9 n bs) bs) <;> simp only [hw, cond_true, cond_false, reduceCtorEq] at h
    rw [Bool.and_eq_true] at hw
    have key : All c2 ∧ val = ac2 vs ∧ ∃ t, (∃ rest', (bs ++ rest).Perm (post ++ rest')) ∧ post = bs ++ t ∧ aa_ base t := by
     cases tl with
     | none =>
      simp only [Option.some.injEq, Prod.mk.injEq] at h
      obtain ⟨rfl, rfl, rfl⟩ := h
      obtain ⟨k1, k2⟩ := f3.1 hc
      exact ⟨k2, rfl, [], ⟨rest, List.Perm.refl _⟩, by simp, fun q hq => by cases hq⟩
     | some k =>
      simp only [Option.some.injEq, Prod.mk.injEq] at h
      obtain ⟨rfl, rfl, rfl⟩ := h
      obtain ⟨k0, k12⟩ := hc
      obtain ⟨k1, k2⟩ := f3.1 k12
      refine ⟨k2, rfl, rest.drop k, ⟨rest.take k, ?_⟩, rfl, k0⟩
      rw [List.append_assoc]
      exact List.Perm.append_left bs ((List.Perm.of_eq (List.take_append_drop k rest).symm).trans List.perm_append_comm)
    obtain ⟨k2, rfl, t, ⟨rest', hperm⟩, hpost, hpt⟩ := key
    have hdom : ∀ m, J9 m bs = true → c5.dom post m := fun m hmm => by rw [hpost]; exact m8.2 (.inl (ap5 hmm))
    have hS : ∀ m, (m.pin base || J9 m bs) = true → m.pin base = true ∨ c5.dom post m := fun m hmm => by
     rw [Bool.or_eq_true] at hmm; exact hmm.imp id (hdom m)
    intro U ρ w xs hh ha hfr
    refine (callsIn_wide (n := 0)).1 ?_
    have hlen : xs.size = args.length := by
     have : ∀ {vs : List V} {l : List Value}, j1 U ρ vs l → l.length = vs.length := by
      intro vs
      induction vs with
      | nil => intro l h; rw [j1] at h; subst h; rfl
      | cons v vs ih => intro l h; rw [j1] at h; obtain ⟨x, r, rfl, _, h⟩ := h; simp [ih h]
     rw [← Array.length_toList]; exact this ha
    refine callsIn_of_wp_marks hf hb trivial ?_ rfl
    rw [hlen]
    have hQ : ∀ (e : Exit), aB2 e = true → ∀ U' ρ' a' w', StRel [] U' ρ' st a' w' → Turn base U (P9 base ρ) pre w U' ρ' st.heap w' →
      LeavesInM Fence.wide 0 P fn a'.tmps (fun e w' => ∃ x U' ρ', e = .returned x ∧ Leaves U ρ pre w (ac2 vs) post x U' ρ' w') a'.defers .returning w' := by
     intro e _ U' ρ' a' w' hst ht
     refine ap3 (p := base) st.dfs st a' w' h' rfl hum hst fun w'' hs' ht' => ?_
     have hperm' : h'.Perm (post ++ rest') := (aa0 htk).trans hperm
     obtain ⟨v, g1, g2⟩ := bg7 (P := P) hs'.tmps hs'.heap hres k2
     refine ⟨v, g1, v, U', _, rfl, cl1 hpin hfr g2 (HRel.left (hs'.heap.perm hperm')) (ht.trans ht') (fun n hn => (I8 hperm' n).2 (m8.2 (.inl hn))) ⟨_, hw.1, hS⟩ fun q hq => ?_⟩
     rw [hpost] at hq
     rcases List.mem_append.1 hq with hq | hq
     ·exact ⟨_, aD5 hw.2 q hq, hS⟩
     ·exact ⟨_, (hpt q hq).2, fun m hm => .inl hm⟩
    refine hR U (P9 base ρ) _ w _ (cx1 hh ha hpin hargs) fun U' ρ' a' w' hst ht => ?_
    cases he : e <;> rw [he] at hret <;> simp only [aB2, Bool.false_eq_true] at hret
    ·exact hQ .normal rfl U' ρ' a' w' hst ht
    ·exact hQ .ret rfl U' ρ' a' w' hst ht
theorem aX9 {fn : Func} {base : Nat} {names : List Nm} {tl : Option Nat} {e : Exit} {st : St} {c0 : List Prop} {val : V} {post : c5} {cs : List Prop} (h : aA6 P fn base names tl e st c0 = some (val, post, cs)) (hc : All cs) : All c0 := by
 unfold aA6 at h
 cases hret : aB2 e <;> simp only [hret, reduceCtorEq] at h
 cases hum : X5 st.dfs st.heap with
 | none => simp [hum] at h
 | some h' =>
  simp only [hum] at h
  cases hres : V1 P st.tmps h' fn.results.toList with
  | none => simp [hres] at h
  | some q =>
   obtain ⟨vs, c2⟩ := q
   simp only [hres] at h
   cases htk : S7 names h' with
   | none => simp [htk] at h
   | some q =>
    obtain ⟨bs, rest⟩ := q
    simp only [htk] at h
    cases hw : ((ac2 vs).within (fun n => n.pin base || J9 n bs) && aa9 (fun n => n.pin base || J9 n bs) bs) <;> simp only [hw, cond_true, cond_false, reduceCtorEq] at h
    cases tl with
    | none =>
     simp only [Option.some.injEq, Prod.mk.injEq] at h
     obtain ⟨rfl, rfl, rfl⟩ := h
     exact (f3.1 hc).1
    | some k =>
     simp only [Option.some.injEq, Prod.mk.injEq] at h
     obtain ⟨rfl, rfl, rfl⟩ := h
     exact (f3.1 hc.2).1
theorem bw0 (hng : S9 P) (hm : P.follows .mixedOrders = true) {f : FuncId} {fn : Func} {c : Code} (hf : P.funcs[f]? = some fn) (hb : fn.body = some c) {args : List V} {pre post : c5} {base : Nat} {hs : List Hint} {k : Option W} {names : List Nm} {tl : Option Nat} {val : V} {cs : List Prop}
  (h : fnB P fn c args pre base hs k names tl = some (val, post, cs)) (hc : All cs) (hpin : aa_ base pre) (hargs : V.withins (Nm.pin base) args = true) : T P f args pre val post := by
 unfold fnB at h
 cases hr : ab4 P none base c ⟨args ++ List.replicate (fn.ntmps - args.length) (.tup []), pre, base, []⟩ hs k with
 | none => simp [hr] at h
 | some q =>
  obtain ⟨e, st, c0⟩ := q
  simp only [hr] at h
  exact aN2 hf hb (am7 hng hm hr (aX9 h hc) (Nat.le_refl _)) h hc hpin hargs
end Sy
namespace Sy
open Go
inductive PR.{u} (α : Type u) where
 | ok (a : α)
 | need (c : Option Bool)
 | call (k lo : Nat) (args : List V) (h : c5)
 | bad (n : Nat) (st : List V) (h : c5)
structure Cl where
 sym : Bool := false
 rd : List Nm := []
 pre : List Nm := []
 tl : Option (Nat × c5) := none
 val : V
 post : c5 := []
structure Kb where
 db : Nat → List V → c5 → Nat → List Cl
 lp : Nat → St → List (Prop × Hint) := fun _ _ => []
 fx : Nat → St → List Hint := fun _ _ => []
 lit : Bool := false
 vl : Nat → List Cl := fun _ => []
 pr : Prim → List V → c5 → Nat → List Cl := fun _ _ _ _ => []
def aB8 (kb : Kb) (c : Bool) (path : List Bool) : Option (Bool × List Bool) := match kb.lit with
 | true => match c with
  | true => some (true, path)
  | false => some (false, path)
 | false => match path with
  | [] => none
  | b :: path => some (b, path)
def ap0 (ops : Array Oper) (i : Nat) : Bool := ops.toList.any fun o => match o.guard with
 | some g => Nat.beq g.1 i
 | none => false
structure RegO where
 hs : List (Nat × OH)
 as : List Prop
 path : List Bool
def choose.{u} {α : Type u} : List α → List Bool → PR (α × List Bool)
 | [], _ => .bad 1 [] []
 | [a], p => .ok (a, p)
 | a :: l, p => match p with
  | [] => .need none
  | b :: p' => match b with
   | true => .ok (a, p')
   | false => choose l p'
def ck8 (P : Program) (kb : Kb) (ops : Array Oper) (base i : Nat) (s : S) (path : List Bool) : PR (Option OH × List Prop × List Bool) :=
 match as4 P ops base [] i s with
 | none => .bad (60000 + i) s.tmps s.heap
 | some r => match r.ent.val with
  | .bool c => match aB8 kb c path with
   | none => .need (some c)
   | some (x, path') => .ok (some (.dir x), [c = x], path')
  | _ => .bad (70000 + i) s.tmps s.heap
def co4 (kb : Kb) (ev : Operand → V) (h : c5) (lo : Nat) (op : Op) : List Cl := match ai7 op with
 | some (pr, xs) => kb.pr pr (Q4 ev xs) h lo
 | none => []
def cf1 (P : Program) (kb : Kb) (ops : Array Oper) (base i : Nat) (s : S) (path : List Bool) : PR (Option OH × List Prop × List Bool) :=
 match ops[i]? with
 | none => .bad 2 s.tmps s.heap
 | some o =>
  let ls := P0 s.tmps (bC9 ops o ++ aq9 o.op.operands.toList)
  match as5 ops ls o with
  | none => .bad (30000 + i) s.tmps s.heap
  | some w => match w with
   | false => .ok (none, [], path)
   | true => match co4 kb (evL ls) s.heap (base + 64 * i) o.op with
    | cl :: _ => match ap0 ops i with
     | false => .ok (some (.prim cl.rd cl.pre cl.val cl.post), [], path)
     | true => match cl.val with
      | .bool c => match aB8 kb c path with
       | none => .need (some c)
       | some (x, path') => .ok (some (.prim cl.rd cl.pre (.bool x) cl.post), [c = x], path')
      | _ => .bad 3 s.tmps s.heap
    | [] => match o.op with
    | .call c => match c.callee with
     | .value f => match kb.vl (base + 64 * i) with
      | cl :: _ => match ap0 ops i with
       | false => .ok (some (.call true cl.rd cl.pre cl.tl cl.val cl.post), [], path)
       | true => match cl.val with
        | .bool c => match aB8 kb c path with
         | none => .need (some c)
         | some (x, path') => .ok (some (.call true cl.rd cl.pre cl.tl (.bool x) cl.post), [c = x], path')
        | _ => .bad 3 s.tmps s.heap
      | [] => match evL ls f with
      | .fn g a b => match g with
       | .func k => match choose (kb.db k (a ++ (Q4 (evL ls) c.args.toList ++ b)) s.heap (base + 64 * i)) path with
        | .need c => .need c
        | .call k lo as h => .call k lo as h
        | .bad _ _ _ => .call k (base + 64 * i) (a ++ (Q4 (evL ls) c.args.toList ++ b)) s.heap
        | .ok (cl, path) => match ap0 ops i with
         | false => .ok (some (.call cl.sym cl.rd cl.pre cl.tl cl.val cl.post), [], path)
         | true => match cl.val with
          | .bool c => match aB8 kb c path with
           | none => .need (some c)
           | some (x, path') => .ok (some (.call cl.sym cl.rd cl.pre cl.tl (.bool x) cl.post), [c = x], path')
          | _ => .bad 3 s.tmps s.heap
       | _ => .bad 4 s.tmps s.heap
      | _ => .bad (50000 + i) s.tmps s.heap
     | _ => match ap0 ops i with
      | false => .ok (none, [], path)
      | true => ck8 P kb ops base i s path
    | _ => match ap0 ops i with
     | false => .ok (none, [], path)
     | true => ck8 P kb ops base i s path
def bK_ (P : Program) (kb : Kb) (ops : Array Oper) (base : Nat) : List Nat → S → List Bool → PR (RegO × List V)
 | [], s, path => .ok (⟨[], [], path⟩, s.tmps)
 | i :: l, s, path => match cf1 P kb ops base i s path with
  | .need c => .need c
  | .call k lo as h => .call k lo as h
  | .bad n st h => .bad n st h
  | .ok (oh, as, path) =>
   let hs := match oh with
    | some h => [(i, h)]
    | none => []
   match as4 P ops base hs i s with
   | none => .bad (20000 + i) s.tmps s.heap
   | some r => match bK_ P kb ops base l r.s path with
    | .need c => .need c
    | .call k lo as h => .call k lo as h
    | .bad n st h => .bad n st h
    | .ok (ro, ts) => .ok (⟨hs ++ ro.hs, as ++ ro.as, ro.path⟩, ts)
structure PO where
 e : Exit
 st : St
 hs : List Hint
 as : List Prop
 path : List Bool
def Y4 : Code → Nat
 | .region id _ _ => id
 | .seq x _ => Y4 x
 | .block _ c => Y4 c
 | .loop c => Y4 c
 | .scope c => Y4 c
 | _ => 0
def aw7 (p : Nat) (hs : List Hint) (st : St) : PR St := match T2 p hs st with
 | none => .bad 5 st.tmps st.heap
 | some q => .ok q.1
def aT_ (f : St → List Bool → PR PO) : Nat → St → List Bool → PR PO
 | 0, st, _ => .bad 6 st.tmps st.heap
 | n + 1, st, path => match f st path with
  | .need c => .need c
  | .call k lo as h => .call k lo as h
  | .bad n st h => .bad n st h
  | .ok r => match r.e with
   | .normal => match aT_ f n r.st r.path with
    | .need c => .need c
    | .call k lo as h => .call k lo as h
    | .bad n st h => .bad n st h
    | .ok r2 => .ok { r2 with hs := r.hs ++ r2.hs, as := r.as ++ r2.as }
   | _ => .ok r
def al4 (P : Program) (kb : Kb) (p : Nat) : Nat → Code → St → List Bool → PR PO
 | _, .skip, st, path => .ok ⟨.normal, st, [], [], path⟩
 | _, .ret, st, path => .ok ⟨.ret, st, [], [], path⟩
 | _, .exit id, st, path => .ok ⟨.exit id, st, [], [], path⟩
 | _, .region id ops draw, st, path => match bK_ P kb ops st.next (List.range ops.size) ⟨st.tmps, st.heap⟩ path with
  | .need c => .need c
  | .call k lo as h => .call k lo as h
  | .bad n st h => .bad (100000 * id + n) st h
  | .ok (ro, _) => match aq0 P ops draw ro.hs st with
   | none => .bad (100000 * id + 7) st.tmps st.heap
   | some (st', _) => .ok ⟨.normal, st', (match bq0 ops with
     | true => [.reg ro.hs]
     | false => []), ro.as, ro.path⟩
 | _, .seq x y, st, path => match al4 P kb p 0 x st path with
  | .need c => .need c
  | .call k lo as h => .call k lo as h
  | .bad n st h => .bad n st h
  | .ok r => match r.e with
   | .normal =>
    let hs := kb.fx (Y4 y) r.st
    match aw7 p hs r.st with
    | .need c => .need c
    | .call k lo as h => .call k lo as h
    | .bad n st h => .bad (100000 * Y4 y + n) st h
    | .ok st2 => match al4 P kb p 0 y st2 r.path with
     | .need c => .need c
     | .call k lo as h => .call k lo as h
     | .bad n st h => .bad n st h
     | .ok r2 => .ok ⟨r2.e, r2.st, r.hs ++ (hs ++ r2.hs), r.as ++ r2.as, r2.path⟩
   | _ => .ok r
 | _, .cond o x y, st, path => match evV st.tmps o with
  | .bool c => match aB8 kb c path with
   | none => .need (some c)
   | some (b, path) => match b with
    | true => match al4 P kb p 0 x st path with
     | .need c => .need c
     | .call k lo as h => .call k lo as h
     | .bad n st h => .bad n st h
     | .ok r => .ok { r with hs := .br true :: r.hs, as := (c = true) :: r.as }
    | false => match al4 P kb p 0 y st path with
     | .need c => .need c
     | .call k lo as h => .call k lo as h
     | .bad n st h => .bad n st h
     | .ok r => .ok { r with hs := .br false :: r.hs, as := (c = false) :: r.as }
  | _ => .bad 8 st.tmps st.heap
 | _, .block id c, st, path => match al4 P kb p id c st path with
  | .need c => .need c
  | .call k lo as h => .call k lo as h
  | .bad n st h => .bad n st h
  | .ok r => match r.e with
   | .exit k => bif Nat.beq k id then .ok { r with e := .normal } else .ok r
   | _ => .ok r
 | id, .loop c, st, path => match choose (kb.lp id st) path with
  | .need c => .need c
  | .call k lo as h => .call k lo as h
  | .bad _ _ _ => .bad (40000 + id) st.tmps st.heap
  | .ok ((a, h), path) => match h with
   | .loop m k e st1 => .ok ⟨e, st1, [.loop m k e st1], [a], path⟩
   | .rounds n => match aT_ (al4 P kb p 0 c) n st path with
    | .need c => .need c
    | .call k lo as h => .call k lo as h
    | .bad n st h => .bad n st h
    | .ok r => .ok { r with hs := .rounds n :: r.hs }
   | _ => .bad 9 st.tmps st.heap
 | id, .rangeFunc _ _ _ _, st, path => match choose (kb.lp (id + 1000) st) path with
  | .need c => .need c
  | .call k lo as h => .call k lo as h
  | .bad _ _ _ => .bad (45000 + id) st.tmps st.heap
  | .ok ((a, h), path) => match h with
   | .loop m k e st1 => .ok ⟨e, st1, [.loop m k e st1], [a], path⟩
   | _ => .bad 9 st.tmps st.heap
 | _, .scope c, st, path => match al4 P kb p 0 c st path with
  | .need c => .need c
  | .call k lo as h => .call k lo as h
  | .bad n st h => .bad n st h
  | .ok r => match r.e with
   | .goto _ => .bad 11 st.tmps st.heap
   | _ => .ok r
 | _, .label _, st, path => .ok ⟨.normal, st, [], [], path⟩
 | _, _, st, _ => .bad 10 st.tmps st.heap
structure Bd where
 f : Func
 args : List V
 pre : c5 := []
 base : Nat := 0
 kb : Kb
 k : Exit → St → Option W := fun _ _ => none
 names : St → List Nm := fun _ => []
 tl : Option Nat := none
def f8 (fn : Func) : Code := match fn.body with
 | some c => c
 | none => .skip
structure PW where
 po : PO
 hs : List Hint
 k : Option W
 names : List Nm
def bM8 (P : Program) (b : Bd) (path : List Bool) : PR PW :=
 let st0 : St := ⟨b.args ++ List.replicate (b.f.ntmps - b.args.length) (.tup []), b.pre, b.base, []⟩
 let hs0 := b.kb.fx (Y4 (f8 b.f)) st0
 match aw7 b.base hs0 st0 with
 | .need c => .need c
 | .call k lo as h => .call k lo as h
 | .bad n st h => .bad n st h
 | .ok st1 => match al4 P b.kb b.base 0 (f8 b.f) st1 path with
  | .need c => .need c
  | .call k lo as h => .call k lo as h
  | .bad n st h => .bad n st h
  | .ok r => .ok ⟨r, hs0 ++ r.hs, b.k r.e r.st, b.names r.st⟩
def f4 (P : Program) (b : Bd) (path : List Bool) : Option (V × c5 × List Prop) := match bM8 P b path with
 | .ok w => fnB P b.f (f8 b.f) b.args b.pre b.base w.hs w.k w.names b.tl
 | _ => none
theorem T5 {P : Program} (hng : S9 P) (hm : P.follows .mixedOrders = true) {f : FuncId} {b : Bd} (path : List Bool) {val : V} {post : c5} {cs : List Prop} (h : f4 P b path = some (val, post, cs)) (hf : P.funcs[f]? = some b.f) (hb : b.f.body = some (f8 b.f)) (hc : All cs) (hpin : aa_ b.base b.pre) (hargs : V.withins (Nm.pin b.base) b.args = true) :
  T P f b.args b.pre val post := by
 unfold f4 at h
 cases hp : bM8 P b path <;> simp only [hp, reduceCtorEq] at h
 exact bw0 hng hm hf hb h hc hpin hargs
structure Pc where
 c : Code
 st : St
 p : Nat := 0
 kb : Kb
 k : Exit → St → Option W := fun _ _ => none
 ro : Option Nat := none
def bt9 (P : Program) (b : Pc) (path : List Bool) : PR PW :=
 let hs0 := b.kb.fx (Y4 b.c) b.st
 match aw7 b.p hs0 b.st with
 | .need c => .need c
 | .call k lo as h => .call k lo as h
 | .bad n st h => .bad n st h
 | .ok st1 => match al4 P b.kb b.p 0 b.c st1 path with
  | .need c => .need c
  | .call k lo as h => .call k lo as h
  | .bad n st h => .bad n st h
  | .ok r => .ok ⟨r, hs0 ++ r.hs, b.k r.e r.st, []⟩
def i6 (P : Program) (b : Pc) (path : List Bool) : Option (Exit × St × List Prop) := match bt9 P b path with
 | .ok w => ab4 P b.ro b.p b.c b.st w.hs w.k
 | _ => none
theorem f9 {P : Program} (hng : S9 P) (hm : P.follows .mixedOrders = true) {b : Pc} (path : List Bool) {e : Exit} {st' : St} {cs : List Prop} (h : i6 P b path = some (e, st', cs)) (hc : All cs) (hp : b.p ≤ b.st.next) : R P b.ro b.p b.c b.st e st' := by
 unfold i6 at h
 cases hp' : bt9 P b path <;> simp only [hp', reduceCtorEq] at h
 exact am7 hng hm h hc hp
def lst : List (List V) → Nat → List V
 | [], _ => []
 | v :: _, 0 => v
 | _ :: r, n + 1 => lst r n
def a9_ : Nat → (Nat → Prop) → Prop
 | 0, _ => True
 | n + 1, p => a9_ n p ∧ p n
theorem a9_.all : ∀ {n : Nat} {p : Nat → Prop}, a9_ n p → ∀ k, k < n → p k
 | 0, _, _, k, h => absurd h (Nat.not_lt_zero k)
 | n + 1, p, h, k, hk => by
  by_cases e : k = n
  ·subst e; exact h.2
  ·exact a9_.all h.1 k (by omega)
def mkT (n : Nat) (l : List (Nat × V)) : List V := (List.range n).map fun i => av4 l i
def aC7 : List (Nat × V) → List (Nat × K)
 | [] => []
 | p :: r => (p.1, .set p.2) :: aC7 r
def Q3 : c5 → List (Nm × HK)
 | [] => []
 | p :: r => (p.1, .set p.2) :: Q3 r
def aM3 : Nat → List V → List (Nat × V)
 | _, [] => []
 | n, v :: r => match v with
  | .any => aM3 (n + 1) r
  | v => (n, v) :: aM3 (n + 1) r
def wTo (st : St) : W := ⟨[], aC7 (aM3 0 st.tmps), Q3 st.heap, none, st.next⟩
def B6 (sw : List (Nm × Nm)) (st : St) : W := ⟨sw, aC7 (aM3 0 st.tmps), Q3 st.heap, none, st.next⟩
end Sy
