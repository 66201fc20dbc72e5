/-
  Contracts and laws that the claim's theorem leans on, joined out of the texts Sy17 Sy18 SyPlan SyOpen Rs0 SyData Ta1D Ta1 Ta2D Ta2 Ta3D (own work of this seat): A call's contract out of its body; A call's contract out of its body, weakened at its end; Hints for a body, found along a path of choices; nothing is proved of it; A call's arguments, as they are handed in, as abstract values; a law's contract as its row wants it; Small contracts; The values that the laws are told, as plain data, and their cells; Contracts: numbers as bytes; Contracts: numbers as bytes; Contracts: text, requests, batches as bytes; Contracts: text, requests, batches as bytes; Contracts: batches, the writer's methods.
-/
import Derived.OpenShut
import Derived.JoinedCond
import Derived.WalkKit
import Derived.ProofKit
import Derived.Test.YthifjamdfpjilaaProg
import Derived.Test.YthifjamdfpjilaaC02
namespace Sy
open Go

variable {P : Program}

theorem start {p : Nat} {U : Imm} {ρ : Env} {pre : Heap} {w : World} {args : List V} {xs : Array Value} {k : Nat} (H : HRel U ρ pre w) (ha : VsRel U ρ args xs.toList) (hpin : PinH p pre) (hargs : V.withins (Nm.pin p) args = true) :
  StRel U (restrict p ρ) ⟨args ++ List.replicate k (.tup []), pre, p, []⟩ { tmps := xs ++ Array.replicate k undef, defers := [] } w := by
 have hle : ∀ n l, n.pin p = true → ρ n = some l → restrict p ρ n = some l := fun n l hn e => by rw [restrict_pin hn]; exact e
 refine ⟨?_, rfl, ⟨fun n b hm => ?_, fun n b n' b' l l' m m' e1 e2 r1 r2 e3 => ?_, H.nd, H.imm⟩, fun j hj => ?_⟩
 ·simp only [Array.toList_append, Array.toList_replicate]
  refine VsRel_append.2 ⟨_, _, rfl, VsRel.within (Imm.le_refl _) hle hargs ha, ?_⟩
  clear ha
  induction k with
  | zero => simp [VsRel]
  | succ k ih => rw [List.replicate_succ, List.replicate_succ, VsRel]; exact ⟨_, _, rfl, by rw [VRel]; exact ⟨#[], rfl, by simp [VsRel]⟩, ih⟩
 ·obtain ⟨h1, h2⟩ := hpin _ hm
  obtain ⟨l, h3, h4⟩ := H.blk n b hm
  refine ⟨l, hle n l h1 h3, h4.imp ?_ id⟩
  rintro ⟨hr, o, h5, h6, h7⟩
  exact ⟨hr, o, h5, BRel.within (Imm.le_refl _) hle h2 h6, h7⟩
 ·rw [restrict_pin (hpin _ m).1] at e1
  rw [restrict_pin (hpin _ m').1] at e2
  exact H.inj n b n' b' l l' m m' e1 e2 r1 r2 e3
 ·have : (Nm.o j).pin p = false := by simp only [Nm.pin, decide_eq_false_iff_not]; exact Nat.not_lt.2 hj
  simp [restrict, this]

/-- What was left, as the caller sees it. -/
theorem finish {p : Nat} {U U' : Imm} {ρ ρ' : Env} {pre post heap' : Heap} {w w' : World} {val : V} {x : Value} (hpin : PinH p pre) (hfr : ∀ n, post.dom n → pre.dom n ∨ ρ n = none)
  (hv : VRel U' ρ' val x) (hh : HRel U' ρ' post w') (ht : Turn p U (restrict p ρ) pre w U' ρ' heap' w') (hsub : ∀ n, post.dom n → heap'.dom n)
  (hwv : ∃ S : Nm → Bool, val.within S = true ∧ ∀ m, S m = true → m.pin p = true ∨ post.dom m)
  (hwp : ∀ q ∈ post, ∃ S : Nm → Bool, q.2.within S = true ∧ ∀ m, S m = true → m.pin p = true ∨ post.dom m) :
  Leaves U ρ pre w val post x U' (Env.both post ρ' ρ) w' := by
 have hp : ∀ n, post.dom n → Env.both post ρ' ρ n = ρ' n := fun n h => by simp [Env.both, h]
 have hq : ∀ n, ¬ post.dom n → Env.both post ρ' ρ n = ρ n := fun n h => by simp [Env.both, h]
 have hle : ∀ (S : Nm → Bool), (∀ m, S m = true → m.pin p = true ∨ post.dom m) → ∀ n l, S n = true → ρ' n = some l → Env.both post ρ' ρ n = some l := by
  intro S hS n l hn e
  by_cases hd : post.dom n
  ·rw [hp n hd]; exact e
  ·rw [hq n hd]
   have hpn := (hS n hn).resolve_right hd
   rw [(ht.pins n hpn).1, restrict_pin hpn] at e; exact e
 obtain ⟨S, hs1, hs2⟩ := hwv
 refine ⟨VRel.within (Imm.le_refl _) (hle S hs2) hs1 hv, ⟨fun n b hm => ?_, fun n b n' b' l l' m m' e1 e2 r1 r2 e3 => ?_, hh.nd, hh.imm⟩, fun n l hd e => ?_, fun n l e => ?_, ⟨ht.ext.size, ht.ext.imm, fun b hb hn => ?_, fun n l hd e hr => ?_, fun b c e => ?_, ht.ext.out⟩⟩
 ·obtain ⟨S', hs3, hs4⟩ := hwp _ hm
  obtain ⟨l, h1, h2⟩ := hh.blk n b hm
  refine ⟨l, by rw [hp n ⟨b, hm⟩]; exact h1, h2.imp ?_ id⟩
  rintro ⟨hr, o, h5, h6, h7⟩
  exact ⟨hr, o, h5, BRel.within (Imm.le_refl _) (hle S' hs4) hs3 h6, h7⟩
 ·rw [hp n ⟨b, m⟩] at e1
  rw [hp n' ⟨b', m'⟩] at e2
  exact hh.inj n b n' b' l l' m m' e1 e2 r1 r2 e3
 ·rcases hfr n hd with ⟨b, hb⟩ | h
  ·have hpn := (hpin _ hb).1
   rw [hp n hd, (ht.pins n hpn).1, restrict_pin hpn]; exact e
  ·rw [h] at e; cases e
 ·by_cases hd : post.dom n
  ·exact .inl hd
  ·rw [hq n hd] at e; exact .inr e
 ·exact ht.ext.frame b hb fun n l ⟨b0, hb0⟩ e hr => hn n l ⟨b0, hb0⟩ (by rw [restrict_pin (hpin _ hb0).1] at e; exact e) hr
 ·rw [hp n hd] at e
  rcases ht.ext.new n l (hsub n hd) e hr with h | ⟨n0, l0, ⟨b0, hb0⟩, h2, h3⟩
  ·exact .inl h
  ·exact .inr ⟨n0, l0, ⟨b0, hb0⟩, by rw [restrict_pin (hpin _ hb0).1] at h2; exact h2, h3⟩
 ·rcases ht.ext.newImm b c e with h | h | ⟨n0, l0, ⟨b0, hb0⟩, h2, h3⟩
  ·exact .inl h
  ·exact .inr (.inl h)
  ·exact .inr (.inr ⟨n0, l0, ⟨b0, hb0⟩, by rw [restrict_pin (hpin _ hb0).1] at h2; exact h2, h3⟩)

/-! ### Marks -/
def unmarks : List Nm → Heap → Option Heap
 | [], h => some h
 | n :: ns, h => match pull n h with
  | some (b, r) => match b with
   | .dfr => unmarks ns r
   | _ => none
  | none => none

theorem unmark {p : Nat} {U : Imm} {ρ : Env} {st : St} {a : Act} {w : World} {n : Nm} {ns : List Nm} {r : Heap} (hs : StRel U ρ st a w) (hd : st.dfs = n :: ns) (hpl : pull n st.heap = some (.dfr, r)) :
  ∃ l ds w', a.defers = { target := .collected l, args := #[] } :: ds ∧ (Instr.takeDeferred l).run P w = .ok [] w' ∧ StRel U ρ { st with heap := r, dfs := ns } { a with defers := ds } w' ∧ Turn p U ρ st.heap w U ρ r w' := by
 have hdf := hs.dfs
 rw [hd] at hdf
 obtain ⟨lc, ds, e1, e2, e3⟩ := hdf
 have hperm := pull_perm hpl
 have H := hs.heap.perm hperm
 have hreal : lc.real = true := by
  obtain ⟨l, h1, h2⟩ := H.blk n .dfr (List.mem_cons_self ..)
  rw [e1] at h1; cases h1
  rcases h2 with ⟨h, _⟩ | ⟨_, es, f, h⟩
  ·exact h
  ·cases h
 obtain ⟨o, h1, h2, h3⟩ := H.real (List.mem_cons_self ..) e1 hreal
 have ho : o = .deferred (some []) := h2
 subst ho
 have hlt := lt_size h1
 have hold : ∀ k, k ≠ lc.blk → (w.heap.setIfInBounds lc.blk (.deferred none))[k]? = w.heap[k]? := fun k hk => by rw [Array.getElem?_setIfInBounds]; simp [Ne.symm hk]
 have hna : ∀ k b0, (k, b0) ∈ r → k ≠ n := fun k b0 h e => by
  have := H.nd
  rw [List.map_cons, List.nodup_cons] at this
  exact this.1 (List.mem_map.2 ⟨(k, b0), h, e⟩)
 refine ⟨lc.blk, ds, { w with heap := w.heap.setIfInBounds lc.blk (.deferred none) }, e2, ?_, ⟨hs.tmps, e3, ⟨fun k b0 h => ?_, fun k b1 k' b2 l1 l2 m1 m2 => H.inj k b1 k' b2 l1 l2 (List.mem_cons_of_mem _ m1) (List.mem_cons_of_mem _ m2), ?_, fun k c hk => ?_⟩, hs.fresh⟩, ⟨⟨by simp, Imm.le_refl _, fun k hk hn => ?_, fun k l ⟨b0, hb0⟩ e hr => ?_, fun _ _ h => .inl h, rfl, rfl⟩, fun k _ => ⟨rfl, fun ⟨b0, hb0⟩ => ⟨b0, hperm.mem_iff.2 (List.mem_cons_of_mem _ hb0)⟩⟩⟩⟩
 ·have e1 : (getObj lc.blk).run P w = .ok (.deferred (some [])) w := by simp [getObj, Sem.run, h1]
  have e2 : (setObj lc.blk (.deferred none)).run P w = .ok () { w with heap := w.heap.setIfInBounds lc.blk (.deferred none) } := by simp [setObj, Sem.run, h1]
  simp only [Instr.takeDeferred, Sem.run_bind, e1, e2, Result.andThen_ok, Sem.run_pure]
 ·obtain ⟨l0, g1, g2⟩ := H.blk k b0 (List.mem_cons_of_mem _ h)
  refine ⟨l0, g1, g2.imp ?_ id⟩
  rintro ⟨hr0, ob, g3, g4, g5⟩
  refine ⟨hr0, ob, ?_, g4, g5⟩
  rw [hold _ fun hk => hna k b0 h (H.inj k b0 n .dfr l0 lc (List.mem_cons_of_mem _ h) (List.mem_cons_self ..) g1 e1 hr0 hreal hk)]
  exact g3
 ·have := H.nd
  rw [List.map_cons, List.nodup_cons] at this
  exact this.2
 ·obtain ⟨el, fr, h⟩ := H.imm k c hk
  exact ⟨el, fr, by rw [hold k (fun hk' => by rw [hk', h3] at hk; cases hk)]; exact h⟩
 ·exact hold k fun hk' => hn n lc ⟨.dfr, hperm.mem_iff.2 (List.mem_cons_self ..)⟩ e1 hreal hk'.symm
 ·exact .inr ⟨k, l, ⟨b0, hperm.mem_iff.2 (List.mem_cons_of_mem _ hb0)⟩, e, hr, rfl⟩

theorem leaves_marks {F : Fence} {p n : Nat} {fn : Func} {R : Ending → World → Prop} {U : Imm} {ρ : Env} : ∀ (ns : List Nm) (st : St) (a : Act) (w : World) (h' : Heap), st.dfs = ns → unmarks ns st.heap = some h' → StRel U ρ st a w →
  (∀ w', StRel U ρ { st with heap := h', dfs := [] } { a with defers := [] } w' → Turn p U ρ st.heap w U ρ h' w' → ∃ v, (results fn a.tmps).run P w' = .ok v w' ∧ R (.returned v) w') → LeavesInM F n P fn a.tmps R a.defers .returning w
 | [], st, a, w, h', hd, hu, hs, hk => by
  simp only [unmarks, Option.some.injEq] at hu
  have e : a.defers = [] := by have := hs.dfs; rw [hd] at this; exact this
  rw [e]
  obtain ⟨t, d⟩ := a
  simp only at e; subst e
  refine hk w ?_ (by rw [← hu]; exact Turn.refl _ _ _ _ _)
  rw [← hu]
  exact ⟨hs.tmps, rfl, hs.heap, hs.fresh⟩
 | m :: ns, st, a, w, h', hd, hu, hs, hk => by
  unfold unmarks at hu
  cases hp : pull m st.heap with
  | none => simp [hp] at hu
  | some q =>
   obtain ⟨b, r⟩ := q
   simp only [hp] at hu
   cases b <;> simp only [reduceCtorEq] at hu
   obtain ⟨l, ds, w', e1, e2, e3, e4⟩ := unmark (P := P) (p := p) hs hd hp
   rw [e1]
   refine ⟨by simp, .inl ⟨l, w', rfl, e2, ?_⟩⟩
   exact leaves_marks ns { st with heap := r, dfs := ns } { a with defers := ds } w' h' rfl hu e3 fun w'' h1 t1 => hk w'' h1 (e4.trans t1)

/-! ### Results -/
def resOne (P : Program) (tmps : List V) (h : Heap) : ResultVar → Option (V × List Prop)
 | .tmp t => some (getV tmps t, [])
 | .cell a t => match getV tmps a with
  | .ptr n es i o j => match pull n h with
   | some (b, _) => match elemB b es i with
    | some (cs, c1) => match loadC P t cs o j with
     | some (v, c2) => some (v, c1 ++ c2)
     | none => none
    | none => none
   | none => none
  | _ => none
def resAll (P : Program) (tmps : List V) (h : Heap) : List ResultVar → Option (List V × List Prop)
 | [] => some ([], [])
 | r :: rs => match resOne P tmps h r with
  | some (v, c) => match resAll P tmps h rs with
   | some (vs, cs) => some (v :: vs, c ++ cs)
   | none => none
  | none => none
def resV : List V → V
 | [] => .tup []
 | v :: vs => match vs with
  | [] => v
  | _ => .tup (v :: vs)

theorem resAll_ok {U : Imm} {ρ : Env} {tmps : List V} {h : Heap} {a : Array Value} {w : World} (ht : VsRel U ρ tmps a.toList) (H : HRel U ρ h w) : ∀ {rs : List ResultVar} {vs : List V} {cs : List Prop}, resAll P tmps h rs = some (vs, cs) → All cs →
  ∃ l, (rs.mapM fun (x : ResultVar) => (match x with
   | .tmp t => pure (a.getD t undef)
   | .cell b t => do loadVar t (← asAddr (a.getD b undef)) : Sem Value)).run P w = .ok l w ∧ VsRel U ρ vs l
 | [], vs, cs, e, _ => by
  simp only [resAll, Option.some.injEq, Prod.mk.injEq] at e
  obtain ⟨rfl, rfl⟩ := e
  exact ⟨[], rfl, by rw [VsRel]⟩
 | r :: rs, vs, cs, e, hc => by
  unfold resAll at e
  cases ho : resOne P tmps h r with
  | none => simp [ho] at e
  | some q =>
   obtain ⟨v, c⟩ := q
   simp only [ho] at e
   cases ha : resAll P tmps h rs with
   | none => simp [ha] at e
   | some q2 =>
    obtain ⟨vs', cs'⟩ := q2
    simp only [ha, Option.some.injEq, Prod.mk.injEq] at e
    obtain ⟨rfl, rfl⟩ := e
    obtain ⟨k1, k2⟩ := All_append.1 hc
    obtain ⟨l, h1, h2⟩ := resAll_ok ht H ha k2
    have one : ∃ x, ((match r with
      | .tmp t => pure (a.getD t undef)
      | .cell b t => do loadVar t (← asAddr (a.getD b undef)) : Sem Value)).run P w = .ok x w ∧ VRel U ρ v x := by
     cases r with
     | tmp t =>
      simp only [resOne, Option.some.injEq, Prod.mk.injEq] at ho
      obtain ⟨rfl, rfl⟩ := ho
      refine ⟨_, rfl, ?_⟩
      have := getV_rel t ht
      simpa using this
     | cell b t =>
      have hb := getV_rel b ht
      simp only [resOne] at ho
      cases hg : getV tmps b <;> simp only [hg, reduceCtorEq] at ho
      rename_i n es i o j
      rw [hg, VRel] at hb
      obtain ⟨lc, e1, e2, e3⟩ := hb
      cases hp : pull n h with
      | none => simp [hp] at ho
      | some q =>
       obtain ⟨b', r'⟩ := q
       simp only [hp] at ho
       cases he : elemB b' es i with
       | none => simp [he] at ho
       | some q3 =>
        obtain ⟨cs3, c3⟩ := q3
        simp only [he] at ho
        cases hl : loadC P t cs3 o j with
        | none => simp [hl] at ho
        | some q4 =>
         obtain ⟨v4, c4⟩ := q4
         simp only [hl, Option.some.injEq, Prod.mk.injEq] at ho
         obtain ⟨rfl, rfl⟩ := ho
         obtain ⟨d1, d2⟩ := All_append.1 k1
         obtain ⟨ob, g1, g2, _⟩ := (H.perm (pull_perm hp)).real (List.mem_cons_self ..) e1 e2
         obtain ⟨y, g3, g4⟩ := loadB_ok g2 g1 he hl d1 d2
         refine ⟨y, ?_, g4⟩
         have e3' : a.getD b undef = .pointer (some ⟨lc.blk, i * es + o + j, none⟩) := by simpa using e3
         simp only [e3', asAddr, Sem.run_bind, Sem.run_pure, Result.andThen_ok]
         exact g3
    obtain ⟨x, g1, g2⟩ := one
    refine ⟨x :: l, ?_, by rw [VsRel]; exact ⟨x, l, rfl, g2, h2⟩⟩
    simp only [List.mapM_cons, Sem.run_bind, g1, h1, Result.andThen_ok, Sem.run_pure]

theorem results_ok {U : Imm} {ρ : Env} {tmps : List V} {h : Heap} {a : Array Value} {w : World} {fn : Func} {vs : List V} {cs : List Prop} (ht : VsRel U ρ tmps a.toList) (H : HRel U ρ h w) (hr : resAll P tmps h fn.results.toList = some (vs, cs)) (hc : All cs) :
  ∃ v, (results fn a).run P w = .ok v w ∧ VRel U ρ (resV vs) v := by
 obtain ⟨l, h1, h2⟩ := resAll_ok ht H hr hc
 have hrun : (results fn a).run P w = .ok (if h : l.toArray.size = 1 then l.toArray[0] else .tuple l.toArray) w := by
  unfold results
  rw [Array.mapM_eq_mapM_toList]
  simp only [Sem.run_bind, Sem.run_map]
  generalize hg : Sem.run P (List.mapM _ fn.results.toList) w = z
  have hz : z = .ok l w := hg.symm.trans h1
  rw [hz]; rfl
 refine ⟨_, hrun, ?_⟩
 cases vs with
 | nil => rw [VsRel] at h2; subst h2; simp only [resV]; rw [VRel]; exact ⟨#[], rfl, by rw [VsRel]⟩
 | cons v vs =>
  rw [VsRel] at h2
  obtain ⟨x, r, rfl, g1, g2⟩ := h2
  cases vs with
  | nil => rw [VsRel] at g2; subst g2; simpa [resV] using g1
  | cons u us =>
   have g2' := g2
   rw [VsRel] at g2
   obtain ⟨y, r', rfl, g3, g4⟩ := g2
   simp only [resV]
   rw [VRel]
   refine ⟨(x :: y :: r').toArray, by simp, ?_⟩
   rw [VsRel]; exact ⟨x, _, rfl, g1, g2'⟩

/-! ### Contracts -/
def isRet : Exit → Bool
 | .ret => true
 | .normal => true
 | _ => false
def withinH (S : Nm → Bool) : Heap → Bool
 | [] => true
 | q :: h => q.2.within S && withinH S h
theorem withinH_ok {S : Nm → Bool} : ∀ {h : Heap}, withinH S h = true → ∀ q ∈ h, q.2.within S = true
 | [], _, q, hq => by cases hq
 | x :: h, e, q, hq => by
  rw [withinH, Bool.and_eq_true] at e
  rcases List.mem_cons.1 hq with rfl | hq
  ·exact e.1
  ·exact withinH_ok e.2 q hq

/-- A function's body along hints: its value, the blocks that are named, what is asked. -/
def fnRun (P : Program) (fn : Func) (c : Code) (args : List V) (pre : Heap) (base : Nat) (hs : List Hint) (names : List Nm) (tl : Option Nat) : Option (V × Heap × List Prop) :=
 match run P none base c c ⟨args ++ List.replicate (fn.ntmps - args.length) (.tup []), pre, base, []⟩ hs with
 | none => none
 | some r => match isRet r.e with
  | false => none
  | true => match unmarks r.st.dfs r.st.heap with
   | none => none
   | some h => match resAll P r.st.tmps h fn.results.toList with
    | none => none
    | some (vs, c2) => match takeH names h with
     | none => none
     | some (bs, rest) => bif (resV vs).within (fun n => n.pin base || memNm n bs) && withinH (fun n => n.pin base || memNm n bs) bs then match tl with
       | none => some (resV vs, bs, r.cs ++ c2)
       | some k => some (resV vs, bs ++ rest.drop k, PinH base (rest.drop k) :: (r.cs ++ c2))
      else none

theorem T_of_fnRun (hng : NoNG P) (hm : P.follows .mixedOrders = true) {f : FuncId} {fn : Func} {c : Code} (hf : P.funcs[f]? = some fn) (hb : fn.body = some c) {args : List V} {pre post : Heap} {base : Nat} {hs : List Hint} {names : List Nm} {tl : Option Nat} {val : V} {cs : List Prop}
  (h : fnRun P fn c args pre base hs names tl = some (val, post, cs)) (hc : All cs) (hpin : PinH base pre) (hargs : V.withins (Nm.pin base) args = true) : T P f args pre val post := by
 unfold fnRun at h
 cases hr : run P none base c c ⟨args ++ List.replicate (fn.ntmps - args.length) (.tup []), pre, base, []⟩ hs with
 | none => simp [hr] at h
 | some r =>
  simp only [hr] at h
  cases hret : isRet r.e <;> simp only [hret, reduceCtorEq] at h
  cases hum : unmarks r.st.dfs r.st.heap with
  | none => simp [hum] at h
  | some h' =>
   simp only [hum] at h
   cases hres : resAll P r.st.tmps h' fn.results.toList with
   | none => simp [hres] at h
   | some q =>
    obtain ⟨vs, c2⟩ := q
    simp only [hres] at h
    cases htk : takeH names h' with
    | none => simp [htk] at h
    | some q =>
     obtain ⟨bs, rest⟩ := q
     simp only [htk] at h
     cases hw : ((resV vs).within (fun n => n.pin base || memNm n bs) && withinH (fun n => n.pin base || memNm n bs) bs) <;> simp only [hw, cond_true, cond_false, reduceCtorEq] at h
     rw [Bool.and_eq_true] at hw
     have key : All r.cs ∧ All c2 ∧ val = resV vs ∧ ∃ t, (∃ rest', (bs ++ rest).Perm (post ++ rest')) ∧ post = bs ++ t ∧ PinH base t := by
      cases tl with
      | none =>
       simp only [Option.some.injEq, Prod.mk.injEq] at h
       obtain ⟨rfl, rfl, rfl⟩ := h
       obtain ⟨k1, k2⟩ := All_append.1 hc
       exact ⟨k1, k2, rfl, [], ⟨rest, List.Perm.refl _⟩, by simp, fun q hq => by cases hq⟩
      | some k =>
       simp only [Option.some.injEq, Prod.mk.injEq] at h
       obtain ⟨rfl, rfl, rfl⟩ := h
       obtain ⟨k0, k12⟩ := hc
       obtain ⟨k1, k2⟩ := All_append.1 k12
       refine ⟨k1, k2, rfl, rest.drop k, ⟨rest.take k, ?_⟩, rfl, k0⟩
       rw [List.append_assoc]
       exact List.Perm.append_left bs ((List.Perm.of_eq (List.take_append_drop k rest).symm).trans List.perm_append_comm)
     obtain ⟨k1, k2, rfl, t, ⟨rest', hperm⟩, hpost, hpt⟩ := key
     have hdom : ∀ m, memNm m bs = true → Heap.dom post m := fun m hmm => by rw [hpost]; exact dom_append.2 (.inl (memNm_dom hmm))
     have hS : ∀ m, (m.pin base || memNm m bs) = true → m.pin base = true ∨ Heap.dom post m := fun m hmm => by
      rw [Bool.or_eq_true] at hmm; exact hmm.imp id (hdom m)
     obtain ⟨_, hR⟩ := run_ok hng hm c c rfl _ hs r hr k1 (Nat.le_refl _)
     intro U ρ w xs hh ha hfr
     refine (callsIn_wide (n := 0)).1 ?_
     have hlen : xs.size = args.length := by
      have : ∀ {vs : List V} {l : List Value}, VsRel U ρ vs l → l.length = vs.length := by
       intro vs
       induction vs with
       | nil => intro l h; rw [VsRel] at h; subst h; rfl
       | cons v vs ih => intro l h; rw [VsRel] at h; obtain ⟨x, r, rfl, _, h⟩ := h; simp [ih h]
      rw [← Array.length_toList]; exact this ha
     refine callsIn_of_wp_marks hf hb trivial ?_ rfl
     rw [hlen]
     have hQ : ∀ (e : Exit), isRet e = true → ∀ U' ρ' a' w', StRel U' ρ' r.st a' w' → Turn base U (restrict base ρ) pre w U' ρ' r.st.heap w' →
       LeavesInM Fence.wide 0 P fn a'.tmps (fun e w' => ∃ x U' ρ', e = .returned x ∧ Leaves U ρ pre w (resV vs) post x U' ρ' w') a'.defers .returning w' := by
      intro e _ U' ρ' a' w' hst ht
      refine leaves_marks (p := base) r.st.dfs r.st a' w' h' rfl hum hst fun w'' hs' ht' => ?_
      have hperm' : h'.Perm (post ++ rest') := (takeH_perm htk).trans hperm
      obtain ⟨v, g1, g2⟩ := results_ok (P := P) hs'.tmps hs'.heap hres k2
      refine ⟨v, g1, v, U', _, rfl, finish hpin hfr g2 (HRel.left (hs'.heap.perm hperm')) (ht.trans ht') (fun n hn => (perm_dom hperm' n).2 (dom_append.2 (.inl hn))) ⟨_, hw.1, hS⟩ fun q hq => ?_⟩
      rw [hpost] at hq
      rcases List.mem_append.1 hq with hq | hq
      ·exact ⟨_, withinH_ok hw.2 q hq, hS⟩
      ·exact ⟨_, (hpt q hq).2, fun m hm => .inl hm⟩
     refine hR U (restrict base ρ) _ w _ (start hh ha hpin hargs) fun U' ρ' a' w' hst ht => ?_
     cases he : r.e <;> rw [he] at hret <;> simp only [isRet, Bool.false_eq_true] at hret
     ·exact hQ .normal rfl U' ρ' a' w' hst ht
     ·exact hQ .ret rfl U' ρ' a' w' hst ht
end Sy
namespace Sy
open Go

variable {P : Program}

/-- A piece of code along hints, weakened at its end or not. -/
def bodyRunO (P : Program) (ro : Option Nat) (p : Nat) (c : Code) (st : St) (hs : List Hint) (k : Option W) : Option (Exit × St × List Prop) :=
 match k with
 | some k => bodyRun P ro p c st hs k
 | none => match prep p hs st with
  | none => none
  | some (st1, c1, hs1) => match run P ro p c c st1 hs1 with
   | none => none
   | some r => some (r.e, r.st, c1 ++ r.cs)
theorem R_of_bodyRunO (hng : NoNG P) (hm : P.follows .mixedOrders = true) {ro : Option Nat} {p : Nat} {c : Code} {st st' : St} {hs : List Hint} {k : Option W} {e : Exit} {cs : List Prop} (h : bodyRunO P ro p c st hs k = some (e, st', cs)) (hc : All cs) (hp : p ≤ st.next) :
  R P ro p c st e st' := by
 unfold bodyRunO at h
 cases k with
 | some k => exact R_of_bodyRun hng hm h hc hp
 | none =>
  simp only at h
  cases h1 : prep p hs st with
  | none => simp [h1] at h
  | some q =>
   obtain ⟨st1, c1, hs1⟩ := q
   simp only [h1] at h
   cases h2 : run P ro p c c st1 hs1 with
   | none => simp [h2] at h
   | some r =>
    simp only [h2, Option.some.injEq, Prod.mk.injEq] at h
    obtain ⟨rfl, rfl, rfl⟩ := h
    simp only [All_append] at hc
    obtain ⟨k1, k2⟩ := hc
    obtain ⟨g1, g2⟩ := prep_ok h1 k1 hp
    obtain ⟨g3, g4⟩ := run_ok hng hm c c rfl st1 hs1 r h2 k2 g2
    exact R.pre g1 g4

/-- What a body's end tells: its value, the blocks that are named, what is asked. -/
def fnEnd (P : Program) (fn : Func) (base : Nat) (names : List Nm) (tl : Option Nat) (e : Exit) (st : St) (cs : List Prop) : Option (V × Heap × List Prop) :=
 match isRet e with
 | false => none
 | true => match unmarks st.dfs st.heap with
  | none => none
  | some h => match resAll P st.tmps h fn.results.toList with
   | none => none
   | some (vs, c2) => match takeH names h with
    | none => none
    | some (bs, rest) => bif (resV vs).within (fun n => n.pin base || memNm n bs) && withinH (fun n => n.pin base || memNm n bs) bs then match tl with
      | none => some (resV vs, bs, cs ++ c2)
      | some k => some (resV vs, bs ++ rest.drop k, PinH base (rest.drop k) :: (cs ++ c2))
     else none

/-- A function's body along hints, weakened at its end. -/
def fnB (P : Program) (fn : Func) (c : Code) (args : List V) (pre : Heap) (base : Nat) (hs : List Hint) (k : Option W) (names : List Nm) (tl : Option Nat) : Option (V × Heap × List Prop) :=
 match bodyRunO P none base c ⟨args ++ List.replicate (fn.ntmps - args.length) (.tup []), pre, base, []⟩ hs k with
 | none => none
 | some (e, st, cs) => fnEnd P fn base names tl e st cs

theorem T_of_end {f : FuncId} {fn : Func} {c : Code} (hf : P.funcs[f]? = some fn) (hb : fn.body = some c) {args : List V} {pre post : Heap} {base : Nat} {names : List Nm} {tl : Option Nat} {e : Exit} {st : St} {c0 : List Prop} {val : V} {cs : List Prop}
  (hR : R P none base c ⟨args ++ List.replicate (fn.ntmps - args.length) (.tup []), pre, base, []⟩ e st)
  (h : fnEnd P fn base names tl e st c0 = some (val, post, cs)) (hc : All cs) (hpin : PinH base pre) (hargs : V.withins (Nm.pin base) args = true) : T P f args pre val post := by
 unfold fnEnd at h
 cases hret : isRet e <;> simp only [hret, reduceCtorEq] at h
 cases hum : unmarks st.dfs st.heap with
 | none => simp [hum] at h
 | some h' =>
  simp only [hum] at h
  cases hres : resAll P st.tmps h' fn.results.toList with
  | none => simp [hres] at h
  | some q =>
   obtain ⟨vs, c2⟩ := q
   simp only [hres] at h
   cases htk : takeH names h' with
   | none => simp [htk] at h
   | some q =>
    obtain ⟨bs, rest⟩ := q
    simp only [htk] at h
    cases hw : ((resV vs).within (fun n => n.pin base || memNm n bs) && withinH (fun n => n.pin base || memNm n bs) bs) <;> simp only [hw, cond_true, cond_false, reduceCtorEq] at h
    rw [Bool.and_eq_true] at hw
    have key : All c2 ∧ val = resV vs ∧ ∃ t, (∃ rest', (bs ++ rest).Perm (post ++ rest')) ∧ post = bs ++ t ∧ PinH base t := by
     cases tl with
     | none =>
      simp only [Option.some.injEq, Prod.mk.injEq] at h
      obtain ⟨rfl, rfl, rfl⟩ := h
      obtain ⟨k1, k2⟩ := All_append.1 hc
      exact ⟨k2, rfl, [], ⟨rest, List.Perm.refl _⟩, by simp, fun q hq => by cases hq⟩
     | some k =>
      simp only [Option.some.injEq, Prod.mk.injEq] at h
      obtain ⟨rfl, rfl, rfl⟩ := h
      obtain ⟨k0, k12⟩ := hc
      obtain ⟨k1, k2⟩ := All_append.1 k12
      refine ⟨k2, rfl, rest.drop k, ⟨rest.take k, ?_⟩, rfl, k0⟩
      rw [List.append_assoc]
      exact List.Perm.append_left bs ((List.Perm.of_eq (List.take_append_drop k rest).symm).trans List.perm_append_comm)
    obtain ⟨k2, rfl, t, ⟨rest', hperm⟩, hpost, hpt⟩ := key
    have hdom : ∀ m, memNm m bs = true → Heap.dom post m := fun m hmm => by rw [hpost]; exact dom_append.2 (.inl (memNm_dom hmm))
    have hS : ∀ m, (m.pin base || memNm m bs) = true → m.pin base = true ∨ Heap.dom post m := fun m hmm => by
     rw [Bool.or_eq_true] at hmm; exact hmm.imp id (hdom m)
    intro U ρ w xs hh ha hfr
    refine (callsIn_wide (n := 0)).1 ?_
    have hlen : xs.size = args.length := by
     have : ∀ {vs : List V} {l : List Value}, VsRel U ρ vs l → l.length = vs.length := by
      intro vs
      induction vs with
      | nil => intro l h; rw [VsRel] at h; subst h; rfl
      | cons v vs ih => intro l h; rw [VsRel] at h; obtain ⟨x, r, rfl, _, h⟩ := h; simp [ih h]
     rw [← Array.length_toList]; exact this ha
    refine callsIn_of_wp_marks hf hb trivial ?_ rfl
    rw [hlen]
    have hQ : ∀ (e : Exit), isRet e = true → ∀ U' ρ' a' w', StRel U' ρ' st a' w' → Turn base U (restrict base ρ) pre w U' ρ' st.heap w' →
      LeavesInM Fence.wide 0 P fn a'.tmps (fun e w' => ∃ x U' ρ', e = .returned x ∧ Leaves U ρ pre w (resV vs) post x U' ρ' w') a'.defers .returning w' := by
     intro e _ U' ρ' a' w' hst ht
     refine leaves_marks (p := base) st.dfs st a' w' h' rfl hum hst fun w'' hs' ht' => ?_
     have hperm' : h'.Perm (post ++ rest') := (takeH_perm htk).trans hperm
     obtain ⟨v, g1, g2⟩ := results_ok (P := P) hs'.tmps hs'.heap hres k2
     refine ⟨v, g1, v, U', _, rfl, finish hpin hfr g2 (HRel.left (hs'.heap.perm hperm')) (ht.trans ht') (fun n hn => (perm_dom hperm' n).2 (dom_append.2 (.inl hn))) ⟨_, hw.1, hS⟩ fun q hq => ?_⟩
     rw [hpost] at hq
     rcases List.mem_append.1 hq with hq | hq
     ·exact ⟨_, withinH_ok hw.2 q hq, hS⟩
     ·exact ⟨_, (hpt q hq).2, fun m hm => .inl hm⟩
    refine hR U (restrict base ρ) _ w _ (start hh ha hpin hargs) fun U' ρ' a' w' hst ht => ?_
    cases he : e <;> rw [he] at hret <;> simp only [isRet, Bool.false_eq_true] at hret
    ·exact hQ .normal rfl U' ρ' a' w' hst ht
    ·exact hQ .ret rfl U' ρ' a' w' hst ht

theorem fnEnd_conds {fn : Func} {base : Nat} {names : List Nm} {tl : Option Nat} {e : Exit} {st : St} {c0 : List Prop} {val : V} {post : Heap} {cs : List Prop} (h : fnEnd P fn base names tl e st c0 = some (val, post, cs)) (hc : All cs) : All c0 := by
 unfold fnEnd at h
 cases hret : isRet e <;> simp only [hret, reduceCtorEq] at h
 cases hum : unmarks st.dfs st.heap with
 | none => simp [hum] at h
 | some h' =>
  simp only [hum] at h
  cases hres : resAll P st.tmps h' fn.results.toList with
  | none => simp [hres] at h
  | some q =>
   obtain ⟨vs, c2⟩ := q
   simp only [hres] at h
   cases htk : takeH names h' with
   | none => simp [htk] at h
   | some q =>
    obtain ⟨bs, rest⟩ := q
    simp only [htk] at h
    cases hw : ((resV vs).within (fun n => n.pin base || memNm n bs) && withinH (fun n => n.pin base || memNm n bs) bs) <;> simp only [hw, cond_true, cond_false, reduceCtorEq] at h
    cases tl with
    | none =>
     simp only [Option.some.injEq, Prod.mk.injEq] at h
     obtain ⟨rfl, rfl, rfl⟩ := h
     exact (All_append.1 hc).1
    | some k =>
     simp only [Option.some.injEq, Prod.mk.injEq] at h
     obtain ⟨rfl, rfl, rfl⟩ := h
     exact (All_append.1 hc.2).1

theorem T_of_fnB (hng : NoNG P) (hm : P.follows .mixedOrders = true) {f : FuncId} {fn : Func} {c : Code} (hf : P.funcs[f]? = some fn) (hb : fn.body = some c) {args : List V} {pre post : Heap} {base : Nat} {hs : List Hint} {k : Option W} {names : List Nm} {tl : Option Nat} {val : V} {cs : List Prop}
  (h : fnB P fn c args pre base hs k names tl = some (val, post, cs)) (hc : All cs) (hpin : PinH base pre) (hargs : V.withins (Nm.pin base) args = true) : T P f args pre val post := by
 unfold fnB at h
 cases hr : bodyRunO P none base c ⟨args ++ List.replicate (fn.ntmps - args.length) (.tup []), pre, base, []⟩ hs k with
 | none => simp [hr] at h
 | some q =>
  obtain ⟨e, st, c0⟩ := q
  simp only [hr] at h
  exact T_of_end hf hb (R_of_bodyRunO hng hm hr (fnEnd_conds h hc) (Nat.le_refl _)) h hc hpin hargs

end Sy
namespace Sy
open Go


inductive PR.{u} (α : Type u) where
 | ok (a : α)
 | need (c : Option Bool)
 | call (k lo : Nat) (args : List V) (h : Heap)
 | bad (n : Nat) (st : List V) (h : Heap)

/-- What a call does, where it is made. -/
structure Cl where
 sym : Bool := false
 rd : List Nm := []
 pre : List Nm := []
 tl : Option (Nat × Heap) := none
 val : V
 post : Heap := []

/-- What is known of functions, loops, places. -/
structure Kb where
 db : Nat → List V → Heap → Nat → List Cl
 lp : Nat → St → List (Prop × Hint) := fun _ _ => []
 fx : Nat → St → List Hint := fun _ _ => []
 lit : Bool := false

/-- The next choice. -/
def nextB (kb : Kb) (c : Bool) (path : List Bool) : Option (Bool × List Bool) := match kb.lit with
 | true => match c with
  | true => some (true, path)
  | false => some (false, path)
 | false => match path with
  | [] => none
  | b :: path => some (b, path)

def guards (ops : Array Oper) (i : Nat) : Bool := ops.toList.any fun o => match o.guard with
 | some g => Nat.beq g.1 i
 | none => false

structure RegO where
 hs : List (Nat × OH)
 as : List Prop
 path : List Bool

def choose.{u} {α : Type u} : List α → List Bool → PR (α × List Bool)
 | [], _ => .bad 1 [] []
 | [a], p => .ok (a, p)
 | a :: l, p => match p with
  | [] => .need none
  | b :: p' => match b with
   | true => .ok (a, p')
   | false => choose l p'

def dirO (P : Program) (kb : Kb) (ops : Array Oper) (base i : Nat) (s : S) (path : List Bool) : PR (Option OH × List Prop × List Bool) :=
 match stepE P ops base [] i s with
 | none => .bad (60000 + i) s.tmps s.heap
 | some r => match r.ent.val with
  | .bool c => match nextB kb c path with
   | none => .need (some c)
   | some (x, path') => .ok (some (.dir x), [c = x], path')
  | _ => .bad (70000 + i) s.tmps s.heap

def autoOp (P : Program) (kb : Kb) (ops : Array Oper) (base i : Nat) (s : S) (path : List Bool) : PR (Option OH × List Prop × List Bool) :=
 match ops[i]? with
 | none => .bad 2 s.tmps s.heap
 | some o =>
  let ls := look s.tmps (gref ops o ++ tmpsOf o.op.operands.toList)
  match wantE ops ls o with
  | none => .bad (30000 + i) s.tmps s.heap
  | some w => match w with
   | false => .ok (none, [], path)
   | true => match o.op with
    | .call c => match c.callee with
     | .value f => match evL ls f with
      | .fn g a b => match g with
       | .func k => match choose (kb.db k (a ++ (mapEv (evL ls) c.args.toList ++ b)) s.heap (base + 64 * i)) path with
        | .need c => .need c
        | .call k lo as h => .call k lo as h
        | .bad _ _ _ => .call k (base + 64 * i) (a ++ (mapEv (evL ls) c.args.toList ++ b)) s.heap
        | .ok (cl, path) => match guards ops i with
         | false => .ok (some (.call cl.sym cl.rd cl.pre cl.tl cl.val cl.post), [], path)
         | true => match cl.val with
          | .bool c => match nextB kb c path with
           | none => .need (some c)
           | some (x, path') => .ok (some (.call cl.sym cl.rd cl.pre cl.tl (.bool x) cl.post), [c = x], path')
          | _ => .bad 3 s.tmps s.heap
       | _ => .bad 4 s.tmps s.heap
      | _ => .bad (50000 + i) s.tmps s.heap
     | _ => match guards ops i with
      | false => .ok (none, [], path)
      | true => dirO P kb ops base i s path
    | _ => match guards ops i with
     | false => .ok (none, [], path)
     | true => dirO P kb ops base i s path

def autoL (P : Program) (kb : Kb) (ops : Array Oper) (base : Nat) : List Nat → S → List Bool → PR (RegO × List V)
 | [], s, path => .ok (⟨[], [], path⟩, s.tmps)
 | i :: l, s, path => match autoOp P kb ops base i s path with
  | .need c => .need c
  | .call k lo as h => .call k lo as h
  | .bad n st h => .bad n st h
  | .ok (oh, as, path) =>
   let hs := match oh with
    | some h => [(i, h)]
    | none => []
   match stepE P ops base hs i s with
   | none => .bad (20000 + i) s.tmps s.heap
   | some r => match autoL P kb ops base l r.s path with
    | .need c => .need c
    | .call k lo as h => .call k lo as h
    | .bad n st h => .bad n st h
    | .ok (ro, ts) => .ok (⟨hs ++ ro.hs, as ++ ro.as, ro.path⟩, ts)

structure PO where
 e : Exit
 st : St
 hs : List Hint
 as : List Prop
 path : List Bool

def headId : Code → Nat
 | .region id _ _ => id
 | .seq x _ => headId x
 | .block _ c => headId c
 | .loop c => headId c
 | _ => 0

def prepPlan (p : Nat) (hs : List Hint) (st : St) : PR St := match prep p hs st with
 | none => .bad 5 st.tmps st.heap
 | some q => .ok q.1

def planIter (f : St → List Bool → PR PO) : Nat → St → List Bool → PR PO
 | 0, st, _ => .bad 6 st.tmps st.heap
 | n + 1, st, path => match f st path with
  | .need c => .need c
  | .call k lo as h => .call k lo as h
  | .bad n st h => .bad n st h
  | .ok r => match r.e with
   | .normal => match planIter f n r.st r.path with
    | .need c => .need c
    | .call k lo as h => .call k lo as h
    | .bad n st h => .bad n st h
    | .ok r2 => .ok { r2 with hs := r.hs ++ r2.hs, as := r.as ++ r2.as }
   | _ => .ok r

def plan (P : Program) (kb : Kb) (p : Nat) : Nat → Code → St → List Bool → PR PO
 | _, .skip, st, path => .ok ⟨.normal, st, [], [], path⟩
 | _, .ret, st, path => .ok ⟨.ret, st, [], [], path⟩
 | _, .exit id, st, path => .ok ⟨.exit id, st, [], [], path⟩
 | _, .region id ops draw, st, path => match autoL P kb ops st.next (List.range ops.size) ⟨st.tmps, st.heap⟩ path with
  | .need c => .need c
  | .call k lo as h => .call k lo as h
  | .bad n st h => .bad (100000 * id + n) st h
  | .ok (ro, _) => match regE P ops draw ro.hs st with
   | none => .bad (100000 * id + 7) st.tmps st.heap
   | some (st', _) => .ok ⟨.normal, st', (match hungry ops with
     | true => [.reg ro.hs]
     | false => []), ro.as, ro.path⟩
 | _, .seq x y, st, path => match plan P kb p 0 x st path with
  | .need c => .need c
  | .call k lo as h => .call k lo as h
  | .bad n st h => .bad n st h
  | .ok r => match r.e with
   | .normal =>
    let hs := kb.fx (headId y) r.st
    match prepPlan p hs r.st with
    | .need c => .need c
    | .call k lo as h => .call k lo as h
    | .bad n st h => .bad (100000 * headId y + n) st h
    | .ok st2 => match plan P kb p 0 y st2 r.path with
     | .need c => .need c
     | .call k lo as h => .call k lo as h
     | .bad n st h => .bad n st h
     | .ok r2 => .ok ⟨r2.e, r2.st, r.hs ++ (hs ++ r2.hs), r.as ++ r2.as, r2.path⟩
   | _ => .ok r
 | _, .cond o x y, st, path => match evV st.tmps o with
  | .bool c => match nextB kb c path with
   | none => .need (some c)
   | some (b, path) => match b with
    | true => match plan P kb p 0 x st path with
     | .need c => .need c
     | .call k lo as h => .call k lo as h
     | .bad n st h => .bad n st h
     | .ok r => .ok { r with hs := .br true :: r.hs, as := (c = true) :: r.as }
    | false => match plan P kb p 0 y st path with
     | .need c => .need c
     | .call k lo as h => .call k lo as h
     | .bad n st h => .bad n st h
     | .ok r => .ok { r with hs := .br false :: r.hs, as := (c = false) :: r.as }
  | _ => .bad 8 st.tmps st.heap
 | _, .block id c, st, path => match plan P kb p id c st path with
  | .need c => .need c
  | .call k lo as h => .call k lo as h
  | .bad n st h => .bad n st h
  | .ok r => match r.e with
   | .exit k => bif Nat.beq k id then .ok { r with e := .normal } else .ok r
   | _ => .ok r
 | id, .loop c, st, path => match choose (kb.lp id st) path with
  | .need c => .need c
  | .call k lo as h => .call k lo as h
  | .bad _ _ _ => .bad (40000 + id) st.tmps st.heap
  | .ok ((a, h), path) => match h with
   | .loop m k e st1 => .ok ⟨e, st1, [.loop m k e st1], [a], path⟩
   | .rounds n => match planIter (plan P kb p 0 c) n st path with
    | .need c => .need c
    | .call k lo as h => .call k lo as h
    | .bad n st h => .bad n st h
    | .ok r => .ok { r with hs := .rounds n :: r.hs }
   | _ => .bad 9 st.tmps st.heap
 | _, _, st, _ => .bad 10 st.tmps st.heap

/-- A function that is looked at. -/
structure Bd where
 f : Func
 args : List V
 pre : Heap := []
 base : Nat := 0
 kb : Kb
 k : Exit → St → Option W := fun _ _ => none
 names : St → List Nm := fun _ => []
 tl : Option Nat := none

def bodyOf (fn : Func) : Code := match fn.body with
 | some c => c
 | none => .skip

structure PW where
 po : PO
 hs : List Hint
 k : Option W
 names : List Nm

def planF (P : Program) (b : Bd) (path : List Bool) : PR PW :=
 let st0 : St := ⟨b.args ++ List.replicate (b.f.ntmps - b.args.length) (.tup []), b.pre, b.base, []⟩
 let hs0 := b.kb.fx (headId (bodyOf b.f)) st0
 match prepPlan b.base hs0 st0 with
 | .need c => .need c
 | .call k lo as h => .call k lo as h
 | .bad n st h => .bad n st h
 | .ok st1 => match plan P b.kb b.base 0 (bodyOf b.f) st1 path with
  | .need c => .need c
  | .call k lo as h => .call k lo as h
  | .bad n st h => .bad n st h
  | .ok r => .ok ⟨r, hs0 ++ r.hs, b.k r.e r.st, b.names r.st⟩

/-- The body along a path. -/
def along (P : Program) (b : Bd) (path : List Bool) : Option (V × Heap × List Prop) := match planF P b path with
 | .ok w => fnB P b.f (bodyOf b.f) b.args b.pre b.base w.hs w.k w.names b.tl
 | _ => none

theorem T_along {P : Program} (hng : NoNG P) (hm : P.follows .mixedOrders = true) {f : FuncId} {b : Bd} (path : List Bool) {val : V} {post : Heap} {cs : List Prop} (h : along P b path = some (val, post, cs)) (hf : P.funcs[f]? = some b.f) (hb : b.f.body = some (bodyOf b.f)) (hc : All cs) (hpin : PinH b.base b.pre) (hargs : V.withins (Nm.pin b.base) b.args = true) :
  T P f b.args b.pre val post := by
 unfold along at h
 cases hp : planF P b path <;> simp only [hp, reduceCtorEq] at h
 exact T_of_fnB hng hm hf hb h hc hpin hargs

/-- A piece of code that is looked at. -/
structure Pc where
 c : Code
 st : St
 p : Nat := 0
 kb : Kb
 k : Exit → St → Option W := fun _ _ => none

def planPc (P : Program) (b : Pc) (path : List Bool) : PR PW :=
 let hs0 := b.kb.fx (headId b.c) b.st
 match prepPlan b.p hs0 b.st with
 | .need c => .need c
 | .call k lo as h => .call k lo as h
 | .bad n st h => .bad n st h
 | .ok st1 => match plan P b.kb b.p 0 b.c st1 path with
  | .need c => .need c
  | .call k lo as h => .call k lo as h
  | .bad n st h => .bad n st h
  | .ok r => .ok ⟨r, hs0 ++ r.hs, b.k r.e r.st, []⟩

def alongPc (P : Program) (b : Pc) (path : List Bool) : Option (Exit × St × List Prop) := match planPc P b path with
 | .ok w => bodyRunO P none b.p b.c b.st w.hs w.k
 | _ => none

theorem R_alongPc {P : Program} (hng : NoNG P) (hm : P.follows .mixedOrders = true) {b : Pc} (path : List Bool) {e : Exit} {st' : St} {cs : List Prop} (h : alongPc P b path = some (e, st', cs)) (hc : All cs) (hp : b.p ≤ b.st.next) : R P none b.p b.c b.st e st' := by
 unfold alongPc at h
 cases hp' : planPc P b path <;> simp only [hp', reduceCtorEq] at h
 exact R_of_bodyRunO hng hm h hc hp

/-- Calls by their places. -/
def lookN : List (Nat × Cl) → Nat → List Cl
 | [], _ => []
 | p :: r, n => bif Nat.beq p.1 n then [p.2] else lookN r n
def dbT (l : List (Nat × Cl)) : Nat → List V → Heap → Nat → List Cl := fun _ _ _ lo => lookN l lo
/-- What was found at these calls, all loops by rounds. -/
def kbT (l : List (Nat × Cl)) : Kb := ⟨dbT l, fun _ _ => [(True, .rounds 1000)], fun _ _ => [], true⟩
/-- A list as a function. -/
def lst : List (List V) → Nat → List V
 | [], _ => []
 | v :: _, 0 => v
 | _ :: r, n + 1 => lst r n
def AllK : Nat → (Nat → Prop) → Prop
 | 0, _ => True
 | n + 1, p => AllK n p ∧ p n
theorem AllK.all : ∀ {n : Nat} {p : Nat → Prop}, AllK n p → ∀ k, k < n → p k
 | 0, _, _, k, h => absurd h (Nat.not_lt_zero k)
 | n + 1, p, h, k, hk => by
  by_cases e : k = n
  ·subst e; exact h.2
  ·exact AllK.all h.1 k (by omega)
/-! ### Notations -/
def nth : List V → Nat → V
 | [], _ => .any
 | v :: _, 0 => v
 | _ :: r, n + 1 => nth r n
/-- So many temporaries; those that are named have these values. -/
def mkT (n : Nat) (l : List (Nat × V)) : List V := (List.range n).map fun i => find l i
def setsOf : List (Nat × V) → List (Nat × K)
 | [] => []
 | p :: r => (p.1, .set p.2) :: setsOf r
def hsetsOf : Heap → List (Nm × HK)
 | [] => []
 | p :: r => (p.1, .set p.2) :: hsetsOf r
def enumT : Nat → List V → List (Nat × V)
 | _, [] => []
 | n, v :: r => match v with
  | .any => enumT (n + 1) r
  | v => (n, v) :: enumT (n + 1) r
/-- Weaken to just this state. -/
def wTo (st : St) : W := ⟨[], setsOf (enumT 0 st.tmps), hsetsOf st.heap, none, st.next⟩
def wToS (sw : List (Nm × Nm)) (st : St) : W := ⟨sw, setsOf (enumT 0 st.tmps), hsetsOf st.heap, none, st.next⟩

end Sy
namespace Sy
open Go

variable {P : Program}

/-- The cells that lie there. -/
def Uof (w : World) : Imm := fun b => match w.heap[b]? with
 | some (.cells c _ _) => some c
 | _ => none
theorem Uof_spec {w : World} {b : Nat} {c : Array Value} (h : Uof w b = some c) : ∃ el fr, w.heap[b]? = some (.cells c el fr) := by
 unfold Uof at h
 split at h
 ·rename_i c' el fr e; cases h; exact ⟨el, fr, e⟩
 ·cases h
theorem HRel_start (w : World) : HRel (Uof w) Env.none [] w :=
 ⟨fun n b h => absurd h List.not_mem_nil, fun n b n' b' l l' h => absurd h List.not_mem_nil, List.nodup_nil, fun b c h => Uof_spec h⟩

def opensFs (P : Program) (op : TypeId → Bool) (top : Nat) : Nat → List Field → Bool
 | pos, [] => Nat.beq pos top
 | pos, f :: fs => Nat.beq f.offset pos && (op f.type && opensFs P op top (pos + P.cellsOf f.type) fs)
/-- Types of values that can be opened. -/
def opens (P : Program) : Nat → TypeId → Bool
 | 0, _ => false
 | d + 1, t => match P.underlying t with
  | some .bool => true
  | some (.int _) => true
  | some .string => true
  | some (.slice e) => opens P d e && Nat.blt 0 (P.cellsOf e)
  | some (.struct fs) => opensFs P (opens P d) (P.cellsOf t) 0 fs.toList
  | some (.array n e) => (match P.underlying e with
   | some (.int _) => true
   | _ => false) && (Nat.beq (P.cellsOf e) 1 && Nat.beq (P.cellsOf t) n)
  | _ => false

def ShFs (sh : TypeId → List V → Prop) : List Field → List V → Prop
 | [], vs => vs = []
 | f :: fs, vs => ∃ a b, vs = a ++ b ∧ sh f.type a ∧ ShFs sh fs b
/-- The shape of a type's cells. -/
def ShC (P : Program) : Nat → TypeId → List V → Prop
 | 0, _, _ => False
 | d + 1, t, vs => match P.underlying t with
  | some .bool => ∃ b, vs = [.bool b]
  | some (.int k) => ∃ n, vs = [.int k n] ∧ InR k n
  | some .string => ∃ s : ByteArray, vs = [.str s] ∧ s.size ≤ maxLen
  | some (.slice e) => ∃ len f, vs = [.ros (P.cellsOf e) len f false] ∧ len ≤ maxLen ∧ ∀ i, i < len → ShC P d e (f i)
  | some (.struct fs) => ShFs (ShC P d) fs.toList vs
  | some (.array n e) => ∃ k xs, P.underlying e = some (.int k) ∧ vs = [.seg k n xs] ∧ xs.length = n ∧ ∀ x ∈ xs, InR k x
  | _ => False

theorem mapM_at {α β : Type} {f : α → Option β} : ∀ {l : List α} {r : List β}, l.mapM f = some r → r.length = l.length ∧ ∀ (i : Nat) (a : α), l[i]? = some a → ∃ y, r[i]? = some y ∧ f a = some y
 | [], r, h => by simp at h; subst h; simp
 | a :: l, r, h => by
  rw [List.mapM_cons] at h
  cases hf : f a with
  | none => simp [hf] at h
  | some y =>
   cases hr : l.mapM f with
   | none => simp [hf, hr] at h
   | some ys =>
    simp only [hf, hr, Option.bind_eq_bind, Option.bind_some, Option.pure_def, Option.some.injEq] at h
    subst h
    obtain ⟨h1, h2⟩ := mapM_at hr
    refine ⟨by simp [h1], fun i b hi => ?_⟩
    cases i with
    | zero => simp only [List.getElem?_cons_zero, Option.some.injEq] at hi; subst hi; exact ⟨y, by simp, hf⟩
    | succ i => simp only [List.getElem?_cons_succ] at hi ⊢; exact h2 i b hi

theorem wf_InR {k : IntKind} {n : Int} (h : (Lit.int k n).wf = true) : InR k n := by
 simp only [Lit.wf, Bool.and_eq_true, decide_eq_true_eq] at h; exact h

theorem cell_spot {w : World} {a : Addr} {v : Value} (h : w.cell? a = some v) : a.spot = none ∧ ∃ c el fr, w.heap[a.block]? = some (.cells c el fr) ∧ c[a.off]? = some v := by
 unfold World.cell? at h
 split at h
 ·rename_i c el fr e
  cases hs : a.spot with
  | none => simp only [hs, Option.isSome_none, Bool.false_eq_true, if_false] at h; exact ⟨rfl, c, el, fr, e, h⟩
  | some s => simp [hs] at h
 ·cases h

theorem parts_open {H : Type} {w : World} {tr : TypeId → List Value → Option (DataW H × List MemPlace)} {sh : TypeId → List V → Prop} {op : TypeId → Bool} {top : Nat}
  (hk : ∀ t cs x, tr t cs = some x → op t = true → ∃ vs, CsRel (Uof w) Env.none vs cs ∧ sh t vs) {cs : List Value} (hlen : cs.length = top) :
  ∀ (fs : List Field) (pos : Nat), opensFs P op top pos fs = true → (∀ f ∈ fs, ∃ y, tr f.type ((cs.drop f.offset).take (P.cellsOf f.type)) = some y) →
   ∃ vs, CsRel (Uof w) Env.none vs (cs.drop pos) ∧ ShFs sh fs vs
 | [], pos, ho, _ => by
  rw [opensFs] at ho
  have := Nat.eq_of_beq_eq_true ho
  refine ⟨[], ?_, rfl⟩
  rw [CsRel, List.drop_eq_nil_of_le (by omega)]
 | f :: fs, pos, ho, h => by
  rw [opensFs, Bool.and_eq_true, Bool.and_eq_true] at ho
  obtain ⟨h1, h2, h3⟩ := ho
  have e1 := Nat.eq_of_beq_eq_true h1
  obtain ⟨y, hf⟩ := h f (List.mem_cons_self ..)
  obtain ⟨a, ha, hsa⟩ := hk _ _ _ hf h2
  obtain ⟨b, hb, hsb⟩ := parts_open hk hlen fs _ h3 fun g hg => h g (List.mem_cons_of_mem _ hg)
  refine ⟨a ++ b, CsRel_append.2 ⟨_, _, ?_, ha, hb⟩, a, b, rfl, hsa, hsb⟩
  rw [e1, ← List.drop_drop, List.take_append_drop]

theorem cells_at {w : World} {base : Nat} {a : Addr} {n : Nat} {cs : List Value} (h : w.cells? base a n = some cs) : cs.length = n ∧ ∀ k, k < n → ∃ v, cs[k]? = some v ∧ w.cell? (a.add k) = some v := by
 unfold World.cells? at h
 split at h
 ·obtain ⟨h1, h2⟩ := mapM_at h
  refine ⟨by simpa using h1, fun k hk => ?_⟩
  exact h2 k k (by simp [hk])
 ·cases h

/-- The number that a cell holds. -/
def intAt : Option Value → Int
 | some (.int _ z) => z
 | _ => 0
theorem trod_open {H : Type} {enc : TypeId × Value → H} {w : World} {sp : Nat → Bool} : ∀ (fuel : Nat) (t : TypeId) (cs : List Value) (x : DataW H × List MemPlace), DataW.trod enc P w 0 sp true fuel t cs = some x → ∀ d, opens P d t = true →
  ∃ vs, CsRel (Uof w) Env.none vs cs ∧ ShC P fuel t vs
 | 0, t, cs, x, h, _, _ => by simp [DataW.trod] at h
 | fuel + 1, t, cs, x, h, 0, ho => by simp [opens] at ho
 | fuel + 1, t, cs, x, h, d + 1, ho => by
  unfold opens at ho
  have one : ∀ (v : V) (y : Value), v.cell = true → VRel (Uof w) Env.none v y → CsRel (Uof w) Env.none [v] [y] := fun v y hv hy => (CsRel_one hv).2 ⟨y, [], rfl, hy, by rw [CsRel]⟩
  split at ho
  ·rename_i hu
   obtain ⟨b, rfl, _⟩ := DataW.trod_bool hu h
   exact ⟨[.bool b], one _ _ rfl (by rw [VRel]), by rw [ShC, hu]; exact ⟨b, rfl⟩⟩
  ·rename_i k hu
   obtain ⟨n, rfl, _, hw⟩ := DataW.trod_int hu h
   exact ⟨[.int k n], one _ _ rfl (by rw [VRel]), by rw [ShC, hu]; exact ⟨n, rfl, wf_InR hw⟩⟩
  ·rename_i hu
   obtain ⟨s, rfl, _, hs⟩ := DataW.trod_string hu h
   exact ⟨[.str s], one _ _ rfl (by rw [VRel]), by rw [ShC, hu]; exact ⟨s, rfl, hs⟩⟩
  ·rename_i e hu
   rw [Bool.and_eq_true] at ho
   obtain ⟨ho1, ho2⟩ := ho
   have hes : 0 < P.cellsOf e := by rwa [Nat.blt_eq] at ho2
   rcases DataW.trod_slice hu h with ⟨rfl, _⟩ | ⟨a, len, cap, elems, rest, n, hn, rfl, _, _, hlc, hcm, hel, helem, _⟩
   ·refine ⟨[.ros (P.cellsOf e) 0 (fun _ => []) false], one _ _ rfl ?_, ?_⟩
    ·rw [VRel]; exact ⟨none, 0, rfl, Nat.le_refl _, fun _ => rfl, fun i hi => by omega⟩
    ·rw [ShC, hu]; exact ⟨0, _, rfl, Nat.zero_le _, fun i hi => by omega⟩
   ·cases hn
    have hat : ∀ i, i < len → ∃ vs l, CsRel (Uof w) Env.none vs l ∧ ShC P fuel e vs ∧ l.length = P.cellsOf e ∧ ∀ k, k < P.cellsOf e → ∃ v, l[k]? = some v ∧ w.cell? ((a.add (i * P.cellsOf e)).add k) = some v := by
     intro i hi
     have h1 := helem i hi
     rw [List.getElem?_eq_getElem (by omega)] at h1
     cases hc : w.cells? 0 (a.add (i * P.cellsOf e)) (P.cellsOf e) with
     | none => simp [hc] at h1
     | some l =>
      simp only [hc, Option.bind_some] at h1
      obtain ⟨vs, h2, h3⟩ := trod_open fuel e l _ h1 d ho1
      obtain ⟨h4, h5⟩ := cells_at hc
      exact ⟨vs, l, h2, h3, h4, h5⟩
    refine ⟨[.ros (P.cellsOf e) len (fun i => if hi : i < len then Classical.choose (hat i hi) else []) false], one _ _ rfl ?_, ?_⟩
    ·rw [VRel]
     refine ⟨some a, cap, rfl, hlc, fun hh => absurd hh (by simp), fun i hi => ?_⟩
     rw [dif_pos hi]
     obtain ⟨l, h1, h2, h3, h4⟩ := Classical.choose_spec (hat i hi)
     -- the address has no spot
     obtain ⟨_, l0, _, _, _, h04⟩ := hat 0 (by omega)
     obtain ⟨v0, _, h05⟩ := h04 0 hes
     have hsp : a.spot = none := by
      have : (a.add (0 * P.cellsOf e)).add 0 = a := by simp [Addr.add]
      rw [this] at h05
      exact (cell_spot h05).1
     obtain ⟨ab, ao, as⟩ := a
     simp only at hsp; subst hsp
     obtain ⟨v1, _, h15⟩ := h4 0 hes
     rw [Addr.add_lit, Addr.add_lit] at h15
     obtain ⟨_, c, el, fr, hc, _⟩ := cell_spot h15
     refine ⟨ab, ao, c, rfl, by unfold Uof; simp only at hc; rw [hc], l, h1, h3, fun k hk => ?_⟩
     obtain ⟨v, h6, h7⟩ := h4 k (by omega)
     rw [Addr.add_lit, Addr.add_lit] at h7
     obtain ⟨_, c', el', fr', hc', hv⟩ := cell_spot h7
     simp only at hc hc'
     rw [hc] at hc'; cases hc'
     rw [h6, ← hv]
    ·rw [ShC, hu]
     refine ⟨len, _, rfl, by omega, fun i hi => ?_⟩
     rw [dif_pos hi]
     obtain ⟨l, _, h2, _⟩ := Classical.choose_spec (hat i hi)
     exact h2
  ·rename_i fs hu
   obtain ⟨xs, n, hn, _, hlen, hxl, hf⟩ := DataW.trod_struct hu h
   cases hn
   obtain ⟨vs, h1, h2⟩ := parts_open (P := P) (tr := DataW.trod enc P w 0 sp true fuel) (sh := ShC P fuel) (op := opens P d) (fun t cs x hh ho => trod_open fuel t cs x hh d ho) hlen fs.toList 0 ho fun f hfm => by
    obtain ⟨i, hi, e⟩ := List.mem_iff_getElem.1 hfm
    have hi' : i < fs.size := by simpa using hi
    have := hf i f (by rw [← Array.getElem?_toList, List.getElem?_eq_getElem hi, e])
    exact ⟨xs[i], by rw [this, List.getElem?_eq_getElem (by omega)]⟩
   rw [List.drop_zero] at h1
   exact ⟨vs, h1, by rw [ShC, hu]; exact h2⟩
  ·rename_i n e hu
   rw [Bool.and_eq_true, Bool.and_eq_true] at ho
   obtain ⟨ho1, ho2, ho3⟩ := ho
   have e2 := Nat.eq_of_beq_eq_true ho2
   have e3 := Nat.eq_of_beq_eq_true ho3
   split at ho1
   ·rename_i k hk
    obtain ⟨xs, m, hm, _, hlen, hxl, hx⟩ := DataW.trod_array hu h
    cases hm
    have hget : ∀ i, i < n → ∃ z, cs[i]? = some (.int k z) ∧ InR k z := by
     intro i hi
     have h1 := hx i hi
     rw [e2, Nat.mul_one, List.getElem?_eq_getElem (by omega)] at h1
     obtain ⟨z, h2, _, h3⟩ := DataW.trod_int hk h1
     refine ⟨z, ?_, wf_InR h3⟩
     have := congrArg (fun l => l[0]?) h2
     simpa [List.getElem?_take, List.getElem?_drop] using this
    have hval : ∀ i, i < n → cs[i]? = some (.int k (intAt cs[i]?)) := by
     intro i hi
     obtain ⟨z, h1, _⟩ := hget i hi
     rw [h1]; rfl
    refine ⟨[.seg k n ((List.range n).map fun i => intAt cs[i]?)], ?_, ?_⟩
    ·rw [CsRel]
     refine ⟨cs, [], by simp, .inl ⟨k, n, _, rfl, by simp, ?_⟩, by rw [CsRel]⟩
     apply List.ext_getElem?
     intro i
     rcases Nat.lt_or_ge i n with hi | hi
     ·rw [hval i hi]; simp [hi]
     ·rw [List.getElem?_eq_none (by omega), List.getElem?_eq_none (by simpa using hi)]
    ·rw [ShC, hu]
     refine ⟨k, _, hk, rfl, by simp, fun z hz => ?_⟩
     obtain ⟨i, hi, rfl⟩ := List.mem_map.1 hz
     obtain ⟨z, h1, h2⟩ := hget i (List.mem_range.1 hi)
     rw [h1]; exact h2
   ·cases ho1
  ·cases ho

theorem mapM_build {α β : Type} {g : α → Option β} : ∀ {l : List α} {xs : List β}, xs.length = l.length → (∀ (i : Nat) (a : α), l[i]? = some a → g a = xs[i]?) → l.mapM g = some xs
 | [], xs, hl, _ => by
  cases xs with
  | nil => rfl
  | cons x xs => simp at hl
 | a :: l, xs, hl, h => by
  cases xs with
  | nil => simp at hl
  | cons x xs =>
   have h0 := h 0 a (by simp)
   simp only [List.getElem?_cons_zero] at h0
   have hr := mapM_build (g := g) (l := l) (xs := xs) (by simpa using hl) fun i b hb => by
    have := h (i + 1) b (by simpa using hb)
    simpa using this
   rw [List.mapM_cons, h0, hr]; rfl

open ChangeShapes in
theorem trod_spare {H : Type} {enc : TypeId × Value → H} {w : World} {sp : Nat → Bool} : ∀ (fuel : Nat) (t : TypeId) (cs : List Value) (x : DataW H × List MemPlace), DataW.trod enc P w 0 (fun _ => true) true fuel t cs = some x → ∀ d, opens P d t = true →
  (∀ p ∈ x.2, sp p.block = true) → DataW.trod enc P w 0 sp true fuel t cs = some x
 | 0, t, cs, x, h, _, _, _ => by simp [DataW.trod] at h
 | fuel + 1, t, cs, x, h, 0, ho, _ => by simp [opens] at ho
 | fuel + 1, t, cs, x, h, d + 1, ho, hs => by
  unfold opens at ho
  split at ho
  ·rename_i hu
   obtain ⟨b, rfl, rfl⟩ := DataW.trod_bool hu h
   unfold DataW.trod; rw [hu]
  ·rename_i k hu
   obtain ⟨n, rfl, rfl, hw⟩ := DataW.trod_int hu h
   unfold DataW.trod; rw [hu]; simp [hw]
  ·rename_i hu
   obtain ⟨s, rfl, rfl, hl⟩ := DataW.trod_string hu h
   unfold DataW.trod; rw [hu]; simp [hl]
  ·rename_i e hu
   rw [Bool.and_eq_true] at ho
   obtain ⟨ho1, ho2⟩ := ho
   have hes : 0 < P.cellsOf e := by rwa [Nat.blt_eq] at ho2
   have h0 := h
   rcases DataW.trod_slice hu h0 with ⟨rfl, rfl⟩ | ⟨a, len, cap, elems, rest, n, hn, rfl, hx, _⟩
   ·simp [DataW.trod, hu]
   ·unfold DataW.trod at h ⊢
    rw [hu] at h ⊢
    simp only [if_true] at h ⊢
    split at h
    ·rename_i hc
     rw [if_pos hc]
     obtain ⟨es, h1, h2⟩ := Option.bind_eq_some_iff.1 h
     obtain ⟨rs, h3, h4⟩ := Option.map_eq_some_iff.1 h2
     subst h4
     have hat : ∀ (i : Nat) (y : DataW H × List MemPlace), (∀ p ∈ y.2, sp p.block = true) → (w.cells? 0 (a.add (i * P.cellsOf e)) (P.cellsOf e)).bind (DataW.trod enc P w 0 (fun _ => true) true fuel e) = some y → (w.cells? 0 (a.add (i * P.cellsOf e)) (P.cellsOf e)).bind (DataW.trod enc P w 0 sp true fuel e) = some y := by
      intro i y hy hh
      obtain ⟨l, k1, k2⟩ := Option.bind_eq_some_iff.1 hh
      rw [k1, Option.bind_some]
      exact trod_spare fuel e l y k2 d ho1 hy
     have hmem : ∀ y ∈ es ++ rs, ∀ p ∈ y.2, sp p.block = true := fun y hy p hp => hs p (List.mem_append_right _ (List.mem_flatMap.2 ⟨y, hy, hp⟩))
     rw [mapM_carry h1 fun i y _ hy hh => hat i y (hmem y (List.mem_append_left _ hy)) hh, Option.bind_some]
     have hlr := (mapM_at h3).1
     have hle := (mapM_at h1).1
     simp only [List.length_range] at hlr hle
     have hrest : (if sp a.block = true then (List.range (cap - len)).mapM fun j => (w.cells? 0 (a.add ((len + j) * P.cellsOf e)) (P.cellsOf e)).bind (DataW.trod enc P w 0 sp true fuel e) else some []) = some rs := by
      split
      ·exact mapM_carry h3 fun i y _ hy hh => hat (len + i) y (hmem y (List.mem_append_right _ hy)) hh
      ·rename_i hsp
       have hz : (es.length + rs.length) * P.cellsOf e = 0 := by
        rcases Nat.eq_zero_or_pos ((es.length + rs.length) * P.cellsOf e) with hz | hz
        ·exact hz
        ·exact absurd (hs (.cell a.block (a.off + 0)) (List.mem_append_left _ (MemPlace.mem_row.2 ⟨0, hz, rfl⟩))) hsp
       have : es.length + rs.length = 0 := by
        rcases Nat.mul_eq_zero.1 hz with h | h
        ·exact h
        ·omega
       rw [List.eq_nil_of_length_eq_zero (show rs.length = 0 by omega)]
     rw [hrest, Option.map_some]
    ·simp at h
  ·rename_i fs hu
   obtain ⟨xs, n, hn, rfl, hlen, hxl, hx⟩ := DataW.trod_struct hu h
   cases hn
   have hop : ∀ f ∈ fs.toList, opens P d f.type = true := by
    have : ∀ (fs : List Field) (pos : Nat), opensFs P (opens P d) (P.cellsOf t) pos fs = true → ∀ f ∈ fs, opens P d f.type = true := by
     intro fs
     induction fs with
     | nil => intro _ _ f hf; cases hf
     | cons g fs ih =>
      intro pos hh f hf
      rw [opensFs, Bool.and_eq_true, Bool.and_eq_true] at hh
      rcases List.mem_cons.1 hf with rfl | hf
      ·exact hh.2.1
      ·exact ih _ hh.2.2 f hf
    exact this _ _ ho
   refine trod_struct_mk hu hlen (mapM_build (by simpa using hxl) fun i f hf => ?_)
   have hi : i < xs.length := by
    have := (List.getElem?_eq_some_iff.1 hf).1
    rw [hxl]; simpa using this
   have h1 := hx i f (by rw [← Array.getElem?_toList]; exact hf)
   rw [List.getElem?_eq_getElem hi] at h1 ⊢
   exact trod_spare fuel f.type _ _ h1 d (hop f (List.mem_of_getElem? hf)) fun p hp => hs p (List.mem_flatMap.2 ⟨xs[i], List.getElem_mem hi, hp⟩)
  ·rename_i n e hu
   rw [Bool.and_eq_true] at ho
   obtain ⟨ho1, _⟩ := ho
   obtain ⟨xs, m, hm, rfl, hlen, hxl, hx⟩ := DataW.trod_array hu h
   cases hm
   split at ho1
   ·rename_i k hk
    have hb : ((List.range n).mapM fun i => DataW.trod enc P w 0 sp true fuel e ((cs.drop (i * P.cellsOf e)).take (P.cellsOf e))) = some xs := by
     refine mapM_build (by simpa using hxl) fun i a ha => ?_
     have hi : i < n := by simpa using (List.getElem?_eq_some_iff.1 ha).1
     rw [List.getElem?_range hi] at ha
     cases ha
     have h1 := hx i hi
     rw [List.getElem?_eq_getElem (by omega)] at h1 ⊢
     obtain ⟨z, h2, h3, h4⟩ := DataW.trod_int hk h1
     rw [h2, h3]
     cases fuel with
     | zero => rw [h2] at h1; simp [DataW.trod] at h1
     | succ q => exact trod_int_mk q hk h4
    unfold DataW.trod
    rw [hu]
    split <;> simp_all
   ·cases ho1
  ·cases ho

/-- What was is as it was. -/
structure KeptW (W W' : World) : Prop where
 size : W.heap.size ≤ W'.heap.size
 block : ∀ k, k < W.heap.size → W'.heap[k]? = W.heap[k]?
 out : W'.os = W.os ∧ W'.output = W.output

theorem KeptW.frame {W W' : World} (h : KeptW W W') (may : MemPlace → Prop) : W.keptBut W' may := by
 refine ⟨h.out.1, h.out.2, fun i hi => ?_⟩
 rw [h.block i hi]
 cases W.heap[i]? with
 | none => trivial
 | some o => cases o <;> simp
theorem KeptW.same {W W' : World} (h : KeptW W W') {p : MemPlace} (hp : p.block < W.heap.size) : W.sameAt W' p := by
 cases p with
 | cell b off => exact World.cell?_of_block (w := W) (h.block b hp)
 | map b => 
  show W'.heap[b]? = W.heap[b]?
  exact h.block b hp

theorem law_calls {f : FuncId} {vs : List V} {args : Array Value} {W : World} (hT : T P f vs [] (.bool true) []) (hv : VsRel (Uof W) Env.none vs args.toList) :
  Calls P f args W fun e W' => e = .returned (.bool true) ∧ KeptW W W' := by
 refine Calls.mono (hT (Uof W) Env.none W args (HRel_start W) hv fun n ⟨b, hb⟩ => absurd hb List.not_mem_nil) ?_
 rintro e W' ⟨x, U', ρ', rfl, L⟩
 have := L.val
 rw [VRel] at this
 subst this
 exact ⟨rfl, L.ext.size, fun k hk => L.ext.frame k hk fun n l ⟨b, hb⟩ => absurd hb List.not_mem_nil, L.ext.out⟩

section
open ChangeShapes WideShapes ChangeAt RowKit
variable {H : Type} {enc : TypeId × Value → H}

/-- So many arguments, each of a type that can be opened. -/
def opensAll (P : Program) : List TypeId → Bool
 | [] => true
 | t :: ts => opens P 12 t && opensAll P ts
/-- A value of a type, as a value: one cell, or a struct's or an array's. -/
def ShV (P : Program) (t : TypeId) (v : V) : Prop := ∃ d vs, ShC P d t vs ∧ (match vs with
 | [u] => (u.cell = true ∧ v = u) ∨ v = .agg vs
 | vs => v = .agg vs)

theorem trodAll_keep {W W' : World} (hK : KeptW W W') {sp : Nat → Bool} : ∀ {ts : List TypeId} {vs : List Value} {ds : List (DataW H)} {ps : List MemPlace}, opensAll P ts = true → DataW.TrodAll enc P W 0 (fun _ => true) true ts vs ds ps → (∀ p ∈ ps, sp p.block = true) →
  DataW.TrodAll enc P W' 0 sp true ts vs ds ps
 | [], [], [], _, _, h, _ => h
 | t :: ts, v :: vs, d :: ds, ps, ho, h, hs => by
  obtain ⟨p, q, ⟨fuel, h1⟩, h2, rfl⟩ := h
  rw [opensAll, Bool.and_eq_true] at ho
  refine ⟨p, q, ⟨fuel, ?_⟩, trodAll_keep hK ho.2 h2 fun x hx => hs x (List.mem_append_right _ hx), rfl⟩
  have h3 := trod_spare fuel t _ _ h1 12 ho.1 (sp := sp) fun x hx => hs x (List.mem_append_left _ hx)
  exact DataW.trod_carry fuel t _ _ h3 fun x hx => hK.same (DataW.trod_lt fuel t _ _ h1 x hx)

theorem law_post {f : Func} {s : ChangeSpec} {apart fresh handsOn again : Bool} {W W' : World} {args : Array Value} {ds gs : List (DataW H)} {before : List MemPlace} {tb : TypeId}
  (hW : DataW.Whole enc P f.params.toList s.vars apart W args.toList ds gs before) (hvars : s.vars = []) (hfn : s.fn H (ds ++ gs) = { results := [.lit (.bool true)], args := ds }) (hres : f.resultTypes = #[tb]) (hb : P.underlying tb = some .bool)
  (ho : opensAll P f.params.toList = true) (hK : KeptW W W') : s.post enc P f apart fresh handsOn again W args (.bool true) W' := by
 have hW0 := hW
 obtain ⟨pa, pv, hA, hV, rfl, hz, hn⟩ := hW
 rw [hvars] at hV
 obtain ⟨rfl, rfl⟩ := trodVars_none hV
 have hlt : ∀ p ∈ pa ++ [], p.block < W.heap.size := fun p hp => hW0.lt p hp
 have hold : ∀ p ∈ pa, (fun b => decide (b < W.heap.size)) p.block = true := fun p hp => by simpa using hlt p (by simpa using hp)
 have hR : ∀ (b : Nat) (sp : Nat → Bool) (hd : Bool), DataW.TrodAll enc P W' b sp hd f.resultTypes.toList ((Value.bool true).resultList f.resultTypes.size) [DataW.lit (.bool true)] [] := by
  intro b sp hd
  rw [hres]
  exact trodAll_cons_mk (shut_bool hb true) trodAll_mk0
 refine ⟨ds, [], pa ++ [], [], pa, [], hW0, by rw [hfn]; exact hR _ _ _, by rw [hfn]; exact trodAll_keep hK ho hA hold, by rw [hfn, hvars]; exact rfl, World.keptBut_mono (fun p hp => hp.elim) (hK.frame (fun _ => False)), fun _ => ?_⟩
 refine ⟨ok_one hres rfl (okWide_bool_mk hb true), _, _, ([] ++ pa) ++ [], ⟨[] ++ pa, [], by simpa using trodAll_append (trodAll_keep hK ho hA fun _ _ => rfl) (hR _ _ _), (show DataW.TrodVars enc P W' (fun _ => true) s.vars [] [] by rw [hvars]; exact rfl), rfl, ?_, ?_⟩, ?_⟩
 ·intro b off hp
  have hp' : MemPlace.cell b off ∈ pa ++ [] := by simpa using hp
  have := hz b off hp'
  rw [← this]
  exact World.frozen?_of_block (w := W) (hK.block b (hlt _ hp'))
 ·intro ha
  have := hn ha
  simpa using this
 ·intro p hp _
  simpa using hp
end
theorem law_walk {P : Program} {f : FuncId} {vs : List V} {args : Array Value} {W : World} {Q : Ending → World → Prop} (hT : T P f vs [] (.bool true) []) (hv : VsRel (Uof W) Env.none vs args.toList) (hQ : ∀ W', KeptW W W' → Q (.returned (.bool true)) W') : Calls P f args W Q :=
 Calls.mono (law_calls hT hv) fun e W' h => by obtain ⟨rfl, hK⟩ := h; exact hQ W' hK
end Sy
namespace Go.Proofs.Ythifjamdfpjilaa
open Go Sy Go.Proofs
theorem MO : Try.prog.follows .mixedOrders = true := by kernel_rfl
def ngB (P : Program) : Bool := P.funcs.toList.all fun fn => !fn.body.isSome || !(fn.name == "runtime.NumGoroutine")
theorem NG_of {P : Program} (h : ngB P = true) : NoNG P := by
 intro f fn hf hb
 have := List.all_eq_true.1 h fn (by
  rw [← Array.getElem?_toList] at hf
  exact List.mem_of_getElem? hf)
 rw [hb] at this; simpa using this
theorem NG : NoNG Try.prog := NG_of (by kernel_rfl)

def kb0 : Kb := ⟨fun _ _ _ _ => [], fun _ _ => [], fun _ _ => [], false⟩
/-- Just the results' temporaries, with these values; no block. -/
def kRes (l : List (Nat × V)) : Exit → St → Option W := fun _ st => some ⟨[], setsOf l, [], none, st.next⟩

noncomputable def bdAdd (n more most : Int) : Bd := { f := Try.f48, args := [.int .i64 n, .int .i64 more, .int .i64 most], kb := kb0 }
end Go.Proofs.Ythifjamdfpjilaa
namespace Sy
open Go

structure SReq where
 client : Int := 0
 num : Int := 0
 data : ByteArray := .empty
 tag : List Int := []
structure SSign where
 node : Int := 0
 tag : List Int := []
structure SVote where
 kind : Int := 0
 epoch : Int := 0
 view : Int := 0
 slot : Int := 0
 digest : List Int := []
structure SBatch where
 noop : Bool := false
 n : Nat := 0
 req : Nat → SReq := fun _ => {}
structure SCert where
 vote : SVote := {}
 n : Nat := 0
 sig : Nat → SSign := fun _ => {}
structure SRec where
 kind : Int := 0
 leader : Int := 0
 view : Int := 0
 slot : Int := 0
 batch : SBatch := {}
 cert : SCert := {}
 state : ByteArray := .empty
 n : Nat := 0
 sig : Nat → SSign := fun _ => {}
structure SHeld where
 batch : SBatch := {}
 cert : SCert := {}
structure SEnv where
 src : Int := 0
 body : ByteArray := .empty
 tag : List Int := []
structure SMsg where
 kind : Int := 0
 epoch : Int := 0
 leader : Int := 0
 view : Int := 0
 slot : Int := 0
 batch : SBatch := {}
 vote : SVote := {}
 cepoch : Int := 0
 cleader : Int := 0
 cview : Int := 0
 nheld : Nat := 0
 held : Nat → SHeld := fun _ => {}
 nnews : Nat := 0
 news : Nat → SEnv := fun _ => {}
 digest : List Int := []
 cert : SCert := {}
 state : ByteArray := .empty
 n : Nat := 0
 sig : Nat → SSign := fun _ => {}

def SReq.c (r : SReq) : List V := [.int .i64 r.client, .int .i64 r.num, .str r.data, .seg .u8 16 r.tag]
def SSign.c (s : SSign) : List V := [.int .i64 s.node, .seg .u8 16 s.tag]
def SVote.c (v : SVote) : List V := [.int .i64 v.kind, .int .i64 v.epoch, .int .i64 v.view, .int .i64 v.slot, .seg .u8 32 v.digest]
def rq (n : Nat) (r : Nat → SReq) : V := .ros 19 n (fun i => (r i).c) false
def sg (n : Nat) (s : Nat → SSign) : V := .ros 17 n (fun i => (s i).c) false
def SBatch.c (b : SBatch) : List V := [.bool b.noop, rq b.n b.req]
def SCert.c (c : SCert) : List V := c.vote.c ++ [sg c.n c.sig]
def SRec.c (r : SRec) : List V := [.int .i64 r.kind, .int .i64 r.leader, .int .i64 r.view, .int .i64 r.slot] ++ (r.batch.c ++ (r.cert.c ++ [.str r.state, sg r.n r.sig]))
def SHeld.c (h : SHeld) : List V := h.batch.c ++ h.cert.c
def SEnv.c (e : SEnv) : List V := [.int .i64 e.src, .str e.body, .seg .u8 16 e.tag]
def hl (n : Nat) (h : Nat → SHeld) : V := .ros 39 n (fun i => (h i).c) false
def nw (n : Nat) (e : Nat → SEnv) : V := .ros 18 n (fun i => (e i).c) false
def SMsg.c (m : SMsg) : List V := [.int .i64 m.kind, .int .i64 m.epoch, .int .i64 m.leader, .int .i64 m.view, .int .i64 m.slot] ++ (m.batch.c ++ (m.vote.c ++ ([.int .i64 m.cepoch, .int .i64 m.cleader, .int .i64 m.cview, hl m.nheld m.held, nw m.nnews m.news, .seg .u8 32 m.digest] ++ (m.cert.c ++ [.str m.state, sg m.n m.sig]))))
def rc (n : Nat) (r : Nat → SRec) : V := .ros 45 n (fun i => (r i).c) false

theorem InR64 {n : Int} : InR .i64 n ↔ -9223372036854775808 ≤ n ∧ n ≤ 9223372036854775807 := by
 simp [InR, IntKind.min, IntKind.max, IntKind.signed, IntKind.bits]
theorem InR8 {n : Int} : InR .u8 n ↔ 0 ≤ n ∧ n ≤ 255 := by
 simp [InR, IntKind.min, IntKind.max, IntKind.signed, IntKind.bits]

theorem T.conv {P : Program} {f : FuncId} {args args' : List V} {pre pre' : Heap} {val val' : V} {post post' : Heap} (h : T P f args pre val post) (ea : args = args') (ep : pre = pre') (ev : val = val') (eq : post = post') : T P f args' pre' val' post' := by
 subst ea; subst ep; subst ev; subst eq; exact h
theorem T.val {P : Program} {f : FuncId} {args : List V} {pre : Heap} {val val' : V} {post : Heap} (h : T P f args pre val post) (ev : val = val') : T P f args pre val' post := by
 subst ev; exact h
theorem T.le {P : Program} {f : FuncId} {args : List V} {pre : Heap} {val val' : V} {post : Heap} {cs : List Prop} (h : T P f args pre val post) (hl : leV [] val val' = some cs) (hc : All cs) : T P f args pre val' post := by
 intro U ρ w xs hh ha hf
 refine Calls.mono (h U ρ w xs hh ha hf) ?_
 rintro e w' ⟨x, U', ρ', he, L⟩
 exact ⟨x, U', ρ', he, leV_ok (Imm.le_refl U') (fun n b hb => absurd hb List.not_mem_nil) _ _ _ _ hl hc L.val, L.heap, L.keep, L.only, L.ext⟩
theorem T.bool {P : Program} {f : FuncId} {args : List V} {pre : Heap} {b b' : Bool} {post : Heap} (h : T P f args pre (.bool b) post) (ev : b = b') : T P f args pre (.bool b') post := by
 subst ev; exact h
def z32 : List Int := [0, 0, 0, 0, 0, 0, 0, 0, 0, 0, 0, 0, 0, 0, 0, 0, 0, 0, 0, 0, 0, 0, 0, 0, 0, 0, 0, 0, 0, 0, 0, 0]
def z16 : List Int := [0, 0, 0, 0, 0, 0, 0, 0, 0, 0, 0, 0, 0, 0, 0, 0]
/-- What is so by itself. -/
abbrev q {α : Type} (a : α) : Prop := a = a
abbrev q0 : Prop := (0 : Nat) = 0
abbrev q1 : Prop := (0 : Int) = 0
abbrev q2 : Prop := true = true
end Sy
namespace Go.Proofs.Ythifjamdfpjilaa
open Go Sy Go.Proofs
/-- Bytes, as a slice's elements. -/
def bl (l : List UInt8) : Nat → List V := fun i => [.int .u8 ((l.getD i 0).toNat : Int)]
def bs (l : List UInt8) : B := .rows 1 l.length (bl l) true
def sb (m : Nm) (l : List UInt8) : V := .sl m 1 0 0 0 l.length none
def digs : Nat → Nat → List UInt8
 | 0, _ => []
 | f + 1, n => if n = 0 then [] else digs f (n / 256) ++ [UInt8.ofNat (n % 256)]
/-- A number's bytes: how many digits, the digits. -/
def putN (n : Nat) : List UInt8 := UInt8.ofNat (digs 8 n).length :: digs 8 n
def sizeI (n : Nat) (k : Nat) : St := ⟨mkT 13 [(0, .int .i64 (n / 256 ^ k : Nat)), (3, .int .i64 (k + 1 : Nat))], [], 0, []⟩
noncomputable def bdSize (n m : Nat) : Bd := { f := Try.f122, args := [.int .i64 n], kb := { db := fun _ _ _ _ => [], lp := fun _ _ => [(True, .loop (m + 1) (wTo (sizeI n 0)) (.exit 0) (sizeI n m))] } }
noncomputable def pcSize (n m k : Nat) : Pc := { c := cB (cB (cL (cR (cR (cR (bodyOf Try.f122)))))), st := sizeI n k, kb := kb0, k := fun e _ => match e with
 | .normal => some (wTo (sizeI n (k + 1)))
 | _ => some (wTo (sizeI n m)) }
def dbSize (m : Nat) : Nat → List V → Heap → Nat → List Cl
 | 122, _, _, _ => [{ val := .int .i64 (m + 1 : Nat) }]
 | _, _, _, _ => []
/-- Behind so many digits. -/
def putJ (n : Nat) (l : List UInt8) (k : Nat) : St := ⟨mkT 41 [(0, sb (.o 1) (l ++ (putN n).take (k + 1))), (1, .int .i64 n), (5, .int .i64 (digs 8 n).length), (24, .int .i64 (digs 8 n).length), (25, .int .i64 k)], [(.o 1, bs (l ++ (putN n).take (k + 1)))], 2, []⟩
def lpPutJ (n : Nat) (l : List UInt8) : Nat → St → List (Prop × Hint) := fun _ st => match getV st.tmps 0 with
 | .sl a _ _ _ _ _ _ => [(True, .loop ((digs 8 n).length + 1) (wToS [(.o 1, a)] (putJ n l 0)) (.exit 0) (putJ n l (digs 8 n).length))]
 | _ => []
def kPutJ (n : Nat) (l : List UInt8) : Exit → St → Option W := fun _ st => some ⟨[], [(4, .set (sb (.o 1) (l ++ putN n)))], [(.o 1, .set (bs (l ++ putN n)))], none, st.next⟩
noncomputable def bdPut (n : Nat) (l : List UInt8) : Bd := { f := Try.f83, args := [sb (.o 0) l, .int .i64 n], pre := [(.o 0, bs l)], base := 1, kb := { db := dbSize (digs 8 n).length, lp := lpPutJ n l }, k := kPutJ n l, names := fun _ => [.o 1] }
noncomputable def bdPut0 (n : Nat) : Bd := { f := Try.f83, args := [.snil, .int .i64 n], base := 1, kb := { db := dbSize (digs 8 n).length, lp := lpPutJ n [] }, k := kPutJ n [], names := fun _ => [.o 1] }
noncomputable def pcPutJ (n : Nat) (l : List UInt8) (k : Nat) : Pc := { c := cB (cB (cR (cL (cR (cR (cR (cR (cR (bodyOf Try.f83))))))))), st := putJ n l k, p := 1, kb := kb0, k := fun e st => match e with
 | .normal => match getV st.tmps 0 with
  | .sl a _ _ _ _ _ _ => some (wToS [(.o 1, a)] (putJ n l (k + 1)))
  | _ => none
 | _ => some (wTo (putJ n l (digs 8 n).length)) }
end Go.Proofs.Ythifjamdfpjilaa
namespace Go.Proofs.Ythifjamdfpjilaa
open Go Sy Go.Proofs
theorem bdSize_p0 (n : Nat) (m : Nat) :
  along Try.prog (bdSize n m) [false] = (some (.int .i64 (↑(m + 1) : Int), [], [q false, RLoop Try.prog none 0 (cB (cB (cL (cR (cR (cR (bodyOf (Bd.f (bdSize n m))))))))) (m + 1) (St.mk [.int .i64 (↑(n / nat_lit 1) : Int), .any, .any, .int .i64 1, .any, .any, .any, .any, .any, .any, .any, .any, .any] [] 0 []) (.exit 0) (St.mk [.int .i64 (↑(n / 256 ^ m) : Int), .any, .any, .int .i64 (↑(m + 1) : Int), .any, .any, .any, .any, .any, .any, .any, .any, .any] [] 0 []), (↑n : Int) = (↑(n / nat_lit 1) : Int), q (1 : Int)]) : Option (V × Heap × List Prop)) := by kernel_rfl

theorem pcSize_p1 (n : Nat) (m : Nat) (k : Nat) :
  alongPc Try.prog (pcSize n m k) [true] = (some (.normal, St.mk [.int .i64 (↑(n / 256 ^ (k + 1)) : Int), .any, .any, .int .i64 (↑(k + 1 + 1) : Int), .any, .any, .any, .any, .any, .any, .any, .any, .any] [] 0 [], [decide ((0 : Int) < (↑(n / (256 : Nat) ^ k) : Int)) = true, InR IntKind.i64 ((↑(k + (1 : Nat)) : Int) + (1 : Int)), (0 : Int) ≤ (8 : Int) ∧ (8 : Int) ≤ (64 : Int), (↑(n / (256 : Nat) ^ k) : Int) / (256 : Int) = (↑(n / (256 : Nat) ^ (k + (1 : Nat))) : Int), (↑(k + (1 : Nat)) : Int) + (1 : Int) = (↑(k + (1 : Nat) + (1 : Nat)) : Int)]) : Option (Exit × St × List Prop)) := by kernel_rfl
theorem pcSize_p0 (n : Nat) (m : Nat) (k : Nat) :
  alongPc Try.prog (pcSize n m k) [false] = (some (.exit 0, St.mk [.int .i64 (↑(n / 256 ^ m) : Int), .any, .any, .int .i64 (↑(m + 1) : Int), .any, .any, .any, .any, .any, .any, .any, .any, .any] [] 0 [], [decide ((0 : Int) < (↑(n / (256 : Nat) ^ k) : Int)) = false, (↑(n / (256 : Nat) ^ k) : Int) = (↑(n / (256 : Nat) ^ m) : Int), (↑(k + (1 : Nat)) : Int) = (↑(m + (1 : Nat)) : Int)]) : Option (Exit × St × List Prop)) := by kernel_rfl

theorem bdPut0_p0 (n : Nat) :
  along Try.prog (bdPut0 n) [false] = (some (.sl (.o 1) 1 0 0 0 (List.length ([] ++ putN n)) none, [(.o 1, .rows 1 (List.length ([] ++ putN n)) (bl ([] ++ putN n)) true)], [(0 : Int) ≤ (0 : Int) ∧ (0 : Int) ≤ (0 : Int), (0 : Int) ≤ (0 : Int) ∧ (0 : Int) ≤ (0 : Int), q false, T Try.prog 122 [.int .i64 ↑n] [] (.int .i64 (↑(List.length (digs 8 n) + 1) : Int)) [], InR IntKind.i64 ((↑(List.length (digs (8 : Nat) n) + (1 : Nat)) : Int) - (1 : Int)), nat_lit 1 ≤ (1 : Nat), ∀ (k : Nat), k < (1 : Nat) → solid (getL [[V.int IntKind.u8 (IntKind.wrap IntKind.u8 ((↑(List.length (digs (8 : Nat) n) + (1 : Nat)) : Int) - (1 : Int)))]] ((0 : Nat) + k)) = true, nat_lit 1 ≤ (140737488355328 : Nat), RLoop Try.prog none 1 (cB (cB (cR (cL (cR (cR (cR (cR (cR (bodyOf (Bd.f (bdPut0 n)))))))))))) (List.length (digs 8 n) + 1) (St.mk [.sl (.o 1) 1 0 0 0 1 none, .int .i64 ↑n, .any, .any, .any, .int .i64 (↑(List.length (digs 8 n)) : Int), .any, .any, .any, .any, .any, .any, .any, .any, .any, .any, .any, .any, .any, .any, .any, .any, .any, .any, .int .i64 (↑(List.length (digs 8 n)) : Int), .int .i64 0, .any, .any, .any, .any, .any, .any, .any, .any, .any, .any, .any, .any, .any, .any, .any] [(.o 1, .rows 1 1 (bl ([] ++ List.take 1 (putN n))) true)] 2 []) (.exit 0) (St.mk [.sl (.o 1) 1 0 0 0 (List.length ([] ++ List.take (List.length (digs 8 n) + 1) (putN n))) none, .int .i64 ↑n, .any, .any, .any, .int .i64 (↑(List.length (digs 8 n)) : Int), .any, .any, .any, .any, .any, .any, .any, .any, .any, .any, .any, .any, .any, .any, .any, .any, .any, .any, .int .i64 (↑(List.length (digs 8 n)) : Int), .int .i64 (↑(List.length (digs 8 n)) : Int), .any, .any, .any, .any, .any, .any, .any, .any, .any, .any, .any, .any, .any, .any, .any] [(.o 1, bs ([] ++ List.take (List.length (digs 8 n) + 1) (putN n)))] 2 []), q (nat_lit 1), ∀ (k : Nat), k < nat_lit 1 → catF (0 : Nat) (fun x => []) (fun k => getL [[V.int IntKind.u8 (IntKind.wrap IntKind.u8 ((↑(List.length (digs (8 : Nat) n) + (1 : Nat)) : Int) - (1 : Int)))]] ((0 : Nat) + k)) k = bl ([] ++ List.take (nat_lit 1) (putN n)) k, true = false → true = false, q0, q0, q0, q (nat_lit 1), (none : Option Nat) = none ∨ (none : Option Nat) = none, q (↑n : Int), (↑(List.length (digs (8 : Nat) n) + (1 : Nat)) : Int) - (1 : Int) = (↑(List.length (digs (8 : Nat) n)) : Int), (↑(List.length (digs (8 : Nat) n) + (1 : Nat)) : Int) - (1 : Int) = (↑(List.length (digs (8 : Nat) n)) : Int), q1, List.length ([] ++ List.take (List.length (digs (8 : Nat) n) + (1 : Nat)) (putN n)) = List.length ([] ++ putN n), ∀ (k : Nat), k < List.length ([] ++ List.take (List.length (digs (8 : Nat) n) + (1 : Nat)) (putN n)) → bl ([] ++ List.take (List.length (digs (8 : Nat) n) + (1 : Nat)) (putN n)) k = bl ([] ++ putN n) k, true = false → true = false, q0, q0, q0, List.length ([] ++ List.take (List.length (digs (8 : Nat) n) + (1 : Nat)) (putN n)) = List.length ([] ++ putN n), (none : Option Nat) = none ∨ (none : Option Nat) = none]) : Option (V × Heap × List Prop)) := by kernel_rfl

theorem bdPut_p0 (n : Nat) (l : List UInt8) :
  along Try.prog (bdPut n l) [false] = (some (.sl (.o 1) 1 0 0 0 (List.length (l ++ putN n)) none, [(.o 1, .rows 1 (List.length (l ++ putN n)) (bl (l ++ putN n)) true)], [(0 : Int) ≤ (↑(List.length l) : Int) ∧ (↑(List.length l) : Int) ≤ (↑(List.length l) : Int), (0 : Int) ≤ (↑(List.length l) : Int) ∧ (↑(List.length l) : Int) ≤ (↑(natO (some (↑(List.length l) : Int)) (List.length l)) : Int), q false, T Try.prog 122 [.int .i64 ↑n] [] (.int .i64 (↑(List.length (digs 8 n) + 1) : Int)) [], InR IntKind.i64 ((↑(List.length (digs (8 : Nat) n) + (1 : Nat)) : Int) - (1 : Int)), natO (some (↑(List.length l) : Int)) (List.length l) - nat_lit 0 = List.length l, nat_lit 1 ≤ (1 : Nat), ∀ (k : Nat), k < (1 : Nat) → solid (getL [[V.int IntKind.u8 (IntKind.wrap IntKind.u8 ((↑(List.length (digs (8 : Nat) n) + (1 : Nat)) : Int) - (1 : Int)))]] ((0 : Nat) + k)) = true, (natO (some (↑(List.length l) : Int)) (List.length l) - nat_lit 0 + (1 : Nat)) * nat_lit 1 ≤ (140737488355328 : Nat), RLoop Try.prog none 1 (cB (cB (cR (cL (cR (cR (cR (cR (cR (bodyOf (Bd.f (bdPut n l)))))))))))) (List.length (digs 8 n) + 1) (St.mk [.sl (.o 1) 1 0 0 0 (List.length (l ++ List.take 1 (putN n))) none, .int .i64 ↑n, .any, .any, .any, .int .i64 (↑(List.length (digs 8 n)) : Int), .any, .any, .any, .any, .any, .any, .any, .any, .any, .any, .any, .any, .any, .any, .any, .any, .any, .any, .int .i64 (↑(List.length (digs 8 n)) : Int), .int .i64 0, .any, .any, .any, .any, .any, .any, .any, .any, .any, .any, .any, .any, .any, .any, .any] [(.o 1, .rows 1 (List.length (l ++ List.take 1 (putN n))) (bl (l ++ List.take 1 (putN n))) true)] 2 []) (.exit 0) (St.mk [.sl (.o 1) 1 0 0 0 (List.length (l ++ List.take (List.length (digs 8 n) + 1) (putN n))) none, .int .i64 ↑n, .any, .any, .any, .int .i64 (↑(List.length (digs 8 n)) : Int), .any, .any, .any, .any, .any, .any, .any, .any, .any, .any, .any, .any, .any, .any, .any, .any, .any, .any, .int .i64 (↑(List.length (digs 8 n)) : Int), .int .i64 (↑(List.length (digs 8 n)) : Int), .any, .any, .any, .any, .any, .any, .any, .any, .any, .any, .any, .any, .any, .any, .any] [(.o 1, bs (l ++ List.take (List.length (digs 8 n) + 1) (putN n)))] 2 []), natO (some (↑(List.length l) : Int)) (List.length l) - nat_lit 0 + (1 : Nat) = List.length (l ++ List.take (nat_lit 1) (putN n)), ∀ (k : Nat), k < natO (some (↑(List.length l) : Int)) (List.length l) - nat_lit 0 + (1 : Nat) → catF (natO (some (↑(List.length l) : Int)) (List.length l) - nat_lit 0) (bl l) (fun k => getL [[V.int IntKind.u8 (IntKind.wrap IntKind.u8 ((↑(List.length (digs (8 : Nat) n) + (1 : Nat)) : Int) - (1 : Int)))]] ((0 : Nat) + k)) k = bl (l ++ List.take (nat_lit 1) (putN n)) k, true = false → true = false, q0, q0, q0, natO (some (↑(List.length l) : Int)) (List.length l) - nat_lit 0 + (1 : Nat) = List.length (l ++ List.take (nat_lit 1) (putN n)), (none : Option Nat) = none ∨ (none : Option Nat) = none, q (↑n : Int), (↑(List.length (digs (8 : Nat) n) + (1 : Nat)) : Int) - (1 : Int) = (↑(List.length (digs (8 : Nat) n)) : Int), (↑(List.length (digs (8 : Nat) n) + (1 : Nat)) : Int) - (1 : Int) = (↑(List.length (digs (8 : Nat) n)) : Int), q1, List.length (l ++ List.take (List.length (digs (8 : Nat) n) + (1 : Nat)) (putN n)) = List.length (l ++ putN n), ∀ (k : Nat), k < List.length (l ++ List.take (List.length (digs (8 : Nat) n) + (1 : Nat)) (putN n)) → bl (l ++ List.take (List.length (digs (8 : Nat) n) + (1 : Nat)) (putN n)) k = bl (l ++ putN n) k, true = false → true = false, q0, q0, q0, List.length (l ++ List.take (List.length (digs (8 : Nat) n) + (1 : Nat)) (putN n)) = List.length (l ++ putN n), (none : Option Nat) = none ∨ (none : Option Nat) = none]) : Option (V × Heap × List Prop)) := by kernel_rfl

theorem pcPutJ_p1 (n : Nat) (l : List UInt8) (k : Nat) :
  alongPc Try.prog (pcPutJ n l k) [true] = (some (.normal, St.mk [.sl (.o 1) 1 0 0 0 (List.length (l ++ List.take (k + 1 + 1) (putN n))) none, .int .i64 ↑n, .any, .any, .any, .int .i64 (↑(List.length (digs 8 n)) : Int), .any, .any, .any, .any, .any, .any, .any, .any, .any, .any, .any, .any, .any, .any, .any, .any, .any, .any, .int .i64 (↑(List.length (digs 8 n)) : Int), .int .i64 (↑(k + 1) : Int), .any, .any, .any, .any, .any, .any, .any, .any, .any, .any, .any, .any, .any, .any, .any] [(.o 1, .rows 1 (List.length (l ++ List.take (k + 1 + 1) (putN n))) (bl (l ++ List.take (k + 1 + 1) (putN n))) true)] 2 [], [decide ((↑k : Int) < (↑(List.length (digs (8 : Nat) n)) : Int)) = true, InR IntKind.i64 ((↑(List.length (digs (8 : Nat) n)) : Int) - (1 : Int)), InR IntKind.i64 ((↑(List.length (digs (8 : Nat) n)) : Int) - (1 : Int) - (↑k : Int)), InR IntKind.i64 ((8 : Int) * ((↑(List.length (digs (8 : Nat) n)) : Int) - (1 : Int) - (↑k : Int))), (0 : Int) ≤ (8 : Int) * ((↑(List.length (digs (8 : Nat) n)) : Int) - (1 : Int) - (↑k : Int)) ∧ (8 : Int) * ((↑(List.length (digs (8 : Nat) n)) : Int) - (1 : Int) - (↑k : Int)) ≤ (64 : Int), q (List.length (l ++ List.take (k + (1 : Nat)) (putN n))), nat_lit 1 ≤ (1 : Nat), ∀ (k_1 : Nat), k_1 < (1 : Nat) → solid (getL [[V.int IntKind.u8 (IntKind.wrap IntKind.u8 ((↑n : Int) / (2 : Int) ^ Int.toNat ((8 : Int) * ((↑(List.length (digs (8 : Nat) n)) : Int) - (1 : Int) - (↑k : Int)))))]] ((0 : Nat) + k_1)) = true, (List.length (l ++ List.take (k + (1 : Nat)) (putN n)) + (1 : Nat)) * nat_lit 1 ≤ (140737488355328 : Nat), InR IntKind.i64 ((↑k : Int) + (1 : Int)), List.length (l ++ List.take (k + (1 : Nat)) (putN n)) + (1 : Nat) = List.length (l ++ List.take (k + (1 : Nat) + (1 : Nat)) (putN n)), ∀ (k_1 : Nat), k_1 < List.length (l ++ List.take (k + (1 : Nat)) (putN n)) + (1 : Nat) → catF (List.length (l ++ List.take (k + (1 : Nat)) (putN n))) (bl (l ++ List.take (k + (1 : Nat)) (putN n))) (fun k_2 => getL [[V.int IntKind.u8 (IntKind.wrap IntKind.u8 ((↑n : Int) / (2 : Int) ^ Int.toNat ((8 : Int) * ((↑(List.length (digs (8 : Nat) n)) : Int) - (1 : Int) - (↑k : Int)))))]] ((0 : Nat) + k_2)) k_1 = bl (l ++ List.take (k + (1 : Nat) + (1 : Nat)) (putN n)) k_1, true = false → true = false, q0, q0, q0, List.length (l ++ List.take (k + (1 : Nat)) (putN n)) + (1 : Nat) = List.length (l ++ List.take (k + (1 : Nat) + (1 : Nat)) (putN n)), (none : Option Nat) = none ∨ (none : Option Nat) = none, q (↑n : Int), q (↑(List.length (digs (8 : Nat) n)) : Int), q (↑(List.length (digs (8 : Nat) n)) : Int), (↑k : Int) + (1 : Int) = (↑(k + (1 : Nat)) : Int)]) : Option (Exit × St × List Prop)) := by kernel_rfl
theorem pcPutJ_p0 (n : Nat) (l : List UInt8) (k : Nat) :
  alongPc Try.prog (pcPutJ n l k) [false] = (some (.exit 0, St.mk [.sl (.o 1) 1 0 0 0 (List.length (l ++ List.take (List.length (digs 8 n) + 1) (putN n))) none, .int .i64 ↑n, .any, .any, .any, .int .i64 (↑(List.length (digs 8 n)) : Int), .any, .any, .any, .any, .any, .any, .any, .any, .any, .any, .any, .any, .any, .any, .any, .any, .any, .any, .int .i64 (↑(List.length (digs 8 n)) : Int), .int .i64 (↑(List.length (digs 8 n)) : Int), .any, .any, .any, .any, .any, .any, .any, .any, .any, .any, .any, .any, .any, .any, .any] [(.o 1, .rows 1 (List.length (l ++ List.take (List.length (digs 8 n) + 1) (putN n))) (bl (l ++ List.take (List.length (digs 8 n) + 1) (putN n))) true)] 2 [], [decide ((↑k : Int) < (↑(List.length (digs (8 : Nat) n)) : Int)) = false, List.length (l ++ List.take (k + (1 : Nat)) (putN n)) = List.length (l ++ List.take (List.length (digs (8 : Nat) n) + (1 : Nat)) (putN n)), ∀ (k_1 : Nat), k_1 < List.length (l ++ List.take (k + (1 : Nat)) (putN n)) → bl (l ++ List.take (k + (1 : Nat)) (putN n)) k_1 = bl (l ++ List.take (List.length (digs (8 : Nat) n) + (1 : Nat)) (putN n)) k_1, true = false → true = false, q0, q0, q0, List.length (l ++ List.take (k + (1 : Nat)) (putN n)) = List.length (l ++ List.take (List.length (digs (8 : Nat) n) + (1 : Nat)) (putN n)), (none : Option Nat) = none ∨ (none : Option Nat) = none, q (↑n : Int), q (↑(List.length (digs (8 : Nat) n)) : Int), q (↑(List.length (digs (8 : Nat) n)) : Int), (↑k : Int) = (↑(List.length (digs (8 : Nat) n)) : Int)]) : Option (Exit × St × List Prop)) := by kernel_rfl

theorem digs_len : ∀ f n, n < 256 ^ f → (digs f n).length ≤ f ∧ n / 256 ^ (digs f n).length = 0 ∧ ∀ k, k < (digs f n).length → 0 < n / 256 ^ k
 | 0, n, h => by simp at h; subst h; simp [digs]
 | f + 1, n, h => by
  rw [digs]
  split
  ·rename_i h0; subst h0; simp
  ·have ih := digs_len f (n / 256) (by rw [Nat.pow_succ] at h; omega)
   simp only [List.length_append, List.length_singleton]
   refine ⟨by omega, ?_, fun k hk => ?_⟩
   ·rw [Nat.pow_succ', ← Nat.div_div_eq_div_mul]; exact ih.2.1
   ·cases k with
    | zero => simp; omega
    | succ k => rw [Nat.pow_succ', ← Nat.div_div_eq_div_mul]; exact ih.2.2 k (by omega)
theorem digs_get : ∀ f n k, n < 256 ^ f → k < (digs f n).length → (digs f n)[k]? = some (UInt8.ofNat (n / 256 ^ ((digs f n).length - 1 - k) % 256))
 | 0, n, k, _, h => by simp [digs] at h
 | f + 1, n, k, hn, h => by
  rw [digs] at h ⊢
  split at h
  ·simp at h
  ·rename_i h0
   rw [if_neg h0]
   have hn' : n / 256 < 256 ^ f := by rw [Nat.pow_succ] at hn; omega
   simp only [List.length_append, List.length_singleton] at h ⊢
   rcases Nat.lt_or_ge k (digs f (n / 256)).length with h1 | h1
   ·rw [List.getElem?_append_left h1, digs_get f (n / 256) k hn' h1, Nat.div_div_eq_div_mul, ← Nat.pow_succ']
    congr 5; omega
   ·have : k = (digs f (n / 256)).length := by omega
    subst this
    rw [List.getElem?_append_right (Nat.le_refl _)]; simp
theorem digs8 {n : Nat} (h : n < 9223372036854775808) : n < 256 ^ 8 := by omega
theorem putN_len {n : Nat} (h : n < 9223372036854775808) : (putN n).length ≤ 9 := by
 have := (digs_len 8 n (digs8 h)).1
 simp [putN]; omega
theorem bl_append (l r : List UInt8) : bl (l ++ r) = catF l.length (bl l) (bl r) := by
 funext k
 unfold bl catF
 cases h : Nat.blt k l.length
 ·have h1 : l.length ≤ k := by
   rcases Nat.lt_or_ge k l.length with h2 | h2
   ·rw [← Nat.blt_eq] at h2; rw [h2] at h; cases h
   ·exact h2
  simp [List.getD_eq_getElem?_getD, List.getElem?_append_right h1]
 ·rw [Nat.blt_eq] at h
  simp [List.getD_eq_getElem?_getD, List.getElem?_append_left h]
theorem catF_bl1 (l : List UInt8) (v : Int) (x : UInt8) (h : v = (x.toNat : Int)) : ∀ k, k < l.length + 1 → catF l.length (bl l) (fun k => getL [[V.int .u8 v]] (0 + k)) k = bl (l ++ [x]) k := by
 intro k hk
 rw [bl_append]
 unfold catF
 cases hb : Nat.blt k l.length
 ·have h1 : l.length ≤ k := by
   rcases Nat.lt_or_ge k l.length with h2 | h2
   ·rw [← Nat.blt_eq] at h2; rw [h2] at hb; cases hb
   ·exact h2
  have : k - l.length = 0 := by omega
  simp only [cond_false, this]
  subst h
  simp [getL, bl]
 ·rfl

theorem wrap8 (m : Nat) : IntKind.wrap IntKind.u8 (m : Int) = ((UInt8.ofNat m).toNat : Int) := by
 simp only [IntKind.wrap, IntKind.signed, IntKind.bits, UInt8.toNat_ofNat']
 simp
theorem wrap8' (m : Nat) : IntKind.wrap IntKind.u8 (m : Int) = ((UInt8.ofNat (m % 256)).toNat : Int) := by
 rw [wrap8]; simp
theorem T_size {n : Nat} (h : n < 9223372036854775808) : T Try.prog 122 [.int .i64 n] [] (.int .i64 ((digs 8 n).length + 1 : Nat)) [] := by
 obtain ⟨h1, h2, h3⟩ := digs_len 8 n (digs8 h)
 refine T_along NG MO _ (bdSize_p0 n (digs 8 n).length) Try.func122 (by kernel_rfl) ⟨by simp, RLoop.inv (sizeI n) (digs 8 n).length (fun k hk => ?_) (R_alongPc NG MO _ (pcSize_p0 n _ (digs 8 n).length) ?_ (Nat.zero_le _)) (by simp), by simp, rfl, trivial⟩ (pinH_ok (by kernel_rfl)) (by kernel_rfl)
 ·refine R_alongPc NG MO _ (pcSize_p1 n 0 k) ?_ (Nat.zero_le _)
  have h4 := h3 k hk
  have e : n / 256 ^ (k + 1) = n / 256 ^ k / 256 := by rw [Nat.pow_succ, Nat.div_div_eq_div_mul]
  refine ⟨by rw [decide_eq_true_eq]; exact_mod_cast h4, by rw [InR64]; omega, by decide, by rw [e]; omega, by omega, trivial⟩
 ·simp [All, h2]
theorem T_putAny {n : Nat} (h : n < 9223372036854775808) {l : List UInt8} (hl : l.length ≤ 70368744177664) :
  RLoop Try.prog none 1 (cB (cB (cR (cL (cR (cR (cR (cR (cR (bodyOf Try.f83)))))))))) ((digs 8 n).length + 1) (putJ n l 0) (.exit 0) (putJ n l (digs 8 n).length) := by
 have h1 := digs_len 8 n (digs8 h)
 refine RLoop.inv (putJ n l) (digs 8 n).length (fun k hk => ?_) (R_alongPc NG MO _ (pcPutJ_p0 n l (digs 8 n).length) (by simp [All]) (Nat.le_succ _)) (by simp)
 refine R_alongPc NG MO _ (pcPutJ_p1 n l k) ?_ (Nat.le_succ _)
 have hg := digs_get 8 n k (digs8 h) hk
 have ht : l ++ List.take (k + 1 + 1) (putN n) = (l ++ List.take (k + 1) (putN n)) ++ [UInt8.ofNat (n / 256 ^ ((digs 8 n).length - 1 - k) % 256)] := by
  rw [List.append_assoc]; congr 1
  rw [putN, List.take_succ_cons, List.take_succ_cons, List.cons_append, List.take_add_one, hg]; rfl
 have hlen : (l ++ List.take (k + 1) (putN n)).length ≤ l.length + 9 := by
  have := putN_len h
  simp only [List.length_append, List.length_take]; omega
 have hpl : (putN n).length = (digs 8 n).length + 1 := by simp [putN]
 have hv : IntKind.wrap IntKind.u8 ((n : Int) / 2 ^ Int.toNat (8 * (((digs 8 n).length : Int) - 1 - (k : Int)))) = ((UInt8.ofNat (n / 256 ^ ((digs 8 n).length - 1 - k) % 256)).toNat : Int) := by
  have e : Int.toNat (8 * (((digs 8 n).length : Int) - 1 - (k : Int))) = 8 * ((digs 8 n).length - 1 - k) := by omega
  have e2 : ((2 : Int) ^ (8 * ((digs 8 n).length - 1 - k))) = ((256 ^ ((digs 8 n).length - 1 - k) : Nat) : Int) := by
   rw [show (256 : Nat) = 2 ^ 8 from rfl, ← Nat.pow_mul]; norm_cast
  rw [e, e2]
  rw [show (n : Int) / ((256 ^ ((digs 8 n).length - 1 - k) : Nat) : Int) = ((n / 256 ^ ((digs 8 n).length - 1 - k) : Nat) : Int) from rfl, wrap8']
 simp only [All]
 and_intros
 all_goals first
  | omega
  | (simp only [List.length_append, List.length_take]; omega)
  | (rw [ht]; exact catF_bl1 _ _ _ hv)
  | (rw [ht]; simp; done)
  | (simp [hk, IntKind.min, IntKind.max, IntKind.signed, IntKind.bits] <;> omega)
  | (intro k hk; rw [show k = 0 by omega]; rfl)
theorem T_put0 {n : Nat} (h : n < 9223372036854775808) : T Try.prog 83 [.snil, .int .i64 n] [] (sb (.o 1) (putN n)) [(.o 1, bs (putN n))] := by
 have h1 := digs_len 8 n (digs8 h)
 have hv : IntKind.wrap IntKind.u8 ((((digs 8 n).length + 1 : Nat) : Int) - 1) = ((UInt8.ofNat (digs 8 n).length).toNat : Int) := by
  rw [show (((digs 8 n).length + 1 : Nat) : Int) - 1 = (((digs 8 n).length : Nat) : Int) by omega, wrap8]
 have hc := catF_bl1 [] _ _ hv
 refine T_along NG MO _ (bdPut0_p0 n) Try.func83 (by kernel_rfl) ?_ (pinH_ok (by kernel_rfl)) (by kernel_rfl)
 simp only [All]
 and_intros
 all_goals first
  | exact T_size h
  | exact T_putAny h (l := []) (by simp)
  | (intro k hk; rw [show k = 0 by omega]; exact hc 0 (by simp))
  | (simp [putN, IntKind.min, IntKind.max, IntKind.signed, IntKind.bits] <;> omega)
  | (intro k hk; rw [show k = 0 by omega]; rfl)
/-- Where one slice goes, another comes. -/
theorem T_put1 {n : Nat} (h : n < 9223372036854775808) {l : List UInt8} (hl : l.length ≤ 70368744177664) : T Try.prog 83 [sb (.o 0) l, .int .i64 n] [(.o 0, bs l)] (sb (.o 1) (l ++ putN n)) [(.o 1, bs (l ++ putN n))] := by
 have h1 := digs_len 8 n (digs8 h)
 have hv : IntKind.wrap IntKind.u8 ((((digs 8 n).length + 1 : Nat) : Int) - 1) = ((UInt8.ofNat (digs 8 n).length).toNat : Int) := by
  rw [show (((digs 8 n).length + 1 : Nat) : Int) - 1 = (((digs 8 n).length : Nat) : Int) by omega, wrap8]
 have hc := catF_bl1 l _ _ hv
 refine T_along NG MO _ (bdPut_p0 n l) Try.func83 (by kernel_rfl) ?_ (pinH_ok (by kernel_rfl)) (by kernel_rfl)
 simp only [All]
 and_intros
 all_goals first
  | exact T_size h
  | exact T_putAny h hl
  | (simp only [natO, Int.toNat_natCast, Nat.sub_zero]; exact hc)
  | (simp [putN, natO, IntKind.min, IntKind.max, IntKind.signed, IntKind.bits] <;> omega)
  | (intro k hk; rw [show k = 0 by omega]; rfl)
end Go.Proofs.Ythifjamdfpjilaa
namespace Go.Proofs.Ythifjamdfpjilaa
open Go Sy Go.Proofs
theorem exists_perm : ∀ (l l' : List Nm), l.Nodup → l'.Nodup → l.length = l'.length → ∃ σ τ : Nm → Nm, (∀ n, σ (τ n) = n) ∧ (∀ n, τ (σ n) = n) ∧ l.map σ = l'
 | [], [], _, _, _ => ⟨id, id, fun _ => rfl, fun _ => rfl, rfl⟩
 | a :: l, a' :: l', h, h', hl => by
  rw [List.nodup_cons] at h h'
  obtain ⟨σ, τ, h1, h2, h3⟩ := exists_perm l l' h.2 h'.2 (by simpa using hl)
  refine ⟨fun n => Nm.swap (σ a) a' (σ n), fun n => τ (Nm.swap (σ a) a' n), fun n => by simp only [h1, Nm.swap_swap], fun n => by simp only [Nm.swap_swap, h2], ?_⟩
  rw [List.map_cons]
  congr 1
  ·simp [Nm.swap]
  ·rw [← h3]
   apply List.map_congr_left
   intro x hx
   have e1 : σ x ≠ σ a := fun e => h.1 (by have := congrArg τ e; rw [h2, h2] at this; exact this ▸ hx)
   have e2 : σ x ≠ a' := fun e => h'.1 (by rw [← h3, ← e]; exact List.mem_map_of_mem hx)
   simp [Nm.swap, e1, e2]
/-- A contract under other names. -/
theorem T.at {P : Program} {f : FuncId} {args : List V} {pre : Heap} {val : V} {post : Heap} (H : T P f args pre val post) (l l' : List Nm) (h : l.Nodup) (h' : l'.Nodup) (hl : l.length = l'.length) :
  ∃ σ : Nm → Nm, l.map σ = l' ∧ T P f (V.rens σ args) (pre.ren σ) (V.ren σ val) (post.ren σ) := by
 obtain ⟨σ, τ, h1, h2, h3⟩ := exists_perm l l' h h' hl
 exact ⟨σ, h3, T.ren σ τ h1 h2 H⟩
def putZ (z : Int) : List UInt8 := putN z.toNat
def num63 (z : Int) : Prop := 0 ≤ z ∧ z < 9223372036854775808
theorem T_put {z : Int} (h : num63 z) {l : List UInt8} (hl : l.length ≤ 70368744177664) {a m : Nat} (hne : a ≠ m) : T Try.prog 83 [sb (.o a) l, .int .i64 z] [(.o a, bs l)] (sb (.o m) (l ++ putZ z)) [(.o m, bs (l ++ putZ z))] := by
 have e : ((z.toNat : Nat) : Int) = z := Int.toNat_of_nonneg h.1
 have h0 := T_put1 (n := z.toNat) (by have := h.2; omega) hl
 rw [e] at h0
 obtain ⟨σ, hσ, h1⟩ := T.at h0 [.o 0, .o 1] [.o a, .o m] (by simp) (by simp [hne]) rfl
 simp only [List.map_cons, List.map_nil, List.cons.injEq, and_true] at hσ
 simpa [V.rens, V.ren, sb, bs, Heap.ren, B.ren, hσ.1, hσ.2, putZ] using h1
theorem T_putNil {z : Int} (h : num63 z) {m : Nat} : T Try.prog 83 [.snil, .int .i64 z] [] (sb (.o m) (putZ z)) [(.o m, bs (putZ z))] := by
 have e : ((z.toNat : Nat) : Int) = z := Int.toNat_of_nonneg h.1
 have h0 := T_put0 (n := z.toNat) (by have := h.2; omega)
 rw [e] at h0
 obtain ⟨σ, hσ, h1⟩ := T.at h0 [.o 1] [.o m] (by simp) (by simp) rfl
 simp only [List.map_cons, List.map_nil, List.cons.injEq, and_true] at hσ
 simpa [V.rens, V.ren, sb, bs, Heap.ren, B.ren, hσ, putZ] using h1

def lookS {α : Type} : List (Nat × α) → Nat → Option α
 | [], _ => none
 | p :: r, n => bif Nat.beq p.1 n then some p.2 else lookS r n
/-- Calls by their operation's place behind the beginning. -/
def dbSeq (base : Nat) (l : List (Nat × (List V → Nat → List Cl))) : Nat → List V → Heap → Nat → List Cl := fun _ args _ lo => match lookS l ((lo - base) / 64) with
 | some f => f args lo
 | none => []
/-- A slice goes, another one comes: with these bytes. -/
def cNew (l : List UInt8) : List V → Nat → List Cl := fun args lo => match args with
 | .sl a _ _ _ _ _ _ :: _ => [{ pre := [a], val := sb (.o lo) l, post := [(.o lo, bs l)] }]
 | .snil :: _ => [{ val := sb (.o lo) l, post := [(.o lo, bs l)] }]
 | _ => []
/-- The result is a slice with these bytes; its block's new name. -/
def kSb (t nm : Nat) (l : List UInt8) : Exit → St → Option W := fun _ st => match getV st.tmps t with
 | .sl a _ _ _ _ _ _ => some ⟨[(.o nm, a)], [(t, .set (sb (.o nm) l))], [(.o nm, .set (bs l))], none, st.next⟩
 | _ => none
def strB (s : ByteArray) : List UInt8 := s.data.toList
def segB (xs : List Int) : List UInt8 := xs.map fun x => UInt8.ofNat x.toNat
def textB (s : ByteArray) : List UInt8 := putN s.size ++ strB s
def reqB (r : SReq) : List UInt8 := putZ r.client ++ (putZ r.num ++ (textB r.data ++ segB r.tag))
noncomputable def bdText (l : List UInt8) (s : ByteArray) : Bd := { f := Try.f86, args := [sb (.o 0) l, .str s], pre := [(.o 0, bs l)], base := 1, kb := { db := dbSeq 1 [(4, cNew (l ++ putZ s.size))] }, k := kSb 4 63 (l ++ textB s), names := fun _ => [.o 63] }
noncomputable def bdReq (l : List UInt8) (r : SReq) : Bd := { f := Try.f123, args := [sb (.o 0) l, .agg r.c], pre := [(.o 0, bs l)], base := 1, kb := { db := dbSeq 1 [(5, cNew (l ++ putZ r.client)), (8, cNew (l ++ putZ r.client ++ putZ r.num)), (11, cNew (l ++ putZ r.client ++ putZ r.num ++ textB r.data))] }, k := kSb 4 63 (l ++ reqB r), names := fun _ => [.o 63] }
end Go.Proofs.Ythifjamdfpjilaa
namespace Go.Proofs.Ythifjamdfpjilaa
open Go Sy Go.Proofs
theorem bdText_p (l : List UInt8) (s : ByteArray) :
  along Try.prog (bdText l s) [] = (some (.sl (.o 63) 1 0 0 0 (List.length (l ++ textB s)) none, [(.o 63, .rows 1 (List.length (l ++ textB s)) (bl (l ++ textB s)) true)], [T Try.prog 83 [.sl (.o 0) 1 0 0 0 (List.length l) none, .int .i64 (↑(ByteArray.size s) : Int)] [(.o 0, .rows 1 (List.length l) (bl l) true)] (.sl (.o 257) 1 0 0 0 (List.length (l ++ putZ (↑(ByteArray.size s) : Int))) none) [(.o 257, bs (l ++ putZ (↑(ByteArray.size s) : Int)))], q (List.length (l ++ putZ (↑(ByteArray.size s) : Int))), (List.length (l ++ putZ (↑(ByteArray.size s) : Int)) + ByteArray.size s) * nat_lit 1 ≤ (140737488355328 : Nat), List.length (l ++ putZ (↑(ByteArray.size s) : Int)) + ByteArray.size s = List.length (l ++ textB s), ∀ (k : Nat), k < List.length (l ++ putZ (↑(ByteArray.size s) : Int)) + ByteArray.size s → catF (List.length (l ++ putZ (↑(ByteArray.size s) : Int))) (bl (l ++ putZ (↑(ByteArray.size s) : Int))) (fun k => [V.int IntKind.u8 (byteAt s k)]) k = bl (l ++ textB s) k, true = false → true = false, q0, q0, q0, List.length (l ++ putZ (↑(ByteArray.size s) : Int)) + ByteArray.size s = List.length (l ++ textB s), (none : Option Nat) = none ∨ (none : Option Nat) = none]) : Option (V × Heap × List Prop)) := by kernel_rfl

theorem bdReq_p (l : List UInt8) (r : SReq) :
  along Try.prog (bdReq l r) [] = (some (.sl (.o 63) 1 0 0 0 (List.length (l ++ reqB r)) none, [(.o 63, .rows 1 (List.length (l ++ reqB r)) (bl (l ++ reqB r)) true)], [T Try.prog 83 [.sl (.o 0) 1 0 0 0 (List.length l) none, .int .i64 (SReq.client r)] [(.o 0, .rows 1 (List.length l) (bl l) true)] (.sl (.o 321) 1 0 0 0 (List.length (l ++ putZ (SReq.client r))) none) [(.o 321, bs (l ++ putZ (SReq.client r)))], T Try.prog 83 [.sl (.o 321) 1 0 0 0 (List.length (l ++ putZ (SReq.client r))) none, .int .i64 (SReq.num r)] [(.o 321, .rows 1 (List.length (l ++ putZ (SReq.client r))) (bl (l ++ putZ (SReq.client r))) true)] (.sl (.o 513) 1 0 0 0 (List.length (l ++ putZ (SReq.client r) ++ putZ (SReq.num r))) none) [(.o 513, bs (l ++ putZ (SReq.client r) ++ putZ (SReq.num r)))], T Try.prog 86 [.sl (.o 513) 1 0 0 0 (List.length (l ++ putZ (SReq.client r) ++ putZ (SReq.num r))) none, .str (SReq.data r)] [(.o 513, .rows 1 (List.length (l ++ putZ (SReq.client r) ++ putZ (SReq.num r))) (bl (l ++ putZ (SReq.client r) ++ putZ (SReq.num r))) true)] (.sl (.o 705) 1 0 0 0 (List.length (l ++ putZ (SReq.client r) ++ putZ (SReq.num r) ++ textB (SReq.data r))) none) [(.o 705, bs (l ++ putZ (SReq.client r) ++ putZ (SReq.num r) ++ textB (SReq.data r)))], q (List.length (l ++ putZ (SReq.client r) ++ putZ (SReq.num r) ++ textB (SReq.data r))), nat_lit 16 ≤ (16 : Nat), (List.length (l ++ putZ (SReq.client r) ++ putZ (SReq.num r) ++ textB (SReq.data r)) + nat_lit 16) * nat_lit 1 ≤ (140737488355328 : Nat), List.length (l ++ putZ (SReq.client r) ++ putZ (SReq.num r) ++ textB (SReq.data r)) + nat_lit 16 = List.length (l ++ reqB r), ∀ (k : Nat), k < List.length (l ++ putZ (SReq.client r) ++ putZ (SReq.num r) ++ textB (SReq.data r)) + nat_lit 16 → catF (List.length (l ++ putZ (SReq.client r) ++ putZ (SReq.num r) ++ textB (SReq.data r))) (bl (l ++ putZ (SReq.client r) ++ putZ (SReq.num r) ++ textB (SReq.data r))) (fun q => [V.int IntKind.u8 (List.getD (SReq.tag r) (nat_lit 0 + q) (0 : Int))]) k = bl (l ++ reqB r) k, true = false → true = false, q0, q0, q0, List.length (l ++ putZ (SReq.client r) ++ putZ (SReq.num r) ++ textB (SReq.data r)) + nat_lit 16 = List.length (l ++ reqB r), (none : Option Nat) = none ∨ (none : Option Nat) = none]) : Option (V × Heap × List Prop)) := by kernel_rfl

structure SegOk (n : Nat) (xs : List Int) : Prop where
 len : xs.length = n
 rng : ∀ x ∈ xs, 0 ≤ x ∧ x ≤ 255
theorem segB_len (xs : List Int) : (segB xs).length = xs.length := by simp [segB]
theorem segB_fn {n : Nat} {xs : List Int} (h : SegOk n xs) : (fun q => [V.int .u8 (xs.getD (0 + q) 0)]) = bl (segB xs) := by
 funext q
 unfold bl segB
 rw [Nat.zero_add]
 simp only [List.getD_eq_getElem?_getD, List.getElem?_map]
 cases hq : xs[q]? with
 | none => simp
 | some x =>
  have hx := h.rng x (List.mem_of_getElem? hq)
  simp only [Option.map_some, Option.getD_some, UInt8.toNat_ofNat']
  congr 2
  omega
theorem strB_len (s : ByteArray) : (strB s).length = s.size := rfl
theorem putZ_len {z : Int} (h : num63 z) : (putZ z).length ≤ 9 := putN_len (by have := h.1; have := h.2; omega)
theorem num63_nat {n : Nat} (h : n < 9223372036854775808) : num63 (n : Int) := ⟨by omega, by omega⟩
theorem textB_eq (s : ByteArray) : textB s = putZ s.size ++ strB s := by simp [textB, putZ]
theorem textB_len {s : ByteArray} (h : s.size ≤ 1099511627776) : (textB s).length ≤ 9 + s.size := by
 have := putZ_len (num63_nat (n := s.size) (by omega))
 rw [textB_eq, List.length_append, strB_len]; omega
theorem T_text1 {l : List UInt8} {s : ByteArray} (hl : l.length ≤ 17592186044416) (hs : s.size ≤ 1099511627776) : T Try.prog 86 [sb (.o 0) l, .str s] [(.o 0, bs l)] (sb (.o 63) (l ++ textB s)) [(.o 63, bs (l ++ textB s))] := by
 have hz := num63_nat (n := s.size) (by omega)
 have e : l ++ textB s = (l ++ putZ s.size) ++ strB s := by rw [textB_eq, List.append_assoc]
 have h9 := putZ_len hz
 have hlen : (l ++ putZ (s.size : Int)).length ≤ l.length + 9 := by rw [List.length_append]; omega
 have hle : (l ++ putZ (s.size : Int)).length + s.size = (l ++ textB s).length := by rw [e, List.length_append (bs := strB s), strB_len]
 refine T_along NG MO _ (bdText_p l s) Try.func86 (by kernel_rfl) ?_ (pinH_ok (by kernel_rfl)) (by kernel_rfl)
 simp only [All]
 and_intros
 all_goals first
  | exact T_put hz (by omega) (by decide)
  | exact hle
  | omega
  | (rw [e, bl_append (l ++ putZ (s.size : Int)) (strB s)]; intro k _; rfl)
  | simp
theorem T_text {l : List UInt8} {s : ByteArray} (hl : l.length ≤ 17592186044416) (hs : s.size ≤ 1099511627776) {a m : Nat} (hne : a ≠ m) : T Try.prog 86 [sb (.o a) l, .str s] [(.o a, bs l)] (sb (.o m) (l ++ textB s)) [(.o m, bs (l ++ textB s))] := by
 obtain ⟨σ, hσ, h1⟩ := T.at (T_text1 hl hs) [.o 0, .o 63] [.o a, .o m] (by simp) (by simp [hne]) rfl
 simp only [List.map_cons, List.map_nil, List.cons.injEq, and_true] at hσ
 simpa [V.rens, V.ren, sb, bs, Heap.ren, B.ren, hσ.1, hσ.2] using h1
structure ReqOk (r : SReq) : Prop where
 client : num63 r.client
 num : num63 r.num
 data : r.data.size ≤ 1099511627776
 tag : SegOk 16 r.tag
theorem reqB_len {r : SReq} (h : ReqOk r) : (reqB r).length ≤ 43 + r.data.size := by
 have h1 := putZ_len h.client
 have h2 := putZ_len h.num
 have h3 := textB_len h.data
 have h4 := h.tag.len
 simp only [reqB, List.length_append, segB_len]; omega
theorem T_req1 {l : List UInt8} {r : SReq} (hl : l.length ≤ 8796093022208) (h : ReqOk r) : T Try.prog 123 [sb (.o 0) l, .agg r.c] [(.o 0, bs l)] (sb (.o 63) (l ++ reqB r)) [(.o 63, bs (l ++ reqB r))] := by
 have h1 := putZ_len h.client
 have h2 := putZ_len h.num
 have h3 := textB_len h.data
 have h4 := h.tag.len
 have h5 := h.data
 have e : l ++ reqB r = (l ++ putZ r.client ++ putZ r.num ++ textB r.data) ++ segB r.tag := by simp [reqB]
 have l1 : (l ++ putZ r.client).length ≤ l.length + 9 := by rw [List.length_append]; omega
 have l2 : (l ++ putZ r.client ++ putZ r.num).length ≤ l.length + 18 := by rw [List.length_append]; omega
 have l3 : (l ++ putZ r.client ++ putZ r.num ++ textB r.data).length ≤ l.length + 27 + r.data.size := by rw [List.length_append]; omega
 have l4 : (l ++ putZ r.client ++ putZ r.num ++ textB r.data).length + 16 = (l ++ reqB r).length := by rw [e, List.length_append (bs := segB r.tag), segB_len, h4]
 refine T_along NG MO _ (bdReq_p l r) Try.func123 (by kernel_rfl) ?_ (pinH_ok (by kernel_rfl)) (by kernel_rfl)
 simp only [All]
 and_intros
 all_goals first
  | exact T_put h.client (by omega) (by decide)
  | exact T_put h.num (by omega) (by decide)
  | exact T_text (by omega) h.data (by decide)
  | exact l4
  | omega
  | (rw [e, bl_append (l ++ putZ r.client ++ putZ r.num ++ textB r.data) (segB r.tag), segB_fn h.tag]; intro k _; rfl)
  | simp
theorem T_req {l : List UInt8} {r : SReq} (hl : l.length ≤ 8796093022208) (h : ReqOk r) {a m : Nat} (hne : a ≠ m) : T Try.prog 123 [sb (.o a) l, .agg r.c] [(.o a, bs l)] (sb (.o m) (l ++ reqB r)) [(.o m, bs (l ++ reqB r))] := by
 obtain ⟨σ, hσ, h1⟩ := T.at (T_req1 hl h) [.o 0, .o 63] [.o a, .o m] (by simp) (by simp [hne]) rfl
 simp only [List.map_cons, List.map_nil, List.cons.injEq, and_true] at hσ
 simpa [V.rens, V.ren, SReq.c, sb, bs, Heap.ren, B.ren, hσ.1, hσ.2] using h1
end Go.Proofs.Ythifjamdfpjilaa
namespace Go.Proofs.Ythifjamdfpjilaa
open Go Sy Go.Proofs
def reqsB (r : Nat → SReq) : Nat → List UInt8
 | 0 => []
 | k + 1 => reqsB r k ++ reqB (r k)
def batchB (b : SBatch) : List UInt8 := if b.noop then putZ 0 else putZ ((b.n + 1 : Nat) : Int) ++ reqsB b.req b.n
def bpI (l : List UInt8) (b : SBatch) (k : Nat) : St := ⟨mkT 29 [(0, sb (.o 1) (l ++ (putZ ((b.n + 1 : Nat) : Int) ++ reqsB b.req k))), (18, rq b.n b.req), (19, .int .i64 b.n), (20, .int .i64 k)], [(.o 1, bs (l ++ (putZ ((b.n + 1 : Nat) : Int) ++ reqsB b.req k)))], 2, []⟩
def lpBp (l : List UInt8) (b : SBatch) : Nat → St → List (Prop × Hint) := fun _ st => match getV st.tmps 0 with
 | .sl a _ _ _ _ _ _ => [(True, .loop (b.n + 1) (wToS [(.o 1, a)] (bpI l b 0)) (.exit 0) (bpI l b b.n))]
 | _ => []
def kBp (l : List UInt8) (b : SBatch) (k : Nat) : Exit → St → Option W := fun e st => match e with
 | .normal => match getV st.tmps 0 with
  | .sl a _ _ _ _ _ _ => some (wToS [(.o 1, a)] (bpI l b (k + 1)))
  | _ => none
 | _ => some (wTo (bpI l b b.n))
noncomputable def bdBp (l : List UInt8) (b : SBatch) : Bd := { f := Try.f84, args := [sb (.o 0) l, .agg b.c], pre := [(.o 0, bs l)], base := 1, kb := { db := dbSeq 1 [(5, cNew (l ++ putZ 0)), (9, cNew (l ++ putZ ((b.n + 1 : Nat) : Int)))], lp := lpBp l b }, k := kSb 4 63 (l ++ batchB b), names := fun _ => [.o 63] }
noncomputable def pcBp (l : List UInt8) (b : SBatch) (k : Nat) : Pc := { c := cB (cB (cR (cL (cR (cR (cR (bodyOf Try.f84))))))), st := bpI l b k, p := 1, kb := { db := dbSeq 2 [(7, cNew (l ++ (putZ ((b.n + 1 : Nat) : Int) ++ reqsB b.req (k + 1))))] }, k := kBp l b k }

/-- A writer's blocks. -/
def wr (w a : Nat) (l : List UInt8) : Heap := [(.o w, .flat [sb (.o a) l]), (.o a, bs l)]
def dbSeqH (base : Nat) (l : List (Nat × (List V → Heap → Nat → List Cl))) : Nat → List V → Heap → Nat → List Cl := fun _ args h lo => match lookS l ((lo - base) / 64) with
 | some f => f args h lo
 | none => []
/-- The writer has these bytes then; so many arguments behind it are slices that stay. -/
def cW (l : List UInt8) : List V → Heap → Nat → List Cl := fun args h lo => match args with
 | .ptr w _ _ _ _ :: r => match pull w h with
  | some (.flat (.sl a _ _ _ _ _ _ :: _), _) => match r with
   | .sl q _ _ _ _ _ _ :: _ => [{ rd := [q], pre := [w, a], val := .tup [], post := [(w, .flat [sb (.o lo) l]), (.o lo, bs l)] }]
   | _ => [{ pre := [w, a], val := .tup [], post := [(w, .flat [sb (.o lo) l]), (.o lo, bs l)] }]
  | some (.flat (.snil :: _), _) => match r with
   | .sl q _ _ _ _ _ _ :: _ => [{ rd := [q], pre := [w], val := .tup [], post := [(w, .flat [sb (.o lo) l]), (.o lo, bs l)] }]
   | _ => []
  | _ => []
 | _ => []
def kWr (l : List UInt8) (others : Heap) : Exit → St → Option W := fun _ st => match pull (.o 0) st.heap with
 | some (.flat (.sl a _ _ _ _ _ _ :: _), _) => some ⟨[(.o 63, a)], [], [(.o 0, .set (.flat [sb (.o 63) l])), (.o 63, .set (bs l))] ++ hsetsOf others, none, st.next⟩
 | _ => none
def nsV (ns : List Int) : List (List V) := ns.map fun n => [V.int .i64 n]
def numsB : List Int → List UInt8
 | [] => []
 | n :: r => putZ n ++ numsB r
def nsH (ns : List Int) : Heap := [(.o 2, .rows 1 ns.length (getL (nsV ns)) false)]
def nsA (q : Nat) (ns : List Int) : V := .sl (.o q) 1 0 0 0 ns.length (some ns.length)
noncomputable def bdNu (l : List UInt8) (ns : List Int) (steps : List (Nat × (List V → Nat → List Cl))) : Bd := { f := Try.f49, args := [.ptr (.o 0) 0 0 0 0, nsA 2 ns], pre := wr 0 1 l ++ nsH ns, base := 3, kb := { db := dbSeq 3 steps, lp := fun _ _ => [(True, .rounds (ns.length + 1))] }, k := kWr (l ++ numsB ns) (nsH ns), names := fun _ => [.o 0, .o 63, .o 2] }
noncomputable def bdNu1 (l : List UInt8) (a : Int) : Bd := bdNu l [a] [(13, cNew (l ++ putZ a))]
noncomputable def bdNu2 (l : List UInt8) (a b : Int) : Bd := bdNu l [a, b] [(13, cNew (l ++ putZ a)), (29, cNew (l ++ putZ a ++ putZ b))]
noncomputable def bdNu3 (l : List UInt8) (a b c : Int) : Bd := bdNu l [a, b, c] [(13, cNew (l ++ putZ a)), (29, cNew (l ++ putZ a ++ putZ b)), (45, cNew (l ++ putZ a ++ putZ b ++ putZ c))]
noncomputable def bdNu4 (l : List UInt8) (a b c d : Int) : Bd := bdNu l [a, b, c, d] [(13, cNew (l ++ putZ a)), (29, cNew (l ++ putZ a ++ putZ b)), (45, cNew (l ++ putZ a ++ putZ b ++ putZ c)), (61, cNew (l ++ putZ a ++ putZ b ++ putZ c ++ putZ d))]
noncomputable def bdNu0 (a : Int) : Bd := { f := Try.f49, args := [.ptr (.o 0) 0 0 0 0, nsA 2 [a]], pre := [(.o 0, .flat [.snil])] ++ nsH [a], base := 3, kb := { db := dbSeq 3 [(13, cNew (putZ a))], lp := fun _ _ => [(True, .rounds 2)] }, k := kWr (putZ a) (nsH [a]), names := fun _ => [.o 0, .o 63, .o 2] }
noncomputable def bdWt (l : List UInt8) (s : ByteArray) : Bd := { f := Try.f58, args := [.ptr (.o 0) 0 0 0 0, .str s], pre := wr 0 1 l, base := 2, kb := { db := dbSeq 2 [(6, cNew (l ++ textB s))] }, k := kWr (l ++ textB s) [], names := fun _ => [.o 0, .o 63] }
noncomputable def bdWb (l : List UInt8) (b : SBatch) : Bd := { f := Try.f50, args := [.ptr (.o 0) 0 0 0 0, .agg b.c], pre := wr 0 1 l, base := 2, kb := { db := dbSeq 2 [(7, cNew (l ++ batchB b))] }, k := kWr (l ++ batchB b) [], names := fun _ => [.o 0, .o 63] }
noncomputable def bdRaw (l : List UInt8) (cs : List V) (o n : Nat) (xs : List Int) : Bd := { f := Try.f94, args := [.ptr (.o 0) 0 0 0 0, .sl (.o 2) 0 0 o 0 n (some n)], pre := wr 0 1 l ++ [(.o 2, .flat cs)], base := 3, kb := kb0, k := kWr (l ++ segB xs) [(.o 2, .flat cs)], names := fun _ => [.o 0, .o 63, .o 2] }
noncomputable def bdRawD (l : List UInt8) (d : List Int) : Bd := bdRaw l [.seg .u8 32 d] 0 32 d
noncomputable def bdRawS (l : List UInt8) (s : SSign) : Bd := bdRaw l s.c 1 16 s.tag
noncomputable def bdRawE (l : List UInt8) (e : SEnv) : Bd := bdRaw l e.c 2 16 e.tag
end Go.Proofs.Ythifjamdfpjilaa
