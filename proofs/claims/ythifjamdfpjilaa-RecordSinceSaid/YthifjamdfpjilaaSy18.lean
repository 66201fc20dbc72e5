/-
  A call's contract out of its body, weakened at its end (own work of this seat).
-/
import Derived.Test.YthifjamdfpjilaaSy17
namespace Sy
open Go

variable {P : Program}

/-- A piece of code along hints, weakened at its end or not. -/
def bodyRunO (P : Program) (ro : Option Nat) (p : Nat) (c : Code) (st : St) (hs : List Hint) (k : Option W) : Option (Exit × St × List Prop) :=
  match k with
  | some k => bodyRun P ro p c st hs k
  | none => match prep p hs st with
    | none => none
    | some (st1, c1, hs1) => match run P ro p c c st1 hs1 with
      | none => none
      | some r => some (r.e, r.st, c1 ++ r.cs)
theorem R_of_bodyRunO (hng : NoNG P) (hm : P.follows .mixedOrders = true) {ro : Option Nat} {p : Nat} {c : Code} {st st' : St} {hs : List Hint} {k : Option W} {e : Exit} {cs : List Prop} (h : bodyRunO P ro p c st hs k = some (e, st', cs)) (hc : All cs) (hp : p ≤ st.next) :
    R P ro p c st e st' := by
  unfold bodyRunO at h
  cases k with
  | some k => exact R_of_bodyRun hng hm h hc hp
  | none =>
    simp only at h
    cases h1 : prep p hs st with
    | none => simp [h1] at h
    | some q =>
      obtain ⟨st1, c1, hs1⟩ := q
      simp only [h1] at h
      cases h2 : run P ro p c c st1 hs1 with
      | none => simp [h2] at h
      | some r =>
        simp only [h2, Option.some.injEq, Prod.mk.injEq] at h
        obtain ⟨rfl, rfl, rfl⟩ := h
        simp only [All_append] at hc
        obtain ⟨k1, k2⟩ := hc
        obtain ⟨g1, g2⟩ := prep_ok h1 k1 hp
        obtain ⟨g3, g4⟩ := run_ok hng hm c c rfl st1 hs1 r h2 k2 g2
        exact R.pre g1 g4

/-- What a body's end tells: its value, the blocks that are named, what is asked. -/
def fnEnd (P : Program) (fn : Func) (base : Nat) (names : List Nm) (tl : Option Nat) (e : Exit) (st : St) (cs : List Prop) : Option (V × Heap × List Prop) :=
  match isRet e with
  | false => none
  | true => match unmarks st.dfs st.heap with
    | none => none
    | some h => match resAll P st.tmps h fn.results.toList with
      | none => none
      | some (vs, c2) => match takeH names h with
        | none => none
        | some (bs, rest) => bif (resV vs).within (fun n => n.pin base || memNm n bs) && withinH (fun n => n.pin base || memNm n bs) bs then match tl with
            | none => some (resV vs, bs, cs ++ c2)
            | some k => some (resV vs, bs ++ rest.drop k, PinH base (rest.drop k) :: (cs ++ c2))
          else none

/-- A function's body along hints, weakened at its end. -/
def fnB (P : Program) (fn : Func) (c : Code) (args : List V) (pre : Heap) (base : Nat) (hs : List Hint) (k : Option W) (names : List Nm) (tl : Option Nat) : Option (V × Heap × List Prop) :=
  match bodyRunO P none base c ⟨args ++ List.replicate (fn.ntmps - args.length) (.tup []), pre, base, []⟩ hs k with
  | none => none
  | some (e, st, cs) => fnEnd P fn base names tl e st cs

theorem T_of_end {f : FuncId} {fn : Func} {c : Code} (hf : P.funcs[f]? = some fn) (hb : fn.body = some c) {args : List V} {pre post : Heap} {base : Nat} {names : List Nm} {tl : Option Nat} {e : Exit} {st : St} {c0 : List Prop} {val : V} {cs : List Prop}
    (hR : R P none base c ⟨args ++ List.replicate (fn.ntmps - args.length) (.tup []), pre, base, []⟩ e st)
    (h : fnEnd P fn base names tl e st c0 = some (val, post, cs)) (hc : All cs) (hpin : PinH base pre) (hargs : V.withins (Nm.pin base) args = true) : T P f args pre val post := by
  unfold fnEnd at h
  cases hret : isRet e <;> simp only [hret, reduceCtorEq] at h
  cases hum : unmarks st.dfs st.heap with
  | none => simp [hum] at h
  | some h' =>
    simp only [hum] at h
    cases hres : resAll P st.tmps h' fn.results.toList with
    | none => simp [hres] at h
    | some q =>
      obtain ⟨vs, c2⟩ := q
      simp only [hres] at h
      cases htk : takeH names h' with
      | none => simp [htk] at h
      | some q =>
        obtain ⟨bs, rest⟩ := q
        simp only [htk] at h
        cases hw : ((resV vs).within (fun n => n.pin base || memNm n bs) && withinH (fun n => n.pin base || memNm n bs) bs) <;> simp only [hw, cond_true, cond_false, reduceCtorEq] at h
        rw [Bool.and_eq_true] at hw
        have key : All c2 ∧ val = resV vs ∧ ∃ t, (∃ rest', (bs ++ rest).Perm (post ++ rest')) ∧ post = bs ++ t ∧ PinH base t := by
          cases tl with
          | none =>
            simp only [Option.some.injEq, Prod.mk.injEq] at h
            obtain ⟨rfl, rfl, rfl⟩ := h
            obtain ⟨k1, k2⟩ := All_append.1 hc
            exact ⟨k2, rfl, [], ⟨rest, List.Perm.refl _⟩, by simp, fun q hq => by cases hq⟩
          | some k =>
            simp only [Option.some.injEq, Prod.mk.injEq] at h
            obtain ⟨rfl, rfl, rfl⟩ := h
            obtain ⟨k0, k12⟩ := hc
            obtain ⟨k1, k2⟩ := All_append.1 k12
            refine ⟨k2, rfl, rest.drop k, ⟨rest.take k, ?_⟩, rfl, k0⟩
            rw [List.append_assoc]
            exact List.Perm.append_left bs ((List.Perm.of_eq (List.take_append_drop k rest).symm).trans List.perm_append_comm)
        obtain ⟨k2, rfl, t, ⟨rest', hperm⟩, hpost, hpt⟩ := key
        have hdom : ∀ m, memNm m bs = true → Heap.dom post m := fun m hmm => by rw [hpost]; exact dom_append.2 (.inl (memNm_dom hmm))
        have hS : ∀ m, (m.pin base || memNm m bs) = true → m.pin base = true ∨ Heap.dom post m := fun m hmm => by
          rw [Bool.or_eq_true] at hmm; exact hmm.imp id (hdom m)
        intro U ρ w xs hh ha hfr
        refine (callsIn_wide (n := 0)).1 ?_
        have hlen : xs.size = args.length := by
          have : ∀ {vs : List V} {l : List Value}, VsRel U ρ vs l → l.length = vs.length := by
            intro vs
            induction vs with
            | nil => intro l h; rw [VsRel] at h; subst h; rfl
            | cons v vs ih => intro l h; rw [VsRel] at h; obtain ⟨x, r, rfl, _, h⟩ := h; simp [ih h]
          rw [← Array.length_toList]; exact this ha
        refine callsIn_of_wp_marks hf hb trivial ?_ rfl
        rw [hlen]
        have hQ : ∀ (e : Exit), isRet e = true → ∀ U' ρ' a' w', StRel U' ρ' st a' w' → Turn base U (restrict base ρ) pre w U' ρ' st.heap w' →
            LeavesInM Fence.wide 0 P fn a'.tmps (fun e w' => ∃ x U' ρ', e = .returned x ∧ Leaves U ρ pre w (resV vs) post x U' ρ' w') a'.defers .returning w' := by
          intro e _ U' ρ' a' w' hst ht
          refine leaves_marks (p := base) st.dfs st a' w' h' rfl hum hst fun w'' hs' ht' => ?_
          have hperm' : h'.Perm (post ++ rest') := (takeH_perm htk).trans hperm
          obtain ⟨v, g1, g2⟩ := results_ok (P := P) hs'.tmps hs'.heap hres k2
          refine ⟨v, g1, v, U', _, rfl, finish hpin hfr g2 (HRel.left (hs'.heap.perm hperm')) (ht.trans ht') (fun n hn => (perm_dom hperm' n).2 (dom_append.2 (.inl hn))) ⟨_, hw.1, hS⟩ fun q hq => ?_⟩
          rw [hpost] at hq
          rcases List.mem_append.1 hq with hq | hq
          · exact ⟨_, withinH_ok hw.2 q hq, hS⟩
          · exact ⟨_, (hpt q hq).2, fun m hm => .inl hm⟩
        refine hR U (restrict base ρ) _ w _ (start hh ha hpin hargs) fun U' ρ' a' w' hst ht => ?_
        cases he : e <;> rw [he] at hret <;> simp only [isRet, Bool.false_eq_true] at hret
        · exact hQ .normal rfl U' ρ' a' w' hst ht
        · exact hQ .ret rfl U' ρ' a' w' hst ht

theorem fnEnd_conds {fn : Func} {base : Nat} {names : List Nm} {tl : Option Nat} {e : Exit} {st : St} {c0 : List Prop} {val : V} {post : Heap} {cs : List Prop} (h : fnEnd P fn base names tl e st c0 = some (val, post, cs)) (hc : All cs) : All c0 := by
  unfold fnEnd at h
  cases hret : isRet e <;> simp only [hret, reduceCtorEq] at h
  cases hum : unmarks st.dfs st.heap with
  | none => simp [hum] at h
  | some h' =>
    simp only [hum] at h
    cases hres : resAll P st.tmps h' fn.results.toList with
    | none => simp [hres] at h
    | some q =>
      obtain ⟨vs, c2⟩ := q
      simp only [hres] at h
      cases htk : takeH names h' with
      | none => simp [htk] at h
      | some q =>
        obtain ⟨bs, rest⟩ := q
        simp only [htk] at h
        cases hw : ((resV vs).within (fun n => n.pin base || memNm n bs) && withinH (fun n => n.pin base || memNm n bs) bs) <;> simp only [hw, cond_true, cond_false, reduceCtorEq] at h
        cases tl with
        | none =>
          simp only [Option.some.injEq, Prod.mk.injEq] at h
          obtain ⟨rfl, rfl, rfl⟩ := h
          exact (All_append.1 hc).1
        | some k =>
          simp only [Option.some.injEq, Prod.mk.injEq] at h
          obtain ⟨rfl, rfl, rfl⟩ := h
          exact (All_append.1 hc.2).1

theorem T_of_fnB (hng : NoNG P) (hm : P.follows .mixedOrders = true) {f : FuncId} {fn : Func} {c : Code} (hf : P.funcs[f]? = some fn) (hb : fn.body = some c) {args : List V} {pre post : Heap} {base : Nat} {hs : List Hint} {k : Option W} {names : List Nm} {tl : Option Nat} {val : V} {cs : List Prop}
    (h : fnB P fn c args pre base hs k names tl = some (val, post, cs)) (hc : All cs) (hpin : PinH base pre) (hargs : V.withins (Nm.pin base) args = true) : T P f args pre val post := by
  unfold fnB at h
  cases hr : bodyRunO P none base c ⟨args ++ List.replicate (fn.ntmps - args.length) (.tup []), pre, base, []⟩ hs k with
  | none => simp [hr] at h
  | some q =>
    obtain ⟨e, st, c0⟩ := q
    simp only [hr] at h
    exact T_of_end hf hb (R_of_bodyRunO hng hm hr (fnEnd_conds h hc) (Nat.le_refl _)) h hc hpin hargs

end Sy
