/-
  Regions and code, executed (own work of this seat).
-/
import Derived.Test.YthifjamdfpjilaaSy14
namespace Sy
open Go

variable {P : Program}

/-! ### One entry -/
def hintFor : List (Nat × OH) → Nat → Option OH
  | [], _ => none
  | p :: r, i => bif Nat.beq p.1 i then some p.2 else hintFor r i
def gref (ops : Array Oper) (o : Oper) : List Nat := match o.guard with
  | some g => match dstOf ops g.1 with
    | some d => [d]
    | none => []
  | none => []
def wantE (ops : Array Oper) (ls : List (Nat × V)) (o : Oper) : Option Bool := match o.guard with
  | none => some true
  | some g => match dstOf ops g.1 with
    | none => none
    | some d => match find ls d with
      | .bool c => match c with
        | true => some g.2
        | false => some (!g.2)
      | .tup [] => some false
      | _ => none
theorem wantE_ok {ops : Array Oper} {ls : List (Nat × V)} {o : Oper} {b : Bool} {U : Imm} {ρ : Env} {a : Act} (h : wantE ops ls o = some b) (hl : LookRel U ρ ls a) : Region.wanted o (yielded ops a.tmps) = b := by
  unfold wantE at h
  unfold Region.wanted
  cases hg : o.guard with
  | none => simp only [hg, Option.some.injEq] at h; simpa using h
  | some g =>
    obtain ⟨j, want⟩ := g
    simp only [hg] at h
    cases hd : dstOf ops j with
    | none => simp [hd] at h
    | some d =>
      simp only [hd] at h
      have hf := find_rel (t := d) hl
      have hy : ∀ x, a.tmps.toList.getD d undef = x → yielded ops a.tmps j = match x with
          | .bool b => some b
          | _ => none := by
        intro x hx
        unfold dstOf at hd
        unfold yielded
        rw [hd, Option.bind_some]
        rw [List.getD_eq_getElem?_getD, Array.getElem?_toList] at hx
        cases ht : a.tmps[d]? with
        | none => rw [ht] at hx; simp only [Option.getD_none] at hx; subst hx; rfl
        | some y => rw [ht] at hx; simp only [Option.getD_some] at hx; subst hx; cases y <;> rfl
      split at h
      · rename_i c hc
        rw [hc, VRel] at hf
        simp only [hy _ hf]
        cases c <;> simp only [Option.some.injEq] at h <;> subst h <;> cases want <;> rfl
      · rename_i hc
        rw [hc, VRel] at hf
        obtain ⟨l, hx, _⟩ := hf
        simp only [hy _ hx]
        simp only [Option.some.injEq] at h; subst h; rfl
      · simp at h

def dirE (h : Option OH) (v : V) (cs : List Prop) : Option (V × List Prop) := match h with
  | some (.dir b) => match v with
    | .bool c => some (.bool b, (c = b) :: cs)
    | _ => none
  | _ => some (v, cs)
theorem dirE_ok {h : Option OH} {v v' : V} {cs cs' : List Prop} (he : dirE h v cs = some (v', cs')) (hc : All cs') : v = v' ∧ All cs := by
  unfold dirE at he
  split at he
  · split at he
    · simp only [Option.some.injEq, Prod.mk.injEq] at he
      obtain ⟨rfl, rfl⟩ := he
      rw [hc.1]; exact ⟨rfl, hc.2⟩
    · simp at he
  · simp only [Option.some.injEq, Prod.mk.injEq] at he
    obtain ⟨rfl, rfl⟩ := he
    exact ⟨rfl, hc⟩

def notDefer : Op → Bool
  | .defer _ => false
  | _ => true

structure StepR where
  ent : Ent
  s : S
  cs : List Prop

def fin (i : Nat) (refs : List Nat) (ls : List (Nat × V)) (rd pre post rest : Heap) (o : Oper) (tmps : List V) (lo : Nat) (chk : Heap) (h : Option OH) (v : V) (cs : List Prop) : Option StepR :=
  bif ndNm rd && (newOk lo (lo + 64) (pre ++ rd) chk && notDefer o.op) then match dirE h v cs with
    | some (v', cs') => some ⟨⟨i, refs, ls, true, rd, pre, post, v'⟩, ⟨putV tmps o.dst v', post ++ rest⟩, cs'⟩
    | none => none
  else none

def stepE (P : Program) (ops : Array Oper) (base : Nat) (hs : List (Nat × OH)) (i : Nat) (s : S) : Option StepR :=
  match ops[i]? with
  | none => none
  | some o =>
    let refs := gref ops o ++ tmpsOf o.op.operands.toList
    let ls := look s.tmps refs
    match wantE ops ls o with
    | none => none
    | some w => match w with
      | false => bif notDefer o.op then some ⟨⟨i, refs, ls, false, [], [], [], .tup []⟩, ⟨putV s.tmps o.dst (.tup []), s.heap⟩, []⟩ else none
      | true =>
        let h := hintFor hs i
        let nd := needs (evL ls) h o.op
        match takeH nd.2 s.heap with
        | none => none
        | some (pre, r) => match h with
          | some (.call sym rdN preN (some (k, tl')) val postC) => match seeH nd.1 (r.take k) with
            | none => none
            | some rd => match o.op with
              | .call c => match c.callee with
                | .value f => match callE P (evL ls) f c.args.toList rd (pre ++ r.drop k) sym val (postC ++ tl') with
                  | none => none
                  | some (v, post, cs) => fin i refs ls rd (pre ++ r.drop k) post (r.take k) o s.tmps (base + 64 * i) postC none v ((∀ n, Heap.dom tl' n → Heap.dom (r.drop k) n) :: (post = postC ++ tl') :: cs)
                | _ => none
              | _ => none
          | h => match seeH nd.1 r with
            | none => none
            | some rd => match opEff P (base + 64 * i) (evL ls) h o.op rd pre with
              | none => none
              | some (v, post, cs) => fin i refs ls rd pre post r o s.tmps (base + 64 * i) post h v cs

theorem fin_ok {ops : Array Oper} {p base i : Nat} {refs : List Nat} {s : S} {rd pre post rest : Heap} {o : Oper} {chk : Heap} {h : Option OH} {v : V} {cs : List Prop} {r : StepR}
    (hf : fin i refs (look s.tmps refs) rd pre post rest o s.tmps (base + 64 * i) chk h v cs = some r) (hc : All r.cs) (ho : ops[i]? = some o) (hw : wantE ops (look s.tmps refs) o = some true)
    (hrd : ∀ q ∈ rd, q ∈ rest) (hp : s.heap.Perm (pre ++ rest))
    (hchk : All cs → ∀ n, post.dom n → Heap.dom chk n ∨ Heap.dom pre n)
    (hstep : ∀ U ρ a w, LookRel U ρ (look s.tmps refs) a → All cs → HRel U ρ (pre ++ rd) w → (∀ k, base + 64 * i ≤ k → k < base + 64 * (i + 1) → ρ (.o k) = none) → (∀ n, Heap.dom (post ++ rd) n → Heap.dom (pre ++ rd) n ∨ ρ n = none) →
      SStep P (execOp a.eval o) U ρ (pre ++ rd) w v (post ++ rd)) :
    r.ent.i = i ∧ Valid P ops p base r.ent ∧ Step ops r.ent s r.s := by
  unfold fin at hf
  cases hb : (ndNm rd && (newOk (base + 64 * i) (base + 64 * i + 64) (pre ++ rd) chk && notDefer o.op)) <;> simp only [hb, cond_true, cond_false, reduceCtorEq] at hf
  rw [Bool.and_eq_true, Bool.and_eq_true] at hb
  obtain ⟨b1, b2, b3⟩ := hb
  cases hd : dirE h v cs with
  | none => simp [hd] at hf
  | some q =>
    obtain ⟨v', cs'⟩ := q
    simp only [hd, Option.some.injEq] at hf
    subst hf
    obtain ⟨rfl, hc'⟩ := dirE_ok hd hc
    have hnew : ∀ n, post.dom n → Heap.dom (pre ++ rd) n ∨ ∃ k, n = .o k ∧ base + 64 * i ≤ k ∧ k < base + 64 * (i + 1) := by
      intro n hn
      rcases hchk hc' n hn with h1 | h1
      · rcases newOk_spec b2 n h1 with h2 | ⟨k, e, h3, h4⟩
        · exact .inl h2
        · exact .inr ⟨k, e, h3, by omega⟩
      · exact .inl (dom_append.2 (.inl h1))
    refine ⟨rfl, ⟨ndNm_nd b1, hnew, o, ho, fun c hc => by rw [hc] at b3; simp [notDefer] at b3, fun U ρ a hl => ⟨wantE_ok hw hl, fun _ w H hfr => ?_, fun hh => by cases hh⟩⟩, rfl, ?_, rest, hrd, hp, List.Perm.refl _⟩
    · refine hstep U ρ a w hl hc' H hfr fun n hn => ?_
      rcases dom_append.1 hn with hn | hn
      · rcases hnew n hn with h1 | ⟨k, rfl, h3, h4⟩
        · exact .inl h1
        · exact .inr (hfr k h3 h4)
      · exact .inl (dom_append.2 (.inr hn))
    · simp [dstOf, ho]

theorem stepE_ok (hng : NoNG P) {ops : Array Oper} {p base i : Nat} {hs : List (Nat × OH)} {s : S} {r : StepR} (h : stepE P ops base hs i s = some r) (hc : All r.cs) : r.ent.i = i ∧ Valid P ops p base r.ent ∧ Step ops r.ent s r.s := by
  unfold stepE at h
  cases ho : ops[i]? with
  | none => simp [ho] at h
  | some o =>
    simp only [ho] at h
    generalize hrefs : gref ops o ++ tmpsOf o.op.operands.toList = refs at h
    cases hw : wantE ops (look s.tmps refs) o with
    | none => simp [hw] at h
    | some w =>
      simp only [hw] at h
      cases w with
      | false =>
        cases hnd : notDefer o.op <;> simp only [hnd, cond_true, cond_false, reduceCtorEq, Option.some.injEq] at h
        subst h
        refine ⟨rfl, ⟨by simp, fun n ⟨b, hb⟩ => by simp at hb, o, ho, fun c hc => by rw [hc] at hnd; simp [notDefer] at hnd, fun U ρ a hl => ⟨wantE_ok hw hl, fun h => absurd h (by simp), fun _ => ⟨rfl, rfl, rfl⟩⟩⟩, rfl, by simp [dstOf, ho], s.heap, by simp, List.Perm.refl _, List.Perm.refl _⟩
      | true =>
        simp only at h
        cases ht : takeH (needs (evL (look s.tmps refs)) (hintFor hs i) o.op).2 s.heap with
        | none => simp [ht] at h
        | some q =>
          obtain ⟨pre, rr⟩ := q
          simp only [ht] at h
          have hperm := takeH_perm ht
          split at h
          · rename_i sym rdN preN k tl' val postC hhint
            split at h
            · simp at h
            · rename_i rd hse
              split at h
              · rename_i c hop
                split at h
                · rename_i f hcl
                  split at h
                  · simp at h
                  · rename_i v post cs hce
                    refine fin_ok h hc ho hw (seeH_mem hse) ?_ (fun hall n hn => ?_) fun U ρ a w hl hall H hfr hnew => ?_
                    · rw [List.append_assoc]
                      exact hperm.trans (List.Perm.append_left pre ((List.Perm.of_eq (List.take_append_drop k rr).symm).trans List.perm_append_comm))
                    · obtain ⟨h1, h2, _⟩ := hall
                      rw [h2] at hn
                      rcases dom_append.1 hn with hn | hn
                      · exact .inl hn
                      · exact .inr (dom_append.2 (.inr (h1 n hn)))
                    · exact call_step hng hop hcl hce hall.2.2 (evL_rel hl) H hnew
                · simp at h
              · simp at h
          · split at h
            · simp at h
            · rename_i rd hse
              split at h
              · simp at h
              · rename_i v post cs hoe
                refine fin_ok h hc ho hw (seeH_mem hse) hperm (fun _ n hn => .inl hn) fun U ρ a w hl hall H hfr hnew => ?_
                exact opEff_ok hng hoe hall (evL_rel hl) H (hfr _ (Nat.le_refl _) (by omega)) hnew

/-! ### Regions -/
def runL (P : Program) (ops : Array Oper) (base : Nat) (hs : List (Nat × OH)) : List Nat → S → Option (List Ent × S × List Prop)
  | [], s => some ([], s, [])
  | i :: l, s => match stepE P ops base hs i s with
    | none => none
    | some r => match runL P ops base hs l r.s with
      | none => none
      | some (L, s', cs) => some (r.ent :: L, s', r.cs ++ cs)
theorem runL_ok (hng : NoNG P) {ops : Array Oper} {p base : Nat} {hs : List (Nat × OH)} : ∀ {l : List Nat} {s s' : S} {L : List Ent} {cs : List Prop}, runL P ops base hs l s = some (L, s', cs) → All cs →
    L.map (·.i) = l ∧ (∀ E ∈ L, Valid P ops p base E) ∧ Chain ops L s s'
  | [], s, s', L, cs, h, _ => by
    simp only [runL, Option.some.injEq, Prod.mk.injEq] at h
    obtain ⟨rfl, rfl, rfl⟩ := h
    exact ⟨rfl, ⟨fun E hE => by simp at hE, rfl, List.Perm.refl _⟩⟩
  | i :: l, s, s', L, cs, h, hc => by
    unfold runL at h
    cases he : stepE P ops base hs i s with
    | none => simp [he] at h
    | some r =>
      simp only [he] at h
      cases hr : runL P ops base hs l r.s with
      | none => simp [hr] at h
      | some q =>
        obtain ⟨L', s2, c2⟩ := q
        simp only [hr, Option.some.injEq, Prod.mk.injEq] at h
        obtain ⟨rfl, rfl, rfl⟩ := h
        obtain ⟨k1, k2⟩ := All_append.1 hc
        obtain ⟨h1, h2, h3⟩ := stepE_ok (p := p) hng he k1
        obtain ⟨h4, h5, h6⟩ := runL_ok (p := p) hng hr k2
        refine ⟨by rw [List.map_cons, h1, h4], fun E hE => ?_, r.s, h3, h6⟩
        rcases List.mem_cons.1 hE with rfl | hE
        · exact h2
        · exact h5 E hE

def orderOk (ops : Array Oper) : List Nat → Bool
  | [] => true
  | y :: l => (match ops[y]? with
    | some o => o.after.toList.all fun e => !Region.binds .any e || Nat.blt e.on y
    | none => true) && orderOk ops l
theorem orderOk_spec {ops : Array Oper} (h : orderOk ops (List.range ops.size) = true) : ∀ y o, ops[y]? = some o → ∀ e ∈ o.after, Region.binds .any e = true → e.on < y := by
  have key : ∀ (l : List Nat), orderOk ops l = true → ∀ y ∈ l, ∀ o, ops[y]? = some o → ∀ e ∈ o.after, Region.binds .any e = true → e.on < y := by
    intro l
    induction l with
    | nil => intro _ y hy; cases hy
    | cons x l ih =>
      intro hh y hy o ho e he hb
      rw [orderOk, Bool.and_eq_true] at hh
      rcases List.mem_cons.1 hy with rfl | hy
      · have h1 := hh.1
        rw [ho] at h1
        simp only [List.all_eq_true, Bool.or_eq_true, Bool.not_eq_true'] at h1
        rcases h1 e (by simpa using he) with h2 | h2
        · rw [hb] at h2; cases h2
        · rwa [Nat.blt_eq] at h2
      · exact ih hh.2 y hy o ho e he hb
  intro y o ho
  exact key _ h y (List.mem_range.2 (Array.getElem?_eq_some_iff.1 ho).1) o ho

def reachB (ops : Array Oper) : Nat → Nat → Nat → Bool
  | 0, _, _ => false
  | f + 1, x, y => match ops[y]? with
    | none => false
    | some o => o.after.toList.any fun e => Region.binds .any e && (Nat.beq e.on x || (Nat.blt x e.on && reachB ops f x e.on))
theorem reachB_ok {ops : Array Oper} : ∀ {f x y : Nat}, reachB ops f x y = true → reach ops f x y
  | 0, x, y, h => by simp [reachB] at h
  | f + 1, x, y, h => by
    unfold reachB at h
    cases ho : ops[y]? with
    | none => simp [ho] at h
    | some o =>
      simp only [ho, List.any_eq_true, Bool.and_eq_true, Bool.or_eq_true] at h
      obtain ⟨e, he, hb, h1⟩ := h
      refine ⟨o, ho, e, by simpa using he, hb, ?_⟩
      rcases h1 with h1 | ⟨_, h1⟩
      · exact .inl (Nat.eq_of_beq_eq_true h1)
      · exact .inr (reachB_ok h1)

def memN (t : Nat) : List Nat → Bool
  | [] => false
  | x :: l => Nat.beq x t || memN t l
theorem memN_false {t : Nat} : ∀ {l : List Nat}, memN t l = false → t ∉ l
  | [], _, hm => by cases hm
  | x :: l, h, hm => by
    rw [memN, Bool.or_eq_false_iff] at h
    rcases List.mem_cons.1 hm with rfl | hm
    · rw [Nat.beq_refl] at h; exact absurd h.1 (by simp)
    · exact memN_false h.2 hm
def apartB (a b : Heap) : Bool := match a with
  | [] => true
  | p :: a' => match b with
    | [] => true
    | _ => !memNm p.1 b && apartB a' b
theorem apartB_ok : ∀ {a b : Heap}, apartB a b = true → Apart a b
  | [], b, _, p, hp, _, _ => by cases hp
  | x :: a, b, h, p, hp, q, hq => by
    unfold apartB at h
    cases b with
    | nil => cases hq
    | cons y b =>
      simp only [Bool.and_eq_true, Bool.not_eq_true'] at h
      rcases List.mem_cons.1 hp with rfl | hp
      · exact fun e => memNm_false h.1 q hq e.symm
      · exact apartB_ok h.2 p hp q hq
def dstApart (d : Option Tmp) (refs : List Nat) : Bool := match d with
  | some t => !memN t refs
  | none => true
def dstNe (d e : Option Tmp) : Bool := match d with
  | some t => match e with
    | some u => !Nat.beq t u
    | none => true
  | none => true
def indepB (ops : Array Oper) (X Y : Ent) : Bool :=
  dstApart (dstOf ops X.i) Y.refs && (dstNe (dstOf ops X.i) (dstOf ops Y.i) && (dstApart (dstOf ops Y.i) X.refs && (apartB X.post Y.pre && (apartB X.post Y.rd && apartB X.rd Y.pre))))
theorem indepB_ok {ops : Array Oper} {X Y : Ent} (h : indepB ops X Y = true) : Indep ops X Y := by
  unfold indepB at h
  simp only [Bool.and_eq_true] at h
  obtain ⟨h1, h2, h3, h4, h5, h6⟩ := h
  refine ⟨fun d hd => ⟨?_, fun he => ?_⟩, fun d hd => ?_, apartB_ok h4, apartB_ok h5, apartB_ok h6⟩
  · rw [hd, dstApart, Bool.not_eq_true'] at h1; exact memN_false h1
  · rw [hd, he, dstNe, Nat.beq_refl] at h2; cases h2
  · rw [hd, dstApart, Bool.not_eq_true'] at h3; exact memN_false h3
def pairsOk (ops : Array Oper) : List Ent → Bool
  | [] => true
  | X :: L => (L.all fun Y => indepB ops X Y || reachB ops 20 X.i Y.i) && pairsOk ops L
theorem pairsOk_spec {ops : Array Oper} : ∀ {L : List Ent}, pairsOk ops L = true → L.Pairwise (fun X Y => (∃ f, reach ops f X.i Y.i) ∨ Indep ops X Y)
  | [], _ => List.Pairwise.nil
  | X :: L, h => by
    rw [pairsOk, Bool.and_eq_true] at h
    refine List.pairwise_cons.2 ⟨fun Y hY => ?_, pairsOk_spec h.2⟩
    have := List.all_eq_true.1 h.1 Y hY
    rw [Bool.or_eq_true] at this
    rcases this with h1 | h1
    · exact .inr (indepB_ok h1)
    · exact .inl ⟨20, reachB_ok h1⟩

def regE (P : Program) (ops : Array Oper) (draw : Bool) (hs : List (Nat × OH)) (st : St) : Option (St × List Prop) :=
  match runL P ops st.next hs (List.range ops.size) ⟨st.tmps, st.heap⟩ with
  | none => none
  | some (L, s, cs) => match draw with
    | false => some (⟨s.tmps, s.heap, st.next + 64 * ops.size, st.dfs⟩, cs)
    | true => bif orderOk ops (List.range ops.size) && pairsOk ops L then some (⟨s.tmps, s.heap, st.next + 64 * ops.size, st.dfs⟩, cs) else none

theorem pairwise_ne {L : List Ent} {N : Nat} (h : L.map (·.i) = List.range N) : L.Pairwise (fun X Y => X.i ≠ Y.i) := by
  have := List.nodup_range (n := N)
  rw [← h] at this
  exact List.pairwise_map.1 this

theorem regE_ok (hng : NoNG P) (hm : P.follows .mixedOrders = true) {ops : Array Oper} {draw : Bool} {ro : Option Nat} {p id : Nat} {hs : List (Nat × OH)} {st st' : St} {cs : List Prop} (h : regE P ops draw hs st = some (st', cs)) (hc : All cs) (hp : p ≤ st.next) :
    p ≤ st'.next ∧ R P ro p (.region id ops draw) st .normal st' := by
  unfold regE at h
  cases hr : runL P ops st.next hs (List.range ops.size) ⟨st.tmps, st.heap⟩ with
  | none => simp [hr] at h
  | some q =>
    obtain ⟨L, s, cs'⟩ := q
    simp only [hr] at h
    have hcs : All cs' ∧ st' = ⟨s.tmps, s.heap, st.next + 64 * ops.size, st.dfs⟩ := by
      split at h
      · simp only [Option.some.injEq, Prod.mk.injEq] at h; obtain ⟨rfl, rfl⟩ := h; exact ⟨hc, rfl⟩
      · cases hb : (orderOk ops (List.range ops.size) && pairsOk ops L) <;> simp only [hb, cond_true, cond_false, reduceCtorEq, Option.some.injEq, Prod.mk.injEq] at h
        obtain ⟨rfl, rfl⟩ := h; exact ⟨hc, rfl⟩
    obtain ⟨hcs, rfl⟩ := hcs
    obtain ⟨h1, h2, h3⟩ := runL_ok (p := p) hng hr hcs
    refine ⟨by simp only; omega, fun U ρ a w Q hst hQ => ?_⟩
    have hlt : ∀ E ∈ L, E.i < ops.size := fun E hE => by
      have : E.i ∈ L.map (·.i) := List.mem_map.2 ⟨E, hE, rfl⟩
      rw [h1] at this; exact List.mem_range.1 this
    have hsr : ∀ w', w'.heap = w.heap → SR U ρ st.tmps st.dfs st.heap (FL st.next ops.size L) a w' := fun w' e =>
      ⟨hst.tmps, hst.dfs, hst.heap.drew e, fun k hk => hst.fresh k (by rcases hk with hk | ⟨E, _, hk, _⟩ <;> omega)⟩
    have hend : ∀ U' ρ' a' w', SR U' ρ' s.tmps st.dfs s.heap (FL st.next ops.size []) a' w' → StRel U' ρ' ⟨s.tmps, s.heap, st.next + 64 * ops.size, st.dfs⟩ a' w' := fun U' ρ' a' w' hs' =>
      ⟨hs'.tmps, hs'.dfs, hs'.heap, fun k hk => hs'.fresh k (.inl hk)⟩
    cases draw with
    | false =>
      have := chain_order (ro := ro) (N := ops.size) (Q := Q) hp L ⟨st.tmps, st.heap⟩ U ρ a w (fun E hE => ⟨h2 E hE, hlt E hE⟩) (pairwise_ne h1) h3 (hsr w rfl) fun U' ρ' a' w' hs' ht' => hQ U' ρ' a' w' (hend _ _ _ _ hs') ht'
      rw [h1] at this
      exact wpIn_region this
    | true =>
      simp only at h
      cases hb : (orderOk ops (List.range ops.size) && pairsOk ops L) <;> simp only [hb, cond_true, cond_false, reduceCtorEq] at h
      rw [Bool.and_eq_true] at hb
      refine wpIn_region_any hm ?_
      refine chain_any (ro := ro) (N := ops.size) hp rfl (orderOk_spec hb.1) ops.size L _ ⟨st.tmps, st.heap⟩ U ρ a _ ?_ (by simp) (fun i hi => ?_) (fun y o hy => ?_) (fun E hE => ⟨h2 E hE, hlt E hE⟩) ?_ h3 (hsr _ rfl)
        fun U' ρ' a' w' hs' ht' => hQ U' ρ' a' w' (hend _ _ _ _ hs') ⟨⟨ht'.ext.size, ht'.ext.imm, ht'.ext.frame, ht'.ext.new, ht'.ext.newImm, ht'.ext.out⟩, ht'.pins⟩
      · have := congrArg List.length h1; simp at this; omega
      · constructor
        · intro _
          have : i ∈ L.map (·.i) := by rw [h1]; exact List.mem_range.2 hi
          obtain ⟨E, hE, e⟩ := List.mem_map.1 this
          exact ⟨E, hE, e⟩
        · intro _; simp [hi]
      · exfalso
        by_cases hh : y < ops.size <;> simp [Array.getD, hh] at hy
      · exact (pairwise_ne h1).and (pairsOk_spec hb.2)
end Sy
