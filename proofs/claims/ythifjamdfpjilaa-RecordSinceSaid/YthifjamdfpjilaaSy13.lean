/-
  Regions: operations in an order, or in any order that the edges let (own work of this seat).
-/
import Derived.Test.YthifjamdfpjilaaSy12
import Derived.OrdersIn
namespace Sy
open Go

variable {P : Program}

structure SR (U : Imm) (ρ : Env) (tmps : List V) (dfs : List Nm) (heap : Heap) (F : Nat → Prop) (a : Act) (w : World) : Prop where
  tmps : VsRel U ρ tmps a.tmps.toList
  dfs : DfRel ρ dfs a.defers
  heap : HRel U ρ heap w
  fresh : ∀ k, F k → ρ (.o k) = none

theorem SR.perm {U ρ tmps dfs} {h h' : Heap} {F : Nat → Prop} {a : Act} {w : World} (s : SR U ρ tmps dfs h F a w) (hp : h.Perm h') : SR U ρ tmps dfs h' F a w :=
  ⟨s.tmps, s.dfs, s.heap.perm hp, s.fresh⟩
theorem perm_dom {h h' : Heap} (hp : h.Perm h') (n : Nm) : h.dom n ↔ h'.dom n := ⟨fun ⟨b, hb⟩ => ⟨b, hp.mem_iff.1 hb⟩, fun ⟨b, hb⟩ => ⟨b, hp.mem_iff.2 hb⟩⟩
theorem Ext.perm {U U' : Imm} {ρ ρ' : Env} {h h1 h' h1' : Heap} {w w' : World} (t : Ext U ρ h w U' ρ' h' w') (hp : h.Perm h1) (hp' : h'.Perm h1') : Ext U ρ h1 w U' ρ' h1' w' :=
  ⟨t.size, t.imm, fun b hb hn => t.frame b hb fun n l hd e hr => hn n l ((perm_dom hp n).1 hd) e hr, fun n l hd e hr => by
    rcases t.new n l ((perm_dom hp' n).2 hd) e hr with h | ⟨n0, l0, h5, h6⟩
    · exact .inl h
    · exact .inr ⟨n0, l0, (perm_dom hp n0).1 h5, h6⟩, fun b c e => by
    rcases t.newImm b c e with h | h | ⟨n0, l0, h5, h6⟩
    · exact .inl h
    · exact .inr (.inl h)
    · exact .inr (.inr ⟨n0, l0, (perm_dom hp n0).1 h5, h6⟩), t.out⟩
theorem Turn.perm {p : Nat} {U U' : Imm} {ρ ρ' : Env} {h h1 h' h1' : Heap} {w w' : World} (t : Turn p U ρ h w U' ρ' h' w') (hp : h.Perm h1) (hp' : h'.Perm h1') : Turn p U ρ h1 w U' ρ' h1' w' :=
  ⟨t.ext.perm hp hp', fun n hn => ⟨(t.pins n hn).1, fun hd => (perm_dom hp n).1 ((t.pins n hn).2 ((perm_dom hp' n).2 hd))⟩⟩

/-- An operation's step, in the state: its own blocks 'pre', the rest as it was. -/
theorem step_F {s : Sem Next} {U : Imm} {ρ : Env} {a : Act} {w : World} {tmps : List V} {dfs : List Nm} {heap pre rest post : Heap} {F F' : Nat → Prop} {val : V} {dst : Option Tmp} {p : Nat} {K : Value → World → Prop}
    (hs : SR U ρ tmps dfs heap F a w) (hperm : heap.Perm (pre ++ rest)) (hF : ∀ k, F' k → F k)
    (hnew : ∀ n, post.dom n → pre.dom n ∨ ∃ k, n = .o k ∧ F k ∧ ¬ F' k ∧ p ≤ k)
    (hstep : SStep P s U ρ pre w val post)
    (hK : ∀ U' ρ' x w', SR U' ρ' (putV tmps dst val) dfs (post ++ rest) F' (a.put dst x) w' → Turn p U ρ heap w U' ρ' (post ++ rest) w' → K x w') :
    Leads P K (s.run P w) := by
  have H := hs.heap.perm hperm
  have hf : ∀ n, post.dom n → pre.dom n ∨ ρ n = none := fun n hd => (hnew n hd).imp id fun ⟨k, hk, h1, _⟩ => by rw [hk]; exact hs.fresh k h1
  have main : ∀ x w', (∃ U' ρ', Leaves U ρ pre w val post x U' ρ' w') → K x w' := by
    rintro x w' ⟨U', ρ', L⟩
    obtain ⟨h1, h2, h3, h4⟩ := L.frame H hf
    refine hK U' (Env.both post ρ' ρ) x w' ⟨?_, ?_, h3, fun k hk => ?_⟩ ⟨h4.perm hperm.symm (List.Perm.refl _), fun n hpn => ?_⟩
    · exact putV_rel (VsRel.mono L.ext.imm h1 hs.tmps) h2 dst
    · have : ∀ (l : List Nm) (d : List Deferred), DfRel ρ l d → DfRel (Env.both post ρ' ρ) l d := by
        intro l
        induction l with
        | nil => exact fun d h => h
        | cons n ns ih => rintro d ⟨lc, r, e1, e2, e3⟩; exact ⟨lc, r, h1 _ _ e1, e2, ih _ e3⟩
      have hd := this _ _ hs.dfs
      cases dst <;> exact hd
    · have hnp : ¬ post.dom (.o k) := fun hd => by
        rcases hnew _ hd with ⟨b, hb⟩ | ⟨k', e, _, h6, _⟩
        · obtain ⟨l, e, _⟩ := H.left.blk _ _ hb; rw [hs.fresh k (hF k hk)] at e; cases e
        · cases e; exact h6 hk
      simp only [Env.both, hnp, if_false]; exact hs.fresh k (hF k hk)
    · constructor
      · by_cases hpd : post.dom n
        · rcases hnew n hpd with hpre | ⟨k, rfl, _, _, h5⟩
          · obtain ⟨l, hl⟩ := H.left.ex hpre
            rw [h1 _ _ hl, hl]
          · simp only [Nm.pin, decide_eq_true_eq] at hpn; omega
        · simp [Env.both, hpd]
      · intro hd
        by_cases hpd : post.dom n
        · rcases hnew n hpd with hpre | ⟨k, rfl, _, _, h5⟩
          · exact (perm_dom hperm n).2 (dom_append.2 (.inl hpre))
          · simp only [Nm.pin, decide_eq_true_eq] at hpn; omega
        · rcases dom_append.1 hd with hd | hd
          · exact absurd hd hpd
          · exact (perm_dom hperm n).2 (dom_append.2 (.inr hd))
  unfold SStep at hstep
  generalize s.run P w = r at hstep ⊢
  cases r with
  | halt h' w' => exact hstep.elim
  | ok x w' =>
    cases x with
    | value v => exact main _ _ hstep
    | skip => exact main _ _ hstep
    | enter f args => exact Calls.mono hstep fun e w'' ⟨v, hv, h⟩ => ⟨v, hv, main _ _ h⟩
    | round l f tmps assign body => exact RoundIn.mono hstep fun e w'' ⟨v, hv, h⟩ => ⟨v, hv, main _ _ h⟩
    | _ => exact hstep.elim

/-! ### Entries: what an operation of a region did -/
/-- The temporaries that are looked at, and their values. -/
def look (tmps : List V) : List Nat → List (Nat × V)
  | [] => []
  | t :: ts => (t, getV tmps t) :: look tmps ts
def LookRel (U : Imm) (ρ : Env) (ls : List (Nat × V)) (a : Act) : Prop := ∀ p ∈ ls, VRel U ρ p.2 (a.tmps.toList.getD p.1 undef)
theorem look_rel {U : Imm} {ρ : Env} {tmps : List V} {a : Act} (h : VsRel U ρ tmps a.tmps.toList) : ∀ ts, LookRel U ρ (look tmps ts) a
  | [], p, hp => by cases hp
  | t :: ts, p, hp => by
    rcases List.mem_cons.1 hp with rfl | hp
    · exact getV_rel t h
    · exact look_rel h ts p hp

structure Ent where
  i : Nat
  refs : List Nat
  ls : List (Nat × V)
  want : Bool
  rd : Heap
  pre : Heap
  post : Heap
  val : V

structure S where
  tmps : List V
  heap : Heap

def dstOf (ops : Array Oper) (i : Nat) : Option Tmp := (ops[i]?).bind (·.dst)

def Step (ops : Array Oper) (E : Ent) (s s' : S) : Prop :=
  look s.tmps E.refs = E.ls ∧ s'.tmps = putV s.tmps (dstOf ops E.i) E.val ∧ ∃ rest, (∀ q ∈ E.rd, q ∈ rest) ∧ s.heap.Perm (E.pre ++ rest) ∧ s'.heap.Perm (E.post ++ rest)
def Chain (ops : Array Oper) : List Ent → S → S → Prop
  | [], s, s' => s.tmps = s'.tmps ∧ s.heap.Perm s'.heap
  | E :: L, s, s' => ∃ s1, Step ops E s s1 ∧ Chain ops L s1 s'

structure Valid (P : Program) (ops : Array Oper) (p base : Nat) (E : Ent) : Prop where
  nd : (E.rd.map Prod.fst).Nodup
  new : ∀ n, E.post.dom n → Heap.dom (E.pre ++ E.rd) n ∨ ∃ k, n = .o k ∧ base + 64 * E.i ≤ k ∧ k < base + 64 * (E.i + 1)
  op : ∃ o, ops[E.i]? = some o ∧ (∀ c, o.op ≠ .defer c) ∧ ∀ U ρ a, LookRel U ρ E.ls a → Region.wanted o (yielded ops a.tmps) = E.want ∧
    (E.want = true → ∀ w, HRel U ρ (E.pre ++ E.rd) w → (∀ k, base + 64 * E.i ≤ k → k < base + 64 * (E.i + 1) → ρ (.o k) = none) → SStep P (execOp a.eval o) U ρ (E.pre ++ E.rd) w E.val (E.post ++ E.rd)) ∧
    (E.want = false → E.val = .tup [] ∧ E.pre = [] ∧ E.post = [])

/-- The names that are still to be used. -/
def FL (base N : Nat) (L : List Ent) (k : Nat) : Prop := base + 64 * N ≤ k ∨ ∃ E ∈ L, base + 64 * E.i ≤ k ∧ k < base + 64 * (E.i + 1)

theorem sub_perm {rd rest : Heap} (hn : (rd.map Prod.fst).Nodup) (h : ∀ q ∈ rd, q ∈ rest) : ∃ r, rest.Perm (rd ++ r) := by
  induction rd generalizing rest with
  | nil => exact ⟨rest, List.Perm.refl _⟩
  | cons x xs ih =>
    rw [List.map_cons, List.nodup_cons] at hn
    obtain ⟨a, b, rfl⟩ := List.append_of_mem (h x (List.mem_cons_self ..))
    obtain ⟨r, hr⟩ := ih (rest := a ++ b) hn.2 (fun q hq => by
      have := h q (List.mem_cons_of_mem _ hq)
      rcases List.mem_append.1 this with h1 | h1
      · exact List.mem_append_left _ h1
      · rcases List.mem_cons.1 h1 with rfl | h1
        · exact (hn.1 (List.mem_map.2 ⟨_, hq, rfl⟩)).elim
        · exact List.mem_append_right _ h1)
    exact ⟨r, List.perm_middle.trans (hr.cons x)⟩

/-- One entry's step, in a world. -/
theorem ent_step {ops : Array Oper} {p base N : Nat} {ro : Option Nat} {E : Ent} {L L' : List Ent} {s s1 : S} {U : Imm} {ρ : Env} {dfs : List Nm} {a : Act} {w : World} {next : Act → World → Prop} {Q : Exit → Act → World → Prop}
    (hv : Valid P ops p base E) (hst : Step ops E s s1) (hp : p ≤ base) (hi : E.i < N) (hL : ∀ X ∈ L', X ∈ L) (hE : E ∈ L) (hne : ∀ X ∈ L', X.i ≠ E.i)  (hlt : ∀ X ∈ L', X.i < N)
    (hs : SR U ρ s.tmps dfs s.heap (FL base N L) a w)
    (hK : ∀ U' ρ' a' w', SR U' ρ' s1.tmps dfs s1.heap (FL base N L') a' w' → Turn p U ρ s.heap w U' ρ' s1.heap w' → next a' w') :
    ∃ o, ops[E.i]? = some o ∧ if Region.wanted o (yielded ops a.tmps) = true then Oper.wpIn (Fw ro) 0 P o a w next Q else (∀ f, o.about P w a.eval = some f → (Fw ro).fn f) ∧ next (a.put o.dst undef) w := by
  obtain ⟨o, ho, hd, hop⟩ := hv.op
  obtain ⟨hl, ht, rest, hrd, hp1, hp2⟩ := hst
  obtain ⟨hw, h1, h2⟩ := hop U ρ a (by rw [← hl]; exact look_rel hs.tmps _)
  have hdst : dstOf ops E.i = o.dst := by simp [dstOf, ho]
  rw [hdst] at ht
  have hFL : ∀ k, FL base N L' k → FL base N L k := fun k hk => hk.imp id fun ⟨X, hX, h⟩ => ⟨X, hL X hX, h⟩
  have hnf : ∀ k, base + 64 * E.i ≤ k → k < base + 64 * (E.i + 1) → ¬ FL base N L' k := by
    rintro k h3 h4 (h5 | ⟨X, hX, h5, h6⟩)
    · omega
    · exact hne X hX (by omega)
  refine ⟨o, ho, ?_⟩
  rw [hw]
  cases hwant : E.want with
  | true =>
    simp only [if_true]
    obtain ⟨r', hr'⟩ := sub_perm hv.nd hrd
    have hperm : s.heap.Perm ((E.pre ++ E.rd) ++ r') := by rw [List.append_assoc]; exact hp1.trans (hr'.append_left _)
    have hperm2 : ((E.post ++ E.rd) ++ r').Perm s1.heap := by rw [List.append_assoc]; exact ((hr'.append_left _).symm.trans hp2.symm)
    have hsub : SStep P (execOp a.eval o) U ρ (E.pre ++ E.rd) w E.val (E.post ++ E.rd) := h1 hwant w (HRel.left (hs.heap.perm hperm)) fun k h3 h4 => hs.fresh k (.inr ⟨E, hE, h3, h4⟩)
    refine wpIn_of_leads hd (step_F (F' := FL base N L') (p := p) (dst := o.dst) hs hperm hFL (fun n hn => ?_) hsub fun U' ρ' x w' hs' ht' => ?_)
    · rcases dom_append.1 hn with hn | hn
      · rcases hv.new n hn with h | ⟨k, e, h3, h4⟩
        · exact .inl h
        · exact .inr ⟨k, e, .inr ⟨E, hE, h3, h4⟩, hnf k h3 h4, by omega⟩
      · exact .inl (dom_append.2 (.inr hn))
    · refine hK U' ρ' _ w' ?_ (ht'.perm (List.Perm.refl _) hperm2)
      rw [ht]; exact hs'.perm hperm2
  | false =>
    obtain ⟨e1, e2, e3⟩ := h2 hwant
    simp only [Bool.false_eq_true, if_false]
    refine ⟨fun f _ => wide_fn ro f, hK U ρ _ w ?_ ?_⟩
    · rw [e2, List.nil_append] at hp1
      rw [e3, List.nil_append] at hp2
      refine SR.perm ⟨?_, ?_, hs.heap, fun k hk => hs.fresh k (hFL k hk)⟩ (hp1.trans hp2.symm)
      · rw [ht, e1]
        exact putV_rel hs.tmps (by rw [VRel]; exact ⟨#[], rfl, by simp [VsRel]⟩) o.dst
      · have := hs.dfs
        cases hdst : o.dst <;> simpa [Act.put, hdst] using this
    · rw [e2, List.nil_append] at hp1
      rw [e3, List.nil_append] at hp2
      exact (Turn.refl p U ρ s.heap w).perm (List.Perm.refl _) (hp1.trans hp2.symm)

/-- In an order. -/
theorem chain_order {ops : Array Oper} {p base N : Nat} {ro : Option Nat} {Q : Exit → Act → World → Prop} {dfs : List Nm} {s' : S} (hp : p ≤ base) : ∀ (L : List Ent) (s : S) (U : Imm) (ρ : Env) (a : Act) (w : World),
    (∀ E ∈ L, Valid P ops p base E ∧ E.i < N) → L.Pairwise (fun X Y => X.i ≠ Y.i) → Chain ops L s s' → SR U ρ s.tmps dfs s.heap (FL base N L) a w →
    (∀ U' ρ' a' w', SR U' ρ' s'.tmps dfs s'.heap (FL base N []) a' w' → Turn p U ρ s.heap w U' ρ' s'.heap w' → Q .normal a' w') → wpOpsIn (Fw ro) 0 P ops Q (L.map (·.i)) a w
  | [], s, U, ρ, a, w, _, _, hc, hs, hQ => by
    obtain ⟨h1, h2⟩ := hc
    simp only [List.map_nil, wpOpsIn]
    exact hQ U ρ a w (by rw [← h1]; exact hs.perm h2) ((Turn.refl p U ρ s.heap w).perm (List.Perm.refl _) h2)
  | E :: L, s, U, ρ, a, w, hv, hpw, hc, hs, hQ => by
    obtain ⟨s1, hst, hc⟩ := hc
    rw [List.pairwise_cons] at hpw
    obtain ⟨o, ho, h⟩ := ent_step (ro := ro) (N := N) (L := E :: L) (L' := L) (next := fun a' w' => wpOpsIn (Fw ro) 0 P ops Q (L.map (·.i)) a' w') (Q := Q) (hv E (List.mem_cons_self ..)).1 hst hp (hv E (List.mem_cons_self ..)).2
      (fun X hX => List.mem_cons_of_mem _ hX) (List.mem_cons_self ..) (fun X hX => (hpw.1 X hX).symm) (fun X hX => (hv X (List.mem_cons_of_mem _ hX)).2) hs fun U1 ρ1 a1 w1 h1 t1 =>
      chain_order hp L s1 U1 ρ1 a1 w1 (fun X hX => hv X (List.mem_cons_of_mem _ hX)) hpw.2 hc h1 fun U' ρ' a' w' h2 t2 => hQ U' ρ' a' w' h2 (t1.trans t2)
    rw [List.map_cons, wpOpsIn, ho]
    exact h

/-! ### Any order -/
def Apart (a b : Heap) : Prop := ∀ p ∈ a, ∀ q ∈ b, p.1 ≠ q.1
/-- The second could as well be done first. -/
structure Indep (ops : Array Oper) (X Y : Ent) : Prop where
  d1 : ∀ d, dstOf ops X.i = some d → d ∉ Y.refs ∧ dstOf ops Y.i ≠ some d
  d2 : ∀ d, dstOf ops Y.i = some d → d ∉ X.refs
  h1 : Apart X.post Y.pre
  h2 : Apart X.post Y.rd
  h3 : Apart X.rd Y.pre

theorem getV_setV_ne {v : V} : ∀ {l : List V} {t d : Nat}, t ≠ d → getV (setV l d v) t = getV l t
  | [], _, _, _ => rfl
  | u :: us, 0, 0, h => absurd rfl h
  | u :: us, 0, d + 1, _ => rfl
  | u :: us, t + 1, 0, _ => rfl
  | u :: us, t + 1, d + 1, h => getV_setV_ne (l := us) (fun e => h (by rw [e]))
theorem setV_comm {v u : V} : ∀ {l : List V} {t d : Nat}, t ≠ d → setV (setV l d v) t u = setV (setV l t u) d v
  | [], _, _, _ => rfl
  | _ :: us, 0, 0, h => absurd rfl h
  | _ :: us, 0, d + 1, _ => rfl
  | _ :: us, t + 1, 0, _ => rfl
  | _ :: us, t + 1, d + 1, h => by simp only [setV]; rw [setV_comm (l := us) (fun e => h (by rw [e]))]
theorem look_put {dst : Option Tmp} {v : V} {l : List V} : ∀ {ts : List Nat}, (∀ d, dst = some d → d ∉ ts) → look (putV l dst v) ts = look l ts
  | [], _ => rfl
  | t :: ts, h => by
    rw [look, look, look_put fun d hd hm => h d hd (List.mem_cons_of_mem _ hm)]
    cases dst with
    | none => rfl
    | some d => rw [putV, getV_setV_ne fun e => h d rfl (by rw [e]; exact List.mem_cons_self ..)]
theorem putV_comm {x y : Option Tmp} {v u : V} {l : List V} (h : ∀ d, x = some d → y ≠ some d) : putV (putV l x v) y u = putV (putV l y u) x v := by
  cases x with
  | none => rfl
  | some d =>
    cases y with
    | none => rfl
    | some t => exact setV_comm fun e => h d rfl (by rw [e])

theorem perm_cross {a b c d : Heap} (hap : Apart a c) (h : (a ++ b).Perm (c ++ d)) : ∃ q, b.Perm (c ++ q) ∧ d.Perm (a ++ q) := by
  induction c generalizing b with
  | nil => exact ⟨b, List.Perm.refl _, h.symm⟩
  | cons x xs ih =>
    have hx : x ∈ a ++ b := h.mem_iff.2 (List.mem_cons_self ..)
    have hxb : x ∈ b := by
      rcases List.mem_append.1 hx with hx | hx
      · exact (hap x hx x (List.mem_cons_self ..) rfl).elim
      · exact hx
    obtain ⟨b1, b2, rfl⟩ := List.append_of_mem hxb
    have h2 : (x :: (a ++ (b1 ++ b2))).Perm (x :: (xs ++ d)) := by
      refine List.Perm.trans ?_ h
      rw [← List.append_assoc a b1 (x :: b2), ← List.append_assoc a b1 b2]
      exact List.perm_middle.symm
    obtain ⟨q, h3, h4⟩ := ih (b := b1 ++ b2) (fun p hp y hy => hap p hp y (List.mem_cons_of_mem _ hy)) h2.cons_inv
    exact ⟨q, List.perm_middle.trans (h3.cons x), h4⟩

theorem swap_steps {ops : Array Oper} {X Y : Ent} {s s1 s2 : S} (hi : Indep ops X Y) (h1 : Step ops X s s1) (h2 : Step ops Y s1 s2) : ∃ s1', Step ops Y s s1' ∧ Step ops X s1' s2 := by
  obtain ⟨l1, t1, r1, a1, b1, c1⟩ := h1
  obtain ⟨l2, t2, r2, a2, b2, c2⟩ := h2
  obtain ⟨q, q1, q2⟩ := perm_cross hi.h1 (c1.symm.trans b2)
  refine ⟨⟨putV s.tmps (dstOf ops Y.i) Y.val, Y.post ++ (X.pre ++ q)⟩, ⟨?_, rfl, X.pre ++ q, fun z hz => ?_, ?_, List.Perm.refl _⟩, ⟨?_, ?_, Y.post ++ q, fun z hz => ?_, ?_, ?_⟩⟩
  · rw [← l2, t1, look_put fun d hd => (hi.d1 d hd).1]
  · have := q2.mem_iff.1 (a2 z hz)
    rcases List.mem_append.1 this with h | h
    · exact (hi.h2 z h z hz rfl).elim
    · exact List.mem_append_right _ h
  · refine b1.trans ((q1.append_left _).trans ?_)
    rw [← List.append_assoc, ← List.append_assoc]
    exact List.perm_append_comm.append_right q
  · rw [← l1]; exact look_put fun d hd => hi.d2 d hd
  · rw [t2, t1]; exact putV_comm fun d hd => (hi.d1 d hd).2
  · have := q1.mem_iff.1 (a1 z hz)
    rcases List.mem_append.1 this with h | h
    · exact (hi.h3 z hz z h rfl).elim
    · exact List.mem_append_right _ h
  · show (Y.post ++ (X.pre ++ q)).Perm _
    rw [← List.append_assoc, ← List.append_assoc]
    exact List.perm_append_comm.append_right q
  · refine c2.trans ((q2.append_left _).trans ?_)
    rw [← List.append_assoc, ← List.append_assoc]
    exact List.perm_append_comm.append_right q

theorem chain_front {ops : Array Oper} {E : Ent} {s' : S} : ∀ {A B : List Ent} {s : S}, (∀ X ∈ A, Indep ops X E) → Chain ops (A ++ E :: B) s s' → Chain ops (E :: (A ++ B)) s s'
  | [], B, s, _, h => h
  | X :: A, B, s, hi, h => by
    obtain ⟨s1, h1, h2⟩ := h
    obtain ⟨s2, h3, h4⟩ := chain_front (A := A) (B := B) (fun Y hY => hi Y (List.mem_cons_of_mem _ hY)) h2
    obtain ⟨s3, h5, h6⟩ := swap_steps (hi X (List.mem_cons_self ..)) h1 h3
    exact ⟨s3, h5, s2, h6, h4⟩

/-- What must come before. -/
def reach (ops : Array Oper) : Nat → Nat → Nat → Prop
  | 0, _, _ => False
  | f + 1, x, y => ∃ o, ops[y]? = some o ∧ ∃ e ∈ o.after, Region.binds .any e = true ∧ (e.on = x ∨ reach ops f x e.on)

def Closed (ops : Array Oper) (listed : Array Bool) : Prop := ∀ y o, listed.getD y false = true → ops[y]? = some o → ∀ e ∈ o.after, Region.binds .any e = true → listed.getD e.on false = true
theorem reach_listed {ops : Array Oper} {listed : Array Bool} (hc : Closed ops listed) {x : Nat} : ∀ {f y : Nat}, (∀ o, ops[y]? = some o → ∀ e ∈ o.after, Region.binds .any e = true → listed.getD e.on false = true) → reach ops f x y → listed.getD x false = true
  | 0, y, _, h => h.elim
  | f + 1, y, hy, h => by
    obtain ⟨o, ho, e, he, hb, h⟩ := h
    have h1 := hy o ho e he hb
    rcases h with h | h
    · rw [← h]; exact h1
    · exact reach_listed hc (fun o' ho' e' he' hb' => hc e.on o' h1 ho' e' he' hb') h

theorem chain_any {ops : Array Oper} {p base N : Nat} {ro : Option Nat} {Q : Exit → Act → World → Prop} {dfs : List Nm} {s' : S} (hp : p ≤ base) (hN : N = ops.size)
    (hord : ∀ y o, ops[y]? = some o → ∀ e ∈ o.after, Region.binds .any e = true → e.on < y) : ∀ (fuel : Nat) (L : List Ent) (listed : Array Bool) (s : S) (U : Imm) (ρ : Env) (a : Act) (w : World),
    L.length ≤ fuel → listed.size = N → (∀ i, i < N → (listed.getD i true = false ↔ ∃ E ∈ L, E.i = i)) → Closed ops listed →
    (∀ E ∈ L, Valid P ops p base E ∧ E.i < N) → L.Pairwise (fun X Y => X.i ≠ Y.i ∧ ((∃ f, reach ops f X.i Y.i) ∨ Indep ops X Y)) → Chain ops L s s' → SR U ρ s.tmps dfs s.heap (FL base N L) a w →
    (∀ U' ρ' a' w', SR U' ρ' s'.tmps dfs s'.heap (FL base N []) a' w' → Turn p U ρ s.heap w U' ρ' s'.heap w' → Q .normal a' w') → wpAnyIn (Fw ro) 0 P .any ops Q fuel listed a w := by
  have fin : ∀ (L : List Ent) (listed : Array Bool) (s : S) (U : Imm) (ρ : Env) (a : Act) (w : World), (∀ i, i < N → (listed.getD i true = false ↔ ∃ E ∈ L, E.i = i)) → Closed ops listed →
      (∀ E ∈ L, Valid P ops p base E ∧ E.i < N) → L.Pairwise (fun X Y => X.i ≠ Y.i ∧ ((∃ f, reach ops f X.i Y.i) ∨ Indep ops X Y)) → Chain ops L s s' → SR U ρ s.tmps dfs s.heap (FL base N L) a w →
      (∀ U' ρ' a' w', SR U' ρ' s'.tmps dfs s'.heap (FL base N []) a' w' → Turn p U ρ s.heap w U' ρ' s'.heap w' → Q .normal a' w') → L = [] → Q .normal a w := by
    intro L listed s U ρ a w _ _ _ _ hc hs hQ hL
    subst hL
    obtain ⟨h1, h2⟩ := hc
    exact hQ U ρ a w (by rw [← h1]; exact hs.perm h2) ((Turn.refl p U ρ s.heap w).perm (List.Perm.refl _) h2)
  have mem : ∀ (L : List Ent) (listed : Array Bool) (i : Nat), (∀ i, i < N → (listed.getD i true = false ↔ ∃ E ∈ L, E.i = i)) → i ∈ Region.ready .any ops listed → ∃ E ∈ L, E.i = i := by
    intro L listed i hl hi
    obtain ⟨h0, o, ho, _⟩ := mem_ready.1 hi
    exact (hl i (by rw [hN]; exact (Array.getElem?_eq_some_iff.1 ho).1)).1 h0
  intro fuel
  induction fuel with
  | zero =>
    intro L listed s U ρ a w hfuel hsz hl hcl hv hpw hc hs hQ
    have hL : L = [] := List.eq_nil_of_length_eq_zero (by omega)
    refine ⟨?_, fin L listed s U ρ a w hl hcl hv hpw hc hs hQ hL⟩
    rw [List.eq_nil_iff_forall_not_mem]
    intro i hi
    obtain ⟨E, hE, _⟩ := mem L listed i hl hi
    rw [hL] at hE; cases hE
  | succ fuel ih =>
    intro L listed s U ρ a w hfuel hsz hl hcl hv hpw hc hs hQ
    refine ⟨fun hr => fin L listed s U ρ a w hl hcl hv hpw hc hs hQ ?_, fun i hi => ?_⟩
    · -- if something is left, its first is ready
      cases L with
      | nil => rfl
      | cons E L =>
        exfalso
        -- the least index among those that are left
        have least : ∀ (n : Nat), (∃ X ∈ E :: L, X.i < n) → ∃ X ∈ E :: L, ∀ Y ∈ E :: L, X.i ≤ Y.i := by
          intro n
          induction n with
          | zero => rintro ⟨X, _, h⟩; omega
          | succ n ihn =>
            rintro ⟨X, hX, h⟩
            by_cases hh : ∃ Y ∈ E :: L, Y.i < n
            · exact ihn hh
            · refine ⟨X, hX, fun Y hY => ?_⟩
              have : ¬ Y.i < n := fun h' => hh ⟨Y, hY, h'⟩
              omega
        obtain ⟨X, hX, hmin⟩ := least (E.i + 1) ⟨E, List.mem_cons_self .., by omega⟩
        obtain ⟨o, ho, _⟩ := (hv X hX).1.op
        have : X.i ∈ Region.ready .any ops listed := by
          refine mem_ready.2 ⟨(hl X.i (hv X hX).2).2 ⟨X, hX, rfl⟩, o, ho, fun e he hb => ?_⟩
          have hlt := hord X.i o ho e he hb
          have hXN := (hv X hX).2
          have hsz' : e.on < listed.size := by omega
          cases hh : listed.getD e.on false with
          | true => rfl
          | false =>
            have h2 : listed.getD e.on true = false := by
              simp [Array.getD, hsz'] at hh ⊢; exact hh
            obtain ⟨Y, hY, e2⟩ := (hl e.on (by omega)).1 h2
            have := hmin Y hY
            omega
        rw [hr] at this; cases this
    · obtain ⟨E, hE, rfl⟩ := mem L listed i hl hi
      obtain ⟨h0, o, ho, hall⟩ := mem_ready.1 hi
      obtain ⟨A, B, rfl⟩ := List.append_of_mem hE
      have hind : ∀ X ∈ A, Indep ops X E := fun X hX => by
        have h1 := (List.pairwise_append.1 hpw).2.2 X hX E (List.mem_cons_self ..)
        rcases h1.2 with ⟨f, hf⟩ | h2
        · exfalso
          have h3 := reach_listed hcl (fun o' ho' e he hb => by rw [ho] at ho'; cases ho'; exact hall e he hb) hf
          have h4 := (hl X.i (hv X (List.mem_append_left _ hX)).2).2 ⟨X, List.mem_append_left _ hX, rfl⟩
          have hlt : X.i < listed.size := by rw [hsz]; exact (hv X (List.mem_append_left _ hX)).2
          simp [Array.getD, hlt] at h3 h4
          rw [h3] at h4; cases h4
        · exact h2
      obtain ⟨s1, hst, hc1⟩ := chain_front hind hc
      have hsub : ∀ X ∈ A ++ B, X ∈ A ++ E :: B := fun X hX => by
        rcases List.mem_append.1 hX with h | h
        · exact List.mem_append_left _ h
        · exact List.mem_append_right _ (List.mem_cons_of_mem _ h)
      have hpw' : (E :: (A ++ B)).Pairwise (fun X Y => X.i ≠ Y.i) := List.Perm.pairwise (List.perm_middle) (hpw.imp fun h => h.1) fun h => h.symm
      rw [List.pairwise_cons] at hpw'
      have hlt := (hv E hE).2
      have hl' : ∀ j, j < N → ((listed.setIfInBounds E.i true).getD j true = false ↔ ∃ X ∈ A ++ B, X.i = j) := by
        intro j hj
        constructor
        · intro hj2
          have hne : E.i ≠ j := fun e => by
            subst e
            have : E.i < listed.size := by omega
            simp [Array.getD, this] at hj2
          rw [getD_set_ne true hne] at hj2
          obtain ⟨X, hX, e⟩ := (hl j hj).1 hj2
          refine ⟨X, ?_, e⟩
          rcases List.mem_append.1 hX with h | h
          · exact List.mem_append_left _ h
          · rcases List.mem_cons.1 h with rfl | h
            · exact (hne e).elim
            · exact List.mem_append_right _ h
        · rintro ⟨X, hX, e⟩
          have hne : E.i ≠ j := fun e' => hpw'.1 X hX (e'.trans e.symm)
          rw [getD_set_ne true hne]
          exact (hl j hj).2 ⟨X, hsub X hX, e⟩
      have hcl' : Closed ops (listed.setIfInBounds E.i true) := by
        intro y o' hy ho2 e he hb
        by_cases hyE : E.i = y
        · subst hyE
          rw [ho] at ho2; cases ho2
          exact getD_set_true (hall e he hb)
        · rw [getD_set_ne false hyE] at hy
          exact getD_set_true (hcl y o' hy ho2 e he hb)
      obtain ⟨o', ho', h⟩ := ent_step (ro := ro) (N := N) (L := A ++ E :: B) (L' := A ++ B) (next := fun a' w' => wpAnyIn (Fw ro) 0 P .any ops Q fuel (listed.setIfInBounds E.i true) a' w') (Q := Q) (hv E hE).1 hst hp hlt
        hsub hE (fun X hX => (hpw'.1 X hX).symm) (fun X hX => (hv X (hsub X hX)).2) hs fun U1 ρ1 a1 w1 h1 t1 =>
        ih (A ++ B) _ s1 U1 ρ1 a1 w1 (by simp at hfuel ⊢; omega) (by simp [hsz]) hl' hcl' (fun X hX => hv X (hsub X hX))
          (hpw.sublist ((List.sublist_cons_self E B).append_left A)) hc1 h1 fun U' ρ' a' w' h2 t2 => hQ U' ρ' a' w' h2 (t1.trans t2)
      unfold wpOpIn; rw [ho']; exact h
end Sy
