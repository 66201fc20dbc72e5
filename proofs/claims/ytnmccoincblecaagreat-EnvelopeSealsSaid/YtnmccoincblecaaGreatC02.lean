/-
  Contracts and laws that the claim's theorem leans on, joined out of the texts Sy13 Sy14 Sy15 SyWk Sy16 (own work of this seat): Regions: operations in an order, or in any order that the edges let; Operations of a region, one by one: the executable part, and its law; Regions and code, executed; Knowing less: weaker values, weaker states, other names; Code, executed along hints; a call's contract out of it.
-/
import Derived.OrdersIn
import Derived.Test.YtnmccoincblecaaGreatC01
set_option linter.unusedVariables false
set_option linter.unusedSimpArgs false
set_option maxHeartbeats 1000000
namespace Sy
open Go
variable {P : Program}
variable {X : List Deferred}
structure SR (X : List Deferred) (U : Imm) (ρ : Env) (tmps : List V) (dfs : List Nm) (heap : c5) (F : Nat → Prop) (a : Act) (w : World) : Prop where
 tmps : i8 U ρ tmps a.tmps.toList
 dfs : I5 X ρ dfs a.defers
 heap : HRel U ρ heap w
 fresh : ∀ k, F k → ρ (.o k) = none
theorem SR.perm {U ρ tmps dfs} {h h' : c5} {F : Nat → Prop} {a : Act} {w : World} (s : SR X U ρ tmps dfs h F a w) (hp : h.Perm h') : SR X U ρ tmps dfs h' F a w :=
 ⟨s.tmps, s.dfs, s.heap.perm hp, s.fresh⟩
theorem E6 {h h' : c5} (hp : h.Perm h') (n : Nm) : h.dom n ↔ h'.dom n := ⟨fun ⟨b, hb⟩ => ⟨b, hp.mem_iff.1 hb⟩, fun ⟨b, hb⟩ => ⟨b, hp.mem_iff.2 hb⟩⟩
theorem Ext.perm {U U' : Imm} {ρ ρ' : Env} {h h1 h' h1' : c5} {w w' : World} (t : Ext U ρ h w U' ρ' h' w') (hp : h.Perm h1) (hp' : h'.Perm h1') : Ext U ρ h1 w U' ρ' h1' w' :=
 ⟨t.size, t.imm, fun b hb hn => t.frame b hb fun n l hd e hr => hn n l ((E6 hp n).1 hd) e hr, fun n l hd e hr => by
  rcases t.new n l ((E6 hp' n).2 hd) e hr with h | ⟨n0, l0, h5, h6⟩
  ·exact .inl h
  ·exact .inr ⟨n0, l0, (E6 hp n0).1 h5, h6⟩, fun b c e => by
  rcases t.newImm b c e with h | h | ⟨n0, l0, h5, h6⟩
  ·exact .inl h
  ·exact .inr (.inl h)
  ·exact .inr (.inr ⟨n0, l0, (E6 hp n0).1 h5, h6⟩), t.out⟩
theorem Turn.perm {p : Nat} {U U' : Imm} {ρ ρ' : Env} {h h1 h' h1' : c5} {w w' : World} (t : Turn p U ρ h w U' ρ' h' w') (hp : h.Perm h1) (hp' : h'.Perm h1') : Turn p U ρ h1 w U' ρ' h1' w' :=
 ⟨t.ext.perm hp hp', fun n hn => ⟨(t.pins n hn).1, fun hd => (E6 hp n).1 ((t.pins n hn).2 ((E6 hp' n).2 hd))⟩⟩
theorem b_0 {s : Sem Next} {U : Imm} {ρ : Env} {a : Act} {w : World} {tmps : List V} {dfs : List Nm} {heap pre rest post : c5} {F F' : Nat → Prop} {val : V} {dst : Option Tmp} {p : Nat} {K : Value → World → Prop}
  (hs : SR X U ρ tmps dfs heap F a w) (hperm : heap.Perm (pre ++ rest)) (hF : ∀ k, F' k → F k)
  (hnew : ∀ n, post.dom n → pre.dom n ∨ ∃ k, n = .o k ∧ F k ∧ ¬ F' k ∧ p ≤ k)
  (hstep : E8 P s U ρ pre w val post)
  (hK : ∀ U' ρ' x w', SR X U' ρ' (K7 tmps dst val) dfs (post ++ rest) F' (a.put dst x) w' → Turn p U ρ heap w U' ρ' (post ++ rest) w' → K x w') :
  an9 P K (s.run P w) := by
 have H := hs.heap.perm hperm
 have hf : ∀ n, post.dom n → pre.dom n ∨ ρ n = none := fun n hd => (hnew n hd).imp id fun ⟨k, hk, h1, _⟩ => by rw [hk]; exact hs.fresh k h1
 have main : ∀ x w', (∃ U' ρ', Leaves U ρ pre w val post x U' ρ' w') → K x w' := by
  rintro x w' ⟨U', ρ', L⟩
  obtain ⟨h1, h2, h3, h4⟩ := L.frame H hf
  refine hK U' (Env.both post ρ' ρ) x w' ⟨?_, ?_, h3, fun k hk => ?_⟩ ⟨h4.perm hperm.symm (List.Perm.refl _), fun n hpn => ?_⟩
  ·exact ad1 (i8.mono L.ext.imm h1 hs.tmps) h2 dst
  ·have : ∀ (l : List Nm) (d : List Deferred), I5 X ρ l d → I5 X (Env.both post ρ' ρ) l d := by
    intro l
    induction l with
    | nil => exact fun d h => h
    | cons n ns ih => rintro d ⟨lc, r, e1, e2, e3⟩; exact ⟨lc, r, h1 _ _ e1, e2, ih _ e3⟩
   have hd := this _ _ hs.dfs
   cases dst <;> exact hd
  ·have hnp : ¬ post.dom (.o k) := fun hd => by
    rcases hnew _ hd with ⟨b, hb⟩ | ⟨k', e, _, h6, _⟩
    ·obtain ⟨l, e, _⟩ := H.left.blk _ _ hb; rw [hs.fresh k (hF k hk)] at e; cases e
    ·cases e; exact h6 hk
   simp only [Env.both, hnp, if_false]; exact hs.fresh k (hF k hk)
  ·constructor
   ·by_cases hpd : post.dom n
    ·rcases hnew n hpd with hpre | ⟨k, rfl, _, _, h5⟩
     ·obtain ⟨l, hl⟩ := H.left.ex hpre
      rw [h1 _ _ hl, hl]
     ·simp only [Nm.pin, decide_eq_true_eq] at hpn; omega
    ·simp [Env.both, hpd]
   ·intro hd
    by_cases hpd : post.dom n
    ·rcases hnew n hpd with hpre | ⟨k, rfl, _, _, h5⟩
     ·exact (E6 hperm n).2 (j7.2 (.inl hpre))
     ·simp only [Nm.pin, decide_eq_true_eq] at hpn; omega
    ·rcases j7.1 hd with hd | hd
     ·exact absurd hd hpd
     ·exact (E6 hperm n).2 (j7.2 (.inr hd))
 unfold E8 at hstep
 generalize s.run P w = r at hstep ⊢
 cases r with
 | halt h' w' => exact hstep.elim
 | ok x w' =>
  cases x with
  | value v => exact main _ _ hstep
  | skip => exact main _ _ hstep
  | enter f args => exact Calls.mono hstep fun e w'' ⟨v, hv, h⟩ => ⟨v, hv, main _ _ h⟩
  | round l f tmps assign body => exact RoundIn.mono hstep fun e w'' ⟨v, hv, h⟩ => ⟨v, hv, main _ _ h⟩
  | _ => exact hstep.elim
def I4 (tmps : List V) : List Nat → List (Nat × V)
 | [] => []
 | t :: ts => (t, m6 tmps t) :: I4 tmps ts
def T8 (U : Imm) (ρ : Env) (ls : List (Nat × V)) (a : Act) : Prop := ∀ p ∈ ls, c9 U ρ p.2 (a.tmps.toList.getD p.1 undef)
theorem aE_ {U : Imm} {ρ : Env} {tmps : List V} {a : Act} (h : i8 U ρ tmps a.tmps.toList) : ∀ ts, T8 U ρ (I4 tmps ts) a
 | [], p, hp => by cases hp
 | t :: ts, p, hp => by
  rcases List.mem_cons.1 hp with rfl | hp
  ·exact W4 t h
  ·exact aE_ h ts p hp
structure Ent where
 i : Nat
 refs : List Nat
 ls : List (Nat × V)
 want : Bool
 rd : c5
 pre : c5
 post : c5
 val : V
structure S where
 tmps : List V
 heap : c5
def F3 (ops : Array Oper) (i : Nat) : Option Tmp := (ops[i]?).bind (·.dst)
def ae1 (ops : Array Oper) (E : Ent) (s s' : S) : Prop :=
 I4 s.tmps E.refs = E.ls ∧ s'.tmps = K7 s.tmps (F3 ops E.i) E.val ∧ ∃ rest, (∀ q ∈ E.rd, q ∈ rest) ∧ s.heap.Perm (E.pre ++ rest) ∧ s'.heap.Perm (E.post ++ rest)
def ab2 (ops : Array Oper) : List Ent → S → S → Prop
 | [], s, s' => s.tmps = s'.tmps ∧ s.heap.Perm s'.heap
 | E :: L, s, s' => ∃ s1, ae1 ops E s s1 ∧ ab2 ops L s1 s'
structure Valid (P : Program) (ops : Array Oper) (p base : Nat) (E : Ent) : Prop where
 nd : (E.rd.map Prod.fst).Nodup
 new : ∀ n, E.post.dom n → c5.dom (E.pre ++ E.rd) n ∨ ∃ k, n = .o k ∧ base + 64 * E.i ≤ k ∧ k < base + 64 * (E.i + 1)
 op : ∃ o, ops[E.i]? = some o ∧ (∀ c, o.op ≠ .defer c) ∧ ∀ U ρ a, T8 U ρ E.ls a → Region.wanted o (yielded ops a.tmps) = E.want ∧
  (E.want = true → ∀ w, HRel U ρ (E.pre ++ E.rd) w → (∀ k, base + 64 * E.i ≤ k → k < base + 64 * (E.i + 1) → ρ (.o k) = none) → E8 P (execOp a.eval o) U ρ (E.pre ++ E.rd) w E.val (E.post ++ E.rd)) ∧
  (E.want = false → E.val = .tup [] ∧ E.pre = [] ∧ E.post = [])
def FL (base N : Nat) (L : List Ent) (k : Nat) : Prop := base + 64 * N ≤ k ∨ ∃ E ∈ L, base + 64 * E.i ≤ k ∧ k < base + 64 * (E.i + 1)
theorem bt7 {rd rest : c5} (hn : (rd.map Prod.fst).Nodup) (h : ∀ q ∈ rd, q ∈ rest) : ∃ r, rest.Perm (rd ++ r) := by
 induction rd generalizing rest with
 | nil => exact ⟨rest, List.Perm.refl _⟩
 | cons x xs ih =>
  rw [List.map_cons, List.nodup_cons] at hn
  obtain ⟨a, b, rfl⟩ := List.append_of_mem (h x (List.mem_cons_self ..))
  obtain ⟨r, hr⟩ := ih (rest := a ++ b) hn.2 (fun q hq => by
   have := h q (List.mem_cons_of_mem _ hq)
   rcases List.mem_append.1 this with h1 | h1
   ·exact List.mem_append_left _ h1
   ·rcases List.mem_cons.1 h1 with rfl | h1
    ·exact (hn.1 (List.mem_map.2 ⟨_, hq, rfl⟩)).elim
    ·exact List.mem_append_right _ h1)
  exact ⟨r, List.perm_middle.trans (hr.cons x)⟩
theorem aD0 {ops : Array Oper} {p base N : Nat} {ro : Option Nat} {E : Ent} {L L' : List Ent} {s s1 : S} {U : Imm} {ρ : Env} {dfs : List Nm} {a : Act} {w : World} {next : Act → World → Prop} {Q : Exit → Act → World → Prop}
  (hv : Valid P ops p base E) (hst : ae1 ops E s s1) (hp : p ≤ base) (hi : E.i < N) (hL : ∀ X ∈ L', X ∈ L) (hE : E ∈ L) (hne : ∀ X ∈ L', X.i ≠ E.i)  (hlt : ∀ X ∈ L', X.i < N)
  (hs : SR X U ρ s.tmps dfs s.heap (FL base N L) a w)
  (hK : ∀ U' ρ' a' w', SR X U' ρ' s1.tmps dfs s1.heap (FL base N L') a' w' → Turn p U ρ s.heap w U' ρ' s1.heap w' → next a' w') :
  ∃ o, ops[E.i]? = some o ∧ if Region.wanted o (yielded ops a.tmps) = true then Oper.wpIn (Fw ro) 0 P o a w next Q else (∀ f, o.about P w a.eval = some f → (Fw ro).fn f) ∧ next (a.put o.dst undef) w := by
 obtain ⟨o, ho, hd, hop⟩ := hv.op
 obtain ⟨hl, ht, rest, hrd, hp1, hp2⟩ := hst
 obtain ⟨hw, h1, h2⟩ := hop U ρ a (by rw [← hl]; exact aE_ hs.tmps _)
 have hdst : F3 ops E.i = o.dst := by simp [F3, ho]
 rw [hdst] at ht
 have hFL : ∀ k, FL base N L' k → FL base N L k := fun k hk => hk.imp id fun ⟨X, hX, h⟩ => ⟨X, hL X hX, h⟩
 have hnf : ∀ k, base + 64 * E.i ≤ k → k < base + 64 * (E.i + 1) → ¬ FL base N L' k := by
  rintro k h3 h4 (h5 | ⟨X, hX, h5, h6⟩)
  ·omega
  ·exact hne X hX (by omega)
 refine ⟨o, ho, ?_⟩
 rw [hw]
 cases hwant : E.want with
 | true =>
  simp only [if_true]
  obtain ⟨r', hr'⟩ := bt7 hv.nd hrd
  have hperm : s.heap.Perm ((E.pre ++ E.rd) ++ r') := by rw [List.append_assoc]; exact hp1.trans (hr'.append_left _)
  have hperm2 : ((E.post ++ E.rd) ++ r').Perm s1.heap := by rw [List.append_assoc]; exact ((hr'.append_left _).symm.trans hp2.symm)
  have hsub : E8 P (execOp a.eval o) U ρ (E.pre ++ E.rd) w E.val (E.post ++ E.rd) := h1 hwant w (HRel.left (hs.heap.perm hperm)) fun k h3 h4 => hs.fresh k (.inr ⟨E, hE, h3, h4⟩)
  refine ae0 hd (b_0 (F' := FL base N L') (p := p) (dst := o.dst) hs hperm hFL (fun n hn => ?_) hsub fun U' ρ' x w' hs' ht' => ?_)
  ·rcases j7.1 hn with hn | hn
   ·rcases hv.new n hn with h | ⟨k, e, h3, h4⟩
    ·exact .inl h
    ·exact .inr ⟨k, e, .inr ⟨E, hE, h3, h4⟩, hnf k h3 h4, by omega⟩
   ·exact .inl (j7.2 (.inr hn))
  ·refine hK U' ρ' _ w' ?_ (ht'.perm (List.Perm.refl _) hperm2)
   rw [ht]; exact hs'.perm hperm2
 | false =>
  obtain ⟨e1, e2, e3⟩ := h2 hwant
  simp only [Bool.false_eq_true, if_false]
  refine ⟨fun f _ => au8 ro f, hK U ρ _ w ?_ ?_⟩
  ·rw [e2, List.nil_append] at hp1
   rw [e3, List.nil_append] at hp2
   refine SR.perm ⟨?_, ?_, hs.heap, fun k hk => hs.fresh k (hFL k hk)⟩ (hp1.trans hp2.symm)
   ·rw [ht, e1]
    exact ad1 hs.tmps (by rw [c9]; exact ⟨#[], rfl, by simp [i8]⟩) o.dst
   ·have := hs.dfs
    cases hdst : o.dst <;> simpa [Act.put, hdst] using this
  ·rw [e2, List.nil_append] at hp1
   rw [e3, List.nil_append] at hp2
   exact (Turn.refl p U ρ s.heap w).perm (List.Perm.refl _) (hp1.trans hp2.symm)
theorem aj3 {ops : Array Oper} {p base N : Nat} {ro : Option Nat} {Q : Exit → Act → World → Prop} {dfs : List Nm} {s' : S} (hp : p ≤ base) : ∀ (L : List Ent) (s : S) (U : Imm) (ρ : Env) (a : Act) (w : World),
  (∀ E ∈ L, Valid P ops p base E ∧ E.i < N) → L.Pairwise (fun X Y => X.i ≠ Y.i) → ab2 ops L s s' → SR X U ρ s.tmps dfs s.heap (FL base N L) a w →
  (∀ U' ρ' a' w', SR X U' ρ' s'.tmps dfs s'.heap (FL base N []) a' w' → Turn p U ρ s.heap w U' ρ' s'.heap w' → Q .normal a' w') → wpOpsIn (Fw ro) 0 P ops Q (L.map (·.i)) a w
 | [], s, U, ρ, a, w, _, _, hc, hs, hQ => by
  obtain ⟨h1, h2⟩ := hc
  simp only [List.map_nil, wpOpsIn]
  exact hQ U ρ a w (by rw [← h1]; exact hs.perm h2) ((Turn.refl p U ρ s.heap w).perm (List.Perm.refl _) h2)
 | E :: L, s, U, ρ, a, w, hv, hpw, hc, hs, hQ => by
  obtain ⟨s1, hst, hc⟩ := hc
  rw [List.pairwise_cons] at hpw
  obtain ⟨o, ho, h⟩ := aD0 (ro := ro) (N := N) (L := E :: L) (L' := L) (next := fun a' w' => wpOpsIn (Fw ro) 0 P ops Q (L.map (·.i)) a' w') (Q := Q) (hv E (List.mem_cons_self ..)).1 hst hp (hv E (List.mem_cons_self ..)).2
   (fun X hX => List.mem_cons_of_mem _ hX) (List.mem_cons_self ..) (fun X hX => (hpw.1 X hX).symm) (fun X hX => (hv X (List.mem_cons_of_mem _ hX)).2) hs fun U1 ρ1 a1 w1 h1 t1 =>
   aj3 hp L s1 U1 ρ1 a1 w1 (fun X hX => hv X (List.mem_cons_of_mem _ hX)) hpw.2 hc h1 fun U' ρ' a' w' h2 t2 => hQ U' ρ' a' w' h2 (t1.trans t2)
  rw [List.map_cons, wpOpsIn, ho]
  exact h
def an7 (a b : c5) : Prop := ∀ p ∈ a, ∀ q ∈ b, p.1 ≠ q.1
structure Indep (ops : Array Oper) (X Y : Ent) : Prop where
 d1 : ∀ d, F3 ops X.i = some d → d ∉ Y.refs ∧ F3 ops Y.i ≠ some d
 d2 : ∀ d, F3 ops Y.i = some d → d ∉ X.refs
 h1 : an7 X.post Y.pre
 h2 : an7 X.post Y.rd
 h3 : an7 X.rd Y.pre
theorem ae_ {v : V} : ∀ {l : List V} {t d : Nat}, t ≠ d → m6 (J8 l d v) t = m6 l t
 | [], _, _, _ => rfl
 | u :: us, 0, 0, h => absurd rfl h
 | u :: us, 0, d + 1, _ => rfl
 | u :: us, t + 1, 0, _ => rfl
 | u :: us, t + 1, d + 1, h => ae_ (l := us) (fun e => h (by rw [e]))
theorem aw5 {v u : V} : ∀ {l : List V} {t d : Nat}, t ≠ d → J8 (J8 l d v) t u = J8 (J8 l t u) d v
 | [], _, _, _ => rfl
 | _ :: us, 0, 0, h => absurd rfl h
 | _ :: us, 0, d + 1, _ => rfl
 | _ :: us, t + 1, 0, _ => rfl
 | _ :: us, t + 1, d + 1, h => by simp only [J8]; rw [aw5 (l := us) (fun e => h (by rw [e]))]
theorem al_ {dst : Option Tmp} {v : V} {l : List V} : ∀ {ts : List Nat}, (∀ d, dst = some d → d ∉ ts) → I4 (K7 l dst v) ts = I4 l ts
 | [], _ => rfl
 | t :: ts, h => by
  rw [I4, I4, al_ fun d hd hm => h d hd (List.mem_cons_of_mem _ hm)]
  cases dst with
  | none => rfl
  | some d => rw [K7, ae_ fun e => h d rfl (by rw [e]; exact List.mem_cons_self ..)]
theorem be3 {x y : Option Tmp} {v u : V} {l : List V} (h : ∀ d, x = some d → y ≠ some d) : K7 (K7 l x v) y u = K7 (K7 l y u) x v := by
 cases x with
 | none => rfl
 | some d =>
  cases y with
  | none => rfl
  | some t => exact aw5 fun e => h d rfl (by rw [e])
theorem aT9 {a b c d : c5} (hap : an7 a c) (h : (a ++ b).Perm (c ++ d)) : ∃ q, b.Perm (c ++ q) ∧ d.Perm (a ++ q) := by
 induction c generalizing b with
 | nil => exact ⟨b, List.Perm.refl _, h.symm⟩
 | cons x xs ih =>
  have hx : x ∈ a ++ b := h.mem_iff.2 (List.mem_cons_self ..)
  have hxb : x ∈ b := by
   rcases List.mem_append.1 hx with hx | hx
   ·exact (hap x hx x (List.mem_cons_self ..) rfl).elim
   ·exact hx
  obtain ⟨b1, b2, rfl⟩ := List.append_of_mem hxb
  have h2 : (x :: (a ++ (b1 ++ b2))).Perm (x :: (xs ++ d)) := by
   refine List.Perm.trans ?_ h
   rw [← List.append_assoc a b1 (x :: b2), ← List.append_assoc a b1 b2]
   exact List.perm_middle.symm
  obtain ⟨q, h3, h4⟩ := ih (b := b1 ++ b2) (fun p hp y hy => hap p hp y (List.mem_cons_of_mem _ hy)) h2.cons_inv
  exact ⟨q, List.perm_middle.trans (h3.cons x), h4⟩
theorem aU5 {ops : Array Oper} {X Y : Ent} {s s1 s2 : S} (hi : Indep ops X Y) (h1 : ae1 ops X s s1) (h2 : ae1 ops Y s1 s2) : ∃ s1', ae1 ops Y s s1' ∧ ae1 ops X s1' s2 := by
 obtain ⟨l1, t1, r1, a1, b1, c1⟩ := h1
 obtain ⟨l2, t2, r2, a2, b2, c2⟩ := h2
 obtain ⟨q, q1, q2⟩ := aT9 hi.h1 (c1.symm.trans b2)
 refine ⟨⟨K7 s.tmps (F3 ops Y.i) Y.val, Y.post ++ (X.pre ++ q)⟩, ⟨?_, rfl, X.pre ++ q, fun z hz => ?_, ?_, List.Perm.refl _⟩, ⟨?_, ?_, Y.post ++ q, fun z hz => ?_, ?_, ?_⟩⟩
 ·rw [← l2, t1, al_ fun d hd => (hi.d1 d hd).1]
 ·have := q2.mem_iff.1 (a2 z hz)
  rcases List.mem_append.1 this with h | h
  ·exact (hi.h2 z h z hz rfl).elim
  ·exact List.mem_append_right _ h
 ·refine b1.trans ((q1.append_left _).trans ?_)
  rw [← List.append_assoc, ← List.append_assoc]
  exact List.perm_append_comm.append_right q
 ·rw [← l1]; exact al_ fun d hd => hi.d2 d hd
 ·rw [t2, t1]; exact be3 fun d hd => (hi.d1 d hd).2
 ·have := q1.mem_iff.1 (a1 z hz)
  rcases List.mem_append.1 this with h | h
  ·exact (hi.h3 z hz z h rfl).elim
  ·exact List.mem_append_right _ h
 ·show (Y.post ++ (X.pre ++ q)).Perm _
  rw [← List.append_assoc, ← List.append_assoc]
  exact List.perm_append_comm.append_right q
 ·refine c2.trans ((q2.append_left _).trans ?_)
  rw [← List.append_assoc, ← List.append_assoc]
  exact List.perm_append_comm.append_right q
theorem aj2 {ops : Array Oper} {E : Ent} {s' : S} : ∀ {A B : List Ent} {s : S}, (∀ X ∈ A, Indep ops X E) → ab2 ops (A ++ E :: B) s s' → ab2 ops (E :: (A ++ B)) s s'
 | [], B, s, _, h => h
 | X :: A, B, s, hi, h => by
  obtain ⟨s1, h1, h2⟩ := h
  obtain ⟨s2, h3, h4⟩ := aj2 (A := A) (B := B) (fun Y hY => hi Y (List.mem_cons_of_mem _ hY)) h2
  obtain ⟨s3, h5, h6⟩ := aU5 (hi X (List.mem_cons_self ..)) h1 h3
  exact ⟨s3, h5, s2, h6, h4⟩
def ai4 (ops : Array Oper) : Nat → Nat → Nat → Prop
 | 0, _, _ => False
 | f + 1, x, y => ∃ o, ops[y]? = some o ∧ ∃ e ∈ o.after, Region.binds .any e = true ∧ (e.on = x ∨ ai4 ops f x e.on)
def an8 (ops : Array Oper) (listed : Array Bool) : Prop := ∀ y o, listed.getD y false = true → ops[y]? = some o → ∀ e ∈ o.after, Region.binds .any e = true → listed.getD e.on false = true
theorem af8 {ops : Array Oper} {listed : Array Bool} (hc : an8 ops listed) {x : Nat} : ∀ {f y : Nat}, (∀ o, ops[y]? = some o → ∀ e ∈ o.after, Region.binds .any e = true → listed.getD e.on false = true) → ai4 ops f x y → listed.getD x false = true
 | 0, y, _, h => h.elim
 | f + 1, y, hy, h => by
  obtain ⟨o, ho, e, he, hb, h⟩ := h
  have h1 := hy o ho e he hb
  rcases h with h | h
  ·rw [← h]; exact h1
  ·exact af8 hc (fun o' ho' e' he' hb' => hc e.on o' h1 ho' e' he' hb') h
theorem a_6 {ops : Array Oper} {p base N : Nat} {ro : Option Nat} {Q : Exit → Act → World → Prop} {dfs : List Nm} {s' : S} (hp : p ≤ base) (hN : N = ops.size)
  (hord : ∀ y o, ops[y]? = some o → ∀ e ∈ o.after, Region.binds .any e = true → e.on < y) : ∀ (fuel : Nat) (L : List Ent) (listed : Array Bool) (s : S) (U : Imm) (ρ : Env) (a : Act) (w : World),
  L.length ≤ fuel → listed.size = N → (∀ i, i < N → (listed.getD i true = false ↔ ∃ E ∈ L, E.i = i)) → an8 ops listed →
  (∀ E ∈ L, Valid P ops p base E ∧ E.i < N) → L.Pairwise (fun X Y => X.i ≠ Y.i ∧ ((∃ f, ai4 ops f X.i Y.i) ∨ Indep ops X Y)) → ab2 ops L s s' → SR X U ρ s.tmps dfs s.heap (FL base N L) a w →
  (∀ U' ρ' a' w', SR X U' ρ' s'.tmps dfs s'.heap (FL base N []) a' w' → Turn p U ρ s.heap w U' ρ' s'.heap w' → Q .normal a' w') → wpAnyIn (Fw ro) 0 P .any ops Q fuel listed a w := by
 have fin : ∀ (L : List Ent) (listed : Array Bool) (s : S) (U : Imm) (ρ : Env) (a : Act) (w : World), (∀ i, i < N → (listed.getD i true = false ↔ ∃ E ∈ L, E.i = i)) → an8 ops listed →
   (∀ E ∈ L, Valid P ops p base E ∧ E.i < N) → L.Pairwise (fun X Y => X.i ≠ Y.i ∧ ((∃ f, ai4 ops f X.i Y.i) ∨ Indep ops X Y)) → ab2 ops L s s' → SR X U ρ s.tmps dfs s.heap (FL base N L) a w →
   (∀ U' ρ' a' w', SR X U' ρ' s'.tmps dfs s'.heap (FL base N []) a' w' → Turn p U ρ s.heap w U' ρ' s'.heap w' → Q .normal a' w') → L = [] → Q .normal a w := by
  intro L listed s U ρ a w _ _ _ _ hc hs hQ hL
  subst hL
  obtain ⟨h1, h2⟩ := hc
  exact hQ U ρ a w (by rw [← h1]; exact hs.perm h2) ((Turn.refl p U ρ s.heap w).perm (List.Perm.refl _) h2)
 have mem : ∀ (L : List Ent) (listed : Array Bool) (i : Nat), (∀ i, i < N → (listed.getD i true = false ↔ ∃ E ∈ L, E.i = i)) → i ∈ Region.ready .any ops listed → ∃ E ∈ L, E.i = i := by
  intro L listed i hl hi
  obtain ⟨h0, o, ho, _⟩ := mem_ready.1 hi
  exact (hl i (by rw [hN]; exact (Array.getElem?_eq_some_iff.1 ho).1)).1 h0
 intro fuel
 induction fuel with
 | zero =>
  intro L listed s U ρ a w hfuel hsz hl hcl hv hpw hc hs hQ
  have hL : L = [] := List.eq_nil_of_length_eq_zero (by omega)
  refine ⟨?_, fin L listed s U ρ a w hl hcl hv hpw hc hs hQ hL⟩
  rw [List.eq_nil_iff_forall_not_mem]
  intro i hi
  obtain ⟨E, hE, _⟩ := mem L listed i hl hi
  rw [hL] at hE; cases hE
 | succ fuel ih =>
  intro L listed s U ρ a w hfuel hsz hl hcl hv hpw hc hs hQ
  refine ⟨fun hr => fin L listed s U ρ a w hl hcl hv hpw hc hs hQ ?_, fun i hi => ?_⟩
  ·-- if something is left, its first is ready
   cases L with
   | nil => rfl
   | cons E L =>
    exfalso
    have least : ∀ (n : Nat), (∃ X ∈ E :: L, X.i < n) → ∃ X ∈ E :: L, ∀ Y ∈ E :: L, X.i ≤ Y.i := by
     intro n
     induction n with
     | zero => rintro ⟨X, _, h⟩; omega
     | succ n ihn =>
      rintro ⟨X, hX, h⟩
      by_cases hh : ∃ Y ∈ E :: L, Y.i < n
      ·exact ihn hh
      ·refine ⟨X, hX, fun Y hY => ?_⟩
       have : ¬ Y.i < n := fun h' => hh ⟨Y, hY, h'⟩
       omega
    obtain ⟨X, hX, hmin⟩ := least (E.i + 1) ⟨E, List.mem_cons_self .., by omega⟩
    obtain ⟨o, ho, _⟩ := (hv X hX).1.op
    have : X.i ∈ Region.ready .any ops listed := by
     refine mem_ready.2 ⟨(hl X.i (hv X hX).2).2 ⟨X, hX, rfl⟩, o, ho, fun e he hb => ?_⟩
     have hlt := hord X.i o ho e he hb
     have hXN := (hv X hX).2
     have hsz' : e.on < listed.size := by omega
     cases hh : listed.getD e.on false with
     | true => rfl
     | false =>
      have h2 : listed.getD e.on true = false := by
       simp [Array.getD, hsz'] at hh ⊢; exact hh
      obtain ⟨Y, hY, e2⟩ := (hl e.on (by omega)).1 h2
      have := hmin Y hY
      omega
    rw [hr] at this; cases this
  ·obtain ⟨E, hE, rfl⟩ := mem L listed i hl hi
   obtain ⟨h0, o, ho, hall⟩ := mem_ready.1 hi
   obtain ⟨A, B, rfl⟩ := List.append_of_mem hE
   have hind : ∀ X ∈ A, Indep ops X E := fun X hX => by
    have h1 := (List.pairwise_append.1 hpw).2.2 X hX E (List.mem_cons_self ..)
    rcases h1.2 with ⟨f, hf⟩ | h2
    ·exfalso
     have h3 := af8 hcl (fun o' ho' e he hb => by rw [ho] at ho'; cases ho'; exact hall e he hb) hf
     have h4 := (hl X.i (hv X (List.mem_append_left _ hX)).2).2 ⟨X, List.mem_append_left _ hX, rfl⟩
     have hlt : X.i < listed.size := by rw [hsz]; exact (hv X (List.mem_append_left _ hX)).2
     simp [Array.getD, hlt] at h3 h4
     rw [h3] at h4; cases h4
    ·exact h2
   obtain ⟨s1, hst, hc1⟩ := aj2 hind hc
   have hsub : ∀ X ∈ A ++ B, X ∈ A ++ E :: B := fun X hX => by
    rcases List.mem_append.1 hX with h | h
    ·exact List.mem_append_left _ h
    ·exact List.mem_append_right _ (List.mem_cons_of_mem _ h)
   have hpw' : (E :: (A ++ B)).Pairwise (fun X Y => X.i ≠ Y.i) := List.Perm.pairwise (List.perm_middle) (hpw.imp fun h => h.1) fun h => h.symm
   rw [List.pairwise_cons] at hpw'
   have hlt := (hv E hE).2
   have hl' : ∀ j, j < N → ((listed.setIfInBounds E.i true).getD j true = false ↔ ∃ X ∈ A ++ B, X.i = j) := by
    intro j hj
    constructor
    ·intro hj2
     have hne : E.i ≠ j := fun e => by
      subst e
      have : E.i < listed.size := by omega
      simp [Array.getD, this] at hj2
     rw [getD_set_ne true hne] at hj2
     obtain ⟨X, hX, e⟩ := (hl j hj).1 hj2
     refine ⟨X, ?_, e⟩
     rcases List.mem_append.1 hX with h | h
     ·exact List.mem_append_left _ h
     ·rcases List.mem_cons.1 h with rfl | h
      ·exact (hne e).elim
      ·exact List.mem_append_right _ h
    ·rintro ⟨X, hX, e⟩
     have hne : E.i ≠ j := fun e' => hpw'.1 X hX (e'.trans e.symm)
     rw [getD_set_ne true hne]
     exact (hl j hj).2 ⟨X, hsub X hX, e⟩
   have hcl' : an8 ops (listed.setIfInBounds E.i true) := by
    intro y o' hy ho2 e he hb
    by_cases hyE : E.i = y
    ·subst hyE
     rw [ho] at ho2; cases ho2
     exact getD_set_true (hall e he hb)
    ·rw [getD_set_ne false hyE] at hy
     exact getD_set_true (hcl y o' hy ho2 e he hb)
   obtain ⟨o', ho', h⟩ := aD0 (ro := ro) (N := N) (L := A ++ E :: B) (L' := A ++ B) (next := fun a' w' => wpAnyIn (Fw ro) 0 P .any ops Q fuel (listed.setIfInBounds E.i true) a' w') (Q := Q) (hv E hE).1 hst hp hlt
    hsub hE (fun X hX => (hpw'.1 X hX).symm) (fun X hX => (hv X (hsub X hX)).2) hs fun U1 ρ1 a1 w1 h1 t1 =>
    ih (A ++ B) _ s1 U1 ρ1 a1 w1 (by simp at hfuel ⊢; omega) (by simp [hsz]) hl' hcl' (fun X hX => hv X (hsub X hX))
     (hpw.sublist ((List.sublist_cons_self E B).append_left A)) hc1 h1 fun U' ρ' a' w' h2 t2 => hQ U' ρ' a' w' h2 (t1.trans t2)
   unfold wpOpIn; rw [ho']; exact h
end Sy
namespace Sy
open Go
variable {P : Program} {U : Imm} {ρ : Env}
def TV (P : Program) (v : V) (args : List V) (pre : c5) (val : V) (post : c5) : Prop :=
 ∀ (U : Imm) (ρ : Env) (w : World) (x : Value) (xs : Array Value), HRel U ρ pre w → c9 U ρ v x → i8 U ρ args xs.toList → (∀ n, post.dom n → pre.dom n ∨ ρ n = none) →
  an9 P (fun y w' => ∃ U' ρ', Leaves U ρ pre w val post y U' ρ' w') ((do let d ← Deferred.ofValue x xs; invoke d.target d.args : Sem Next).run P w)
def ab6 (P : Program) (f : FuncId) : Bool := match P.funcs[f]? with
 | some fn => fn.body.isSome
 | none => false
def L8 (P : Program) : Prop := ∀ (f : FuncId) (fn : Func), P.funcs[f]? = some fn → fn.body.isSome = true → (fn.name == "runtime.NumGoroutine") = false
theorem V3 {a b : List V} {l : List Value} : i8 U ρ (a ++ b) l ↔ ∃ la lb, l = la ++ lb ∧ i8 U ρ a la ∧ i8 U ρ b lb := by
 induction a generalizing l with
 | nil => 
  constructor
  ·intro h; exact ⟨[], l, rfl, by rw [i8], h⟩
  ·rintro ⟨la, lb, rfl, h1, h2⟩; rw [i8] at h1; subst h1; exact h2
 | cons v vs ih =>
  rw [List.cons_append, i8]
  constructor
  ·rintro ⟨x, r, rfl, h1, h2⟩
   obtain ⟨la, lb, rfl, h3, h4⟩ := ih.1 h2
   exact ⟨x :: la, lb, rfl, by rw [i8]; exact ⟨x, la, rfl, h1, h3⟩, h4⟩
  ·rintro ⟨la, lb, rfl, h1, h2⟩
   rw [i8] at h1
   obtain ⟨x, r, rfl, h3, h4⟩ := h1
   exact ⟨x, r ++ lb, by simp, h3, ih.2 ⟨r, lb, rfl, h4, h2⟩⟩
theorem TV.of_T (hng : L8 P) {f : FuncId} {a b args : List V} {pre post : c5} {val : V} (hc : ab6 P f = true) (h : T P f (a ++ (args ++ b)) pre val post) : TV P (.fn (.func f) a b) args pre val post := by
 intro U ρ w x xs hh hx ha hf
 rw [c9] at hx
 obtain ⟨l, m, rfl, h1, h2⟩ := hx
 unfold ab6 at hc
 cases hfn : P.funcs[f]? with
 | none => simp [hfn] at hc
 | some fn =>
  simp only [hfn] at hc
  have hn := hng f fn hfn hc
  have hb : fn.body.isNone = false := by cases hbo : fn.body <;> simp [hbo] at hc ⊢
  have hT := h U ρ w (l ++ xs ++ m) hh (by
   rw [Array.toList_append, Array.toList_append, List.append_assoc]
   exact V3.2 ⟨_, _, rfl, h1, V3.2 ⟨_, _, rfl, ha, h2⟩⟩) hf
  simp only [Deferred.ofValue, Sem.run_bind, Sem.run_pure, Result.andThen_ok, invoke, callFunc, run_program, hfn, hn, hb, Bool.false_eq_true, if_false]
  refine Calls.mono hT ?_
  rintro e w' ⟨y, U', ρ', rfl, hL⟩
  exact ⟨y, rfl, U', ρ', hL⟩
inductive OH where
 | dir (b : Bool)
 | call (sym : Bool) (rd pre : List Nm) (tl : Option (Nat × c5)) (val : V) (post : c5)
 | prim (rd pre : List Nm) (val : V) (post : c5)
def A4 (n : Nm) : c5 → Option (B × c5)
 | [] => none
 | p :: h => bif n.beq p.1 then some (p.2, h) else match A4 n h with
  | some (b, r) => some (b, p :: r)
  | none => none
theorem N4 {n : Nm} : ∀ {h : c5} {b : B} {r : c5}, A4 n h = some (b, r) → h.Perm ((n, b) :: r)
 | [], _, _, e => by simp [A4] at e
 | p :: h, b, r, e => by
  unfold A4 at e
  cases hb : n.beq p.1 with
  | true =>
   simp only [hb, cond_true, Option.some.injEq, Prod.mk.injEq] at e
   obtain ⟨rfl, rfl⟩ := e
   have := Nm.beq_iff.1 hb; subst this
   exact List.Perm.refl _
  | false =>
   simp only [hb, cond_false] at e
   cases hp : A4 n h with
   | none => simp [hp] at e
   | some q =>
    obtain ⟨b', r'⟩ := q
    simp only [hp, Option.some.injEq, Prod.mk.injEq] at e
    obtain ⟨rfl, rfl⟩ := e
    exact ((N4 hp).cons p).trans (List.Perm.swap ..)
def L7 : List Nm → c5 → Option (c5 × c5)
 | [], h => some ([], h)
 | n :: ns, h => match A4 n h with
  | some (b, r) => match L7 ns r with
   | some (bs, r') => some ((n, b) :: bs, r')
   | none => none
  | none => none
theorem T7 : ∀ {ns : List Nm} {h bs r : c5}, L7 ns h = some (bs, r) → h.Perm (bs ++ r)
 | [], h, bs, r, e => by simp only [L7, Option.some.injEq, Prod.mk.injEq] at e; obtain ⟨rfl, rfl⟩ := e; exact List.Perm.refl _
 | n :: ns, h, bs, r, e => by
  unfold L7 at e
  cases hp : A4 n h with
  | none => simp [hp] at e
  | some q =>
   obtain ⟨b, r1⟩ := q
   simp only [hp] at e
   cases ht : L7 ns r1 with
   | none => simp [ht] at e
   | some q2 =>
    obtain ⟨bs', r'⟩ := q2
    simp only [ht, Option.some.injEq, Prod.mk.injEq] at e
    obtain ⟨rfl, rfl⟩ := e
    exact (N4 hp).trans ((T7 ht).cons _)
def am9 : List Nm → c5 → Option c5
 | [], _ => some []
 | n :: ns, h => match A4 n h with
  | some (b, _) => match am9 ns h with
   | some bs => some ((n, b) :: bs)
   | none => none
  | none => none
theorem am_ : ∀ {ns : List Nm} {h bs : c5}, am9 ns h = some bs → ∀ q ∈ bs, q ∈ h
 | [], h, bs, e, q, hq => by simp only [am9, Option.some.injEq] at e; subst e; cases hq
 | n :: ns, h, bs, e, q, hq => by
  unfold am9 at e
  cases hp : A4 n h with
  | none => simp [hp] at e
  | some x =>
   obtain ⟨b, r1⟩ := x
   simp only [hp] at e
   cases ht : am9 ns h with
   | none => simp [ht] at e
   | some bs' =>
    simp only [ht, Option.some.injEq] at e
    subst e
    rcases List.mem_cons.1 hq with rfl | hq
    ·exact (N4 hp).mem_iff.2 (List.mem_cons_self ..)
    ·exact am_ ht q hq
def F4 (n : Nm) : c5 → Bool
 | [] => false
 | p :: h => n.beq p.1 || F4 n h
theorem af4 {n : Nm} : ∀ {h : c5}, F4 n h = true → h.dom n
 | [], e => by simp [F4] at e
 | p :: h, e => by
  rw [F4, Bool.or_eq_true] at e
  rcases e with e | e
  ·have := Nm.beq_iff.1 e; subst this; exact ⟨p.2, List.mem_cons_self ..⟩
  ·obtain ⟨b, hb⟩ := af4 e; exact ⟨b, List.mem_cons_of_mem _ hb⟩
theorem Z7 {n : Nm} : ∀ {h : c5}, F4 n h = false → ∀ q ∈ h, q.1 ≠ n
 | [], _, q, hq => by cases hq
 | p :: h, e, q, hq => by
  rw [F4, Bool.or_eq_false_iff] at e
  rcases List.mem_cons.1 hq with rfl | hq
  ·intro h; have := Nm.beq_iff.2 h.symm; rw [this] at e; exact absurd e.1 (by simp)
  ·exact Z7 e.2 q hq
def aF4 : c5 → Bool
 | [] => true
 | p :: h => !F4 p.1 h && aF4 h
theorem aL8 : ∀ {h : c5}, aF4 h = true → (h.map Prod.fst).Nodup
 | [], _ => List.nodup_nil
 | p :: h, e => by
  rw [aF4, Bool.and_eq_true, Bool.not_eq_true'] at e
  rw [List.map_cons, List.nodup_cons]
  refine ⟨fun hm => ?_, aL8 e.2⟩
  obtain ⟨q, hq, h2⟩ := List.mem_map.1 hm
  exact Z7 e.1 q hq h2
def aq0 (lo hi : Nat) (old : c5) : c5 → Bool
 | [] => true
 | p :: h => (F4 p.1 old || match p.1 with
  | .o k => Nat.ble lo k && Nat.blt k hi
  | .g _ => false) && aq0 lo hi old h
theorem aq1 {lo hi : Nat} {old : c5} : ∀ {h : c5}, aq0 lo hi old h = true → ∀ n, h.dom n → old.dom n ∨ ∃ k, n = .o k ∧ lo ≤ k ∧ k < hi
 | [], _, n, ⟨b, hb⟩ => by cases hb
 | p :: h, e, n, ⟨b, hb⟩ => by
  rw [aq0, Bool.and_eq_true, Bool.or_eq_true] at e
  rcases List.mem_cons.1 hb with h1 | h1
  ·rcases e.1 with e1 | e1
   ·left; rw [← h1] at e1; exact af4 e1
   ·right
    rw [← h1] at e1
    cases n with
    | o k =>
     simp only [Bool.and_eq_true] at e1
     exact ⟨k, rfl, Nat.le_of_ble_eq_true e1.1, by have := e1.2; rwa [Nat.blt_eq] at this⟩
    | g k => simp at e1
  ·exact aq1 e.2 n ⟨b, h1⟩
def ah0 : List Operand → List Nat
 | [] => []
 | x :: r => match x with
  | .tmp t => t :: ah0 r
  | _ => ah0 r
def al2 : List (Nat × V) → Nat → V
 | [], _ => .any
 | p :: r, t => bif Nat.beq p.1 t then p.2 else al2 r t
def evL (ls : List (Nat × V)) (x : Operand) : V := match x with
 | .tmp t => al2 ls t
 | .const v => ap1 v
 | .func f => .fn (.func f) [] []
 | .global _ => .any
theorem al3 {a : Act} {t : Nat} : ∀ {ls : List (Nat × V)}, T8 U ρ ls a → c9 U ρ (al2 ls t) (a.tmps.toList.getD t undef)
 | [], _ => by simp [al2, c9]
 | p :: r, h => by
  rw [al2]
  cases hb : Nat.beq p.1 t with
  | true => have := Nat.eq_of_beq_eq_true hb; subst this; exact h p (List.mem_cons_self ..)
  | false => exact al3 (ls := r) fun q hq => h q (List.mem_cons_of_mem _ hq)
theorem aL3 {a : Act} {ls : List (Nat × V)} (h : T8 U ρ ls a) (x : Operand) : c9 U ρ (evL ls x) (a.eval x) := by
 cases x with
 | tmp t =>
  have := al3 (t := t) h
  simpa [evL, Act.eval] using this
 | const v => exact ap2 U ρ v
 | global g => simp [evL, c9]
 | func f => rw [evL, Act.eval, c9]; exact ⟨#[], #[], rfl, by simp [i8], by simp [i8]⟩
def au0 : V → List Nm
 | .ptr n _ _ _ _ => [n]
 | .sl n _ _ _ _ _ _ => [n]
 | .mp n => [n]
 | _ => []
inductive Prim where
 | append (t tx : TypeId)
 | copy (t tx : TypeId)
 | delete (t tx : TypeId)
 | makeMap (t : TypeId)
 | lookup (t : TypeId) (ok : Bool)
 | mapUpdate (t : TypeId)
 | range (t : TypeId)
 | sliceFrom (t : TypeId)
 | entry
def Prim.exec (ty : TypeId) : Prim → List Value → Sem Next
 | .append t tx, xs => do pure (.value (← Builtin.append_ #[t, tx] ty xs.toArray))
 | .copy t tx, xs => do pure (.value (← Builtin.copy_ #[t, tx] ty xs.toArray))
 | .delete t tx, xs => do pure (.value (← Builtin.delete_ #[t, tx] ty xs.toArray))
 | .makeMap t, _ => do pure (.value (← Instr.makeMap t none))
 | .lookup t ok, [x, i] => do pure (.value (← Instr.lookup t x i ok))
 | .mapUpdate t, [m, k, x] => do Instr.mapUpdate t m k x; pure .skip
 | .range t, [x] => do pure (.value (← Instr.range t x))
 | .sliceFrom t, [x, l] => do pure (.value (← Instr.sliceAt t x (some l) none none))
 | .entry, [x] => do pure (.value (← Instr.entry x))
 | _, _ => stuck "prim"
def aa_ : Op → Option (Prim × List Operand)
 | .makeMap t r => match r with
  | none => some (.makeMap t, [])
  | some _ => none
 | .lookup t x i ok => some (.lookup t ok, [x, i])
 | .mapUpdate t m k x => some (.mapUpdate t, [m, k, x])
 | .range t x => some (.range t, [x])
 | .entry x => some (.entry, [x])
 | .slice t x lo hi mx => match lo, hi, mx with
  | some l, none, none => some (.sliceFrom t, [x, l])
  | _, _, _ => none
 | .call c => match c.callee with
  | .builtin .append => match c.args.toList with
   | [d, s] => match c.argTypes.toList with
    | [t, tx] => some (.append t tx, [d, s])
    | _ => none
   | _ => none
  | .builtin .copy => match c.args.toList with
   | [d, s] => match c.argTypes.toList with
    | [t, tx] => some (.copy t tx, [d, s])
    | _ => none
   | _ => none
  | .builtin .delete => match c.args.toList with
   | [d, s] => match c.argTypes.toList with
    | [t, tx] => some (.delete t tx, [d, s])
    | _ => none
   | _ => none
  | _ => none
 | _ => none
theorem be2 {e : Operand → Value} {o : Oper} {pr : Prim} {xs : List Operand} (h : aa_ o.op = some (pr, xs)) : execOp e o = pr.exec o.type (xs.map e) := by
 unfold execOp
 cases hop : o.op <;> rw [hop] at h <;> simp only [aa_, reduceCtorEq] at h
 case makeMap t r =>
  cases r <;> simp only [reduceCtorEq, Option.some.injEq, Prod.mk.injEq] at h
  obtain ⟨rfl, rfl⟩ := h
  rfl
 case lookup t x i ok =>
  simp only [Option.some.injEq, Prod.mk.injEq] at h
  obtain ⟨rfl, rfl⟩ := h
  rfl
 case mapUpdate t m k x =>
  simp only [Option.some.injEq, Prod.mk.injEq] at h
  obtain ⟨rfl, rfl⟩ := h
  rfl
 case range t x =>
  simp only [Option.some.injEq, Prod.mk.injEq] at h
  obtain ⟨rfl, rfl⟩ := h
  rfl
 case entry x =>
  simp only [Option.some.injEq, Prod.mk.injEq] at h
  obtain ⟨rfl, rfl⟩ := h
  rfl
 case slice t x lo hi mx =>
  cases lo <;> cases hi <;> cases mx <;> simp only [reduceCtorEq, Option.some.injEq, Prod.mk.injEq] at h
  obtain ⟨rfl, rfl⟩ := h
  rfl
 case call c =>
  cases hcl : c.callee with
  | value f => simp [hcl] at h
  | invoke r m => simp [hcl] at h
  | builtin b =>
   cases b <;> simp only [hcl, reduceCtorEq] at h
   all_goals
    split at h
    ·rename_i d s hargs
     split at h
     ·rename_i t tx htys
      simp only [Option.some.injEq, Prod.mk.injEq] at h
      obtain ⟨rfl, rfl⟩ := h
      have e1 : c.args = #[d, s] := by apply Array.ext'; simpa using hargs
      have e2 : c.argTypes = #[t, tx] := by apply Array.ext'; simpa using htys
      have e3 : (#[d, s] : Array Operand).map e = #[e d, e s] := by simp
      simp only [resolve, hcl, e1, e2, e3]
      rfl
     ·simp at h
    ·simp at h
def TO (P : Program) (pr : Prim) (vs : List V) (pre : c5) (val : V) (post : c5) : Prop :=
 ∀ (ty : TypeId) (U : Imm) (ρ : Env) (w : World) (xs : List Value), HRel U ρ pre w → i8 U ρ vs xs → (∀ n, c5.dom post n → c5.dom pre n ∨ ρ n = none) → R8 P ((pr.exec ty xs).run P w) U ρ pre w val post
def bX1 (ev : Operand → V) (h : Option OH) : Op → List Nm × List Nm
 | .load _ a => (au0 (ev a), [])
 | .store _ a _ => ([], au0 (ev a))
 | .convert _ _ x => (au0 (ev x), [])
 | .call c => match c.callee with
  | .builtin .append => match c.args[0]? with
   | some d => match c.args[1]? with
    | some s => (au0 (ev s), au0 (ev d))
    | none => ([], [])
   | none => ([], [])
  | .builtin .copy => match c.args[0]? with
   | some d => ([], au0 (ev d))
   | none => ([], [])
  | .value _ => match h with
   | some (.call _ rd pre _ _ _) => (rd, pre)
   | _ => ([], [])
  | _ => ([], [])
 | _ => ([], [])
def bx5 (ev : Operand → V) (h : Option OH) (op : Op) : List Nm × List Nm := match h with
 | some (.prim rd pre _ _) => (rd, pre)
 | _ => bX1 ev h op
def noH (rd pre : c5) (r : Option Eff) : Option Eff := match rd with
 | [] => match pre with
  | [] => r
  | _ => none
 | _ => none
def ac_ (r : Option (V × List Prop)) : Option Eff := match r with
 | some (v, cs) => some (v, [], cs)
 | none => none
def az5 (P : Program) (ev : Operand → V) (f : Operand) (args : List Operand) (rd pre : c5) (sym : Bool) (val : V) (post : c5) : Option Eff :=
 match sym with
 | true => some (val, post, [TV P (ev f) (K1 ev args) (pre ++ rd) val (post ++ rd)])
 | false => match ev f with
  | .fn g a b => match g with
   | .func k => bif ab6 P k then some (val, post, [T P k (a ++ (K1 ev args ++ b)) (pre ++ rd) val (post ++ rd)]) else none
   | _ => none
  | _ => none
def J5 (P : Program) (base : Nat) (ev : Operand → V) (h : Option OH) (op : Op) (rd pre : c5) : Option Eff :=
 match op with
 | .alloc t => noH rd pre (aA_ P base t)
 | .box _ v => noH rd pre (bm3 base (ev v))
 | .buildSlice t len parts => noH rd pre (Z4 P base t len (aa8 ev parts.toList))
 | .makeSlice t l c => noH rd pre (ac3 P base t (ev l) (ev c))
 | .load t a => match pre with
  | [] => match rd with
   | [] => ac_ (Y4 P ev (.load t a))
   | _ => match ai0 P t (ev a) rd with
    | some (v, _, cs) => some (v, [], cs)
    | none => none
  | _ => none
 | .store t a v => match rd with
  | [] => aH3 P t (ev a) (ev v) pre
  | _ => none
 | .convert s d x => match V7 P s d with
  | true => match pre with
   | [] => match bt6 P s d (ev x) rd with
    | some (v, cs) => some (v, [], cs)
    | none => none
   | _ => none
  | false => match an4 P s d (ev x) with
   | some v => noH rd pre (some (v, [], []))
   | none => match ag0 P s d (ev x) rd with
    | true => match pre with
     | [] => some (ev x, [], [])
     | _ => none
    | false => noH rd pre (ac_ (Y4 P ev (.convert s d x)))
 | .call c => match c.callee with
  | .builtin .append => match c.args.toList with
   | [d, s] => match c.argTypes.toList with
    | [t, tx] => match U4 P base t tx (ev d) (ev s) pre rd with
     | some (v, p :: _, cs) => some (v, [p], cs)
     | _ => none
    | _ => none
   | _ => none
  | .builtin .copy => match rd with
   | [] => match c.args.toList with
    | [d, s] => match c.argTypes.toList with
     | [t, _] => az6 P t (ev d) (ev s) pre
     | _ => none
    | _ => none
   | _ => none
  | .value f => match h with
   | some (.call sym _ _ _ val post) => az5 P ev f c.args.toList rd pre sym val post
   | _ => none
  | _ => noH rd pre (ac_ (Y4 P ev (.call c)))
 | op => noH rd pre (ac_ (Y4 P ev op))
def aS5 (P : Program) (base : Nat) (ev : Operand → V) (h : Option OH) (op : Op) (rd pre : c5) : Option Eff := match h with
 | some (.prim _ _ val post) => match aa_ op with
  | some (pr, xs) => some (val, post, [TO P pr (K1 ev xs) (pre ++ rd) val (post ++ rd)])
  | none => none
 | _ => J5 P base ev h op rd pre
theorem P5 {rd pre : c5} {r : Option Eff} {e : Eff} (h : noH rd pre r = some e) : rd = [] ∧ pre = [] ∧ r = some e := by
 unfold noH at h
 split at h
 ·split at h
  ·exact ⟨rfl, rfl, h⟩
  ·simp at h
 ·simp at h
theorem aq4 {r : Option (V × List Prop)} {v : V} {post : c5} {cs : List Prop} (h : ac_ r = some (v, post, cs)) : post = [] ∧ r = some (v, cs) := by
 unfold ac_ at h
 split at h
 ·simp only [Option.some.injEq, Prod.mk.injEq] at h; obtain ⟨rfl, rfl, rfl⟩ := h; exact ⟨rfl, rfl⟩
 ·simp at h
theorem aS0 {t : TypeId} {a : V} {bs : c5} {r : Eff} (h : ai0 P t a bs = some r) : r.2.1 = bs := by
 unfold ai0 at h
 cases a <;> simp only [reduceCtorEq] at h
 split at h
 ·rename_i n' b
  revert h
  cases (Nm.beq _ n') <;> simp only [cond_true, cond_false, reduceCtorEq, false_implies]
  intro h
  split at h
  ·split at h
   ·simp only [Option.some.injEq] at h; subst h; rfl
   ·simp at h
  ·simp at h
 ·simp at h
theorem aB0 {base : Nat} {t tx : TypeId} {d s : V} {db sb : c5} {r : Eff} (h : U4 P base t tx d s db sb = some r) : ∃ p, r.2.1 = p :: sb := by
 unfold U4 at h
 split at h
 ·split at h
  ·split at h
   ·revert h
    cases (Nat.beq _ _ && _) <;> simp only [cond_true, cond_false, reduceCtorEq, false_implies]
    intro h
    split at h
    ·split at h
     ·simp only [Option.some.injEq] at h; subst h; exact ⟨_, rfl⟩
     ·simp at h
    ·simp at h
   ·simp at h
  ·simp at h
 ·simp at h
theorem be9 {s : Sem Value} {pre post : c5} {val : V} {w : World} (h : ∃ x w' U' ρ', s.run P w = .ok x w' ∧ Leaves U ρ pre w val post x U' ρ' w') :
  E8 P (do pure (.value (← s)) : Sem Next) U ρ pre w val post := by
 obtain ⟨x, w', U', ρ', h1, h2⟩ := h
 exact R8.step ⟨x, w', U', ρ', .inl (bK8 h1), h2⟩
theorem av_ {ev : Operand → V} {e : Operand → Value} {o : Oper} {v : V} {cs : List Prop} {w : World} (h : Y4 P ev o.op = some (v, cs)) (hc : All cs) (hev : ∀ x, c9 U ρ (ev x) (e x)) {pre : c5} (H : HRel U ρ pre w) :
  E8 P (execOp e o) U ρ pre w v pre := by
 obtain ⟨x, h1, h2⟩ := bs8 h hc hev H
 exact R8.step ⟨x, w, U, ρ, .inl h1, Leaves.same H h2 rfl⟩
theorem av1 (hng : L8 P) {ev : Operand → V} {e : Operand → Value} {o : Oper} {c : Call} {f : Operand} {rd pre post : c5} {sym : Bool} {val v : V} {post' : c5} {cs : List Prop} {w : World} (ho : o.op = .call c) (hcl : c.callee = .value f)
  (h : az5 P ev f c.args.toList rd pre sym val post = some (v, post', cs)) (hc : All cs) (hev : ∀ x, c9 U ρ (ev x) (e x)) (H : HRel U ρ (pre ++ rd) w)
  (hnew : ∀ n, c5.dom (post' ++ rd) n → c5.dom (pre ++ rd) n ∨ ρ n = none) : E8 P (execOp e o) U ρ (pre ++ rd) w v (post' ++ rd) := by
 have key : TV P (ev f) (K1 ev c.args.toList) (pre ++ rd) v (post' ++ rd) := by
  unfold az5 at h
  split at h
  ·simp only [Option.some.injEq, Prod.mk.injEq] at h
   obtain ⟨rfl, rfl, rfl⟩ := h
   exact hc.1
  ·split at h
   ·rename_i g a b hfv
    split at h
    ·rename_i k
     cases hk : ab6 P k <;> simp only [hk, cond_true, cond_false, reduceCtorEq, Option.some.injEq, Prod.mk.injEq] at h
     obtain ⟨rfl, rfl, rfl⟩ := h
     rw [hfv]
     exact TV.of_T hng hk hc.1
    ·simp at h
   ·simp at h
 have := key U ρ w (e f) (c.args.map e) H (hev f) (by rw [Array.toList_map]; exact R6 hev _) hnew
 unfold E8 execOp
 simp only [ho, resolve, hcl]
 exact this
theorem bb_ (hng : L8 P) {base : Nat} {ev : Operand → V} {e : Operand → Value} {h : Option OH} {o : Oper} {rd pre post : c5} {v : V} {cs : List Prop} {w : World} (he : J5 P base ev h o.op rd pre = some (v, post, cs)) (hc : All cs)
  (hev : ∀ x, c9 U ρ (ev x) (e x)) (H : HRel U ρ (pre ++ rd) w) (hf : ρ (.o base) = none) (hnew : ∀ n, c5.dom (post ++ rd) n → c5.dom (pre ++ rd) n ∨ ρ n = none) :
  E8 P (execOp e o) U ρ (pre ++ rd) w v (post ++ rd) := by
 have pureCase : ∀ {post : c5} {v : V} {cs : List Prop}, All cs → noH rd pre (ac_ (Y4 P ev o.op)) = some (v, post, cs) → E8 P (execOp e o) U ρ (pre ++ rd) w v (post ++ rd) := by
  intro post v cs hc h
  obtain ⟨rfl, rfl, h1⟩ := P5 h
  obtain ⟨rfl, h2⟩ := aq4 h1
  exact av_ h2 hc hev H
 have ex : ∀ {s : Sem Value}, execOp e o = (do pure (.value (← s)) : Sem Next) → (∃ x w' U' ρ', s.run P w = .ok x w' ∧ Leaves U ρ (pre ++ rd) w v (post ++ rd) x U' ρ' w') → E8 P (execOp e o) U ρ (pre ++ rd) w v (post ++ rd) :=
  fun hs h => by rw [hs]; exact be9 h
 cases hop : o.op
 case alloc t =>
  rw [hop] at he; simp only [J5] at he
  obtain ⟨rfl, rfl, h1⟩ := P5 he
  have := aV6 h1 H hf
  refine ex (s := Instr.alloc t true (.tuple #[])) (by simp only [execOp, hop]) ?_
  simpa using this
 case box t x =>
  rw [hop] at he; simp only [J5] at he
  obtain ⟨rfl, rfl, h1⟩ := P5 he
  have := bE6 (P := P) (t := t) h1 (hev x) H hf
  refine ex (s := Instr.box t (e x)) (by simp only [execOp, hop]) ?_
  simpa using this
 case buildSlice t len parts =>
  rw [hop] at he; simp only [J5] at he
  obtain ⟨rfl, rfl, h1⟩ := P5 he
  have := at0 (xs := parts.map fun (i, x) => (i, e x)) h1 (by rw [Array.toList_map]; exact ac7 hev _) H hf
  refine ex (s := Instr.buildSlice t len (parts.map fun (i, x) => (i, e x))) (by simp only [execOp, hop]) ?_
  simpa using this
 case makeSlice t l c =>
  rw [hop] at he; simp only [J5] at he
  obtain ⟨rfl, rfl, h1⟩ := P5 he
  have := ay9 h1 hc (hev l) (hev c) H hf
  refine ex (s := Instr.makeSlice t (e l) (e c)) (by simp only [execOp, hop]) ?_
  simpa using this
 case load t a =>
  have he0 := he
  rw [hop] at he; simp only [J5] at he
  split at he
  ·split at he
   ·obtain ⟨rfl, h2⟩ := aq4 he
    rw [← hop] at h2
    exact av_ h2 hc hev H
   ·cases hl : ai0 P t (ev a) rd with
    | none => simp [hl] at he
    | some r =>
     obtain ⟨v', p', c'⟩ := r
     simp only [hl, Option.some.injEq, Prod.mk.injEq] at he
     obtain ⟨rfl, rfl, rfl⟩ := he
     have hp := aS0 hl
     simp only at hp
     subst hp
     have := bo5 hl hc (hev a) H
     exact ex (s := Instr.loadAt t (e a)) (by simp only [execOp, hop]) this
  ·simp at he
 case store t a x =>
  rw [hop] at he; simp only [J5] at he
  split at he
  ·obtain ⟨w', U', ρ', h1, h2⟩ := bf0 he hc (hev a) (hev x) (by simpa using H)
   refine R8.step ⟨undef, w', U', ρ', .inr ⟨?_, rfl⟩, by simpa using h2⟩
   simp only [execOp, hop, Sem.run_bind, h1, Result.andThen_ok, Sem.run_pure]
  ·simp at he
 case convert s d x =>
  have he0 := he
  rw [hop] at he; simp only [J5] at he
  cases hbs : V7 P s d with
  | false =>
   simp only [hbs] at he
   split at he
   ·rename_i v' hsb
    obtain ⟨rfl, rfl, h1⟩ := P5 he
    simp only [Option.some.injEq, Prod.mk.injEq] at h1
    obtain ⟨rfl, rfl, rfl⟩ := h1
    obtain ⟨y, w', U', ρ', h2, h3⟩ := aK_ hsb (hev x) (by simpa using H)
    refine R8.step ⟨y, w', U', ρ', .inl ?_, by simpa using h3⟩
    simp only [execOp, hop, Sem.run_bind, h2, Result.andThen_ok, Sem.run_pure]
   ·split at he
    ·rename_i hsb
     split at he
     ·simp only [Option.some.injEq, Prod.mk.injEq] at he
      obtain ⟨rfl, rfl, rfl⟩ := he
      obtain ⟨w', h2, h3⟩ := aG8 hsb (hev x) (by simpa using H)
      refine R8.step ⟨e x, w', U, ρ, .inl ?_, by simpa using h3⟩
      simp only [execOp, hop, Sem.run_bind, h2, Result.andThen_ok, Sem.run_pure]
     ·simp at he
    ·rw [← hop] at he; exact pureCase hc he
  | true =>
   simp only [hbs] at he
   split at he
   ·split at he
    ·rename_i v' c' hst
     simp only [Option.some.injEq, Prod.mk.injEq] at he
     obtain ⟨rfl, rfl, rfl⟩ := he
     obtain ⟨y, h1, h2⟩ := bL2 hst hc (hev x) (by simpa using H)
     refine R8.step ⟨y, w, U, ρ, .inl ?_, Leaves.same H h2 rfl⟩
     simp only [execOp, hop, Sem.run_bind, h1, Result.andThen_ok, Sem.run_pure]
    ·simp at he
   ·simp at he
 case call c =>
  have he0 := he
  rw [hop] at he; simp only [J5] at he
  cases hcl : c.callee with
  | value f =>
   simp only [hcl] at he
   split at he
   ·exact av1 hng hop hcl he hc hev H hnew
   ·simp at he
  | invoke r m => simp only [hcl] at he; rw [← hop] at he; exact pureCase hc he
  | builtin b =>
   simp only [hcl] at he
   split at he
   ·rename_i hb
    cases hb
    split at he
    ·rename_i d s hargs
     split at he
     ·rename_i t tx htys
      split at he
      ·rename_i v' p' rest' c' ha
       simp only [Option.some.injEq, Prod.mk.injEq] at he
       obtain ⟨rfl, rfl, rfl⟩ := he
       obtain ⟨q, hq⟩ := aB0 ha
       simp only [List.cons.injEq] at hq
       obtain ⟨rfl, rfl⟩ := hq
       obtain ⟨y, w', U', ρ', h1, h2⟩ := ao1 (ty := o.type) ha hc (hev d) (hev s) H hf
       have e1 : c.args = #[d, s] := by apply Array.ext'; simpa using hargs
       have e2 : c.argTypes = #[t, tx] := by apply Array.ext'; simpa using htys
       refine R8.step ⟨y, w', U', ρ', .inl ?_, h2⟩
       simp only [execOp, hop, resolve, hcl, Sem.run_bind, Sem.run_pure, Result.andThen_ok, invoke, builtin, e1, e2]
       have : (#[d, s] : Array Operand).map e = #[e d, e s] := by simp
       rw [this, h1]; rfl
      ·simp at he
     ·simp at he
    ·simp at he
   ·rename_i hb
    cases hb
    split at he
    ·split at he
     ·rename_i d s hargs
      split at he
      ·rename_i t tx htys
       obtain ⟨y, w', U', ρ', h1, h2⟩ := aC7 (tx := tx) (ty := o.type) he hc (hev d) (hev s) (by simpa using H)
       have e1 : c.args = #[d, s] := by apply Array.ext'; simpa using hargs
       have e2 : c.argTypes = #[t, tx] := by apply Array.ext'; simpa using htys
       refine R8.step ⟨y, w', U', ρ', .inl ?_, by simpa using h2⟩
       simp only [execOp, hop, resolve, hcl, Sem.run_bind, Sem.run_pure, Result.andThen_ok, invoke, builtin, e1, e2]
       have : (#[d, s] : Array Operand).map e = #[e d, e s] := by simp
       rw [this, h1]; rfl
      ·simp at he
     ·simp at he
    ·simp at he
   ·rename_i hv; cases hv
   ·rw [← hop] at he; exact pureCase hc he
 all_goals
  rw [hop] at he
  simp only [J5] at he
  rw [← hop] at he
  exact pureCase hc he
theorem bp1 (hng : L8 P) {base : Nat} {ev : Operand → V} {e : Operand → Value} {h : Option OH} {o : Oper} {rd pre post : c5} {v : V} {cs : List Prop} {w : World} (he : aS5 P base ev h o.op rd pre = some (v, post, cs)) (hc : All cs)
  (hev : ∀ x, c9 U ρ (ev x) (e x)) (H : HRel U ρ (pre ++ rd) w) (hf : ρ (.o base) = none) (hnew : ∀ n, c5.dom (post ++ rd) n → c5.dom (pre ++ rd) n ∨ ρ n = none) :
  E8 P (execOp e o) U ρ (pre ++ rd) w v (post ++ rd) := by
 unfold aS5 at he
 split at he
 ·split at he
  ·rename_i pr xs hp
   simp only [Option.some.injEq, Prod.mk.injEq] at he
   obtain ⟨rfl, rfl, rfl⟩ := he
   rw [be2 hp]
   exact R8.step (hc.1 _ U ρ w _ H (R6 hev _) hnew)
  ·simp at he
 ·exact bb_ hng he hc hev H hf hnew
end Sy
namespace Sy
open Go
variable {P : Program}
variable {X : List Deferred}
def at6 : List (Nat × OH) → Nat → Option OH
 | [], _ => none
 | p :: r, i => bif Nat.beq p.1 i then some p.2 else at6 r i
def bn3 (ops : Array Oper) (o : Oper) : List Nat := match o.guard with
 | some g => match F3 ops g.1 with
  | some d => [d]
  | none => []
 | none => []
def ai7 (ops : Array Oper) (ls : List (Nat × V)) (o : Oper) : Option Bool := match o.guard with
 | none => some true
 | some g => match F3 ops g.1 with
  | none => none
  | some d => match al2 ls d with
   | .bool c => match c with
    | true => some g.2
    | false => some (!g.2)
   | .tup [] => some false
   | _ => none
theorem aH5 {ops : Array Oper} {ls : List (Nat × V)} {o : Oper} {b : Bool} {U : Imm} {ρ : Env} {a : Act} (h : ai7 ops ls o = some b) (hl : T8 U ρ ls a) : Region.wanted o (yielded ops a.tmps) = b := by
 unfold ai7 at h
 unfold Region.wanted
 cases hg : o.guard with
 | none => simp only [hg, Option.some.injEq] at h; simpa using h
 | some g =>
  obtain ⟨j, want⟩ := g
  simp only [hg] at h
  cases hd : F3 ops j with
  | none => simp [hd] at h
  | some d =>
   simp only [hd] at h
   have hf := al3 (t := d) hl
   have hy : ∀ x, a.tmps.toList.getD d undef = x → yielded ops a.tmps j = match x with
     | .bool b => some b
     | _ => none := by
    intro x hx
    unfold F3 at hd
    unfold yielded
    rw [hd, Option.bind_some]
    rw [List.getD_eq_getElem?_getD, Array.getElem?_toList] at hx
    cases ht : a.tmps[d]? with
    | none => rw [ht] at hx; simp only [Option.getD_none] at hx; subst hx; rfl
    | some y => rw [ht] at hx; simp only [Option.getD_some] at hx; subst hx; cases y <;> rfl
   split at h
   ·rename_i c hc
    rw [hc, c9] at hf
    simp only [hy _ hf]
    cases c <;> simp only [Option.some.injEq] at h <;> subst h <;> cases want <;> rfl
   ·rename_i hc
    rw [hc, c9] at hf
    obtain ⟨l, hx, _⟩ := hf
    simp only [hy _ hx]
    simp only [Option.some.injEq] at h; subst h; rfl
   ·simp at h
def aR4 (h : Option OH) (v : V) (cs : List Prop) : Option (V × List Prop) := match h with
 | some (.dir b) => match v with
  | .bool c => some (.bool b, (c = b) :: cs)
  | _ => none
 | _ => some (v, cs)
theorem bE7 {h : Option OH} {v v' : V} {cs cs' : List Prop} (he : aR4 h v cs = some (v', cs')) (hc : All cs') : v = v' ∧ All cs := by
 unfold aR4 at he
 split at he
 ·split at he
  ·simp only [Option.some.injEq, Prod.mk.injEq] at he
   obtain ⟨rfl, rfl⟩ := he
   rw [hc.1]; exact ⟨rfl, hc.2⟩
  ·simp at he
 ·simp only [Option.some.injEq, Prod.mk.injEq] at he
  obtain ⟨rfl, rfl⟩ := he
  exact ⟨rfl, hc⟩
def P6 : Op → Bool
 | .defer _ => false
 | _ => true
structure StepR where
 ent : Ent
 s : S
 cs : List Prop
def fin (i : Nat) (refs : List Nat) (ls : List (Nat × V)) (rd pre post rest : c5) (o : Oper) (tmps : List V) (lo : Nat) (chk : c5) (h : Option OH) (v : V) (cs : List Prop) : Option StepR :=
 bif aF4 rd && (aq0 lo (lo + 64) (pre ++ rd) chk && P6 o.op) then match aR4 h v cs with
  | some (v', cs') => some ⟨⟨i, refs, ls, true, rd, pre, post, v'⟩, ⟨K7 tmps o.dst v', post ++ rest⟩, cs'⟩
  | none => none
 else none
def ai6 (P : Program) (ops : Array Oper) (base : Nat) (hs : List (Nat × OH)) (i : Nat) (s : S) : Option StepR :=
 match ops[i]? with
 | none => none
 | some o =>
  let refs := bn3 ops o ++ ah0 o.op.operands.toList
  let ls := I4 s.tmps refs
  match ai7 ops ls o with
  | none => none
  | some w => match w with
   | false => bif P6 o.op then some ⟨⟨i, refs, ls, false, [], [], [], .tup []⟩, ⟨K7 s.tmps o.dst (.tup []), s.heap⟩, []⟩ else none
   | true =>
    let h := at6 hs i
    let nd := bx5 (evL ls) h o.op
    match L7 nd.2 s.heap with
    | none => none
    | some (pre, r) => match h with
     | some (.call sym rdN preN (some (k, tl')) val postC) => match am9 nd.1 (r.take k) with
      | none => none
      | some rd => match o.op with
       | .call c => match c.callee with
        | .value f => match az5 P (evL ls) f c.args.toList rd (pre ++ r.drop k) sym val (postC ++ tl') with
         | none => none
         | some (v, post, cs) => fin i refs ls rd (pre ++ r.drop k) post (r.take k) o s.tmps (base + 64 * i) postC none v ((∀ n, c5.dom tl' n → c5.dom (r.drop k) n) :: (post = postC ++ tl') :: cs)
        | _ => none
       | _ => none
     | h => match am9 nd.1 r with
      | none => none
      | some rd => match aS5 P (base + 64 * i) (evL ls) h o.op rd pre with
       | none => none
       | some (v, post, cs) => fin i refs ls rd pre post r o s.tmps (base + 64 * i) post h v cs
theorem ba3 {ops : Array Oper} {p base i : Nat} {refs : List Nat} {s : S} {rd pre post rest : c5} {o : Oper} {chk : c5} {h : Option OH} {v : V} {cs : List Prop} {r : StepR}
  (hf : fin i refs (I4 s.tmps refs) rd pre post rest o s.tmps (base + 64 * i) chk h v cs = some r) (hc : All r.cs) (ho : ops[i]? = some o) (hw : ai7 ops (I4 s.tmps refs) o = some true)
  (hrd : ∀ q ∈ rd, q ∈ rest) (hp : s.heap.Perm (pre ++ rest))
  (hchk : All cs → ∀ n, post.dom n → c5.dom chk n ∨ c5.dom pre n)
  (hstep : ∀ U ρ a w, T8 U ρ (I4 s.tmps refs) a → All cs → HRel U ρ (pre ++ rd) w → (∀ k, base + 64 * i ≤ k → k < base + 64 * (i + 1) → ρ (.o k) = none) → (∀ n, c5.dom (post ++ rd) n → c5.dom (pre ++ rd) n ∨ ρ n = none) →
   E8 P (execOp a.eval o) U ρ (pre ++ rd) w v (post ++ rd)) :
  r.ent.i = i ∧ Valid P ops p base r.ent ∧ ae1 ops r.ent s r.s := by
 unfold fin at hf
 cases hb : (aF4 rd && (aq0 (base + 64 * i) (base + 64 * i + 64) (pre ++ rd) chk && P6 o.op)) <;> simp only [hb, cond_true, cond_false, reduceCtorEq] at hf
 rw [Bool.and_eq_true, Bool.and_eq_true] at hb
 obtain ⟨b1, b2, b3⟩ := hb
 cases hd : aR4 h v cs with
 | none => simp [hd] at hf
 | some q =>
  obtain ⟨v', cs'⟩ := q
  simp only [hd, Option.some.injEq] at hf
  subst hf
  obtain ⟨rfl, hc'⟩ := bE7 hd hc
  have hnew : ∀ n, post.dom n → c5.dom (pre ++ rd) n ∨ ∃ k, n = .o k ∧ base + 64 * i ≤ k ∧ k < base + 64 * (i + 1) := by
   intro n hn
   rcases hchk hc' n hn with h1 | h1
   ·rcases aq1 b2 n h1 with h2 | ⟨k, e, h3, h4⟩
    ·exact .inl h2
    ·exact .inr ⟨k, e, h3, by omega⟩
   ·exact .inl (j7.2 (.inl h1))
  refine ⟨rfl, ⟨aL8 b1, hnew, o, ho, fun c hc => by rw [hc] at b3; simp [P6] at b3, fun U ρ a hl => ⟨aH5 hw hl, fun _ w H hfr => ?_, fun hh => by cases hh⟩⟩, rfl, ?_, rest, hrd, hp, List.Perm.refl _⟩
  ·refine hstep U ρ a w hl hc' H hfr fun n hn => ?_
   rcases j7.1 hn with hn | hn
   ·rcases hnew n hn with h1 | ⟨k, rfl, h3, h4⟩
    ·exact .inl h1
    ·exact .inr (hfr k h3 h4)
   ·exact .inl (j7.2 (.inr hn))
  ·simp [F3, ho]
theorem bt4 (hng : L8 P) {ops : Array Oper} {p base i : Nat} {hs : List (Nat × OH)} {s : S} {r : StepR} (h : ai6 P ops base hs i s = some r) (hc : All r.cs) : r.ent.i = i ∧ Valid P ops p base r.ent ∧ ae1 ops r.ent s r.s := by
 unfold ai6 at h
 cases ho : ops[i]? with
 | none => simp [ho] at h
 | some o =>
  simp only [ho] at h
  generalize hrefs : bn3 ops o ++ ah0 o.op.operands.toList = refs at h
  cases hw : ai7 ops (I4 s.tmps refs) o with
  | none => simp [hw] at h
  | some w =>
   simp only [hw] at h
   cases w with
   | false =>
    cases hnd : P6 o.op <;> simp only [hnd, cond_true, cond_false, reduceCtorEq, Option.some.injEq] at h
    subst h
    refine ⟨rfl, ⟨by simp, fun n ⟨b, hb⟩ => by simp at hb, o, ho, fun c hc => by rw [hc] at hnd; simp [P6] at hnd, fun U ρ a hl => ⟨aH5 hw hl, fun h => absurd h (by simp), fun _ => ⟨rfl, rfl, rfl⟩⟩⟩, rfl, by simp [F3, ho], s.heap, by simp, List.Perm.refl _, List.Perm.refl _⟩
   | true =>
    simp only at h
    cases ht : L7 (bx5 (evL (I4 s.tmps refs)) (at6 hs i) o.op).2 s.heap with
    | none => simp [ht] at h
    | some q =>
     obtain ⟨pre, rr⟩ := q
     simp only [ht] at h
     have hperm := T7 ht
     split at h
     ·rename_i sym rdN preN k tl' val postC hhint
      split at h
      ·simp at h
      ·rename_i rd hse
       split at h
       ·rename_i c hop
        split at h
        ·rename_i f hcl
         split at h
         ·simp at h
         ·rename_i v post cs hce
          refine ba3 h hc ho hw (am_ hse) ?_ (fun hall n hn => ?_) fun U ρ a w hl hall H hfr hnew => ?_
          ·rw [List.append_assoc]
           exact hperm.trans (List.Perm.append_left pre ((List.Perm.of_eq (List.take_append_drop k rr).symm).trans List.perm_append_comm))
          ·obtain ⟨h1, h2, _⟩ := hall
           rw [h2] at hn
           rcases j7.1 hn with hn | hn
           ·exact .inl hn
           ·exact .inr (j7.2 (.inr (h1 n hn)))
          ·exact av1 hng hop hcl hce hall.2.2 (aL3 hl) H hnew
        ·simp at h
       ·simp at h
     ·split at h
      ·simp at h
      ·rename_i rd hse
       split at h
       ·simp at h
       ·rename_i v post cs hoe
        refine ba3 h hc ho hw (am_ hse) hperm (fun _ n hn => .inl hn) fun U ρ a w hl hall H hfr hnew => ?_
        exact bp1 hng hoe hall (aL3 hl) H (hfr _ (Nat.le_refl _) (by omega)) hnew
def am7 (P : Program) (ops : Array Oper) (base : Nat) (hs : List (Nat × OH)) : List Nat → S → Option (List Ent × S × List Prop)
 | [], s => some ([], s, [])
 | i :: l, s => match ai6 P ops base hs i s with
  | none => none
  | some r => match am7 P ops base hs l r.s with
   | none => none
   | some (L, s', cs) => some (r.ent :: L, s', r.cs ++ cs)
theorem aM0 (hng : L8 P) {ops : Array Oper} {p base : Nat} {hs : List (Nat × OH)} : ∀ {l : List Nat} {s s' : S} {L : List Ent} {cs : List Prop}, am7 P ops base hs l s = some (L, s', cs) → All cs →
  L.map (·.i) = l ∧ (∀ E ∈ L, Valid P ops p base E) ∧ ab2 ops L s s'
 | [], s, s', L, cs, h, _ => by
  simp only [am7, Option.some.injEq, Prod.mk.injEq] at h
  obtain ⟨rfl, rfl, rfl⟩ := h
  exact ⟨rfl, ⟨fun E hE => by simp at hE, rfl, List.Perm.refl _⟩⟩
 | i :: l, s, s', L, cs, h, hc => by
  unfold am7 at h
  cases he : ai6 P ops base hs i s with
  | none => simp [he] at h
  | some r =>
   simp only [he] at h
   cases hr : am7 P ops base hs l r.s with
   | none => simp [hr] at h
   | some q =>
    obtain ⟨L', s2, c2⟩ := q
    simp only [hr, Option.some.injEq, Prod.mk.injEq] at h
    obtain ⟨rfl, rfl, rfl⟩ := h
    obtain ⟨k1, k2⟩ := f6.1 hc
    obtain ⟨h1, h2, h3⟩ := bt4 (p := p) hng he k1
    obtain ⟨h4, h5, h6⟩ := aM0 (p := p) hng hr k2
    refine ⟨by rw [List.map_cons, h1, h4], fun E hE => ?_, r.s, h3, h6⟩
    rcases List.mem_cons.1 hE with rfl | hE
    ·exact h2
    ·exact h5 E hE
def P8 (ops : Array Oper) : List Nat → Bool
 | [] => true
 | y :: l => (match ops[y]? with
  | some o => o.after.toList.all fun e => !Region.binds .any e || Nat.blt e.on y
  | none => true) && P8 ops l
theorem aF6 {ops : Array Oper} (h : P8 ops (List.range ops.size) = true) : ∀ y o, ops[y]? = some o → ∀ e ∈ o.after, Region.binds .any e = true → e.on < y := by
 have key : ∀ (l : List Nat), P8 ops l = true → ∀ y ∈ l, ∀ o, ops[y]? = some o → ∀ e ∈ o.after, Region.binds .any e = true → e.on < y := by
  intro l
  induction l with
  | nil => intro _ y hy; cases hy
  | cons x l ih =>
   intro hh y hy o ho e he hb
   rw [P8, Bool.and_eq_true] at hh
   rcases List.mem_cons.1 hy with rfl | hy
   ·have h1 := hh.1
    rw [ho] at h1
    simp only [List.all_eq_true, Bool.or_eq_true, Bool.not_eq_true'] at h1
    rcases h1 e (by simpa using he) with h2 | h2
    ·rw [hb] at h2; cases h2
    ·rwa [Nat.blt_eq] at h2
   ·exact ih hh.2 y hy o ho e he hb
 intro y o ho
 exact key _ h y (List.mem_range.2 (Array.getElem?_eq_some_iff.1 ho).1) o ho
def af7 (ops : Array Oper) : Nat → Nat → Nat → Bool
 | 0, _, _ => false
 | f + 1, x, y => match ops[y]? with
  | none => false
  | some o => o.after.toList.any fun e => Region.binds .any e && (Nat.beq e.on x || (Nat.blt x e.on && af7 ops f x e.on))
theorem aw1 {ops : Array Oper} : ∀ {f x y : Nat}, af7 ops f x y = true → ai4 ops f x y
 | 0, x, y, h => by simp [af7] at h
 | f + 1, x, y, h => by
  unfold af7 at h
  cases ho : ops[y]? with
  | none => simp [ho] at h
  | some o =>
   simp only [ho, List.any_eq_true, Bool.and_eq_true, Bool.or_eq_true] at h
   obtain ⟨e, he, hb, h1⟩ := h
   refine ⟨o, ho, e, by simpa using he, hb, ?_⟩
   rcases h1 with h1 | ⟨_, h1⟩
   ·exact .inl (Nat.eq_of_beq_eq_true h1)
   ·exact .inr (aw1 h1)
def aS2 (t : Nat) : List Nat → Bool
 | [] => false
 | x :: l => Nat.beq x t || aS2 t l
theorem ac5 {t : Nat} : ∀ {l : List Nat}, aS2 t l = false → t ∉ l
 | [], _, hm => by cases hm
 | x :: l, h, hm => by
  rw [aS2, Bool.or_eq_false_iff] at h
  rcases List.mem_cons.1 hm with rfl | hm
  ·rw [Nat.beq_refl] at h; exact absurd h.1 (by simp)
  ·exact ac5 h.2 hm
def aa3 (a b : c5) : Bool := match a with
 | [] => true
 | p :: a' => match b with
  | [] => true
  | _ => !F4 p.1 b && aa3 a' b
theorem X5 : ∀ {a b : c5}, aa3 a b = true → an7 a b
 | [], b, _, p, hp, _, _ => by cases hp
 | x :: a, b, h, p, hp, q, hq => by
  unfold aa3 at h
  cases b with
  | nil => cases hq
  | cons y b =>
   simp only [Bool.and_eq_true, Bool.not_eq_true'] at h
   rcases List.mem_cons.1 hp with rfl | hp
   ·exact fun e => Z7 h.1 q hq e.symm
   ·exact X5 h.2 p hp q hq
def ab_ (d : Option Tmp) (refs : List Nat) : Bool := match d with
 | some t => !aS2 t refs
 | none => true
def bw_ (d e : Option Tmp) : Bool := match d with
 | some t => match e with
  | some u => !Nat.beq t u
  | none => true
 | none => true
def aE5 (ops : Array Oper) (X Y : Ent) : Bool :=
 ab_ (F3 ops X.i) Y.refs && (bw_ (F3 ops X.i) (F3 ops Y.i) && (ab_ (F3 ops Y.i) X.refs && (aa3 X.post Y.pre && (aa3 X.post Y.rd && aa3 X.rd Y.pre))))
theorem bb1 {ops : Array Oper} {X Y : Ent} (h : aE5 ops X Y = true) : Indep ops X Y := by
 unfold aE5 at h
 simp only [Bool.and_eq_true] at h
 obtain ⟨h1, h2, h3, h4, h5, h6⟩ := h
 refine ⟨fun d hd => ⟨?_, fun he => ?_⟩, fun d hd => ?_, X5 h4, X5 h5, X5 h6⟩
 ·rw [hd, ab_, Bool.not_eq_true'] at h1; exact ac5 h1
 ·rw [hd, he, bw_, Nat.beq_refl] at h2; cases h2
 ·rw [hd, ab_, Bool.not_eq_true'] at h3; exact ac5 h3
def U5 (ops : Array Oper) : List Ent → Bool
 | [] => true
 | X :: L => (L.all fun Y => aE5 ops X Y || af7 ops 20 X.i Y.i) && U5 ops L
theorem af5 {ops : Array Oper} : ∀ {L : List Ent}, U5 ops L = true → L.Pairwise (fun X Y => (∃ f, ai4 ops f X.i Y.i) ∨ Indep ops X Y)
 | [], _ => List.Pairwise.nil
 | X :: L, h => by
  rw [U5, Bool.and_eq_true] at h
  refine List.pairwise_cons.2 ⟨fun Y hY => ?_, af5 h.2⟩
  have := List.all_eq_true.1 h.1 Y hY
  rw [Bool.or_eq_true] at this
  rcases this with h1 | h1
  ·exact .inr (bb1 h1)
  ·exact .inl ⟨20, aw1 h1⟩
def af9 (P : Program) (ops : Array Oper) (draw : Bool) (hs : List (Nat × OH)) (st : St) : Option (St × List Prop) :=
 match am7 P ops st.next hs (List.range ops.size) ⟨st.tmps, st.heap⟩ with
 | none => none
 | some (L, s, cs) => match draw with
  | false => some (⟨s.tmps, s.heap, st.next + 64 * ops.size, st.dfs⟩, cs)
  | true => bif P8 ops (List.range ops.size) && U5 ops L then some (⟨s.tmps, s.heap, st.next + 64 * ops.size, st.dfs⟩, cs) else none
theorem aj5 {L : List Ent} {N : Nat} (h : L.map (·.i) = List.range N) : L.Pairwise (fun X Y => X.i ≠ Y.i) := by
 have := List.nodup_range (n := N)
 rw [← h] at this
 exact List.pairwise_map.1 this
theorem bK6 (hng : L8 P) (hm : P.follows .mixedOrders = true) {ops : Array Oper} {draw : Bool} {ro : Option Nat} {p id : Nat} {hs : List (Nat × OH)} {st st' : St} {cs : List Prop} (h : af9 P ops draw hs st = some (st', cs)) (hc : All cs) (hp : p ≤ st.next) :
  p ≤ st'.next ∧ R P ro p (.region id ops draw) st .normal st' := by
 unfold af9 at h
 cases hr : am7 P ops st.next hs (List.range ops.size) ⟨st.tmps, st.heap⟩ with
 | none => simp [hr] at h
 | some q =>
  obtain ⟨L, s, cs'⟩ := q
  simp only [hr] at h
  have hcs : All cs' ∧ st' = ⟨s.tmps, s.heap, st.next + 64 * ops.size, st.dfs⟩ := by
   split at h
   ·simp only [Option.some.injEq, Prod.mk.injEq] at h; obtain ⟨rfl, rfl⟩ := h; exact ⟨hc, rfl⟩
   ·cases hb : (P8 ops (List.range ops.size) && U5 ops L) <;> simp only [hb, cond_true, cond_false, reduceCtorEq, Option.some.injEq, Prod.mk.injEq] at h
    obtain ⟨rfl, rfl⟩ := h; exact ⟨hc, rfl⟩
  obtain ⟨hcs, rfl⟩ := hcs
  obtain ⟨h1, h2, h3⟩ := aM0 (p := p) hng hr hcs
  refine ⟨by simp only; omega, fun X U ρ a w Q hst hQ => ?_⟩
  have hlt : ∀ E ∈ L, E.i < ops.size := fun E hE => by
   have : E.i ∈ L.map (·.i) := List.mem_map.2 ⟨E, hE, rfl⟩
   rw [h1] at this; exact List.mem_range.1 this
  have hsr : ∀ w', w'.heap = w.heap → SR X U ρ st.tmps st.dfs st.heap (FL st.next ops.size L) a w' := fun w' e =>
   ⟨hst.tmps, hst.dfs, hst.heap.drew e, fun k hk => hst.fresh k (by rcases hk with hk | ⟨E, _, hk, _⟩ <;> omega)⟩
  have hend : ∀ U' ρ' a' w', SR X U' ρ' s.tmps st.dfs s.heap (FL st.next ops.size []) a' w' → StRel X U' ρ' ⟨s.tmps, s.heap, st.next + 64 * ops.size, st.dfs⟩ a' w' := fun U' ρ' a' w' hs' =>
   ⟨hs'.tmps, hs'.dfs, hs'.heap, fun k hk => hs'.fresh k (.inl hk)⟩
  cases draw with
  | false =>
   have := aj3 (ro := ro) (N := ops.size) (Q := Q) hp L ⟨st.tmps, st.heap⟩ U ρ a w (fun E hE => ⟨h2 E hE, hlt E hE⟩) (aj5 h1) h3 (hsr w rfl) fun U' ρ' a' w' hs' ht' => hQ U' ρ' a' w' (hend _ _ _ _ hs') ht'
   rw [h1] at this
   exact wpIn_region this
  | true =>
   simp only at h
   cases hb : (P8 ops (List.range ops.size) && U5 ops L) <;> simp only [hb, cond_true, cond_false, reduceCtorEq] at h
   rw [Bool.and_eq_true] at hb
   refine wpIn_region_any hm ?_
   refine a_6 (ro := ro) (N := ops.size) hp rfl (aF6 hb.1) ops.size L _ ⟨st.tmps, st.heap⟩ U ρ a _ ?_ (by simp) (fun i hi => ?_) (fun y o hy => ?_) (fun E hE => ⟨h2 E hE, hlt E hE⟩) ?_ h3 (hsr _ rfl)
    fun U' ρ' a' w' hs' ht' => hQ U' ρ' a' w' (hend _ _ _ _ hs') ⟨⟨ht'.ext.size, ht'.ext.imm, ht'.ext.frame, ht'.ext.new, ht'.ext.newImm, ht'.ext.out⟩, ht'.pins⟩
   ·have := congrArg List.length h1; simp at this; omega
   ·constructor
    ·intro _
     have : i ∈ L.map (·.i) := by rw [h1]; exact List.mem_range.2 hi
     obtain ⟨E, hE, e⟩ := List.mem_map.1 this
     exact ⟨E, hE, e⟩
    ·intro _; simp [hi]
   ·exfalso
    by_cases hh : y < ops.size <;> simp [Array.getD, hh] at hy
   ·exact (aj5 h1).and (af5 hb.2)
end Sy
namespace Sy
open Go
variable {P : Program}
variable {X : List Deferred}
def ap_ (k k' : IntKind) : Bool := decide (k = k')
def bn2 : Fn → Fn → Bool
 | .func a, .func b => Nat.beq a b
 | _, _ => false
def V.isSeg : V → Bool
 | .seg .. => true
 | _ => false
def bt2 : V → V → Option (List Prop)
 | .seg k m xs, u => match u with
  | .seg k' m' xs' => bif ap_ k k' then some [m = m', xs = xs'] else none
  | _ => none
 | _, _ => none
mutual
def leV (dr : c5) : V → V → Option (List Prop)
 | .bool a, v' => match v' with
  | .bool b => some [a = b]
  | .any => some []
  | _ => none
 | .int k a, v' => match v' with
  | .int k' b => bif ap_ k k' then some [a = b] else none
  | .any => some []
  | _ => none
 | .str a, v' => match v' with
  | .str b => some [a = b]
  | .any => some []
  | _ => none
 | .pnil, v' => match v' with
  | .pnil => some []
  | .any => some []
  | _ => none
 | .ptr n es i o j, v' => match v' with
  | .ptr n' es' i' o' j' => bif n.beq n' && Nat.beq es es' then some [i = i', o = o', j = j'] else none
  | .rop cs' o' j' => match A4 n dr with
   | some (b, _) => match b with
    | .flat cs => bif Nat.beq es 0 && V.withins (fun _ => false) cs then some [cs = cs', o = o', j = j'] else none
    | .rows es2 m f _ => bif Nat.beq es es2 then some [i < m, f i = cs', o = o', j = j'] else none
    | _ => none
   | none => none
  | .any => some []
  | _ => none
 | .rop cs o j, v' => match v' with
  | .rop cs' o' j' => some [cs = cs', o = o', j = j']
  | .any => some []
  | _ => none
 | .snil, v' => match v' with
  | .snil => some []
  | .ros _ len' _ _ => some [len' = 0]
  | .any => some []
  | _ => none
 | .sl n es i o j len cap, v' => match v' with
  | .sl n' es' i' o' j' len' cap' => bif n.beq n' && Nat.beq es es' then some [i = i', o = o', j = j', len = len', cap' = none ∨ cap' = cap] else none
  | .ros es' len' f' clip' => match A4 n dr with
   | some (b, _) => match b with
    | .rows es2 m f _ => bif Nat.beq es es2 && (Nat.beq es es' && (Nat.beq o 0 && Nat.beq j 0)) then some [len = len', i + len ≤ m, ∀ k, k < len → f (i + k) = f' k, clip' = true → cap = some len] else none
    | .flat cs => bif Nat.beq es 0 && Nat.beq es' 1 then match u4 cs o with
      | some (_, .seg k m xs :: _) => some [len = len', j + len ≤ m, ∀ q, q < len → [V.int k (xs.getD (j + q) 0)] = f' q, clip' = true → cap = some len]
      | _ => none
     else none
    | _ => none
   | none => none
  | .any => some []
  | _ => none
 | .ros es len f c, v' => match v' with
  | .ros es' len' f' c' => bif Nat.beq es es' then some [len = len', ∀ k, k < len → f k = f' k, c' = true → c = true] else none
  | .any => some []
  | _ => none
 | .fn f a b, v' => match v' with
  | .fn f' a' b' => bif bn2 f f' then match O1 dr a a' with
   | some c1 => match O1 dr b b' with
    | some c2 => some (c1 ++ c2)
    | none => none
   | none => none
   else none
  | .any => some []
  | _ => none
 | .fnil, v' => match v' with
  | .fnil => some []
  | .any => some []
  | _ => none
 | .ifc t v, v' => match v' with
  | .ifc t' u => bif Nat.beq t t' then leV dr v u else none
  | .any => some []
  | _ => none
 | .inil, v' => match v' with
  | .inil => some []
  | .any => some []
  | _ => none
 | .agg cs, v' => match v' with
  | .agg cs' => al7 dr cs cs'
  | .any => some []
  | _ => none
 | .tup vs, v' => match v' with
  | .tup vs' => O1 dr vs vs'
  | .any => some []
  | _ => none
 | .mp n, v' => match v' with
  | .mp n' => bif n.beq n' then some [] else none
  | .any => some []
  | _ => none
 | .yld n, v' => match v' with
  | .yld n' => bif n.beq n' then some [] else none
  | .any => some []
  | _ => none
 | .abs b o, v' => match v' with
  | .abs b' o' => some [b = b', o = o']
  | .any => some []
  | _ => none
 | .mpnil, v' => match v' with
  | .mpnil => some []
  | .any => some []
  | _ => none
 | .any, v' => match v' with
  | .any => some []
  | _ => none
 | .seg _ _ _, _ => none
def O1 (dr : c5) : List V → List V → Option (List Prop)
 | [], l => match l with
  | [] => some []
  | _ => none
 | v :: vs, l => match l with
  | [] => none
  | u :: us => match leV dr v u with
   | some c1 => match O1 dr vs us with
    | some c2 => some (c1 ++ c2)
    | none => none
   | none => none
def al7 (dr : c5) : List V → List V → Option (List Prop)
 | [], l => match l with
  | [] => some []
  | _ => none
 | v :: vs, l => match l with
  | [] => none
  | u :: us => match al7 dr vs us with
   | none => none
   | some c2 => match v.isSeg with
    | true => match bt2 v u with
     | some c1 => some (c1 ++ c2)
     | none => none
    | false => bif u.cell then match leV dr v u with
     | some c1 => some (c1 ++ c2)
     | none => none
     else none
end
def H7 (U U' : Imm) (ρ : Env) (dr : c5) : Prop :=
 ∀ n b, (n, b) ∈ dr → ∀ l, ρ n = some l → l.real = true →
  (∀ cs, b = .flat cs → ∃ c, U' l.blk = some c ∧ i6 U ρ cs c.toList) ∧
  (∀ es m f g, b = .rows es m f g → ∃ c, U' l.blk = some c ∧ ∀ i, i < m → ∃ r, i6 U Env.none (f i) r ∧ r.length = es ∧ ∀ k, k < r.length → c[i * es + k]? = r[k]?)
section
variable {U U' : Imm} {ρ : Env} {dr : c5}
theorem am5 {n : Nm} {h : c5} {b : B} {r : c5} (e : A4 n h = some (b, r)) : (n, b) ∈ h := (N4 e).mem_iff.2 (List.mem_cons_self ..)
mutual
theorem R5 (hU : U.le U') (hF : H7 U U' ρ dr) : ∀ (v v' : V) (cs : List Prop) (x : Value), leV dr v v' = some cs → All cs → c9 U ρ v x → c9 U' ρ v' x
 | .bool a, v', cs, x, h, hc, hv => by
  unfold leV at h
  cases v' <;> simp only [reduceCtorEq, Option.some.injEq] at h <;> subst h
  ·rw [c9]; trivial
  ·rw [← hc.1]; exact c9.mono hU (Env.le_refl _) hv
 | .int k a, v', cs, x, h, hc, hv => by
  unfold leV at h
  cases v' <;> simp only [reduceCtorEq, Option.some.injEq] at h
  ·rw [c9]; trivial
  ·rename_i k' b
   cases hk : ap_ k k' <;> simp only [hk, cond_true, cond_false, reduceCtorEq, Option.some.injEq] at h
   subst h
   have : k = k' := of_decide_eq_true hk
   subst this
   rw [← hc.1]; exact c9.mono hU (Env.le_refl _) hv
 | .str a, v', cs, x, h, hc, hv => by
  unfold leV at h
  cases v' <;> simp only [reduceCtorEq, Option.some.injEq] at h <;> subst h
  ·rw [c9]; trivial
  ·rw [← hc.1]; exact c9.mono hU (Env.le_refl _) hv
 | .pnil, v', cs, x, h, hc, hv => by
  unfold leV at h
  cases v' <;> simp only [reduceCtorEq] at h
  ·rw [c9]; trivial
  ·exact c9.mono hU (Env.le_refl _) hv
 | .ptr n es i o j, v', cs, x, h, hc, hv => by
  unfold leV at h
  cases v' <;> simp only [reduceCtorEq] at h
  ·rw [c9]; trivial
  ·rename_i n' es' i' o' j'
   cases hb : (n.beq n' && Nat.beq es es') <;> simp only [hb, cond_true, cond_false, reduceCtorEq, Option.some.injEq] at h
   subst h
   rw [Bool.and_eq_true] at hb
   have := Nm.beq_iff.1 hb.1; subst this
   have := Nat.eq_of_beq_eq_true hb.2; subst this
   obtain ⟨rfl, rfl, rfl, _⟩ := hc
   exact c9.mono hU (Env.le_refl _) hv
  ·rename_i cs' o' j'
   cases hp : A4 n dr with
   | none => simp [hp] at h
   | some q =>
    obtain ⟨b, r⟩ := q
    simp only [hp] at h
    rw [c9] at hv
    obtain ⟨l, e1, e2, rfl⟩ := hv
    have hF' := hF n b (am5 hp) l e1 e2
    cases b <;> simp only [reduceCtorEq] at h
    ·rename_i cs0
     cases hb : (Nat.beq es 0 && V.withins (fun _ => false) cs0) <;> simp only [hb, cond_true, cond_false, reduceCtorEq, Option.some.injEq] at h
     subst h
     rw [Bool.and_eq_true] at hb
     have := Nat.eq_of_beq_eq_true hb.1; subst this
     obtain ⟨rfl, rfl, rfl, _⟩ := hc
     obtain ⟨c, g1, g2⟩ := hF'.1 cs0 rfl
     rw [c9]
     exact ⟨l.blk, 0, c, g1, by simp, c.toList, i6.imm hU _ _ (ai3 cs0 hb.2 g2), fun k hk => by simp⟩
    ·rename_i es2 m f g
     cases hb : Nat.beq es es2 <;> simp only [hb, cond_true, cond_false, reduceCtorEq, Option.some.injEq] at h
     subst h
     have := Nat.eq_of_beq_eq_true hb; subst this
     obtain ⟨h1, rfl, rfl, rfl, _⟩ := hc
     obtain ⟨c, g1, g2⟩ := hF'.2 es m f g rfl
     obtain ⟨r', g3, g4, g5⟩ := g2 i h1
     rw [c9]
     exact ⟨l.blk, i * es, c, g1, rfl, r', i6.imm hU _ _ g3, g5⟩
 | .rop a o j, v', cs, x, h, hc, hv => by
  unfold leV at h
  cases v' <;> simp only [reduceCtorEq, Option.some.injEq] at h <;> subst h
  ·rw [c9]; trivial
  ·obtain ⟨rfl, rfl, rfl, _⟩ := hc
   exact c9.mono hU (Env.le_refl _) hv
 | .snil, v', cs, x, h, hc, hv => by
  unfold leV at h
  cases v' <;> simp only [reduceCtorEq, Option.some.injEq] at h
  ·rw [c9]; trivial
  ·exact c9.mono hU (Env.le_refl _) hv
  ·subst h
   have := hc.1
   subst this
   rw [c9] at hv; subst hv
   rw [c9]
   exact ⟨none, 0, rfl, Nat.le_refl _, fun _ => rfl, fun i hi => by omega⟩
 | .sl n es i o j len cap, v', cs, x, h, hc, hv => by
  unfold leV at h
  cases v' <;> simp only [reduceCtorEq] at h
  ·rw [c9]; trivial
  ·rename_i n' es' i' o' j' len' cap'
   cases hb : (n.beq n' && Nat.beq es es') <;> simp only [hb, cond_true, cond_false, reduceCtorEq, Option.some.injEq] at h
   subst h
   rw [Bool.and_eq_true] at hb
   have := Nm.beq_iff.1 hb.1; subst this
   have := Nat.eq_of_beq_eq_true hb.2; subst this
   obtain ⟨rfl, rfl, rfl, rfl, hcap, _⟩ := hc
   rw [c9] at hv ⊢
   obtain ⟨l, cp, e1, e2, e3, e4⟩ := hv
   refine ⟨l, cp, e1, e2, fun c hc => ?_, e4⟩
   rcases hcap with h | h
   ·rw [h] at hc; cases hc
   ·rw [h] at hc; exact e3 c hc
  ·rename_i es' len' f' clip'
   cases hp : A4 n dr with
   | none => simp [hp] at h
   | some q =>
    obtain ⟨b, r⟩ := q
    simp only [hp] at h
    cases b <;> simp only [reduceCtorEq] at h
    ·rename_i cs0
     cases hb : (Nat.beq es 0 && Nat.beq es' 1) <;> simp only [hb, cond_true, cond_false, reduceCtorEq] at h
     rw [Bool.and_eq_true] at hb
     have := Nat.eq_of_beq_eq_true hb.1; subst this
     have := Nat.eq_of_beq_eq_true hb.2; subst this
     split at h
     ·rename_i ca kk m xs cb hsp
      simp only [Option.some.injEq] at h
      subst h
      obtain ⟨hsp1, hsp2⟩ := u9 hsp
      obtain ⟨rfl, c1, c2, c3, _⟩ := hc
      rw [c9] at hv
      rw [c9]
      obtain ⟨l, cp, e1, e2, e3, e4⟩ := hv
      rcases e4 with ⟨hr, rfl, _⟩ | ⟨hr, rfl, rfl, rfl⟩
      ·refine ⟨_, cp, rfl, e2, fun hcl => e3 _ (c3 hcl), fun q hq => ?_⟩
       obtain ⟨c, g1, g2⟩ := (hF n _ (am5 hp) l e1 hr).1 cs0 rfl
       rw [hsp1] at g2
       obtain ⟨la, lb, g3, g4, g5⟩ := m4.1 g2
       have g6 := g4.len; rw [hsp2] at g6
       obtain ⟨hxs, r', rfl, g7⟩ := F1.1 g5
       refine ⟨l.blk, o + j, c, by simp, g1, [.int kk (xs.getD (j + q) 0)], ?_, rfl, fun z hz => ?_⟩
       ·rw [← c2 q hq]
        exact (v7 rfl).2 ⟨_, [], rfl, by rw [c9], by rw [i6]⟩
       ·obtain rfl : z = 0 := by simp at hz; omega
        have hlt : j + q < xs.length := by omega
        rw [← Array.getElem?_toList, g3, List.getElem?_append_right (by omega), List.getElem?_append_left (by simp; omega)]
        rw [show o + j + q * 1 + 0 - la.length = j + q by omega]
        simp [List.getElem?_eq_getElem hlt, List.getD]
      ·exact ⟨none, 0, rfl, Nat.le_refl _, fun _ => rfl, fun k hk => by omega⟩
     ·simp at h
    rename_i es2 m f g
    cases hb : (Nat.beq es es2 && (Nat.beq es es' && (Nat.beq o 0 && Nat.beq j 0))) <;> simp only [hb, cond_true, cond_false, reduceCtorEq, Option.some.injEq] at h
    subst h
    simp only [Bool.and_eq_true] at hb
    obtain ⟨b1, b2, b3, b4⟩ := hb
    have := Nat.eq_of_beq_eq_true b1; subst this
    have := Nat.eq_of_beq_eq_true b2; subst this
    have := Nat.eq_of_beq_eq_true b3; subst this
    have := Nat.eq_of_beq_eq_true b4; subst this
    obtain ⟨rfl, c1, c2, c3, _⟩ := hc
    rw [c9] at hv
    rw [c9]
    obtain ⟨l, cp, e1, e2, e3, e4⟩ := hv
    rcases e4 with ⟨hr, rfl, _⟩ | ⟨hr, rfl, rfl, rfl⟩
    ·refine ⟨_, cp, rfl, e2, fun hcl => e3 _ (c3 hcl), fun k hk => ?_⟩
     obtain ⟨c, g1, g2⟩ := (hF n _ (am5 hp) l e1 hr).2 es m f g rfl
     obtain ⟨r', g3, g4, g5⟩ := g2 (i + k) (by omega)
     rw [c2 k hk] at g3
     refine ⟨l.blk, i * es, c, by simp, g1, r', i6.imm hU _ _ g3, g4, fun q hq => ?_⟩
     rw [← g5 q hq]; congr 1; rw [Nat.add_mul]
    ·exact ⟨none, 0, rfl, Nat.le_refl _, fun _ => rfl, fun k hk => by omega⟩
 | .ros es len f c, v', cs, x, h, hc, hv => by
  unfold leV at h
  cases v' <;> simp only [reduceCtorEq] at h
  ·rw [c9]; trivial
  ·rename_i es' len' f' c'
   cases hb : Nat.beq es es' <;> simp only [hb, cond_true, cond_false, reduceCtorEq, Option.some.injEq] at h
   subst h
   have := Nat.eq_of_beq_eq_true hb; subst this
   obtain ⟨rfl, c1, c2, _⟩ := hc
   rw [c9] at hv ⊢
   obtain ⟨a, cp, rfl, e2, e3, e4⟩ := hv
   refine ⟨a, cp, rfl, e2, fun h => e3 (c2 h), fun i hi => ?_⟩
   obtain ⟨b, base, c0, g1, g2, l, g3, g4⟩ := e4 i hi
   rw [c1 i hi] at g3
   exact ⟨b, base, c0, g1, hU _ _ g2, l, i6.imm hU _ _ g3, g4⟩
 | .fn f a b, v', cs, x, h, hc, hv => by
  unfold leV at h
  cases v' <;> simp only [reduceCtorEq] at h
  ·rw [c9]; trivial
  ·rename_i f' a' b'
   cases hb : bn2 f f' <;> simp only [hb, cond_true, cond_false, reduceCtorEq] at h
   cases h1 : O1 dr a a' with
   | none => simp [h1] at h
   | some c1 =>
    cases h2 : O1 dr b b' with
    | none => simp [h1, h2] at h
    | some c2 =>
     simp only [h1, h2, Option.some.injEq] at h
     subst h
     obtain ⟨k1, k2⟩ := f6.1 hc
     have hff : f = f' := by
      cases f <;> cases f' <;> simp [bn2] at hb ⊢ <;> exact hb
     subst hff
     rw [c9] at hv ⊢
     obtain ⟨l, m, rfl, g1, g2⟩ := hv
     exact ⟨l, m, rfl, N2 hU hF _ _ _ _ h1 k1 g1, N2 hU hF _ _ _ _ h2 k2 g2⟩
 | .fnil, v', cs, x, h, hc, hv => by
  unfold leV at h
  cases v' <;> simp only [reduceCtorEq] at h
  ·rw [c9]; trivial
  ·exact c9.mono hU (Env.le_refl _) hv
 | .ifc t v, v', cs, x, h, hc, hv => by
  unfold leV at h
  cases v' <;> simp only [reduceCtorEq] at h
  ·rw [c9]; trivial
  ·rename_i t' u
   cases hb : Nat.beq t t' <;> simp only [hb, cond_true, cond_false, reduceCtorEq] at h
   have := Nat.eq_of_beq_eq_true hb; subst this
   rw [c9] at hv ⊢
   obtain ⟨y, rfl, g1⟩ := hv
   exact ⟨y, rfl, R5 hU hF _ _ _ _ h hc g1⟩
 | .inil, v', cs, x, h, hc, hv => by
  unfold leV at h
  cases v' <;> simp only [reduceCtorEq] at h
  ·rw [c9]; trivial
  ·exact c9.mono hU (Env.le_refl _) hv
 | .agg cs0, v', cs, x, h, hc, hv => by
  unfold leV at h
  cases v' <;> simp only [reduceCtorEq] at h
  ·rw [c9]; trivial
  ·rw [c9] at hv ⊢
   obtain ⟨l, rfl, g1⟩ := hv
   exact ⟨l, rfl, ah_ hU hF _ _ _ _ h hc g1⟩
 | .tup vs, v', cs, x, h, hc, hv => by
  unfold leV at h
  cases v' <;> simp only [reduceCtorEq] at h
  ·rw [c9]; trivial
  ·rw [c9] at hv ⊢
   obtain ⟨l, rfl, g1⟩ := hv
   exact ⟨l, rfl, N2 hU hF _ _ _ _ h hc g1⟩
 | .mp n, v', cs, x, h, hc, hv => by
  unfold leV at h
  cases v' <;> simp only [reduceCtorEq] at h
  ·rw [c9]; trivial
  ·rename_i n'
   cases hb : n.beq n' <;> simp only [hb, cond_true, cond_false, reduceCtorEq] at h
   have := Nm.beq_iff.1 hb; subst this
   exact c9.mono hU (Env.le_refl _) hv
 | .yld n, v', cs, x, h, hc, hv => by
  unfold leV at h
  cases v' <;> simp only [reduceCtorEq] at h
  ·rw [c9]; trivial
  ·rename_i n'
   cases hb : n.beq n' <;> simp only [hb, cond_true, cond_false, reduceCtorEq] at h
   have := Nm.beq_iff.1 hb; subst this
   exact c9.mono hU (Env.le_refl _) hv
 | .abs b o, v', cs, x, h, hc, hv => by
  unfold leV at h
  cases v' <;> simp only [reduceCtorEq] at h
  ·rw [c9]; trivial
  ·simp only [Option.some.injEq] at h
   subst h
   obtain ⟨rfl, rfl, _⟩ := hc
   exact c9.mono hU (Env.le_refl _) hv
 | .mpnil, v', cs, x, h, hc, hv => by
  unfold leV at h
  cases v' <;> simp only [reduceCtorEq] at h
  ·rw [c9]; trivial
  ·exact c9.mono hU (Env.le_refl _) hv
 | .any, v', cs, x, h, hc, hv => by
  unfold leV at h
  cases v' <;> simp only [reduceCtorEq] at h
  rw [c9]; trivial
 | .seg _ _ _, v', cs, x, h, hc, hv => by simp [leV] at h
theorem N2 (hU : U.le U') (hF : H7 U U' ρ dr) : ∀ (v v' : List V) (cs : List Prop) (x : List Value), O1 dr v v' = some cs → All cs → i8 U ρ v x → i8 U' ρ v' x
 | [], l, cs, x, h, _, hv => by
  unfold O1 at h
  cases l <;> simp only [reduceCtorEq] at h
  rw [i8] at hv ⊢; exact hv
 | v :: vs, l, cs, x, h, hc, hv => by
  unfold O1 at h
  cases l with
  | nil => simp at h
  | cons u us =>
   simp only at h
   cases h1 : leV dr v u with
   | none => simp [h1] at h
   | some c1 =>
    cases h2 : O1 dr vs us with
    | none => simp [h1, h2] at h
    | some c2 =>
     simp only [h1, h2, Option.some.injEq] at h
     subst h
     obtain ⟨k1, k2⟩ := f6.1 hc
     rw [i8] at hv ⊢
     obtain ⟨y, r, rfl, g1, g2⟩ := hv
     exact ⟨y, r, rfl, R5 hU hF _ _ _ _ h1 k1 g1, N2 hU hF _ _ _ _ h2 k2 g2⟩
theorem ah_ (hU : U.le U') (hF : H7 U U' ρ dr) : ∀ (v v' : List V) (cs : List Prop) (x : List Value), al7 dr v v' = some cs → All cs → i6 U ρ v x → i6 U' ρ v' x
 | [], l, cs, x, h, _, hv => by
  unfold al7 at h
  cases l <;> simp only [reduceCtorEq] at h
  rw [i6] at hv ⊢; exact hv
 | v :: vs, l, cs, x, h, hc, hv => by
  unfold al7 at h
  cases l with
  | nil => simp at h
  | cons u us =>
   simp only at h
   cases h2 : al7 dr vs us with
   | none => simp [h2] at h
   | some c2 =>
    simp only [h2] at h
    rw [i6] at hv ⊢
    obtain ⟨l1, l2, rfl, g1, g2⟩ := hv
    cases hseg : v.isSeg with
    | true =>
     simp only [hseg] at h
     cases h1 : bt2 v u with
     | none => simp [h1] at h
     | some c1 =>
      simp only [h1, Option.some.injEq] at h
      subst h
      obtain ⟨k1, k2⟩ := f6.1 hc
      cases v <;> simp only [V.isSeg, reduceCtorEq, Bool.false_eq_true] at hseg
      rename_i k m xs
      unfold bt2 at h1
      cases u <;> simp only [reduceCtorEq] at h1
      rename_i k' m' xs'
      cases hk : ap_ k k' <;> simp only [hk, cond_true, cond_false, reduceCtorEq, Option.some.injEq] at h1
      subst h1
      have : k = k' := of_decide_eq_true hk
      subst this
      obtain ⟨rfl, rfl, _⟩ := k1
      refine ⟨l1, l2, rfl, ?_, ah_ hU hF _ _ _ _ h2 k2 g2⟩
      rcases g1 with g1 | ⟨g1, _⟩
      ·exact .inl g1
      ·simp [V.cell] at g1
    | false =>
     simp only [hseg] at h
     cases hcell : u.cell <;> simp only [hcell, cond_true, cond_false, reduceCtorEq] at h
     cases h1 : leV dr v u with
     | none => simp [h1] at h
     | some c1 =>
      simp only [h1, Option.some.injEq] at h
      subst h
      obtain ⟨k1, k2⟩ := f6.1 hc
      refine ⟨l1, l2, rfl, ?_, ah_ hU hF _ _ _ _ h2 k2 g2⟩
      rcases g1 with ⟨k, m, xs, e, _⟩ | ⟨_, y, e, g1⟩
      ·subst e; simp [V.isSeg] at hseg
      ·exact .inr ⟨rfl, y, e, R5 hU hF _ _ _ _ h1 k1 g1⟩
end
end
def bs7 (p : Nat) : c5 → Bool
 | [] => true
 | q :: h => q.1.pin p && (q.2.within (Nm.pin p) && bs7 p h)
def V1 (p : Nat) (h : c5) : Prop := ∀ q ∈ h, q.1.pin p = true ∧ q.2.within (Nm.pin p) = true
theorem N3 {p : Nat} : ∀ {h : c5}, bs7 p h = true → V1 p h
 | [], _, q, hq => by cases hq
 | x :: h, e, q, hq => by
  rw [bs7, Bool.and_eq_true, Bool.and_eq_true] at e
  rcases List.mem_cons.1 hq with rfl | hq
  ·exact ⟨e.1, e.2.1⟩
  ·exact N3 e.2.2 q hq
def J7 (p : Nat) (ρ : Env) : Env := fun n => match n.pin p with
 | true => ρ n
 | false => none
theorem C7 {p : Nat} {ρ : Env} {n : Nm} (h : n.pin p = true) : J7 p ρ n = ρ n := by simp [J7, h]
inductive K where
 | keep
 | drop
 | set (v : V)
inductive HK where
 | keep
 | set (b : B)
def ad4 (a b n : Nm) : Nm := bif n.beq a then b else bif n.beq b then a else n
theorem aj6 (a b n : Nm) : ad4 a b (ad4 a b n) = n := by
 have : ad4 a b = Nm.swap a b := by
  funext n
  unfold ad4 Nm.swap
  by_cases h : n = a
  ·rw [if_pos h, Nm.beq_iff.2 h]; rfl
  ·rw [if_neg h]
   have h1 : n.beq a = false := Bool.eq_false_iff.2 fun hh => h (Nm.beq_iff.1 hh)
   rw [h1]
   by_cases h' : n = b
   ·rw [if_pos h', Nm.beq_iff.2 h']; rfl
   ·rw [if_neg h']
    have h2 : n.beq b = false := Bool.eq_false_iff.2 fun hh => h' (Nm.beq_iff.1 hh)
    rw [h2]; rfl
 rw [this]; exact Nm.swap_swap a b n
def s6 : List (Nm × Nm) → Nm → Nm
 | [], n => n
 | q :: r, n => s6 r (ad4 q.1 q.2 n)
def K4 : List (Nm × Nm) → Nm → Nm
 | [], n => n
 | q :: r, n => ad4 q.1 q.2 (K4 r n)
theorem H9 : ∀ (l : List (Nm × Nm)) (n : Nm), K4 l (s6 l n) = n
 | [], _ => rfl
 | q :: r, n => by rw [s6, K4, H9 r, aj6]
theorem S9 : ∀ (l : List (Nm × Nm)) (n : Nm), s6 l (K4 l n) = n
 | [], _ => rfl
 | q :: r, n => by rw [s6, K4, aj6, S9 r]
def ag9 (p : Nat) : List (Nm × Nm) → Bool
 | [] => true
 | q :: r => !q.1.pin p && (!q.2.pin p && ag9 p r)
theorem G7 {p : Nat} : ∀ {l : List (Nm × Nm)}, ag9 p l = true → ∀ n, n.pin p = true → s6 l n = n
 | [], _, _, _ => rfl
 | q :: r, h, n, hn => by
  simp only [ag9, Bool.and_eq_true, Bool.not_eq_true'] at h
  have h1 : n.beq q.1 = false := by
   cases hh : n.beq q.1
   ·rfl
   ·have := Nm.beq_iff.1 hh; rw [← this, hn] at h; exact absurd h.1 (by simp)
  have h2 : n.beq q.2 = false := by
   cases hh : n.beq q.2
   ·rfl
   ·have := Nm.beq_iff.1 hh; rw [← this, hn] at h; exact absurd h.2.1 (by simp)
  rw [s6, ad4, h1, h2]
  exact G7 h.2.2 n hn
theorem c9.unren {U : Imm} {ρ : Env} {sw : List (Nm × Nm)} {v : V} {x : Value} (h : c9 U ρ (V.ren (s6 sw) v) x) : c9 U (fun n => ρ (s6 sw n)) v x := by
 have := c9.tr (σ := K4 sw) (S := fun _ => true) (ρ' := fun n => ρ (s6 sw n)) (Imm.le_refl U) (fun n l _ e => by simp only [S9]; exact e) _ _ (V.within_true _) h
 rw [V.ren_ren] at this
 rwa [show (fun n => K4 sw (s6 sw n)) = fun n => n from funext fun n => H9 sw n, V.ren_id] at this
theorem r8.unren {U : Imm} {ρ : Env} {sw : List (Nm × Nm)} {sz : Nat} {b : B} {o : Obj} (h : r8 U ρ sz (b.ren (s6 sw)) o) : r8 U (fun n => ρ (s6 sw n)) sz b o := by
 have := r8.tr (σ := K4 sw) (S := fun _ => true) (ρ' := fun n => ρ (s6 sw n)) (Imm.le_refl U) (fun n l _ e => by simp only [S9]; exact e) (B.within_true _) h
 rw [B.ren_ren] at this
 rwa [show (fun n => K4 sw (s6 sw n)) = fun n => n from funext fun n => H9 sw n, B.ren_id] at this
def bo0 : List (Nat × K) → Nat → K
 | [], _ => .drop
 | q :: r, t => bif Nat.beq q.1 t then q.2 else bo0 r t
def X1 (p nx : Nat) (sw : List (Nm × Nm)) (dr : c5) (spec : List (Nat × K)) : Nat → List V → Option (List V × List Prop)
 | _, [] => some ([], [])
 | t, v :: vs => match X1 p nx sw dr spec (t + 1) vs with
  | none => none
  | some (vs', cs) => match bo0 spec t with
   | .drop => some (.any :: vs', cs)
   | .keep => some (v :: vs', (V.within (Nm.pin p) v = true) :: cs)
   | .set u => bif V.within (Nm.pin nx) u then match leV dr v (V.ren (s6 sw) u) with
    | some c => some (u :: vs', c ++ cs)
    | none => none
    else none
def leB (dr : c5) : B → B → Option (List Prop)
 | .flat cs, b => match b with
  | .flat cs' => al7 dr cs cs'
  | _ => none
 | .rows es n f g, b => match b with
  | .rows es' n' f' g' => bif Nat.beq es es' then some [n = n', ∀ k, k < n → f k = f' k, g' = false → g = false] else none
  | _ => none
 | .dfr, b => match b with
  | .dfr => some []
  | _ => none
 | .map e c, b => match b with
  | .map e' c' => some [e = e', c = c']
  | _ => none
 | .iter m a s c, b => match b with
  | .iter m' a' s' c' => bif m.beq m' then some [a = a', s = s', c = c'] else none
  | _ => none
 | _, _ => none
def X0 (p nx : Nat) (sw : List (Nm × Nm)) (dr : c5) : List (Nm × HK) → c5 → Option (c5 × List Prop)
 | [], h => match h with
  | [] => some ([], [])
  | _ => none
 | q :: qs, h => match h with
  | [] => none
  | x :: xs => match X0 p nx sw dr qs xs with
   | none => none
   | some (h', cs) => bif x.1.beq (s6 sw q.1) && q.1.pin nx then match q.2 with
     | .keep => some ((q.1, x.2) :: h', (B.within (Nm.pin p) x.2 = true) :: cs)
     | .set b => bif B.within (Nm.pin nx) b then match leB dr x.2 (b.ren (s6 sw)) with
      | some c => some ((q.1, b) :: h', c ++ cs)
      | none => none
      else none
    else none
structure W where
 sw : List (Nm × Nm)
 tm : List (Nat × K)
 hp : List (Nm × HK)
 tl : Option Nat
 nx : Nat
def aS1 (sw : List (Nm × Nm)) : List (Nm × HK) → List Nm
 | [] => []
 | q :: r => s6 sw q.1 :: aS1 sw r
def aa2 (p : Nat) : List Nm → Bool
 | [] => true
 | n :: r => n.pin p && aa2 p r
def wkE (p : Nat) (k : W) (st : St) : Option (St × List Prop) :=
 match L7 (aS1 k.sw k.hp) st.heap with
 | none => none
 | some (bs, r) =>
  let dr := match k.tl with
   | some m => r.take m
   | none => r
  let tl := match k.tl with
   | some m => r.drop m
   | none => []
  match X0 p k.nx k.sw dr k.hp bs with
  | none => none
  | some (h', c1) => match X1 p k.nx k.sw dr k.tm 0 st.tmps with
   | none => none
   | some (ts, c2) => bif ag9 p k.sw && (Nat.ble p k.nx && aa2 p st.dfs) then
     match k.tl with
     | some _ => some (⟨ts, h' ++ tl, k.nx, st.dfs⟩, V1 p tl :: (c1 ++ c2))
     | none => some (⟨ts, h', k.nx, st.dfs⟩, c1 ++ c2)
    else none
theorem Nm.pin_mono {p q : Nat} (h : p ≤ q) {n : Nm} (hn : n.pin p = true) : n.pin q = true := by
 cases n with
 | o k => simp only [Nm.pin, decide_eq_true_eq] at hn ⊢; omega
 | g k => rfl
theorem Z1 {p nx : Nat} {sw : List (Nm × Nm)} {dr : c5} {spec : List (Nat × K)} {U U' : Imm} {ρ ρ' : Env} (hU : U.le U') (hF : H7 U U' ρ dr) (hsw : ag9 p sw = true) (hp : p ≤ nx)
  (hρ : ∀ n l, n.pin nx = true → ρ (s6 sw n) = some l → ρ' n = some l) : ∀ (t : Nat) (vs ts : List V) (cs : List Prop) (xs : List Value), X1 p nx sw dr spec t vs = some (ts, cs) → All cs → i8 U ρ vs xs → i8 U' ρ' ts xs
 | t, [], ts, cs, xs, h, _, hv => by
  simp only [X1, Option.some.injEq, Prod.mk.injEq] at h
  obtain ⟨rfl, rfl⟩ := h
  rw [i8] at hv ⊢; exact hv
 | t, v :: vs, ts, cs, xs, h, hc, hv => by
  unfold X1 at h
  cases hr : X1 p nx sw dr spec (t + 1) vs with
  | none => simp [hr] at h
  | some q =>
   obtain ⟨vs', c2⟩ := q
   simp only [hr] at h
   rw [i8] at hv
   obtain ⟨x, r, rfl, g1, g2⟩ := hv
   cases hk : bo0 spec t <;> simp only [hk] at h
   ·simp only [Option.some.injEq, Prod.mk.injEq] at h
    obtain ⟨rfl, rfl⟩ := h
    rw [i8]
    refine ⟨x, r, rfl, ?_, Z1 hU hF hsw hp hρ (t + 1) vs vs' c2 r hr hc.2 g2⟩
    exact c9.within hU (fun n l hn e => hρ n l (Nm.pin_mono hp hn) (by rw [G7 hsw n hn]; exact e)) hc.1 g1
   ·simp only [Option.some.injEq, Prod.mk.injEq] at h
    obtain ⟨rfl, rfl⟩ := h
    rw [i8]
    exact ⟨x, r, rfl, by rw [c9]; trivial, Z1 hU hF hsw hp hρ (t + 1) vs vs' c2 r hr hc g2⟩
   ·rename_i u
    cases hw : V.within (Nm.pin nx) u <;> simp only [hw, cond_true, cond_false, reduceCtorEq] at h
    cases hl : leV dr v (V.ren (s6 sw) u) with
    | none => simp [hl] at h
    | some c =>
     simp only [hl, Option.some.injEq, Prod.mk.injEq] at h
     obtain ⟨rfl, rfl⟩ := h
     obtain ⟨k1, k2⟩ := f6.1 hc
     rw [i8]
     refine ⟨x, r, rfl, ?_, Z1 hU hF hsw hp hρ (t + 1) vs vs' c2 r hr k2 g2⟩
     exact c9.within (Imm.le_refl _) (fun n l hn e => hρ n l hn e) hw (c9.unren (R5 hU hF _ _ _ _ hl k1 g1))
theorem bb7 {U U' : Imm} {ρ : Env} {dr : c5} (hU : U.le U') (hF : H7 U U' ρ dr) {b b' : B} {cs : List Prop} {sz : Nat} {o : Obj} (h : leB dr b b' = some cs) (hc : All cs) (hb : r8 U ρ sz b o) : r8 U' ρ sz b' o := by
 cases b with
 | flat cs0 =>
  cases b' <;> simp only [leB, reduceCtorEq] at h
  obtain ⟨c, el, lo, hi, rfl, h2, h3, h4⟩ := hb
  exact ⟨c, el, lo, hi, rfl, h2, h3, ah_ hU hF _ _ _ _ h hc h4⟩
 | rows es n f g =>
  cases b' <;> simp only [leB, reduceCtorEq] at h
  rename_i es' n' f' g'
  cases hk : Nat.beq es es' <;> simp only [hk, cond_true, cond_false, reduceCtorEq, Option.some.injEq] at h
  subst h
  have := Nat.eq_of_beq_eq_true hk; subst this
  obtain ⟨rfl, k1, k2, _⟩ := hc
  obtain ⟨c, el, lo, hi, rfl, h2, h3, h4, h5, h6⟩ := hb
  refine ⟨c, el, lo, hi, rfl, h2, h3, h4, fun hg => h5 (k2 hg), fun i hi' => ?_⟩
  obtain ⟨r, h7, h8, h9⟩ := h6 i hi'
  rw [k1 i hi'] at h7
  exact ⟨r, i6.imm hU _ _ h7, h8, h9⟩
 | dfr =>
  cases b' <;> simp only [leB, reduceCtorEq] at h
  exact hb
 | map e c =>
  cases b' <;> simp only [leB, reduceCtorEq, Option.some.injEq] at h
  subst h
  obtain ⟨rfl, rfl, _⟩ := hc
  obtain ⟨es, h1, h2⟩ := hb
  exact ⟨es, h1, G0.imm hU _ _ h2⟩
 | iter m a s c =>
  cases b' <;> simp only [leB, reduceCtorEq] at h
  rename_i m' a' s' c'
  cases hk : m.beq m' <;> simp only [hk, cond_true, cond_false, reduceCtorEq, Option.some.injEq] at h
  subst h
  have := Nm.beq_iff.1 hk; subst this
  obtain ⟨rfl, rfl, rfl, _⟩ := hc
  exact hb
 | loop => simp [leB] at h
theorem Z0 {p nx : Nat} {sw : List (Nm × Nm)} {dr : c5} (hsw : ag9 p sw = true) (hp : p ≤ nx) : ∀ (qs : List (Nm × HK)) (h h' : c5) (cs : List Prop), X0 p nx sw dr qs h = some (h', cs) → All cs →
  h'.map (fun q => s6 sw q.1) = h.map Prod.fst ∧ ∀ n b, (n, b) ∈ h' → n.pin nx = true ∧ ∃ b0, (s6 sw n, b0) ∈ h ∧ (∀ es f, b0 = .rows es 0 f true → ∃ es f, b = .rows es 0 f true) ∧
   ∀ (U U' : Imm) (ρ ρ' : Env), Imm.le U U' → H7 U U' ρ dr → (∀ n l, n.pin nx = true → ρ (s6 sw n) = some l → ρ' n = some l) → ∀ sz o, r8 U ρ sz b0 o → r8 U' ρ' sz b o
 | [], h, h', cs, e, _ => by
  unfold X0 at e
  cases h <;> simp only [reduceCtorEq, Option.some.injEq, Prod.mk.injEq] at e
  obtain ⟨rfl, rfl⟩ := e
  exact ⟨rfl, fun n b hm => by cases hm⟩
 | q :: qs, h, h', cs, e, hc => by
  unfold X0 at e
  cases h with
  | nil => simp at e
  | cons x xs =>
   simp only at e
   cases hr : X0 p nx sw dr qs xs with
   | none => simp [hr] at e
   | some q2 =>
    obtain ⟨h2, c2⟩ := q2
    simp only [hr] at e
    cases hb : (x.1.beq (s6 sw q.1) && q.1.pin nx) <;> simp only [hb, cond_true, cond_false, reduceCtorEq] at e
    rw [Bool.and_eq_true] at hb
    have hx := Nm.beq_iff.1 hb.1
    obtain ⟨n0, k⟩ := q
    obtain ⟨xn, xb⟩ := x
    simp only at hx hb e
    subst hx
    cases k with
    | keep =>
     simp only [Option.some.injEq, Prod.mk.injEq] at e
     obtain ⟨rfl, rfl⟩ := e
     obtain ⟨i1, i2⟩ := Z0 hsw hp qs xs h2 c2 hr hc.2
     refine ⟨by rw [List.map_cons, List.map_cons, i1], fun n b hm => ?_⟩
     rcases List.mem_cons.1 hm with hm | hm
     ·cases hm
      exact ⟨hb.2, _, List.mem_cons_self .., fun es f e => ⟨es, f, e⟩, fun U U' ρ ρ' hU hF hρ sz o ho => r8.within hU (fun n l hn e => hρ n l (Nm.pin_mono hp hn) (by rw [G7 hsw n hn]; exact e)) hc.1 ho⟩
     ·obtain ⟨g0, b0, g1, g2⟩ := i2 n b hm
      exact ⟨g0, b0, List.mem_cons_of_mem _ g1, g2⟩
    | set b' =>
     simp only at e
     cases hw : B.within (Nm.pin nx) b' <;> simp only [hw, cond_true, cond_false, reduceCtorEq] at e
     cases hl : leB dr xb (b'.ren (s6 sw)) with
     | none => simp [hl] at e
     | some c =>
      simp only [hl, Option.some.injEq, Prod.mk.injEq] at e
      obtain ⟨rfl, rfl⟩ := e
      obtain ⟨k1, k2⟩ := f6.1 hc
      obtain ⟨i1, i2⟩ := Z0 hsw hp qs xs h2 c2 hr k2
      refine ⟨by rw [List.map_cons, List.map_cons, i1], fun n b hm => ?_⟩
      rcases List.mem_cons.1 hm with hm | hm
      ·cases hm
       refine ⟨hb.2, xb, List.mem_cons_self .., fun es f e => ?_, fun U U' ρ ρ' hU hF hρ sz o ho => r8.within (Imm.le_refl _) (fun n l hn e => hρ n l hn e) hw (r8.unren (bb7 hU hF hl k1 ho))⟩
       subst e
       cases b' <;> simp only [B.ren, leB, reduceCtorEq] at hl
       rename_i es' n' f' g'
       cases hk : Nat.beq es es' <;> simp only [hk, cond_true, cond_false, reduceCtorEq, Option.some.injEq] at hl
       subst hl
       obtain ⟨e1, _, e2, _⟩ := k1
       subst e1
       cases g' with
       | true => exact ⟨_, _, rfl⟩
       | false => exact absurd (e2 rfl) (by simp)
      ·obtain ⟨g0, b0, g1, g2⟩ := i2 n b hm
       exact ⟨g0, b0, List.mem_cons_of_mem _ g1, g2⟩
open Classical in
noncomputable def freeze (U : Imm) (ρ : Env) (dr : c5) (w : World) : Imm := fun k =>
 if ∃ n b l, (n, b) ∈ dr ∧ ρ n = some l ∧ l.real = true ∧ l.blk = k then
  match w.heap[k]? with
  | some (.cells c _ _) => some c
  | _ => none
 else U k
theorem au_ {p : Nat} : ∀ {l : List Nm}, aa2 p l = true → ∀ n ∈ l, n.pin p = true
 | [], _, n, hn => by cases hn
 | x :: r, h, n, hn => by
  rw [aa2, Bool.and_eq_true] at h
  rcases List.mem_cons.1 hn with rfl | hn
  ·exact h.1
  ·exact au_ h.2 n hn
theorem bL5 {p nx : Nat} {sw : List (Nm × Nm)} {dr keep : c5} {st : St} {h' : c5} {ts : List V}
  (hsw : ag9 p sw = true) (hp : p ≤ nx) (hperm : st.heap.Perm (keep ++ dr)) (hdf : aa2 p st.dfs = true)
  (hT : ∀ U U' ρ ρ' xs, Imm.le U U' → H7 U U' ρ dr → (∀ n l, n.pin nx = true → ρ (s6 sw n) = some l → ρ' n = some l) → i8 U ρ st.tmps xs → i8 U' ρ' ts xs)
  (hnames : ∀ n b, (n, b) ∈ h' → n.pin nx = true ∧ ∃ b0, (s6 sw n, b0) ∈ keep ∧ (∀ es f, b0 = .rows es 0 f true → ∃ es f, b = .rows es 0 f true) ∧
   ∀ U U' ρ ρ', Imm.le U U' → H7 U U' ρ dr → (∀ n l, n.pin nx = true → ρ (s6 sw n) = some l → ρ' n = some l) → ∀ sz o, r8 U ρ sz b0 o → r8 U' ρ' sz b o)
  (hnd : (h'.map fun q => s6 sw q.1) = keep.map Prod.fst) : Wk p st ⟨ts, h', nx, st.dfs⟩ := by
 intro X U ρ a w hs
 have H := hs.heap.perm hperm
 have hfU : ∀ n b l, (n, b) ∈ dr → ρ n = some l → l.real = true → U l.blk = none := fun n b l hm e hr => by
  obtain ⟨_, _, _, h⟩ := H.right.real hm e hr; exact h
 have hU : U.le (freeze U ρ dr w) := fun k c e => by
  unfold freeze
  split
  ·rename_i hh
   obtain ⟨n, b, l, h1, h2, h3, rfl⟩ := hh
   rw [hfU n b l h1 h2 h3] at e; cases e
  ·exact e
 have hF : H7 U (freeze U ρ dr w) ρ dr := fun n b hm l e hr => by
  have hex : ∃ n b l', (n, b) ∈ dr ∧ ρ n = some l' ∧ l'.real = true ∧ l'.blk = l.blk := ⟨n, b, l, hm, e, hr, rfl⟩
  obtain ⟨o, h1, h2, h3⟩ := H.right.real hm e hr
  constructor
  ·rintro cs rfl
   obtain ⟨c, el, lo, hi, rfl, _, _, h4⟩ := h2
   exact ⟨c, by unfold freeze; rw [if_pos hex, h1], h4⟩
  ·rintro es m f g rfl
   obtain ⟨c, el, lo, hi, rfl, _, _, _, _, h4⟩ := h2
   exact ⟨c, by unfold freeze; rw [if_pos hex, h1], h4⟩
 let ρ' : Env := fun n => match n.pin nx with
  | true => ρ (s6 sw n)
  | false => none
 have hρ : ∀ n l, n.pin nx = true → ρ (s6 sw n) = some l → ρ' n = some l := fun n l hn e => by simp [ρ', hn, e]
 have hρ' : ∀ n, n.pin nx = true → ρ' n = ρ (s6 sw n) := fun n hn => by simp [ρ', hn]
 have hpin : ∀ n, n.pin p = true → ρ' n = ρ n := fun n hn => by rw [hρ' n (Nm.pin_mono hp hn), G7 hsw n hn]
 have hkd : ∀ n b b', (n, b) ∈ keep → (n, b') ∉ dr := fun n b b' h1 h2 => by
  have := H.nd
  rw [List.map_append, List.nodup_append] at this
  exact this.2.2 n (List.mem_map.2 ⟨_, h1, rfl⟩) n (List.mem_map.2 ⟨_, h2, rfl⟩) rfl
 have hinj : ∀ a b, s6 sw a = s6 sw b → a = b := fun a b e => by rw [← H9 sw a, ← H9 sw b, e]
 refine ⟨freeze U ρ dr w, ρ', ⟨hT U _ ρ ρ' _ hU hF hρ hs.tmps, ?_, ⟨fun n b hm => ?_, fun n b n' b' l l' m m' e1 e2 r1 r2 e3 => ?_, ?_, fun k c hk => ?_⟩, fun k hk => ?_⟩, ⟨⟨Nat.le_refl _, hU, fun _ _ _ => rfl, fun n l ⟨b, hb⟩ e hr => ?_, fun k c hk => ?_, rfl, rfl⟩, fun n hn => ⟨hpin n hn, fun ⟨b, hb⟩ => ?_⟩⟩⟩
 ·have hd := hs.dfs
  have : ∀ (l : List Nm) (d : List Deferred), (∀ n ∈ l, n.pin p = true) → I5 X ρ l d → I5 X ρ' l d := by
   intro l
   induction l with
   | nil => exact fun d _ h => h
   | cons n ns ih =>
    rintro d hpn ⟨lc, r, e1, e2, e3⟩
    exact ⟨lc, r, by rw [hpin n (hpn n (List.mem_cons_self ..))]; exact e1, e2, ih _ (fun m hm => hpn m (List.mem_cons_of_mem _ hm)) e3⟩
  exact this _ _ (au_ hdf) hd
 ·obtain ⟨h1, b0, h2, h3, h4⟩ := hnames n b hm
  obtain ⟨l, g1, g2⟩ := H.left.blk _ _ h2
  refine ⟨l, hρ n l h1 g1, ?_⟩
  rcases g2 with ⟨hr, o, g3, g4, g5⟩ | ⟨hr, es, f, rfl⟩
  ·refine .inl ⟨hr, o, g3, h4 U _ ρ ρ' hU hF hρ _ _ g4, ?_⟩
   unfold freeze
   rw [if_neg]
   ·exact g5
   ·rintro ⟨n', b', l', k1, k2, k3, k4⟩
    have := H.inj n' b' (s6 sw n) b0 l' l (List.mem_append_right _ k1) (List.mem_append_left _ h2) k2 g1 k3 hr k4
    rw [this] at k1
    exact hkd _ _ _ h2 k1
  ·exact .inr ⟨hr, h3 es f rfl⟩
 ·obtain ⟨h1, b0, h2, _⟩ := hnames n b m
  obtain ⟨h1', b0', h2', _⟩ := hnames n' b' m'
  rw [hρ' n h1] at e1
  rw [hρ' n' h1'] at e2
  exact hinj _ _ (H.inj _ b0 _ b0' l l' (List.mem_append_left _ h2) (List.mem_append_left _ h2') e1 e2 r1 r2 e3)
 ·have : (h'.map fun q => s6 sw q.1) = (h'.map Prod.fst).map (s6 sw) := by rw [List.map_map]; rfl
  have hnd2 := H.left.nd
  rw [← hnd, this] at hnd2
  exact (List.pairwise_map.1 hnd2).imp fun h e => h (by rw [e])
 ·unfold freeze at hk
  split at hk
  ·split at hk
   ·rename_i c' el fr hh
    simp only [Option.some.injEq] at hk; subst hk
    exact ⟨el, fr, hh⟩
   ·cases hk
  ·exact hs.heap.imm k c hk
 ·have : (Nm.o k).pin nx = false := by simp only [Nm.pin, decide_eq_false_iff_not]; exact Nat.not_lt.2 hk
  simp [ρ', this]
 ·obtain ⟨h1, b0, h2, _⟩ := hnames n b hb
  rw [hρ' n h1] at e
  exact .inr ⟨_, l, ⟨b0, hperm.mem_iff.2 (List.mem_append_left _ h2)⟩, e, hr, rfl⟩
 ·unfold freeze at hk
  split at hk
  ·rename_i hh
   obtain ⟨n, b, l, h1, h2, h3, h4⟩ := hh
   exact .inr (.inr ⟨n, l, ⟨b, hperm.mem_iff.2 (List.mem_append_right _ h1)⟩, h2, h3, h4⟩)
  ·exact .inl hk
 ·obtain ⟨_, b0, h2, _⟩ := hnames n b hb
  rw [G7 hsw n hn] at h2
  exact ⟨b0, hperm.mem_iff.2 (List.mem_append_left _ h2)⟩
theorem ar5 {p : Nat} {k : W} {st st' : St} {cs : List Prop} (h : wkE p k st = some (st', cs)) (hc : All cs) : Wk p st st' ∧ p ≤ st'.next := by
 unfold wkE at h
 cases ht : L7 (aS1 k.sw k.hp) st.heap with
 | none => simp [ht] at h
 | some q =>
  obtain ⟨bs, r⟩ := q
  simp only [ht] at h
  have hperm := T7 ht
  generalize hdr : (match k.tl with
   | some m => r.take m
   | none => r) = dr at h
  generalize htl : (match k.tl with
   | some m => r.drop m
   | none => []) = tl at h
  have hsplit : r.Perm (tl ++ dr) := by
   cases hk : k.tl with
   | none => simp only [hk] at hdr htl; subst hdr; subst htl; exact List.Perm.refl _
   | some m =>
    simp only [hk] at hdr htl; subst hdr; subst htl
    exact (List.Perm.of_eq (List.take_append_drop m r).symm).trans List.perm_append_comm
  cases hw : X0 p k.nx k.sw dr k.hp bs with
  | none => simp [hw] at h
  | some q =>
   obtain ⟨h', c1⟩ := q
   simp only [hw] at h
   cases hts : X1 p k.nx k.sw dr k.tm 0 st.tmps with
   | none => simp [hts] at h
   | some q =>
    obtain ⟨ts, c2⟩ := q
    simp only [hts] at h
    cases hb : (ag9 p k.sw && (Nat.ble p k.nx && aa2 p st.dfs)) <;> simp only [hb, cond_true, cond_false, reduceCtorEq] at h
    simp only [Bool.and_eq_true] at hb
    obtain ⟨b1, b2, b3⟩ := hb
    have hp := Nat.le_of_ble_eq_true b2
    have fin : All c1 → All c2 → V1 p tl → Wk p st ⟨ts, h' ++ tl, k.nx, st.dfs⟩ := by
     intro k1 k2 k3
     refine bL5 (keep := bs ++ tl) (dr := dr) b1 hp (hperm.trans ((hsplit.append_left bs).trans (by rw [List.append_assoc]))) b3
      (fun U U' ρ ρ' xs hU hF hρ hv => Z1 hU hF b1 hp hρ 0 _ _ _ _ hts k2 hv) (fun n b hm => ?_) ?_
     ·rcases List.mem_append.1 hm with hm | hm
      ·obtain ⟨g1, b0, g2, g3, g4⟩ := (Z0 b1 hp k.hp bs h' c1 hw k1).2 n b hm
       exact ⟨g1, b0, List.mem_append_left _ g2, g3, g4⟩
      ·obtain ⟨g1, g2⟩ := k3 _ hm
       refine ⟨Nm.pin_mono hp g1, b, by rw [G7 b1 n g1]; exact List.mem_append_right _ hm, fun es f e => ⟨es, f, e⟩, fun U U' ρ ρ' hU hF hρ sz o ho => ?_⟩
       exact r8.within hU (fun m l hn e => hρ m l (Nm.pin_mono hp hn) (by rw [G7 b1 m hn]; exact e)) g2 ho
     ·rw [List.map_append, List.map_append, (Z0 b1 hp k.hp bs h' c1 hw k1).1]
      congr 1
      exact List.map_congr_left fun q hq => G7 b1 _ (k3 q hq).1
    cases hk : k.tl with
    | none =>
     simp only [hk, Option.some.injEq, Prod.mk.injEq] at h htl
     obtain ⟨rfl, rfl⟩ := h
     subst htl
     obtain ⟨k1, k2⟩ := f6.1 hc
     have := fin k1 k2 (fun q hq => by cases hq)
     rw [List.append_nil] at this
     exact ⟨this, hp⟩
    | some m =>
     simp only [hk, Option.some.injEq, Prod.mk.injEq] at h
     obtain ⟨rfl, rfl⟩ := h
     obtain ⟨k3, k12⟩ := hc
     obtain ⟨k1, k2⟩ := f6.1 k12
     exact ⟨fin k1 k2 k3, hp⟩
end Sy
namespace Sy
open Go
variable {P : Program}
variable {X : List Deferred}
def aA2 (t es : Nat) (st : St) : Option St := match m6 st.tmps t with
 | .snil => some ⟨J8 st.tmps t (.sl (.o st.next) es 0 0 0 0 none), (.o st.next, .rows es 0 (fun _ => []) true) :: st.heap, st.next + 1, st.dfs⟩
 | _ => none
theorem aw6 {U : Imm} {ρ : Env} {u v : V} (h : ∀ x, c9 U ρ u x → c9 U ρ v x) : ∀ {l : List V} {xs : List Value} {t : Nat}, m6 l t = u → i8 U ρ l xs → i8 U ρ (J8 l t v) xs
 | [], xs, t, _, hv => by simpa [J8] using hv
 | w :: vs, xs, 0, hg, hv => by
  rw [i8] at hv
  obtain ⟨x, r, rfl, h1, h2⟩ := hv
  simp only [m6] at hg; subst hg
  simp only [J8]; rw [i8]; exact ⟨x, r, rfl, h x h1, h2⟩
 | w :: vs, xs, t + 1, hg, hv => by
  rw [i8] at hv
  obtain ⟨x, r, rfl, h1, h2⟩ := hv
  simp only [m6] at hg
  simp only [J8]; rw [i8]; exact ⟨x, r, rfl, h1, aw6 h hg h2⟩
theorem I5.mono {ρ ρ' : Env} (h : ρ.le ρ') : ∀ {l : List Nm} {d : List Deferred}, I5 X ρ l d → I5 X ρ' l d
 | [], _, hd => hd
 | n :: ns, d, hd => by obtain ⟨lc, r, e1, e2, e3⟩ := hd; exact ⟨lc, r, h _ _ e1, e2, I5.mono h e3⟩
theorem bu1 {p t es : Nat} {st st' : St} (h : aA2 t es st = some st') (hp : p ≤ st.next) : Wk p st st' ∧ p ≤ st'.next := by
 unfold aA2 at h
 cases hg : m6 st.tmps t <;> simp only [hg, reduceCtorEq, Option.some.injEq] at h
 subst h
 refine ⟨fun X U ρ a w hs => ?_, Nat.le_succ_of_le hp⟩
 have hm := hs.fresh st.next (Nat.le_refl _)
 have hle := Env.le_add hm (⟨0, 0, false⟩ : Loc)
 have L := Leaves.newG (val := .snil) (x := .slice none 0 0) (m := .o st.next) (b := .rows es 0 (fun _ => []) true) (l := ⟨0, 0, false⟩) (w' := w) hs.heap hm (Nat.le_refl _) (fun _ _ => rfl) (.inr ⟨rfl, _, _, rfl⟩) (by rw [c9])
 refine ⟨U, _, ⟨?_, I5.mono hle hs.dfs, L.heap, fun k hk => ?_⟩, ⟨L.ext, fun n hn => ?_⟩⟩
 ·refine aw6 (fun x hx => ?_) hg (i8.mono (Imm.le_refl _) hle hs.tmps)
  rw [c9] at hx; subst hx
  rw [c9]
  exact ⟨_, 0, Env.add_self, Nat.le_refl _, by simp, .inr ⟨rfl, rfl, rfl, rfl⟩⟩
 ·have hk' : st.next + 1 ≤ k := hk
  have : Nm.o k ≠ Nm.o st.next := fun e => by cases e; omega
  simp only [Env.add, this, if_false]; exact hs.fresh k (by omega)
 ·have hne : n ≠ Nm.o st.next := fun e => by subst e; simp only [Nm.pin, decide_eq_true_eq] at hn; omega
  refine ⟨by simp [Env.add, hne], fun ⟨b, hb⟩ => ?_⟩
  rcases List.mem_cons.1 hb with hb | hb
  ·cases hb; exact (hne rfl).elim
  ·exact ⟨b, hb⟩
inductive Hint where
 | reg (l : List (Nat × OH))
 | br (b : Bool)
 | loop (m : Nat) (k : W) (e : Exit) (st1 : St)
 | rounds (n : Nat)
 | wk (k : W)
 | virt (t es : Nat)
def M3 (p : Nat) : List Hint → St → Option (St × List Prop × List Hint)
 | [], st => some (st, [], [])
 | h :: hs, st => match h with
  | .wk k => match wkE p k st with
   | none => none
   | some (st1, c1) => match M3 p hs st1 with
    | none => none
    | some (st2, c2, hs2) => some (st2, c1 ++ c2, hs2)
  | .virt t es => match aA2 t es st with
   | none => some (st, [], .virt t es :: hs)
   | some st1 => M3 p hs st1
  | h => some (st, [], h :: hs)
theorem U7 {p : Nat} : ∀ {hs hs' : List Hint} {st st' : St} {cs : List Prop}, M3 p hs st = some (st', cs, hs') → All cs → p ≤ st.next → Wk p st st' ∧ p ≤ st'.next
 | [], hs', st, st', cs, h, _, hp => by
  simp only [M3, Option.some.injEq, Prod.mk.injEq] at h
  obtain ⟨rfl, rfl, rfl⟩ := h
  exact ⟨Wk.refl _, hp⟩
 | h0 :: hs, hs', st, st', cs, h, hc, hp => by
  unfold M3 at h
  split at h
  ·rename_i k
   cases hw : wkE p k st with
   | none => simp [hw] at h
   | some q =>
    obtain ⟨st1, c1⟩ := q
    simp only [hw] at h
    cases hr : M3 p hs st1 with
    | none => simp [hr] at h
    | some q =>
     obtain ⟨st2, c2, hs2⟩ := q
     simp only [hr, Option.some.injEq, Prod.mk.injEq] at h
     obtain ⟨rfl, rfl, rfl⟩ := h
     obtain ⟨k1, k2⟩ := f6.1 hc
     obtain ⟨g1, g2⟩ := ar5 hw k1
     obtain ⟨g3, g4⟩ := U7 hr k2 g2
     exact ⟨g1.trans g3, g4⟩
  ·rename_i t es
   cases hw : aA2 t es st with
   | none =>
    simp only [hw, Option.some.injEq, Prod.mk.injEq] at h
    obtain ⟨rfl, rfl, rfl⟩ := h
    exact ⟨Wk.refl _, hp⟩
   | some st1 =>
    simp only [hw] at h
    obtain ⟨g1, g2⟩ := bu1 hw hp
    obtain ⟨g3, g4⟩ := U7 h hc g2
    exact ⟨g1.trans g3, g4⟩
  ·simp only [Option.some.injEq, Prod.mk.injEq] at h
   obtain ⟨rfl, rfl, rfl⟩ := h
   exact ⟨Wk.refl _, hp⟩
def cL : Code → Code
 | .seq x _ => x
 | _ => .skip
def cR : Code → Code
 | .seq _ y => y
 | _ => .skip
def cT : Code → Code
 | .cond _ x _ => x
 | _ => .skip
def cE : Code → Code
 | .cond _ _ y => y
 | _ => .skip
def cB : Code → Code
 | .block _ c => c
 | .loop c => c
 | .scope c => c
 | _ => .skip
structure RunR where
 e : Exit
 st : St
 cs : List Prop
 hs : List Hint
def bn4 (o : Oper) : Bool := match o.guard with
 | some _ => true
 | none => match o.op with
  | .call c => match c.callee with
   | .value _ => true
   | _ => (aa_ o.op).isSome
  | op => (aa_ op).isSome
def ba_ (ops : Array Oper) : Bool := ops.toList.any bn4
def ah5 (cs : List Prop) (r : Option RunR) : Option RunR := match r with
 | none => none
 | some r => some { r with cs := cs ++ r.cs }
def iter (f : St → List Hint → Option RunR) : Nat → St → List Hint → Option RunR
 | 0, _, _ => none
 | n + 1, st, hs => match f st hs with
  | none => none
  | some r => match r.e with
   | .normal => ah5 r.cs (iter f n r.st r.hs)
   | _ => some r
def run (P : Program) (ro : Option Nat) (p : Nat) : Code → Code → St → List Hint → Option RunR
 | .skip, _, st, hs => some ⟨.normal, st, [], hs⟩
 | .ret, _, st, hs => some ⟨.ret, st, [], hs⟩
 | .exit id, _, st, hs => some ⟨.exit id, st, [], hs⟩
 | .region _ ops draw, _, st, hs =>
  match ba_ ops with
  | false => match af9 P ops draw [] st with
   | none => none
   | some (st', cs) => some ⟨.normal, st', cs, hs⟩
  | true => match hs with
   | .reg l :: hs' => match af9 P ops draw l st with
    | none => none
    | some (st', cs) => some ⟨.normal, st', cs, hs'⟩
   | _ => match af9 P ops draw [] st with
    | none => none
    | some (st', cs) => some ⟨.normal, st', cs, hs⟩
 | .seq x y, c', st, hs => match run P ro p x (cL c') st hs with
  | none => none
  | some r => match r.e with
   | .normal => match M3 p r.hs r.st with
    | none => none
    | some (st2, c2, hs2) => ah5 (r.cs ++ c2) (run P ro p y (cR c') st2 hs2)
   | _ => some r
 | .cond o x y, c', st, hs => match evV st.tmps o with
  | .bool c => match hs with
   | .br b :: hs' => match b with
    | true => ah5 [c = true] (run P ro p x (cT c') st hs')
    | false => ah5 [c = false] (run P ro p y (cE c') st hs')
   | _ => match c with
    | true => run P ro p x (cT c') st hs
    | false => run P ro p y (cE c') st hs
  | _ => none
 | .block id c, c', st, hs => match run P ro p c (cB c') st hs with
  | none => none
  | some r => match r.e with
   | .normal => some r
   | .exit k => bif Nat.beq k id then some { r with e := .normal } else some r
   | _ => some r
 | .loop c, c', st, hs => match hs with
  | .loop m k e st1 :: hs' => bif Nat.ble p st1.next then match wkE p k st with
    | none => none
    | some (st0, c0) => some ⟨e, st1, f9 P ro p (cB c') m st0 e st1 :: c0, hs'⟩
   else none
  | .rounds n :: hs' => iter (run P ro p c (cB c')) n st hs'
  | _ => none
 | .rangeFunc _ _ _ _, c', st, hs => match hs with
  | .loop _ k e st1 :: hs' => bif Nat.ble p st1.next then match wkE p k st with
    | none => none
    | some (st0, c0) => some ⟨e, st1, R P ro p c' st0 e st1 :: c0, hs'⟩
   else none
  | _ => none
 | .scope c, c', st, hs => match run P ro p c (cB c') st hs with
  | none => none
  | some r => match r.e with
   | .goto _ => none
   | _ => some r
 | .label _, _, st, hs => some ⟨.normal, st, [], hs⟩
 | _, _, _, _ => none
theorem T2 {cs : List Prop} {r : Option RunR} {r' : RunR} (h : ah5 cs r = some r') : ∃ r0, r = some r0 ∧ r' = { r0 with cs := cs ++ r0.cs } := by
 unfold ah5 at h
 cases r with
 | none => simp at h
 | some r0 => simp only [Option.some.injEq] at h; exact ⟨r0, rfl, h.symm⟩
def bu3 (P : Program) (ro : Option Nat) (p : Nat) (c : Code) : Prop :=
 ∀ (c' : Code), c' = c → ∀ (st : St) (hs : List Hint) (r : RunR), run P ro p c c' st hs = some r → All r.cs → p ≤ st.next → p ≤ r.st.next ∧ R P ro p c st r.e r.st
theorem aL5 {ro : Option Nat} {p : Nat} {c c' : Code} (hcc : c' = c) (h : bu3 P ro p c) : ∀ (n : Nat) (st : St) (hs : List Hint) (r : RunR), iter (run P ro p c c') n st hs = some r → All r.cs → p ≤ st.next → p ≤ r.st.next ∧ f9 P ro p c n st r.e r.st
 | 0, st, hs, r, he, _, _ => by simp [iter] at he
 | n + 1, st, hs, r, he, hc, hp => by
  unfold iter at he
  cases hr : run P ro p c c' st hs with
  | none => simp [hr] at he
  | some r1 =>
   simp only [hr] at he
   by_cases hn : r1.e = .normal
   ·simp only [hn] at he
    obtain ⟨r0, h1, rfl⟩ := T2 he
    obtain ⟨k1, k2⟩ := f6.1 hc
    obtain ⟨g1, g2⟩ := h c' hcc st hs r1 hr k1 hp
    obtain ⟨g3, g4⟩ := aL5 hcc h n r1.st r1.hs r0 h1 k2 g1
    rw [hn] at g2
    exact ⟨g3, f9.step g2 g4⟩
   ·have : some r1 = some r := by
     cases he1 : r1.e <;> simp only [he1] at he hn <;> first | exact he | exact (hn trivial).elim
    simp only [Option.some.injEq] at this
    subst this
    obtain ⟨g1, g2⟩ := h c' hcc st hs r1 hr hc hp
    exact ⟨g1, f9.out g2 hn⟩
theorem be5 (hng : L8 P) (hm : P.follows .mixedOrders = true) {ro : Option Nat} {p : Nat} : ∀ c : Code, bu3 P ro p c := by
 intro c
 induction c with
 | skip => intro c' _ st hs r h hc hp; simp only [run, Option.some.injEq] at h; subst h; exact ⟨hp, R.skip st⟩
 | ret => intro c' _ st hs r h hc hp; simp only [run, Option.some.injEq] at h; subst h; exact ⟨hp, R.ret st⟩
 | exit id => intro c' _ st hs r h hc hp; simp only [run, Option.some.injEq] at h; subst h; exact ⟨hp, R.exit id st⟩
 | region id ops draw =>
  intro c' _ st hs r h hc hp
  have key : ∀ (l : List (Nat × OH)) (hs1 : List Hint), (match af9 P ops draw l st with
    | none => none
    | some (st', cs) => some (⟨.normal, st', cs, hs1⟩ : RunR)) = some r → p ≤ r.st.next ∧ R P ro p (.region id ops draw) st r.e r.st := by
   intro l hs1 he
   cases hr : af9 P ops draw l st with
   | none => simp [hr] at he
   | some q =>
    obtain ⟨st', cs⟩ := q
    simp only [hr, Option.some.injEq] at he
    subst he
    exact bK6 hng hm hr hc hp
  unfold run at h
  split at h
  ·exact key _ _ h
  ·split at h
   ·exact key _ _ h
   ·exact key _ _ h
 | seq x y ihx ihy =>
  intro c' hcc st hs r h hc hp
  subst hcc
  unfold run at h
  simp only [cL, cR] at h
  cases hr : run P ro p x x st hs with
  | none => simp [hr] at h
  | some r1 =>
   simp only [hr] at h
   by_cases hn : r1.e = .normal
   ·simp only [hn] at h
    cases hpr : M3 p r1.hs r1.st with
    | none => simp [hpr] at h
    | some q =>
     obtain ⟨st2, c2, hs2⟩ := q
     simp only [hpr] at h
     obtain ⟨r0, h1, rfl⟩ := T2 h
     simp only [f6] at hc
     obtain ⟨⟨k1, k2⟩, k3⟩ := hc
     obtain ⟨g1, g2⟩ := ihx x rfl st hs r1 hr k1 hp
     obtain ⟨g5, g6⟩ := U7 hpr k2 g1
     obtain ⟨g3, g4⟩ := ihy y rfl st2 hs2 r0 h1 k3 g6
     rw [hn] at g2
     exact ⟨g3, R.seq g2 (R.pre g5 g4)⟩
   ·have : some r1 = some r := by
     cases he1 : r1.e <;> simp only [he1] at h hn <;> first | exact h | exact (hn trivial).elim
    simp only [Option.some.injEq] at this
    subst this
    obtain ⟨g1, g2⟩ := ihx x rfl st hs r1 hr hc hp
    exact ⟨g1, R.seq_out g2 hn⟩
 | cond o x y ihx ihy =>
  intro c' hcc st hs r h hc hp
  subst hcc
  unfold run at h
  simp only [cT, cE] at h
  cases hv : evV st.tmps o <;> simp only [hv, reduceCtorEq] at h
  rename_i c
  have hb : ∀ ⦃X : List Deferred⦄ U ρ a w, StRel X U ρ st a w → a.eval o = .bool c := fun X U ρ a w hs => by
   have := bE9 hs.tmps o
   rw [hv, c9] at this; exact this
  split at h
  ·split at h
   ·obtain ⟨r0, h1, rfl⟩ := T2 h
    have hcc : c = true := hc.1
    subst hcc
    obtain ⟨g1, g2⟩ := ihx _ rfl _ _ _ h1 hc.2 hp
    exact ⟨g1, R.cond hb (by simpa using g2)⟩
   ·obtain ⟨r0, h1, rfl⟩ := T2 h
    have hcc : c = false := hc.1
    subst hcc
    obtain ⟨g1, g2⟩ := ihy _ rfl _ _ _ h1 hc.2 hp
    exact ⟨g1, R.cond hb (by simpa using g2)⟩
  ·cases c with
   | true =>
    obtain ⟨g1, g2⟩ := ihx _ rfl _ _ _ h hc hp
    exact ⟨g1, R.cond hb (by simpa using g2)⟩
   | false =>
    obtain ⟨g1, g2⟩ := ihy _ rfl _ _ _ h hc hp
    exact ⟨g1, R.cond hb (by simpa using g2)⟩
 | block id c ih =>
  intro c' hcc st hs r h hc hp
  subst hcc
  unfold run at h
  simp only [cB] at h
  cases hr : run P ro p c c st hs with
  | none => simp [hr] at h
  | some r1 =>
   simp only [hr] at h
   cases he : r1.e with
   | normal =>
    simp only [he, Option.some.injEq] at h; subst h
    obtain ⟨g1, g2⟩ := ih c rfl st hs r1 hr hc hp
    rw [he] at g2
    rw [he]
    exact ⟨g1, R.block g2⟩
   | exit k =>
    simp only [he] at h
    cases hb : Nat.beq k id <;> simp only [hb, cond_true, cond_false, Option.some.injEq] at h <;> subst h
    ·obtain ⟨g1, g2⟩ := ih c rfl st hs r1 hr hc hp
     refine ⟨g1, R.block_out g2 (by rw [he]; simp) ?_⟩
     rw [he]
     intro hh
     cases hh
     rw [Nat.beq_refl] at hb; cases hb
    ·have hk := Nat.eq_of_beq_eq_true hb
     subst hk
     obtain ⟨g1, g2⟩ := ih c rfl st hs r1 hr hc hp
     rw [he] at g2
     exact ⟨g1, R.block_exit g2⟩
   | _ =>
    simp only [he, Option.some.injEq] at h; subst h
    obtain ⟨g1, g2⟩ := ih c rfl st hs r1 hr hc hp
    exact ⟨g1, R.block_out g2 (by rw [he]; simp) (by rw [he]; simp)⟩
 | loop c ih =>
  intro c' hcc st hs r h hc hp
  subst hcc
  unfold run at h
  simp only [cB] at h
  split at h
  ·rename_i m k e st1 hs'
   cases hb : Nat.ble p st1.next <;> simp only [hb, cond_true, cond_false, reduceCtorEq] at h
   cases hw : wkE p k st with
   | none => simp [hw] at h
   | some q =>
    obtain ⟨st0, c0⟩ := q
    simp only [hw, Option.some.injEq] at h
    subst h
    obtain ⟨k1, k2⟩ := hc
    exact ⟨Nat.le_of_ble_eq_true hb, R.loop (f9.pre (ar5 hw k2).1 k1)⟩
  ·obtain ⟨g1, g2⟩ := aL5 rfl ih _ _ _ _ h hc hp
   exact ⟨g1, R.loop g2⟩
  ·simp at h
 | rangeFunc f ps a b iha ihb =>
  intro c' hcc st hs r h hc hp
  subst hcc
  unfold run at h
  split at h
  ·rename_i m k e st1 hs'
   cases hb : Nat.ble p st1.next <;> simp only [hb, cond_true, cond_false, reduceCtorEq] at h
   cases hw : wkE p k st with
   | none => simp [hw] at h
   | some q =>
    obtain ⟨st0, c0⟩ := q
    simp only [hw, Option.some.injEq] at h
    subst h
    obtain ⟨k1, k2⟩ := hc
    exact ⟨Nat.le_of_ble_eq_true hb, R.pre (ar5 hw k2).1 k1⟩
  ·simp at h
 | scope c ih =>
  intro c' hcc st hs r h hc hp
  subst hcc
  unfold run at h
  simp only [cB] at h
  cases hr : run P ro p c c st hs with
  | none => simp [hr] at h
  | some r1 =>
   simp only [hr] at h
   cases he : r1.e <;> simp only [he, reduceCtorEq, Option.some.injEq] at h <;> subst h <;> obtain ⟨g1, g2⟩ := ih c rfl st hs r1 hr hc hp <;> exact ⟨g1, R.scope g2 (by rw [he]; simp)⟩
 | label l => intro c' _ st hs r h hc hp; simp only [run, Option.some.injEq] at h; subst h; exact ⟨hp, R.label l st⟩
 | goto l => intro c' _ st hs r h; simp [run] at h
 | refuse w => intro c' _ st hs r h; simp [run] at h
def as_ (P : Program) (ro : Option Nat) (p : Nat) (c : Code) (st : St) (hs : List Hint) (k : W) : Option (Exit × St × List Prop) :=
 match M3 p hs st with
 | none => none
 | some (st1, c1, hs1) => match run P ro p c c st1 hs1 with
  | none => none
  | some r => match M3 p r.hs r.st with
   | none => none
   | some (st2, c2, _) => match wkE p k st2 with
    | none => none
    | some (st', c3) => some (r.e, st', c1 ++ (r.cs ++ (c2 ++ c3)))
theorem aA5 (hng : L8 P) (hm : P.follows .mixedOrders = true) {ro : Option Nat} {p : Nat} {c : Code} {st st' : St} {hs : List Hint} {k : W} {e : Exit} {cs : List Prop} (h : as_ P ro p c st hs k = some (e, st', cs)) (hc : All cs) (hp : p ≤ st.next) :
  R P ro p c st e st' := by
 unfold as_ at h
 cases h1 : M3 p hs st with
 | none => simp [h1] at h
 | some q =>
  obtain ⟨st1, c1, hs1⟩ := q
  simp only [h1] at h
  cases h2 : run P ro p c c st1 hs1 with
  | none => simp [h2] at h
  | some r =>
   simp only [h2] at h
   cases h3 : M3 p r.hs r.st with
   | none => simp [h3] at h
   | some q =>
    obtain ⟨st2, c2, hs2⟩ := q
    simp only [h3] at h
    cases h4 : wkE p k st2 with
    | none => simp [h4] at h
    | some q =>
     obtain ⟨st3, c3⟩ := q
     simp only [h4, Option.some.injEq, Prod.mk.injEq] at h
     obtain ⟨rfl, rfl, rfl⟩ := h
     simp only [f6] at hc
     obtain ⟨k1, k2, k3, k4⟩ := hc
     obtain ⟨g1, g2⟩ := U7 h1 k1 hp
     obtain ⟨g3, g4⟩ := be5 hng hm c c rfl st1 hs1 r h2 k2 g2
     obtain ⟨g5, g6⟩ := U7 h3 k3 g3
     exact R.post (R.pre g1 g4) (g5.trans (ar5 h4 k4).1)
theorem f9.inv {ro : Option Nat} {p : Nat} {c : Code} {e : Exit} {st1 : St} (I : Nat → St) (m : Nat) (hs : ∀ k, k < m → R P ro p c (I k) .normal (I (k + 1))) (he : R P ro p c (I m) e st1) (hn : e ≠ .normal) : f9 P ro p c (m + 1) (I 0) e st1 := by
 have : ∀ j, j ≤ m → f9 P ro p c (j + 1) (I (m - j)) e st1 := by
  intro j
  induction j with
  | zero => intro _; exact f9.out he hn
  | succ j ih =>
   intro hj
   have h1 := hs (m - (j + 1)) (by omega)
   rw [show m - (j + 1) + 1 = m - j by omega] at h1
   exact f9.step h1 (ih (by omega))
 have h := this m (Nat.le_refl _)
 rwa [Nat.sub_self] at h
end Sy
