/-
  What an operation leaves: small laws on 'Leaves'; an operation in a region; regions (own work of this seat).
-/
import Derived.Test.YthifjamdfpjilaaSy2
namespace Sy
open Go

theorem HRel.nil {U ρ} {h : Heap} {w : World} (H : HRel U ρ h w) : HRel U ρ [] w :=
  HRel.left (a := []) (b := h) H

theorem Leaves.same {U ρ pre} {w w' : World} {val : V} {x : Value} (H : HRel U ρ pre w) (hv : VRel U ρ val x) (e : w'.heap = w.heap) (eo : w'.os = w.os ∧ w'.output = w.output := by exact ⟨rfl, rfl⟩) : Leaves U ρ pre w val pre x U ρ w' :=
  ⟨hv, H.drew e, fun _ _ _ h => h, fun _ _ h => .inr h, ⟨by rw [e]; exact Nat.le_refl _, Imm.le_refl _, fun _ _ _ => by rw [e], fun n l hd e hr => .inr ⟨n, l, hd, e, hr, rfl⟩, fun _ _ e => .inl e, eo⟩⟩

/-- One name more. -/
def Env.add (ρ : Env) (m : Nm) (l : Loc) : Env := fun n => if n = m then some l else ρ n
theorem Env.le_add {ρ : Env} {m : Nm} (h : ρ m = Option.none) (l : Loc) : ρ.le (ρ.add m l) := fun n l' e => by
  unfold Env.add
  by_cases hn : n = m
  · subst hn; rw [h] at e; cases e
  · simp [hn, e]
theorem Env.add_self {ρ : Env} {m : Nm} {l : Loc} : ρ.add m l m = some l := by simp [Env.add]

/-- A new name, of a block that is new, or of none (a nil slice's). -/
theorem Leaves.newG {U ρ pre} {w w' : World} {val : V} {x : Value} {m : Nm} {b : B} {l : Loc} (H : HRel U ρ pre w) (hm : ρ m = none)
    (hsz : w.heap.size ≤ w'.heap.size) (hold : ∀ k, k < w.heap.size → w'.heap[k]? = w.heap[k]?)
    (hb : (l.real = true ∧ w.heap.size ≤ l.blk ∧ ∃ o, w'.heap[l.blk]? = some o ∧ BRel U (ρ.add m l) l.sz b o) ∨ (l.real = false ∧ ∃ es f, b = .rows es 0 f true))
    (hv : VRel U (ρ.add m l) val x) (eo : w'.os = w.os ∧ w'.output = w.output := by exact ⟨rfl, rfl⟩) :
    Leaves U ρ pre w val ((m, b) :: pre) x U (ρ.add m l) w' := by
  have hle := Env.le_add hm l
  have hpm : ∀ b', (m, b') ∉ pre := fun b' h => by obtain ⟨l, h1, _⟩ := H.blk m b' h; rw [hm] at h1; cases h1
  have hlt : ∀ n b, (n, b) ∈ pre → n ≠ m := fun n b h e => hpm b (e ▸ h)
  refine ⟨hv, ⟨fun n b' h => ?_, fun n b1 n' b2 l1 l2 h1 h2 e1 e2 r1 r2 e3 => ?_, ?_, fun k c hk => ?_⟩, fun n l _ h => hle n l h, fun n l0 h => ?_, ⟨hsz, Imm.le_refl _, fun k hk _ => hold k hk, fun n l0 hd h hr => ?_, fun _ _ h => .inl h, eo⟩⟩
  · rcases List.mem_cons.1 h with h | h
    · cases h
      refine ⟨_, Env.add_self, hb.imp ?_ id⟩
      rintro ⟨hr, hge, o, h1, h2⟩
      refine ⟨hr, o, h1, h2, ?_⟩
      cases hU : U l.blk with
      | none => rfl
      | some c => obtain ⟨_, _, h⟩ := H.imm _ _ hU; have := lt_size h; omega
    · obtain ⟨l, h1, h2⟩ := H.blk n b' h
      refine ⟨l, hle _ _ h1, h2.imp ?_ id⟩
      rintro ⟨hr, o', h2, h3, h4⟩
      exact ⟨hr, o', by rw [hold _ (lt_size h2)]; exact h2, BRel.mono (Imm.le_refl _) hle h3, h4⟩
  · have blk : ∀ n b l0, (n, b) ∈ pre → ρ.add m l n = some l0 → l0.real = true → l0.blk < w.heap.size ∧ ρ n = some l0 := fun n b l0 h e hr => by
      have hn := hlt n b h
      simp only [Env.add, hn, if_false] at e
      obtain ⟨o', h2, _⟩ := H.real h e hr
      exact ⟨lt_size h2, e⟩
    have new : l.real = true → w.heap.size ≤ l.blk := fun hr => by
      rcases hb with ⟨_, h, _⟩ | ⟨h, _⟩
      · exact h
      · rw [hr] at h; cases h
    rcases List.mem_cons.1 h1 with h1 | h1 <;> rcases List.mem_cons.1 h2 with h2 | h2
    · cases h1; cases h2; rfl
    · cases h1
      obtain ⟨h3, _⟩ := blk _ _ _ h2 e2 r2
      rw [Env.add_self] at e1; cases e1
      have := new r1; omega
    · cases h2
      obtain ⟨h3, _⟩ := blk _ _ _ h1 e1 r1
      rw [Env.add_self] at e2; cases e2
      have := new r2; omega
    · exact H.inj n b1 n' b2 l1 l2 h1 h2 (blk _ _ _ h1 e1 r1).2 (blk _ _ _ h2 e2 r2).2 r1 r2 e3
  · rw [List.map_cons, List.nodup_cons]
    refine ⟨fun h => ?_, H.nd⟩
    obtain ⟨⟨n, b'⟩, h1, rfl⟩ := List.mem_map.1 h
    exact hpm b' h1
  · obtain ⟨el, fr, h⟩ := H.imm k c hk
    exact ⟨el, fr, by rw [hold _ (lt_size h)]; exact h⟩
  · by_cases hn : n = m
    · subst hn; exact .inl ⟨b, by simp⟩
    · simp only [Env.add, hn, if_false] at h; exact .inr h
  · obtain ⟨b', hb'⟩ := hd
    rcases List.mem_cons.1 hb' with h1 | h1
    · cases h1; rw [Env.add_self] at h; cases h
      rcases hb with ⟨_, h, _⟩ | ⟨h, _⟩
      · exact .inl h
      · rw [hr] at h; cases h
    · have := hlt n b' h1
      simp only [Env.add, this, if_false] at h
      exact .inr ⟨n, l0, ⟨b', h1⟩, h, hr, rfl⟩

theorem Leaves.new {U ρ pre} {w w' : World} {val : V} {x : Value} {m : Nm} {b : B} {o : Obj} {sz : Nat} (H : HRel U ρ pre w) (hm : ρ m = none)
    (e : w'.heap = w.heap.push o) (hb : BRel U (ρ.add m ⟨w.heap.size, sz, true⟩) sz b o) (hv : VRel U (ρ.add m ⟨w.heap.size, sz, true⟩) val x) (eo : w'.os = w.os ∧ w'.output = w.output := by exact ⟨rfl, rfl⟩) :
    Leaves U ρ pre w val ((m, b) :: pre) x U (ρ.add m ⟨w.heap.size, sz, true⟩) w' :=
  Leaves.newG H hm (by rw [e]; simp) (fun k hk => by rw [e, Array.getElem?_push]; simp [Nat.ne_of_lt hk]) (.inl ⟨rfl, Nat.le_refl _, o, by rw [e]; simp, hb⟩) hv eo

theorem Leaves.set {U ρ} {w w' : World} {val : V} {x : Value} {n : Nm} {b b' : B} {l : Loc} {o' : Obj} (H : HRel U ρ [(n, b)] w) (hl : ρ n = some l) (hr : l.real = true)
    (e : w'.heap = w.heap.setIfInBounds l.blk o') (hb : BRel U ρ l.sz b' o') (hv : VRel U ρ val x) (eo : w'.os = w.os ∧ w'.output = w.output := by exact ⟨rfl, rfl⟩) : Leaves U ρ [(n, b)] w val [(n, b')] x U ρ w' := by
  obtain ⟨o, h2, h3, h4⟩ := H.real (b := b) (by simp) hl hr
  have hlt := lt_size h2
  have hold : ∀ k, k ≠ l.blk → w'.heap[k]? = w.heap[k]? := fun k hk => by rw [e, Array.getElem?_setIfInBounds]; simp [Ne.symm hk]
  refine ⟨hv, ⟨fun m b1 h => ?_, fun m b1 m' b2 l1 l2 h1 h2 _ _ _ _ _ => ?_, by simp, fun k c hk => ?_⟩, fun _ _ _ h => h, fun _ _ h => .inr h, ⟨by rw [e]; simp, Imm.le_refl _, fun k hk hn => hold k ?_, fun m l1 hd e1 hr1 => ?_, fun _ _ h => .inl h, eo⟩⟩
  · simp only [List.mem_singleton, Prod.mk.injEq] at h
    obtain ⟨rfl, rfl⟩ := h
    exact ⟨l, hl, .inl ⟨hr, o', by rw [e, Array.getElem?_setIfInBounds]; simp [hlt], hb, h4⟩⟩
  · simp only [List.mem_singleton, Prod.mk.injEq] at h1 h2
    rw [h1.1, h2.1]
  · obtain ⟨el, fr, h⟩ := H.imm k c hk
    exact ⟨el, fr, by rw [hold k (fun hk' => by rw [hk', h4] at hk; cases hk)]; exact h⟩
  · intro hk'; exact hn n l ⟨b, by simp⟩ hl hr hk'.symm
  · obtain ⟨b1, h⟩ := hd
    simp only [List.mem_singleton, Prod.mk.injEq] at h
    obtain ⟨rfl, rfl⟩ := h
    rw [hl] at e1; cases e1
    exact .inr ⟨m, l, ⟨b, by simp⟩, hl, hr, rfl⟩

/-- A block that was there is let go. -/
theorem Leaves.drop {U ρ pre} {w : World} {val : V} {post post' : Heap} {x : Value} {U' : Imm} {ρ' : Env} {w' : World} (L : Leaves U ρ pre w val post x U' ρ' w')
    (hs : post'.Sublist post) (hd : ∀ n, post.dom n → post'.dom n ∨ ∃ l, ρ n = some l) : Leaves U ρ pre w val post' x U' ρ' w' := by
  have hm : ∀ p, p ∈ post' → p ∈ post := fun p h => hs.subset h
  refine ⟨L.val, ⟨fun n b h => L.heap.blk n b (hm _ h), fun n b n' b' l l' h h' => L.heap.inj n b n' b' l l' (hm _ h) (hm _ h'), (hs.map Prod.fst).nodup L.heap.nd, L.heap.imm⟩,
    fun n l ⟨b, h⟩ e => L.keep n l ⟨b, hm _ h⟩ e, fun n l e => ?_, ⟨L.ext.size, L.ext.imm, L.ext.frame, fun n l ⟨b, h⟩ e => L.ext.new n l ⟨b, hm _ h⟩ e, L.ext.newImm, L.ext.out⟩⟩
  rcases L.only n l e with h | h
  · rcases hd n h with h' | ⟨l0, h0⟩
    · exact .inl h'
    · have := L.keep n l0 h h0
      rw [this] at e; cases e; exact .inr h0
  · exact .inr h

/-! ### Operations -/
/-- What comes of an operation's run. -/
def Leads (P : Program) (K : Value → World → Prop) : Result Next → Prop
  | .ok (.value v) w' => K v w'
  | .ok .skip w' => K undef w'
  | .ok (.enter f args) w' => Calls P f args w' fun e w'' => ∃ v, e = .returned v ∧ K v w''
  | .ok (.round l f tmps assign body) w' => RoundIn (Fw none) 0 P l f tmps assign body w' fun e w'' => ∃ v, e = .returned v ∧ K v w''
  | _ => False

theorem wide_fn (ro : Option Nat) (f : FuncId) : (Fw ro).fn f := trivial
theorem Fw_depth (ro : Option Nat) : (Fw ro).depth.isSome = true → 1 ≤ (0 : Nat) := fun h => by simp [Fw, Fence.wide] at h

theorem wpIn_of_leads {P : Program} {ro : Option Nat} {o : Oper} {a : Act} {w : World} {next : Act → World → Prop} {Q : Exit → Act → World → Prop}
    (hd : ∀ c, o.op ≠ .defer c) (h : Leads P (fun v w' => next (a.put o.dst v) w') ((execOp a.eval o).run P w)) : o.wpIn (Fw ro) 0 P a w next Q := by
  refine ⟨fun f _ => wide_fn ro f, ?_⟩
  rw [Oper.semAt_eq _ _ _ hd]
  generalize (execOp a.eval o).run P w = r at h ⊢
  cases r with
  | halt h' w' => exact h.elim
  | ok x w' =>
    cases x with
    | value v => exact h
    | skip => exact h
    | enter f args =>
      refine ⟨Fw_depth ro, ?_⟩
      have h1 : CallsIn Fence.wide (0 - 1) P f args w' _ := callsIn_wide.2 h
      refine CallsIn.mono (F := Fw ro) h1 ?_
      rintro e w'' ⟨v, rfl, hv⟩
      exact hv
    | round l f tmps assign body =>
      refine ⟨Fw_depth ro, ?_⟩
      refine RoundIn.mono (F := Fw ro) h ?_
      rintro e w'' ⟨v, rfl, hv⟩
      exact hv
    | _ => exact h.elim

/-- A step of an operation that touches the blocks of 'pre' alone. -/
def SStep (P : Program) (s : Sem Next) (U : Imm) (ρ : Env) (pre : Heap) (w : World) (val : V) (post : Heap) : Prop :=
  Leads P (fun x w' => ∃ U' ρ', Leaves U ρ pre w val post x U' ρ' w') (s.run P w)

/-- From this state these operations of a region, in this order, lead to that state. -/
def RO (P : Program) (ro : Option Nat) (p : Nat) (ops : Array Oper) (l : List Nat) (st st' : St) : Prop :=
  ∀ (U : Imm) (ρ : Env) (a : Act) (w : World) (Q : Exit → Act → World → Prop), StRel U ρ st a w →
    (∀ U' ρ' a' w', StRel U' ρ' st' a' w' → Turn p U ρ st.heap w U' ρ' st'.heap w' → Q .normal a' w') → wpOpsIn (Fw ro) 0 P ops Q l a w

section
variable {P : Program} {ro : Option Nat} {p : Nat} {ops : Array Oper} {st st1 st' : St}

theorem RO.nil (st : St) : RO P ro p ops [] st st := fun U ρ a w Q hs hq => by
  simp only [wpOpsIn]; exact hq U ρ a w hs (Turn.refl _ _ _ _ _)

/-- An operation's step, in the state: its own blocks 'pre', the rest as it was. -/
theorem step_state {s : Sem Next} {U : Imm} {ρ : Env} {a : Act} {w : World} {pre rest post : Heap} {val : V} {dst : Option Tmp} {nx : Nat} {K : Value → World → Prop}
    (hs : StRel U ρ st a w) (hperm : st.heap.Perm (pre ++ rest)) (hp : p ≤ st.next) (hnx : st.next ≤ nx)
    (hfresh : ∀ n, post.dom n → pre.dom n ∨ ∃ k, n = .o k ∧ st.next ≤ k ∧ k < nx)
    (hstep : SStep P s U ρ pre w val post)
    (hK : ∀ U' ρ' x w', StRel U' ρ' { st with tmps := putV st.tmps dst val, heap := post ++ rest, next := nx } (a.put dst x) w' → Turn p U ρ st.heap w U' ρ' (post ++ rest) w' → K x w') :
    Leads P K (s.run P w) := by
  have H := hs.heap.perm hperm
  have hf : ∀ n, post.dom n → pre.dom n ∨ ρ n = none := fun n hd => (hfresh n hd).imp id fun ⟨k, hk, h1, _⟩ => by rw [hk]; exact hs.fresh k h1
  have main : ∀ x w', (∃ U' ρ', Leaves U ρ pre w val post x U' ρ' w') → K x w' := by
    rintro x w' ⟨U', ρ', L⟩
    obtain ⟨h1, h2, h3, h4⟩ := L.frame H hf
    have hsub : ∀ n, st.heap.dom n ↔ (pre ++ rest).dom n := fun n => ⟨fun ⟨b, hb⟩ => ⟨b, hperm.mem_iff.1 hb⟩, fun ⟨b, hb⟩ => ⟨b, hperm.mem_iff.2 hb⟩⟩
    refine hK U' (Env.both post ρ' ρ) x w' ⟨?_, ?_, h3, fun k hk => ?_⟩ ⟨?_, fun n hpn => ?_⟩
    · exact putV_rel (VsRel.mono L.ext.imm h1 hs.tmps) h2 dst
    · have : ∀ (l : List Nm) (d : List Deferred), DfRel ρ l d → DfRel (Env.both post ρ' ρ) l d := by
        intro l
        induction l with
        | nil => exact fun d h => h
        | cons n ns ih => rintro d ⟨lc, r, e1, e2, e3⟩; exact ⟨lc, r, h1 _ _ e1, e2, ih _ e3⟩
      have hd := this _ _ hs.dfs
      cases dst <;> exact hd
    · have hk0 : st.next ≤ k := Nat.le_trans hnx hk
      have hnp : ¬ post.dom (.o k) := fun hd => by
        rcases hfresh _ hd with ⟨b, hb⟩ | ⟨k', e, _, h6⟩
        · obtain ⟨l, e, _⟩ := H.left.blk _ _ hb; rw [hs.fresh k hk0] at e; cases e
        · cases e; exact absurd hk (Nat.not_le.2 h6)
      simp only [Env.both, hnp, if_false]; exact hs.fresh k hk0
    · exact ⟨h4.size, h4.imm, fun b hb hn => h4.frame b hb fun n l hd e hr => hn n l ((hsub n).2 hd) e hr, fun n l hd e hr => by
        rcases h4.new n l hd e hr with h | ⟨n0, l0, h5, h6⟩
        · exact .inl h
        · exact .inr ⟨n0, l0, (hsub n0).2 h5, h6⟩, fun b c e => by
        rcases h4.newImm b c e with h | h | ⟨n0, l0, h5, h6⟩
        · exact .inl h
        · exact .inr (.inl h)
        · exact .inr (.inr ⟨n0, l0, (hsub n0).2 h5, h6⟩), h4.out⟩
    · constructor
      · by_cases hpd : post.dom n
        · rcases hfresh n hpd with hpre | ⟨k, rfl, h5, _⟩
          · obtain ⟨l, hl⟩ := H.left.ex hpre
            rw [h1 _ _ hl, hl]
          · simp only [Nm.pin, decide_eq_true_eq] at hpn; omega
        · simp [Env.both, hpd]
      · intro hd
        by_cases hpd : post.dom n
        · rcases hfresh n hpd with hpre | ⟨k, rfl, h5, _⟩
          · exact (hsub n).2 (dom_append.2 (.inl hpre))
          · simp only [Nm.pin, decide_eq_true_eq] at hpn; omega
        · rcases dom_append.1 hd with hd | hd
          · exact absurd hd hpd
          · exact (hsub n).2 (dom_append.2 (.inr hd))
  unfold SStep at hstep
  generalize s.run P w = r at hstep ⊢
  cases r with
  | halt h' w' => exact hstep.elim
  | ok x w' =>
    cases x with
    | value v => exact main _ _ hstep
    | skip => exact main _ _ hstep
    | enter f args => exact Calls.mono hstep fun e w'' ⟨v, hv, h⟩ => ⟨v, hv, main _ _ h⟩
    | round l f tmps assign body => exact RoundIn.mono hstep fun e w'' ⟨v, hv, h⟩ => ⟨v, hv, main _ _ h⟩
    | _ => exact hstep.elim

theorem RO.step {i : Nat} {l : List Nat} {o : Oper} {pre rest post : Heap} {val : V} {nx : Nat} (ho : ops[i]? = some o) (hd : ∀ c, o.op ≠ .defer c)
    (hw : ∀ U ρ a w, StRel U ρ st a w → Region.wanted o (yielded ops a.tmps) = true)
    (hperm : st.heap.Perm (pre ++ rest)) (hp : p ≤ st.next) (hnx : st.next ≤ nx) (hfresh : ∀ n, post.dom n → pre.dom n ∨ ∃ k, n = .o k ∧ st.next ≤ k ∧ k < nx)
    (hstep : ∀ U ρ a w, StRel U ρ st a w → SStep P (execOp a.eval o) U ρ pre w val post)
    (h : RO P ro p ops l { st with tmps := putV st.tmps o.dst val, heap := post ++ rest, next := nx } st') : RO P ro p ops (i :: l) st st' := fun U ρ a w Q hs hq => by
  simp only [wpOpsIn, ho, hw U ρ a w hs, if_true]
  exact wpIn_of_leads hd (step_state hs hperm hp hnx hfresh (hstep U ρ a w hs) fun U1 ρ1 x w1 h1 t1 => h U1 ρ1 _ w1 Q h1 fun U2 ρ2 a2 w2 h2 t2 => hq U2 ρ2 a2 w2 h2 (t1.trans t2))

theorem RO.skip {i : Nat} {l : List Nat} {o : Oper} (ho : ops[i]? = some o) (hw : ∀ U ρ a w, StRel U ρ st a w → Region.wanted o (yielded ops a.tmps) = false)
    (h : RO P ro p ops l { st with tmps := putV st.tmps o.dst (.tup []) } st') : RO P ro p ops (i :: l) st st' := fun U ρ a w Q hs hq => by
  simp only [wpOpsIn, ho, hw U ρ a w hs, Bool.false_eq_true, if_false]
  refine ⟨fun f _ => wide_fn ro f, h U ρ _ w Q ⟨?_, ?_, hs.heap, hs.fresh⟩ fun U' ρ' a' w' h1 t1 => hq U' ρ' a' w' h1 t1⟩
  · exact putV_rel hs.tmps (by rw [VRel]; exact ⟨#[], rfl, by simp [VsRel]⟩) o.dst
  · have := hs.dfs
    cases hdst : o.dst <;> simpa [Act.put, hdst] using this

theorem RO.pre {l : List Nat} (h : Wk p st st1) (h' : RO P ro p ops l st1 st') : RO P ro p ops l st st' := fun U ρ a w Q hs hq => by
  obtain ⟨U1, ρ1, h1, t1⟩ := h U ρ a w hs
  exact h' U1 ρ1 a w Q h1 fun U' ρ' a' w' h2 t2 => hq U' ρ' a' w' h2 (t1.trans t2)

theorem R.region {id : Nat} (h : RO P ro p ops (List.range ops.size) st st') : R P ro p (.region id ops false) st .normal st' := fun U ρ a w Q hs hq =>
  wpIn_region (h U ρ a w Q hs hq)
end
end Sy
