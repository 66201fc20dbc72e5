/-
  Contracts and laws that the claim's theorem leans on, joined out of the texts Pa4 SyMark Pc0D Pc0 SyChg Pd0D Pd0 Pd1D (own work of this seat): Contracts: the leaders of an epoch; Ranges over functions in loops: each leaves a mark; marks without names; Contracts: which epochs may be, a leader's slots; Contracts: which epochs may be, a leader's slots; Which batch is chosen for a slot, plainly; Contracts: which batches a view begins with; Contracts: which batches a view begins with; Contracts: which batches a view begins with: what is held, one by one.
-/
import Derived.Test.YtlakhciklfkocaaGreatC04
set_option linter.unusedVariables false
set_option linter.unusedSimpArgs false
set_option maxHeartbeats 1000000
namespace Go.Proofs.YtlakhciklfkocaaGreat
open Go Sy Go.Proofs
theorem bdLs0_p1 (c : SCfg) (e : Int) (pen : List Int) :
  along Tryz.prog (bdLs0 c e pen) [true] = (some (.ros 1 0 (li []) false, [], [T Tryz.prog 120 [.agg [.int .i64 (SCfg.nodes c), .int .i64 (SCfg.clients c), .int .i64 (SCfg.window c), .int .i64 (SCfg.buckets c), .int .i64 (SCfg.cap c), .int .i64 (SCfg.slots c), .int .i64 (SCfg.requests c), .int .i64 (SCfg.timeout c), .int .i64 (SCfg.penalty c), .int .i64 (SCfg.last c)], .int .i64 e] [] (.bool false) [], q2, nat_lit 0 = (0 : Nat)]) : Option (V × Heap × List Prop)) := by kernel_rfl

theorem bdLsA_p01 (c : SCfg) (e : Int) (pen : List Int) (n : Nat) (s : Int) :
  along Tryz.prog (bdLsA c e pen n s) [false, true] = (some (.ros 1 (List.length (filS (fun x => true) n)) (li (filS (fun x => true) n)) false, [], [T Tryz.prog 120 [.agg [.int .i64 (SCfg.nodes c), .int .i64 (SCfg.clients c), .int .i64 (SCfg.window c), .int .i64 (SCfg.buckets c), .int .i64 (SCfg.cap c), .int .i64 (SCfg.slots c), .int .i64 (SCfg.requests c), .int .i64 (SCfg.timeout c), .int .i64 (SCfg.penalty c), .int .i64 (SCfg.last c)], .int .i64 e] [] (.bool true) [], q false, T Tryz.prog 121 [.int .i64 (SCfg.nodes c), .fn (.func 122) [] [.ptr (.o 128) 0 0 0 0, .ptr (.o 64) 0 0 0 0]] [(.o 128, .flat [.ros 1 (List.length pen) (li pen) false]), (.o 64, .flat [.int .i64 e])] (.ros 1 (List.length (filS (fun i => decide (penS pen (↑i : Int) ≤ e)) n)) (li (filS (fun i => decide (penS pen (↑i : Int) ≤ e)) n)) false) [(.o 128, .flat [.ros 1 (List.length pen) (li pen) false]), (.o 64, .flat [.int .i64 e])], T Tryz.prog 124 [.int .i64 (SCfg.nodes c)] [] (.int .i64 s) [], decide ((↑(List.length (filS (fun i => decide (penS pen (↑i : Int) ≤ e)) n)) : Int) < s) = true, T Tryz.prog 121 [.int .i64 (SCfg.nodes c), .fn (.func 125) [] []] [] (.ros 1 (List.length (filS (fun x => true) n)) (li (filS (fun x => true) n)) false) [], q (List.length (filS (fun x => true) n)), ∀ (k : Nat), k < List.length (filS (fun x => true) n) → [V.int IntKind.i64 (List.getD (filS (fun x => true) n) k (0 : Int))] = [V.int IntKind.i64 (List.getD (filS (fun x => true) n) k (0 : Int))], false = true → false = true]) : Option (V × Heap × List Prop)) := by kernel_rfl

theorem bdLsS_p00 (c : SCfg) (e : Int) (pen : List Int) (n : Nat) (s : Int) :
  along Tryz.prog (bdLsS c e pen n s) [false, false] = (some (.ros 1 (List.length (filS (fun i => decide (penS pen (↑i : Int) ≤ e)) n)) (li (filS (fun i => decide (penS pen (↑i : Int) ≤ e)) n)) false, [], [T Tryz.prog 120 [.agg [.int .i64 (SCfg.nodes c), .int .i64 (SCfg.clients c), .int .i64 (SCfg.window c), .int .i64 (SCfg.buckets c), .int .i64 (SCfg.cap c), .int .i64 (SCfg.slots c), .int .i64 (SCfg.requests c), .int .i64 (SCfg.timeout c), .int .i64 (SCfg.penalty c), .int .i64 (SCfg.last c)], .int .i64 e] [] (.bool true) [], q false, T Tryz.prog 121 [.int .i64 (SCfg.nodes c), .fn (.func 122) [] [.ptr (.o 128) 0 0 0 0, .ptr (.o 64) 0 0 0 0]] [(.o 128, .flat [.ros 1 (List.length pen) (li pen) false]), (.o 64, .flat [.int .i64 e])] (.ros 1 (List.length (filS (fun i => decide (penS pen (↑i : Int) ≤ e)) n)) (li (filS (fun i => decide (penS pen (↑i : Int) ≤ e)) n)) false) [(.o 128, .flat [.ros 1 (List.length pen) (li pen) false]), (.o 64, .flat [.int .i64 e])], T Tryz.prog 124 [.int .i64 (SCfg.nodes c)] [] (.int .i64 s) [], decide ((↑(List.length (filS (fun i => decide (penS pen (↑i : Int) ≤ e)) n)) : Int) < s) = false, q (List.length (filS (fun i => decide (penS pen (↑i : Int) ≤ e)) n)), ∀ (k : Nat), k < List.length (filS (fun i => decide (penS pen (↑i : Int) ≤ e)) n) → [V.int IntKind.i64 (List.getD (filS (fun i => decide (penS pen (↑i : Int) ≤ e)) n) k (0 : Int))] = [V.int IntKind.i64 (List.getD (filS (fun i => decide (penS pen (↑i : Int) ≤ e)) n) k (0 : Int))], false = true → false = true]) : Option (V × Heap × List Prop)) := by kernel_rfl

def listS (c : SCfg) (e : Int) (pen : List Int) : List Int := if mayS c e = true then (if ((filS (fun i => decide (penS pen i ≤ e)) c.nodes.toNat).length : Int) < someS c.nodes then filS (fun _ => true) c.nodes.toNat else filS (fun i => decide (penS pen i ≤ e)) c.nodes.toNat) else []
theorem mayS_iff {c : SCfg} {e : Int} : mayS c e = true ↔ goodC c = true ∧ 1 ≤ e ∧ e ≤ 1048576 := by
 simp only [mayS, Bool.and_eq_true, decide_eq_true_eq]
theorem nodesB {c : SCfg} (h : goodC c = true) : 4 ≤ c.nodes ∧ c.nodes ≤ 64 ∧ c.nodes % 3 = 1 := goodN_iff.1 (goodC_iff.1 h).1
theorem T_sa (pen : List Int) (e : Int) (n : Nat) (hn : n ≤ 1000000) : T Tryz.prog 121 [.int .i64 n, .fn (.func 122) [] [.ptr (.o 128) 0 0 0 0, .ptr (.o 64) 0 0 0 0]] [(.o 128, .flat [lr pen]), (.o 64, .flat [.int .i64 e])] (lr (filS (fun i => decide (penS pen i ≤ e)) n)) [(.o 128, .flat [lr pen]), (.o 64, .flat [.int .i64 e])] := by
 obtain ⟨σ, hσ, h1⟩ := T.at (T_smA pen e n hn) [.o 0, .o 1] [.o 128, .o 64] (by decide) (by decide) rfl
 simp only [List.map_cons, List.map_nil, List.cons.injEq, and_true] at hσ
 simpa [V.rens, V.ren, lr, hpE, Heap.ren, B.ren, hσ.1, hσ.2] using h1
theorem T_ls (c : SCfg) (e : Int) (pen : List Int) : T Tryz.prog 82 [.agg c.c, .int .i64 e, lr pen] [] (lr (listS c e pen)) [] := by
 have hM := T_my c e
 cases hg : mayS c e with
 | false =>
  rw [hg] at hM
  refine T.val (T_al (bdLs0_p1 c e pen) Tryz.func82 ?_) (by rw [listS, hg]; rfl)
  simp only [All]; and_intros
  all_goals first
   | assumption
   | rfl
   | trivial
 | true =>
  rw [hg] at hM
  obtain ⟨g1, g2, g3⟩ := nodesB (mayS_iff.1 hg).1
  have hn : ((c.nodes.toNat : Nat) : Int) = c.nodes := Int.toNat_of_nonneg (by omega)
  have hA := T_sa pen e c.nodes.toNat (by omega)
  have hB := T_smB c.nodes.toNat (by omega)
  rw [hn] at hA hB
  have hS := T_sm c.nodes
  by_cases hl : ((filS (fun i => decide (penS pen i ≤ e)) c.nodes.toNat).length : Int) < someS c.nodes
  ·refine T.val (T_al (bdLsA_p01 c e pen c.nodes.toNat (someS c.nodes)) Tryz.func82 ?_) (by rw [listS, hg, if_pos rfl, if_pos hl]; rfl)
   simp only [All]; and_intros
   all_goals first
    | assumption
    | rfl
    | trivial
    | (rw [decide_eq_true_eq]; omega)
    | (rw [decide_eq_false_iff_not]; omega)
    | (intro _ _; rfl)
    | (intro _ _; trivial)
    | (intro h; exact h)
    | exact .inr rfl
    | omega
    | exact InR64.2 (by omega)
  ·refine T.val (T_al (bdLsS_p00 c e pen c.nodes.toNat (someS c.nodes)) Tryz.func82 ?_) (by rw [listS, hg, if_pos rfl, if_neg hl]; rfl)
   simp only [All]; and_intros
   all_goals first
    | assumption
    | rfl
    | trivial
    | (rw [decide_eq_true_eq]; omega)
    | (rw [decide_eq_false_iff_not]; omega)
    | (intro _ _; rfl)
    | (intro _ _; trivial)
    | (intro h; exact h)
    | exact .inr rfl
    | omega
    | exact InR64.2 (by omega)
end Go.Proofs.YtlakhciklfkocaaGreat
namespace Sy
open Go
variable {P : Program}
def markD (l : Nat) : Deferred := { target := .collected l, args := #[] }
/-- Marks that have no names: each is empty, no named block, and an own one. -/
structure MK (O : Nat → Prop) (U : Imm) (ρ : Env) (h : Heap) (w : World) (X : List Deferred) : Prop where
 own : ∀ n lc, Heap.dom h n → ρ n = some lc → lc.real = true → O lc.blk
 new : ∀ b, w.heap.size ≤ b → O b
 dm : ∀ d ∈ X, ∃ l, d = markD l ∧ O l ∧ w.heap[l]? = some (.deferred (some [])) ∧ ∀ n lc, Heap.dom h n → ρ n = some lc → lc.real = true → lc.blk ≠ l
 nd : X.Nodup
theorem MK.turn {O : Nat → Prop} {p : Nat} {U U' : Imm} {ρ ρ' : Env} {h h' : Heap} {w w' : World} {X : List Deferred} (m : MK O U ρ h w X) (t : Turn p U ρ h w U' ρ' h' w') : MK O U' ρ' h' w' X := by
 refine ⟨fun n lc hd e hr => ?_, fun b hb => m.new b (Nat.le_trans t.ext.size hb), fun d hd => ?_, m.nd⟩
 ·rcases t.ext.new n lc hd e hr with h1 | ⟨n0, l0, h1, h2, h3, h4⟩
  ·exact m.new _ h1
  ·rw [← h4]; exact m.own n0 l0 h1 h2 h3
 ·obtain ⟨l, e1, e2, e3, e4⟩ := m.dm d hd
  have hlt := lt_size e3
  refine ⟨l, e1, e2, ?_, fun n lc hd e hr => ?_⟩
  ·rw [t.ext.frame l hlt fun n lc hd e hr => e4 n lc hd e hr]; exact e3
  ·rcases t.ext.new n lc hd e hr with h1 | ⟨n0, l0, h1, h2, h3, h4⟩
   ·omega
   ·rw [← h4]; exact e4 n0 l0 h1 h2 h3
/-- From this state the code is left so, in that state, and there may be more marks. -/
def RM (P : Program) (p : Nat) (c : Code) (st : St) (e : Exit) (st' : St) : Prop :=
 ∀ (O : Nat → Prop) (X : List Deferred) (U : Imm) (ρ : Env) (a : Act) (w : World) (Q : Exit → Act → World → Prop), StRel X U ρ st a w → MK O U ρ st.heap w X →
  (∀ X' U' ρ' a' w', StRel X' U' ρ' st' a' w' → MK O U' ρ' st'.heap w' X' → Turn p U ρ st.heap w U' ρ' st'.heap w' → Q e a' w') → c.wpIn (Fw none) 0 P Q a w
def RLoopM (P : Program) (p : Nat) (c : Code) (m : Nat) (st : St) (e : Exit) (st' : St) : Prop :=
 ∀ (O : Nat → Prop) (X : List Deferred) (U : Imm) (ρ : Env) (a : Act) (w : World) (Q : Exit → Act → World → Prop), StRel X U ρ st a w → MK O U ρ st.heap w X →
  (∀ X' U' ρ' a' w', StRel X' U' ρ' st' a' w' → MK O U' ρ' st'.heap w' X' → Turn p U ρ st.heap w U' ρ' st'.heap w' → Q e a' w') → Code.roundsIn (Fw none) 0 P c Q m a w
section
variable {p : Nat} {st st1 st' : St} {e : Exit} {x y c : Code}
theorem RM.of_R (h : R P none p c st e st') : RM P p c st e st' := fun _ X U ρ a w Q hs hm hq =>
 h U ρ a w Q hs fun U' ρ' a' w' h1 t1 => hq X U' ρ' a' w' h1 (hm.turn t1) t1
theorem RM.pre (h : Wk p st st1) (h' : RM P p c st1 e st') : RM P p c st e st' := fun O X U ρ a w Q hs hm hq => by
 obtain ⟨U1, ρ1, h1, t1⟩ := h U ρ a w hs
 exact h' O X U1 ρ1 a w Q h1 (hm.turn t1) fun X' U' ρ' a' w' h2 m2 t2 => hq X' U' ρ' a' w' h2 m2 (t1.trans t2)
theorem RM.post (h : RM P p c st e st1) (h' : Wk p st1 st') : RM P p c st e st' := fun O X U ρ a w Q hs hm hq =>
 h O X U ρ a w Q hs hm fun X1 U1 ρ1 a1 w1 h1 m1 t1 => by
  obtain ⟨U2, ρ2, h2, t2⟩ := h' U1 ρ1 a1 w1 h1
  exact hq X1 U2 ρ2 a1 w1 h2 (m1.turn t2) (t1.trans t2)
theorem RM.seq (h : RM P p x st .normal st1) (h' : RM P p y st1 e st') : RM P p (.seq x y) st e st' := fun O X U ρ a w Q hs hm hq =>
 wpIn_seq (h O X U ρ a w _ hs hm fun X1 U1 ρ1 a1 w1 h1 m1 t1 => h' O X1 U1 ρ1 a1 w1 Q h1 m1 fun X2 U2 ρ2 a2 w2 h2 m2 t2 => hq X2 U2 ρ2 a2 w2 h2 m2 (t1.trans t2))
theorem RM.seq_out (h : RM P p x st e st') (he : e ≠ .normal) : RM P p (.seq x y) st e st' := fun O X U ρ a w Q hs hm hq =>
 wpIn_seq (h O X U ρ a w _ hs hm fun X1 U1 ρ1 a1 w1 h1 m1 t1 => by
  have := hq X1 U1 ρ1 a1 w1 h1 m1 t1
  cases e <;> first | exact (he rfl).elim | exact this)
theorem RM.block {id : Nat} (h : RM P p c st .normal st') : RM P p (.block id c) st .normal st' := fun O X U ρ a w _ hs hm hq =>
 wpIn_block (h O X U ρ a w _ hs hm fun X1 U1 ρ1 a1 w1 h1 m1 t1 => hq X1 U1 ρ1 a1 w1 h1 m1 t1)
theorem RM.block_exit {id : Nat} (h : RM P p c st (.exit id) st') : RM P p (.block id c) st .normal st' := fun O X U ρ a w _ hs hm hq =>
 wpIn_block (h O X U ρ a w _ hs hm fun X1 U1 ρ1 a1 w1 h1 m1 t1 => by simp only [Exit.inBlock, if_true]; exact hq X1 U1 ρ1 a1 w1 h1 m1 t1)
theorem RM.loop {m : Nat} (h : RLoopM P p c m st e st') : RM P p (.loop c) st e st' := fun O X U ρ a w Q hs hm hq => wpIn_loop_rounds m (h O X U ρ a w Q hs hm hq)
theorem RLoopM.step {m : Nat} (h : RM P p c st .normal st1) (h' : RLoopM P p c m st1 e st') : RLoopM P p c (m + 1) st e st' := fun O X U ρ a w Q hs hm hq => by
 rw [roundsIn_succ]
 exact h O X U ρ a w _ hs hm fun X1 U1 ρ1 a1 w1 h1 m1 t1 => h' O X1 U1 ρ1 a1 w1 Q h1 m1 fun X2 U2 ρ2 a2 w2 h2 m2 t2 => hq X2 U2 ρ2 a2 w2 h2 m2 (t1.trans t2)
theorem RLoopM.out {m : Nat} (h : RM P p c st e st') (he : e ≠ .normal) : RLoopM P p c (m + 1) st e st' := fun O X U ρ a w Q hs hm hq => by
 rw [roundsIn_succ]
 exact h O X U ρ a w _ hs hm fun X1 U1 ρ1 a1 w1 h1 m1 t1 => by
  have := hq X1 U1 ρ1 a1 w1 h1 m1 t1
  cases e <;> first | exact (he rfl).elim | exact this
theorem RLoopM.inv {c : Code} {e : Exit} {st1 : St} (I : Nat → St) (m : Nat) (hs : ∀ k, k < m → RM P p c (I k) .normal (I (k + 1))) (he : RM P p c (I m) e st1) (hn : e ≠ .normal) : RLoopM P p c (m + 1) (I 0) e st1 := by
 have : ∀ j, j ≤ m → RLoopM P p c (j + 1) (I (m - j)) e st1 := by
  intro j
  induction j with
  | zero => intro _; exact RLoopM.out he hn
  | succ j ih =>
   intro hj
   have h1 := hs (m - (j + 1)) (by omega)
   rw [show m - (j + 1) + 1 = m - j by omega] at h1
   exact RLoopM.step h1 (ih (by omega))
 have h := this m (Nat.le_refl _)
 rwa [Nat.sub_self] at h
/-- A mark's name is let go. -/
theorem RM.forget {ts : List V} {h h' : Heap} {nx : Nat} {n : Nm} (H : RM P p c st e ⟨ts, h, nx, [n]⟩) (hp : h.Perm ((n, .dfr) :: h')) : RM P p c st e ⟨ts, h', nx, []⟩ := fun O X U ρ a w Q hs hm hq =>
 H O X U ρ a w Q hs hm fun X1 U1 ρ1 a1 w1 h1 m1 t1 => by
  obtain ⟨lc, r, e1, e2, e3⟩ := h1.dfs
  have e3 : r = X1 := e3
  subst e3
  have hh := h1.heap.perm hp
  have hreal : lc.real = true := by
   obtain ⟨l, g1, g2⟩ := hh.blk n .dfr (List.mem_cons_self ..)
   rw [e1] at g1; cases g1
   rcases g2 with ⟨g, _⟩ | ⟨_, es, f, g⟩
   ·exact g
   ·cases g
  obtain ⟨o, g1, g2, g3⟩ := hh.real (List.mem_cons_self ..) e1 hreal
  have ho : o = .deferred (some []) := g2
  subst ho
  have hdn : Heap.dom h n := (perm_dom hp n).2 ⟨_, List.mem_cons_self ..⟩
  have hsub : ∀ k, Heap.dom h' k → Heap.dom h k := fun k ⟨b, hb⟩ => (perm_dom hp k).2 ⟨b, List.mem_cons_of_mem _ hb⟩
  have hne : ∀ k l0, Heap.dom h' k → ρ1 k = some l0 → l0.real = true → l0.blk ≠ lc.blk := fun k l0 ⟨b, hb⟩ e hr heq => by
   have := hh.inj k b n .dfr l0 lc (List.mem_cons_of_mem _ hb) (List.mem_cons_self ..) e e1 hr hreal heq
   subst this
   have hnd := hh.nd
   rw [List.map_cons, List.nodup_cons] at hnd
   exact hnd.1 (List.mem_map.2 ⟨_, hb, rfl⟩)
  have s2 := StRel.drop (p := p) (st := ⟨ts, h, nx, [n]⟩) (b := [(n, B.dfr)]) (rest := h') h1 hp
  refine hq (markD lc.blk :: r) U1 ρ1 a1 w1 ⟨h1.tmps, e2, HRel.right (a := [(n, B.dfr)]) hh, h1.fresh⟩ ⟨fun k l0 hd e hr => m1.own k l0 (hsub k hd) e hr, m1.new, fun d hd => ?_, List.nodup_cons.2 ⟨fun hx => ?_, m1.nd⟩⟩ (t1.trans s2.2)
  ·rcases List.mem_cons.1 hd with rfl | hd
   ·exact ⟨lc.blk, rfl, m1.own n lc hdn e1 hreal, g1, hne⟩
   ·obtain ⟨l, k1, k2, k3, k4⟩ := m1.dm d hd
    exact ⟨l, k1, k2, k3, fun k l0 hd e hr => k4 k l0 (hsub k hd) e hr⟩
  ·obtain ⟨l, k1, _, _, k4⟩ := m1.dm _ hx
   have : lc.blk = l := by simpa [markD] using k1
   exact k4 n lc hdn e1 hreal this
end
theorem Turn.le {p q : Nat} {U U' : Imm} {ρ ρ' : Env} {h h' : Heap} {w w' : World} (t : Turn p U ρ h w U' ρ' h' w') (hq : q ≤ p) : Turn q U ρ h w U' ρ' h' w' := ⟨t.ext, fun n hn => t.pins n (Nm.pin_mono hq hn)⟩
theorem R.le {ro : Option Nat} {p q : Nat} {c : Code} {st st' : St} {e : Exit} (h : R P ro p c st e st') (hq : q ≤ p) : R P ro q c st e st' := fun X U ρ a w Q hs hk =>
 h U ρ a w Q hs fun U' ρ' a' w' h1 t1 => hk U' ρ' a' w' h1 (t1.le hq)
theorem RLoop.le {ro : Option Nat} {p q m : Nat} {c : Code} {st st' : St} {e : Exit} (h : RLoop P ro p c m st e st') (hq : q ≤ p) : RLoop P ro q c m st e st' := fun X U ρ a w Q hs hk =>
 h U ρ a w Q hs fun U' ρ' a' w' h1 t1 => hk U' ρ' a' w' h1 (t1.le hq)
theorem RM.le {p q : Nat} {c : Code} {st st' : St} {e : Exit} (h : RM P p c st e st') (hq : q ≤ p) : RM P q c st e st' := fun O X U ρ a w Q hs hm hk =>
 h O X U ρ a w Q hs hm fun X' U' ρ' a' w' h1 m1 t1 => hk X' U' ρ' a' w' h1 m1 (t1.le hq)
/-- At a function's end the marks are taken, one by one. -/
theorem leaves_marksX {F : Fence} {p n : Nat} {fn : Func} {R : Ending → World → Prop} {U0 : Imm} {ρ0 : Env} {pre : Heap} {w0 : World} {U : Imm} {ρ : Env} : ∀ (X : List Deferred) (st : St) (a : Act) (w : World), st.dfs = [] → StRel X U ρ st a w →
  MK (fun b => w0.heap.size ≤ b ∨ ∃ n lc, Heap.dom pre n ∧ ρ0 n = some lc ∧ lc.real = true ∧ lc.blk = b) U ρ st.heap w X → Turn p U0 ρ0 pre w0 U ρ st.heap w →
  (∀ w', StRel [] U ρ st { a with defers := [] } w' → Turn p U0 ρ0 pre w0 U ρ st.heap w' → ∃ v, (results fn a.tmps).run P w' = .ok v w' ∧ R (.returned v) w') → LeavesInM F n P fn a.tmps R a.defers .returning w
 | [], st, a, w, hd, hs, hm, ht, hk => by
  have e : a.defers = [] := by have := hs.dfs; rw [hd] at this; exact this
  rw [e]
  obtain ⟨t, d⟩ := a
  simp only at e; subst e
  exact hk w ⟨hs.tmps, by rw [hd]; rfl, hs.heap, hs.fresh⟩ ht
 | d :: X, st, a, w, hd, hs, hm, ht, hk => by
  have e : a.defers = d :: X := by have := hs.dfs; rw [hd] at this; exact this
  obtain ⟨l, rfl, ho, h1, hne⟩ := hm.dm _ (List.mem_cons_self ..)
  have hlt := lt_size h1
  have hnd := List.nodup_cons.1 hm.nd
  have hold : ∀ k, k ≠ l → (w.heap.setIfInBounds l (.deferred none))[k]? = w.heap[k]? := fun k hk => by rw [Array.getElem?_setIfInBounds]; simp [Ne.symm hk]
  have hsz : (w.heap.setIfInBounds l (.deferred none)).size = w.heap.size := by simp
  rw [e]
  refine ⟨by simp, .inl ⟨l, { w with heap := w.heap.setIfInBounds l (.deferred none) }, rfl, ?_, ?_⟩⟩
  ·have e1 : (getObj l).run P w = .ok (.deferred (some [])) w := by simp [getObj, Sem.run, h1]
   have e2 : (setObj l (.deferred none)).run P w = .ok () { w with heap := w.heap.setIfInBounds l (.deferred none) } := by simp [setObj, Sem.run, h1]
   simp only [Instr.takeDeferred, Sem.run_bind, e1, e2, Result.andThen_ok, Sem.run_pure]
  ·have hs2 : StRel X U ρ st { a with defers := X } { w with heap := w.heap.setIfInBounds l (.deferred none) } := by
    refine ⟨hs.tmps, by rw [hd]; rfl, ⟨fun k b h => ?_, hs.heap.inj, hs.heap.nd, fun k c hk => ?_⟩, hs.fresh⟩
    ·obtain ⟨l0, g1, g2⟩ := hs.heap.blk k b h
     refine ⟨l0, g1, g2.imp ?_ id⟩
     rintro ⟨hr0, ob, g3, g4, g5⟩
     exact ⟨hr0, ob, by rw [hold _ (hne k l0 ⟨b, h⟩ g1 hr0)]; exact g3, g4, g5⟩
    ·obtain ⟨el, fr, h⟩ := hs.heap.imm k c hk
     refine ⟨el, fr, ?_⟩
     by_cases hkl : k = l
     ·subst hkl; rw [h1] at h; cases h
     ·rw [hold k hkl]; exact h
   refine leaves_marksX X st { a with defers := X } _ hd hs2 ⟨hm.own, fun b hb => hm.new b (by rw [hsz] at hb; exact hb), fun d' hd' => ?_, hnd.2⟩ ⟨⟨by rw [hsz]; exact ht.ext.size, ht.ext.imm, fun b hb hn => ?_, ht.ext.new, ht.ext.newImm, ht.ext.out⟩, ht.pins⟩ hk
   ·obtain ⟨l', k1, k2, k3, k4⟩ := hm.dm d' (List.mem_cons_of_mem _ hd')
    refine ⟨l', k1, k2, ?_, k4⟩
    rw [hold l' fun h => hnd.1 (by rw [← h, ← k1]; exact hd')]; exact k3
   ·show (w.heap.setIfInBounds l (.deferred none))[b]? = _
    rw [hold b fun h => ?_]
    ·exact ht.ext.frame b hb hn
    ·subst h
     rcases ho with h | ⟨n0, lc, g1, g2, g3, g4⟩
     ·omega
     ·exact hn n0 lc g1 g2 g3 g4
theorem T_of_endM {f : FuncId} {fn : Func} {c : Code} (hf : P.funcs[f]? = some fn) (hb : fn.body = some c) {args : List V} {pre post : Heap} {base : Nat} {names : List Nm} {e : Exit} {st : St} {c0 : List Prop} {val : V} {cs : List Prop}
  (hR : RM P base c ⟨args ++ List.replicate (fn.ntmps - args.length) (.tup []), pre, base, []⟩ e st) (hdf : st.dfs = [])
  (h : fnEnd P fn base names none e st c0 = some (val, post, cs)) (hc : All cs) (hpin : PinH base pre) (hargs : V.withins (Nm.pin base) args = true) : T P f args pre val post := by
 unfold fnEnd at h
 cases hret : isRet e <;> simp only [hret, reduceCtorEq] at h
 simp only [hdf, unmarks] at h
 cases hres : resAll P st.tmps st.heap fn.results.toList with
 | none => simp [hres] at h
 | some q =>
  obtain ⟨vs, c2⟩ := q
  simp only [hres] at h
  cases htk : takeH names st.heap with
  | none => simp [htk] at h
  | some q =>
   obtain ⟨bs, rest⟩ := q
   simp only [htk] at h
   cases hw : ((resV vs).within (fun n => n.pin base || memNm n bs) && withinH (fun n => n.pin base || memNm n bs) bs) <;> simp only [hw, cond_true, cond_false, reduceCtorEq, Option.some.injEq, Prod.mk.injEq] at h
   rw [Bool.and_eq_true] at hw
   obtain ⟨rfl, rfl, rfl⟩ := h
   obtain ⟨k1, k2⟩ := All_append.1 hc
   have hS : ∀ m, (m.pin base || memNm m bs) = true → m.pin base = true ∨ Heap.dom bs m := fun m hmm => by
    rw [Bool.or_eq_true] at hmm; exact hmm.imp id memNm_dom
   intro U ρ w xs hh ha hfr
   refine (callsIn_wide (n := 0)).1 ?_
   have hlen : xs.size = args.length := by
    have : ∀ {vs : List V} {l : List Value}, VsRel U ρ vs l → l.length = vs.length := by
     intro vs
     induction vs with
     | nil => intro l h; rw [VsRel] at h; subst h; rfl
     | cons v vs ih => intro l h; rw [VsRel] at h; obtain ⟨x, r, rfl, _, h⟩ := h; simp [ih h]
    rw [← Array.length_toList]; exact this ha
   refine callsIn_of_wp_marks hf hb trivial ?_ rfl
   rw [hlen]
   have hs0 := start (k := fn.ntmps - args.length) hh ha hpin hargs
   have hperm' : st.heap.Perm (bs ++ rest) := takeH_perm htk
   have hQ : ∀ X' U' ρ' a' w', StRel X' U' ρ' st a' w' → MK (fun b => w.heap.size ≤ b ∨ ∃ n lc, Heap.dom pre n ∧ restrict base ρ n = some lc ∧ lc.real = true ∧ lc.blk = b) U' ρ' st.heap w' X' → Turn base U (restrict base ρ) pre w U' ρ' st.heap w' →
     LeavesInM Fence.wide 0 P fn a'.tmps (fun e w' => ∃ x U' ρ', e = .returned x ∧ Leaves U ρ pre w (resV vs) bs x U' ρ' w') a'.defers .returning w' := by
    intro X' U' ρ' a' w' hst hmk ht
    refine leaves_marksX (p := base) X' st a' w' hdf hst hmk ht fun w'' hs' ht' => ?_
    obtain ⟨v, g1, g2⟩ := results_ok (P := P) hs'.tmps hs'.heap hres k2
    refine ⟨v, g1, v, U', _, rfl, finish hpin hfr g2 (HRel.left (hs'.heap.perm hperm')) ht' (fun n hn => (perm_dom hperm' n).2 (dom_append.2 (.inl hn))) ⟨_, hw.1, hS⟩ fun q hq => ?_⟩
    exact ⟨_, withinH_ok hw.2 q hq, hS⟩
   refine hR (fun b => w.heap.size ≤ b ∨ ∃ n lc, Heap.dom pre n ∧ restrict base ρ n = some lc ∧ lc.real = true ∧ lc.blk = b) [] U (restrict base ρ) _ w _ hs0 ⟨fun n lc hd e hr => .inr ⟨n, lc, hd, e, hr, rfl⟩, fun b hb => .inl hb, fun d hd => absurd hd List.not_mem_nil, List.nodup_nil⟩ fun X' U' ρ' a' w' hst hmk ht => ?_
   cases he : e <;> rw [he] at hret <;> simp only [isRet, Bool.false_eq_true] at hret
   ·exact hQ X' U' ρ' a' w' hst hmk ht
   ·exact hQ X' U' ρ' a' w' hst hmk ht
end Sy
namespace Go.Proofs.YtlakhciklfkocaaGreat
open Go Sy Go.Proofs
structure SEp where
 cfg : SCfg := {}
 num : Int := 0
 start : Int := 0
 lead : List Int := []
def SEp.c (e : SEp) : List V := e.cfg.c ++ [.int .i64 e.num, .int .i64 e.start, lr e.lead]
def sizeE (e : SEp) : Int := (e.lead.length : Int) * e.cfg.slots
def lastL (l : List Int) : Nat → Int
 | 0 => -1
 | k + 1 => l.getD k 0
def q0p : V := .ptr (.o 0) 0 0 0 0
noncomputable def bdSz (e : SEp) : Bd := { f := Tryz.f45, args := [.agg e.c], kb := kb0 }
def goI (e : SEp) (k : Nat) : St := ⟨mkT 59 [(1, q0p), (3, .int .i64 (lastL e.lead k)), (30, lr e.lead), (31, .int .i64 (e.lead.length : Nat)), (32, .int .i64 (k : Nat))], [(.o 0, .flat e.c)], 1, []⟩
def goR : St := ⟨mkT 59 [(2, .bool false)], [], 1, []⟩
noncomputable def bdGd (e : SEp) (ge sz : Int) (m : Nat) : Bd := { f := Tryz.f9, args := [.agg e.c], kb := { db := dbQ [(44, cVal (.int .i64 ge)), (45, cVal (.int .i64 sz))], lp := fun _ t => [(True, .loop (e.lead.length + 1) (wToS [(.o 0, nmV (getV t.tmps 1))] (goI e 0)) (.exit 0) (goI e e.lead.length)), (True, .loop (m + 1) (wToS [(.o 0, nmV (getV t.tmps 1))] (goI e 0)) .ret goR)] } }
noncomputable def pcGd (e : SEp) (k : Nat) : Pc := { c := cB (cB (cR (cL (cR (cR (cR (bodyOf Tryz.f9))))))), st := goI e k, kb := kb0, k := fun x_ _ => match x_ with
 | .normal => some (wTo (goI e (k + 1)))
 | .ret => some (wTo goR)
 | _ => some (wTo (goI e e.lead.length)) }
def ldI (e : SEp) (n : Int) (k : Nat) : St := ⟨mkT 18 [(1, .int .i64 n), (8, lr e.lead), (9, .int .i64 (e.lead.length : Nat)), (10, .int .i64 (k : Nat))], [], 0, []⟩
def ldR : St := ⟨mkT 18 [(4, .bool true)], [], 0, []⟩
noncomputable def bdLd (e : SEp) (n : Int) (m : Nat) : Bd := { f := Tryz.f50, args := [.agg e.c, .int .i64 n], kb := { db := fun _ _ _ _ => [], lp := fun _ _ => [(True, .loop (e.lead.length + 1) (wTo (ldI e n 0)) (.exit 0) (ldI e n e.lead.length)), (True, .loop (m + 1) (wTo (ldI e n 0)) .ret ldR)] } }
noncomputable def pcLd (e : SEp) (n : Int) (k : Nat) : Pc := { c := cB (cB (cR (cL (cR (bodyOf Tryz.f50))))), st := ldI e n k, kb := kb0, k := fun x_ _ => match x_ with
 | .normal => some (wTo (ldI e n (k + 1)))
 | .ret => some (wTo ldR)
 | _ => some (wTo (ldI e n e.lead.length)) }
noncomputable def bdAs (e : SEp) (n : Int) (g b : Bool) : Bd := { f := Tryz.f49, args := [.agg e.c, .fn (.func 50) [] [], .int .i64 n], kb := { db := dbQ [(9, cVal (.bool g)), (50, cVal (.bool b))] } }
/-- A leader's slots among the first ones. -/
def slotL (e : SEp) (ld : Int) : Nat → List Int
 | 0 => []
 | k + 1 => if e.lead.getD (k % e.lead.length) 0 = ld then slotL e ld k ++ [e.start + (k : Nat)] else slotL e ld k
def slI (e : SEp) (ld sz : Int) (L : List Int) (k : Nat) : St := ⟨mkT 35 [(1, .int .i64 ld), (2, q0p), (4, ls 1 L), (11, .int .i64 sz), (12, .int .i64 (k : Nat))], [(.o 0, .flat e.c), (.o 1, lb L)], 2, []⟩
noncomputable def bdSl (e : SEp) (ld : Int) (a : Bool) (sz : Int) (m : Nat) (L : List Int) : Bd := { f := Tryz.f12, args := [.agg e.c, .int .i64 ld], kb := { db := dbQ [(49, cVal (.bool a)), (45, cVal (.int .i64 sz))], fx := fun id _ => bif Nat.beq id 1 then [.virt 4 1] else [], lp := fun _ t => [(True, .loop (m + 1) (wToS [(.o 0, nmV (getV t.tmps 2)), (.o 1, nmV (getV t.tmps 4))] (slI e ld sz [] 0)) (.exit 0) (slI e ld sz L m))] }, k := fun _ t => some ⟨[], [(4, .set (lr L))], [], none, t.next⟩ }
noncomputable def pcSl (e : SEp) (ld sz : Int) (L : List Int) (k : Nat) (L2 : List Int) : Pc := { c := cB (cB (cR (cL (cR (cR (bodyOf Tryz.f12)))))), st := slI e ld sz L k, kb := kb0, k := fun x_ t => match x_ with
 | .normal => some (wToS [(.o 1, nmV (getV t.tmps 4))] (slI e ld sz L2 (k + 1)))
 | _ => some (wTo (slI e ld sz L k)) }
noncomputable def bdLt (e : SEp) : Bd := { f := Tryz.f8, args := [.agg e.c, .snil], kb := { db := fun _ _ _ _ => [], lp := fun _ _ => [(True, .rounds 1)] } }
end Go.Proofs.YtlakhciklfkocaaGreat
namespace Go.Proofs.YtlakhciklfkocaaGreat
open Go Sy Go.Proofs
theorem bdSz_p (e : SEp) :
  along Tryz.prog (bdSz e) [] = (some (.int .i64 ((↑(List.length (SEp.lead e)) : Int) * SCfg.slots (SEp.cfg e)), [], [InR IntKind.i64 ((↑(List.length (SEp.lead e)) : Int) * SCfg.slots (SEp.cfg e))]) : Option (V × Heap × List Prop)) := by kernel_rfl

noncomputable def bdGd_c (e : SEp) (ge : Int) (sz : Int) (m : Nat) : Nat → List Prop
 | 0 => [T Tryz.prog 44 [.agg [.int .i64 (SCfg.nodes (SEp.cfg e)), .int .i64 (SCfg.clients (SEp.cfg e)), .int .i64 (SCfg.window (SEp.cfg e)), .int .i64 (SCfg.buckets (SEp.cfg e)), .int .i64 (SCfg.cap (SEp.cfg e)), .int .i64 (SCfg.slots (SEp.cfg e)), .int .i64 (SCfg.requests (SEp.cfg e)), .int .i64 (SCfg.timeout (SEp.cfg e)), .int .i64 (SCfg.penalty (SEp.cfg e)), .int .i64 (SCfg.last (SEp.cfg e))]] [] (.int .i64 ge) []]
 | 1 => [RLoop Tryz.prog none 0 (cB (cB (cR (cL (cR (cR (cR (bodyOf (Bd.f (bdGd e ge sz m)))))))))) (List.length (SEp.lead e) + 1) (St.mk [.any, .ptr (.o 0) 0 0 0 0, .any, .int .i64 (lastL (SEp.lead e) 0), .any, .any, .any, .any, .any, .any, .any, .any, .any, .any, .any, .any, .any, .any, .any, .any, .any, .any, .any, .any, .any, .any, .any, .any, .any, .any, .ros 1 (List.length (SEp.lead e)) (li (SEp.lead e)) false, .int .i64 (↑(List.length (SEp.lead e)) : Int), .int .i64 0, .any, .any, .any, .any, .any, .any, .any, .any, .any, .any, .any, .any, .any, .any, .any, .any, .any, .any, .any, .any, .any, .any, .any, .any, .any, .any] [(.o 0, .flat [.int .i64 (SCfg.nodes (SEp.cfg e)), .int .i64 (SCfg.clients (SEp.cfg e)), .int .i64 (SCfg.window (SEp.cfg e)), .int .i64 (SCfg.buckets (SEp.cfg e)), .int .i64 (SCfg.cap (SEp.cfg e)), .int .i64 (SCfg.slots (SEp.cfg e)), .int .i64 (SCfg.requests (SEp.cfg e)), .int .i64 (SCfg.timeout (SEp.cfg e)), .int .i64 (SCfg.penalty (SEp.cfg e)), .int .i64 (SCfg.last (SEp.cfg e)), .int .i64 (SEp.num e), .int .i64 (SEp.start e), .ros 1 (List.length (SEp.lead e)) (li (SEp.lead e)) false])] 1 []) (.exit 0) (St.mk [.any, .ptr (.o 0) 0 0 0 0, .any, .int .i64 (lastL (SEp.lead e) (List.length (SEp.lead e))), .any, .any, .any, .any, .any, .any, .any, .any, .any, .any, .any, .any, .any, .any, .any, .any, .any, .any, .any, .any, .any, .any, .any, .any, .any, .any, .ros 1 (List.length (SEp.lead e)) (li (SEp.lead e)) false, .int .i64 (↑(List.length (SEp.lead e)) : Int), .int .i64 (↑(List.length (SEp.lead e)) : Int), .any, .any, .any, .any, .any, .any, .any, .any, .any, .any, .any, .any, .any, .any, .any, .any, .any, .any, .any, .any, .any, .any, .any, .any, .any, .any] [(.o 0, .flat [.int .i64 (SCfg.nodes (SEp.cfg e)), .int .i64 (SCfg.clients (SEp.cfg e)), .int .i64 (SCfg.window (SEp.cfg e)), .int .i64 (SCfg.buckets (SEp.cfg e)), .int .i64 (SCfg.cap (SEp.cfg e)), .int .i64 (SCfg.slots (SEp.cfg e)), .int .i64 (SCfg.requests (SEp.cfg e)), .int .i64 (SCfg.timeout (SEp.cfg e)), .int .i64 (SCfg.penalty (SEp.cfg e)), .int .i64 (SCfg.last (SEp.cfg e)), .int .i64 (SEp.num e), .int .i64 (SEp.start e), .ros 1 (List.length (SEp.lead e)) (li (SEp.lead e)) false])] 1 []), q (SCfg.nodes (SEp.cfg e)), q (SCfg.clients (SEp.cfg e)), q (SCfg.window (SEp.cfg e)), q (SCfg.buckets (SEp.cfg e)), q (SCfg.cap (SEp.cfg e)), q (SCfg.slots (SEp.cfg e)), q (SCfg.requests (SEp.cfg e)), q (SCfg.timeout (SEp.cfg e)), q (SCfg.penalty (SEp.cfg e)), q (SCfg.last (SEp.cfg e)), q (SEp.num e), q (SEp.start e), q (List.length (SEp.lead e)), ∀ (k : Nat), k < List.length (SEp.lead e) → [V.int IntKind.i64 (List.getD (SEp.lead e) k (0 : Int))] = [V.int IntKind.i64 (List.getD (SEp.lead e) k (0 : Int))], false = true → false = true, q0, q0, q0, (-1 : Int) = lastL (SEp.lead e) (0 : Nat), q (List.length (SEp.lead e)), ∀ (k : Nat), k < List.length (SEp.lead e) → [V.int IntKind.i64 (List.getD (SEp.lead e) k (0 : Int))] = [V.int IntKind.i64 (List.getD (SEp.lead e) k (0 : Int))], false = true → false = true, q (↑(List.length (SEp.lead e)) : Int), q1]
 | _ => []
theorem bdGd_p1111 (e : SEp) (ge : Int) (sz : Int) (m : Nat) :
 along Tryz.prog (bdGd e ge sz m) [true, true, true, true] = (some (.bool false, [], bdGd_c e ge sz m 0 ++ [(!decide (ge = (0 : Int))) = true, q2, q2, q2]) : Option (V × Heap × List Prop)) := by kernel_rfl
theorem bdGd_p0111 (e : SEp) (ge : Int) (sz : Int) (m : Nat) :
 along Tryz.prog (bdGd e ge sz m) [false, true, true, true] = (some (.bool false, [], bdGd_c e ge sz m 0 ++ [(!decide (ge = (0 : Int))) = false, decide (SEp.num e < (1 : Int)) = true, q2, q2]) : Option (V × Heap × List Prop)) := by kernel_rfl
theorem bdGd_p0011 (e : SEp) (ge : Int) (sz : Int) (m : Nat) :
 along Tryz.prog (bdGd e ge sz m) [false, false, true, true] = (some (.bool false, [], bdGd_c e ge sz m 0 ++ [(!decide (ge = (0 : Int))) = false, decide (SEp.num e < (1 : Int)) = false, decide (SCfg.last (SEp.cfg e) < SEp.num e) = true, q2]) : Option (V × Heap × List Prop)) := by kernel_rfl
theorem bdGd_p0001 (e : SEp) (ge : Int) (sz : Int) (m : Nat) :
 along Tryz.prog (bdGd e ge sz m) [false, false, false, true] = (some (.bool false, [], bdGd_c e ge sz m 0 ++ [(!decide (ge = (0 : Int))) = false, decide (SEp.num e < (1 : Int)) = false, decide (SCfg.last (SEp.cfg e) < SEp.num e) = false, decide ((↑(List.length (SEp.lead e)) : Int) = (0 : Int)) = true]) : Option (V × Heap × List Prop)) := by kernel_rfl
theorem bdGd_p000011 (e : SEp) (ge : Int) (sz : Int) (m : Nat) :
 along Tryz.prog (bdGd e ge sz m) [false, false, false, false, true, true] = (some (.bool (decide (SEp.start e ≤ (1099511627776 : Int) - sz)), [], bdGd_c e ge sz m 0 ++ ([(!decide (ge = (0 : Int))) = false, decide (SEp.num e < (1 : Int)) = false, decide (SCfg.last (SEp.cfg e) < SEp.num e) = false, decide ((↑(List.length (SEp.lead e)) : Int) = (0 : Int)) = false] ++ (bdGd_c e ge sz m 1 ++ [decide ((1 : Int) ≤ SEp.start e) = true, T Tryz.prog 45 [.agg [.int .i64 (SCfg.nodes (SEp.cfg e)), .int .i64 (SCfg.clients (SEp.cfg e)), .int .i64 (SCfg.window (SEp.cfg e)), .int .i64 (SCfg.buckets (SEp.cfg e)), .int .i64 (SCfg.cap (SEp.cfg e)), .int .i64 (SCfg.slots (SEp.cfg e)), .int .i64 (SCfg.requests (SEp.cfg e)), .int .i64 (SCfg.timeout (SEp.cfg e)), .int .i64 (SCfg.penalty (SEp.cfg e)), .int .i64 (SCfg.last (SEp.cfg e)), .int .i64 (SEp.num e), .int .i64 (SEp.start e), .ros 1 (List.length (SEp.lead e)) (li (SEp.lead e)) false]] [] (.int .i64 sz) [], InR IntKind.i64 ((1099511627776 : Int) - sz)]))) : Option (V × Heap × List Prop)) := by kernel_rfl
theorem bdGd_p000010 (e : SEp) (ge : Int) (sz : Int) (m : Nat) :
 along Tryz.prog (bdGd e ge sz m) [false, false, false, false, true, false] = (some (.bool false, [], bdGd_c e ge sz m 0 ++ ([(!decide (ge = (0 : Int))) = false, decide (SEp.num e < (1 : Int)) = false, decide (SCfg.last (SEp.cfg e) < SEp.num e) = false, decide ((↑(List.length (SEp.lead e)) : Int) = (0 : Int)) = false] ++ (bdGd_c e ge sz m 1 ++ [decide ((1 : Int) ≤ SEp.start e) = false]))) : Option (V × Heap × List Prop)) := by kernel_rfl
theorem bdGd_p00000 (e : SEp) (ge : Int) (sz : Int) (m : Nat) :
 along Tryz.prog (bdGd e ge sz m) [false, false, false, false, false] = (some (.bool false, [], bdGd_c e ge sz m 0 ++ [(!decide (ge = (0 : Int))) = false, decide (SEp.num e < (1 : Int)) = false, decide (SCfg.last (SEp.cfg e) < SEp.num e) = false, decide ((↑(List.length (SEp.lead e)) : Int) = (0 : Int)) = false, RLoop Tryz.prog none 0 (cB (cB (cR (cL (cR (cR (cR (bodyOf (Bd.f (bdGd e ge sz m)))))))))) (m + 1) (St.mk [.any, .ptr (.o 0) 0 0 0 0, .any, .int .i64 (lastL (SEp.lead e) 0), .any, .any, .any, .any, .any, .any, .any, .any, .any, .any, .any, .any, .any, .any, .any, .any, .any, .any, .any, .any, .any, .any, .any, .any, .any, .any, .ros 1 (List.length (SEp.lead e)) (li (SEp.lead e)) false, .int .i64 (↑(List.length (SEp.lead e)) : Int), .int .i64 0, .any, .any, .any, .any, .any, .any, .any, .any, .any, .any, .any, .any, .any, .any, .any, .any, .any, .any, .any, .any, .any, .any, .any, .any, .any, .any] [(.o 0, .flat [.int .i64 (SCfg.nodes (SEp.cfg e)), .int .i64 (SCfg.clients (SEp.cfg e)), .int .i64 (SCfg.window (SEp.cfg e)), .int .i64 (SCfg.buckets (SEp.cfg e)), .int .i64 (SCfg.cap (SEp.cfg e)), .int .i64 (SCfg.slots (SEp.cfg e)), .int .i64 (SCfg.requests (SEp.cfg e)), .int .i64 (SCfg.timeout (SEp.cfg e)), .int .i64 (SCfg.penalty (SEp.cfg e)), .int .i64 (SCfg.last (SEp.cfg e)), .int .i64 (SEp.num e), .int .i64 (SEp.start e), .ros 1 (List.length (SEp.lead e)) (li (SEp.lead e)) false])] 1 []) .ret (St.mk [.any, .any, .bool false, .any, .any, .any, .any, .any, .any, .any, .any, .any, .any, .any, .any, .any, .any, .any, .any, .any, .any, .any, .any, .any, .any, .any, .any, .any, .any, .any, .any, .any, .any, .any, .any, .any, .any, .any, .any, .any, .any, .any, .any, .any, .any, .any, .any, .any, .any, .any, .any, .any, .any, .any, .any, .any, .any, .any, .any] [] 1 []), q (SCfg.nodes (SEp.cfg e)), q (SCfg.clients (SEp.cfg e)), q (SCfg.window (SEp.cfg e)), q (SCfg.buckets (SEp.cfg e)), q (SCfg.cap (SEp.cfg e)), q (SCfg.slots (SEp.cfg e)), q (SCfg.requests (SEp.cfg e)), q (SCfg.timeout (SEp.cfg e)), q (SCfg.penalty (SEp.cfg e)), q (SCfg.last (SEp.cfg e)), q (SEp.num e), q (SEp.start e), q (List.length (SEp.lead e)), ∀ (k : Nat), k < List.length (SEp.lead e) → [V.int IntKind.i64 (List.getD (SEp.lead e) k (0 : Int))] = [V.int IntKind.i64 (List.getD (SEp.lead e) k (0 : Int))], false = true → false = true, q0, q0, q0, (-1 : Int) = lastL (SEp.lead e) (0 : Nat), q (List.length (SEp.lead e)), ∀ (k : Nat), k < List.length (SEp.lead e) → [V.int IntKind.i64 (List.getD (SEp.lead e) k (0 : Int))] = [V.int IntKind.i64 (List.getD (SEp.lead e) k (0 : Int))], false = true → false = true, q (↑(List.length (SEp.lead e)) : Int), q1]) : Option (V × Heap × List Prop)) := by kernel_rfl

theorem pcGd_p111 (e : SEp) (k : Nat) :
  alongPc Tryz.prog (pcGd e k) [true, true, true] = (some (.ret, St.mk [.any, .any, .bool false, .any, .any, .any, .any, .any, .any, .any, .any, .any, .any, .any, .any, .any, .any, .any, .any, .any, .any, .any, .any, .any, .any, .any, .any, .any, .any, .any, .any, .any, .any, .any, .any, .any, .any, .any, .any, .any, .any, .any, .any, .any, .any, .any, .any, .any, .any, .any, .any, .any, .any, .any, .any, .any, .any, .any, .any] [] 1 [], [decide ((↑k : Int) < (↑(List.length (SEp.lead e)) : Int)) = true, (0 : Int) ≤ (↑k : Int) ∧ (↑k : Int) < (↑(List.length (SEp.lead e)) : Int), decide (List.getD (SEp.lead e) (Int.toNat (↑k : Int)) (0 : Int) ≤ lastL (SEp.lead e) k) = true, q2, q false]) : Option (Exit × St × List Prop)) := by kernel_rfl
theorem pcGd_p101 (e : SEp) (k : Nat) :
  alongPc Tryz.prog (pcGd e k) [true, false, true] = (some (.ret, St.mk [.any, .any, .bool false, .any, .any, .any, .any, .any, .any, .any, .any, .any, .any, .any, .any, .any, .any, .any, .any, .any, .any, .any, .any, .any, .any, .any, .any, .any, .any, .any, .any, .any, .any, .any, .any, .any, .any, .any, .any, .any, .any, .any, .any, .any, .any, .any, .any, .any, .any, .any, .any, .any, .any, .any, .any, .any, .any, .any, .any] [] 1 [], [decide ((↑k : Int) < (↑(List.length (SEp.lead e)) : Int)) = true, (0 : Int) ≤ (↑k : Int) ∧ (↑k : Int) < (↑(List.length (SEp.lead e)) : Int), decide (List.getD (SEp.lead e) (Int.toNat (↑k : Int)) (0 : Int) ≤ lastL (SEp.lead e) k) = false, decide (SCfg.nodes (SEp.cfg e) ≤ List.getD (SEp.lead e) (Int.toNat (↑k : Int)) (0 : Int)) = true, q false]) : Option (Exit × St × List Prop)) := by kernel_rfl
theorem pcGd_p100 (e : SEp) (k : Nat) :
  alongPc Tryz.prog (pcGd e k) [true, false, false] = (some (.normal, St.mk [.any, .ptr (.o 0) 0 0 0 0, .any, .int .i64 (lastL (SEp.lead e) (k + 1)), .any, .any, .any, .any, .any, .any, .any, .any, .any, .any, .any, .any, .any, .any, .any, .any, .any, .any, .any, .any, .any, .any, .any, .any, .any, .any, .ros 1 (List.length (SEp.lead e)) (li (SEp.lead e)) false, .int .i64 (↑(List.length (SEp.lead e)) : Int), .int .i64 (↑(k + 1) : Int), .any, .any, .any, .any, .any, .any, .any, .any, .any, .any, .any, .any, .any, .any, .any, .any, .any, .any, .any, .any, .any, .any, .any, .any, .any, .any] [(.o 0, .flat [.int .i64 (SCfg.nodes (SEp.cfg e)), .int .i64 (SCfg.clients (SEp.cfg e)), .int .i64 (SCfg.window (SEp.cfg e)), .int .i64 (SCfg.buckets (SEp.cfg e)), .int .i64 (SCfg.cap (SEp.cfg e)), .int .i64 (SCfg.slots (SEp.cfg e)), .int .i64 (SCfg.requests (SEp.cfg e)), .int .i64 (SCfg.timeout (SEp.cfg e)), .int .i64 (SCfg.penalty (SEp.cfg e)), .int .i64 (SCfg.last (SEp.cfg e)), .int .i64 (SEp.num e), .int .i64 (SEp.start e), .ros 1 (List.length (SEp.lead e)) (li (SEp.lead e)) false])] 1 [], [decide ((↑k : Int) < (↑(List.length (SEp.lead e)) : Int)) = true, (0 : Int) ≤ (↑k : Int) ∧ (↑k : Int) < (↑(List.length (SEp.lead e)) : Int), decide (List.getD (SEp.lead e) (Int.toNat (↑k : Int)) (0 : Int) ≤ lastL (SEp.lead e) k) = false, decide (SCfg.nodes (SEp.cfg e) ≤ List.getD (SEp.lead e) (Int.toNat (↑k : Int)) (0 : Int)) = false, InR IntKind.i64 ((↑k : Int) + (1 : Int)), q (SCfg.nodes (SEp.cfg e)), q (SCfg.clients (SEp.cfg e)), q (SCfg.window (SEp.cfg e)), q (SCfg.buckets (SEp.cfg e)), q (SCfg.cap (SEp.cfg e)), q (SCfg.slots (SEp.cfg e)), q (SCfg.requests (SEp.cfg e)), q (SCfg.timeout (SEp.cfg e)), q (SCfg.penalty (SEp.cfg e)), q (SCfg.last (SEp.cfg e)), q (SEp.num e), q (SEp.start e), q (List.length (SEp.lead e)), ∀ (k : Nat), k < List.length (SEp.lead e) → [V.int IntKind.i64 (List.getD (SEp.lead e) k (0 : Int))] = [V.int IntKind.i64 (List.getD (SEp.lead e) k (0 : Int))], false = true → false = true, q0, q0, q0, List.getD (SEp.lead e) (Int.toNat (↑k : Int)) (0 : Int) = lastL (SEp.lead e) (k + (1 : Nat)), q (List.length (SEp.lead e)), ∀ (k : Nat), k < List.length (SEp.lead e) → [V.int IntKind.i64 (List.getD (SEp.lead e) k (0 : Int))] = [V.int IntKind.i64 (List.getD (SEp.lead e) k (0 : Int))], false = true → false = true, q (↑(List.length (SEp.lead e)) : Int), (↑k : Int) + (1 : Int) = (↑(k + (1 : Nat)) : Int)]) : Option (Exit × St × List Prop)) := by kernel_rfl
theorem pcGd_p0 (e : SEp) (k : Nat) :
  alongPc Tryz.prog (pcGd e k) [false] = (some (.exit 0, St.mk [.any, .ptr (.o 0) 0 0 0 0, .any, .int .i64 (lastL (SEp.lead e) (List.length (SEp.lead e))), .any, .any, .any, .any, .any, .any, .any, .any, .any, .any, .any, .any, .any, .any, .any, .any, .any, .any, .any, .any, .any, .any, .any, .any, .any, .any, .ros 1 (List.length (SEp.lead e)) (li (SEp.lead e)) false, .int .i64 (↑(List.length (SEp.lead e)) : Int), .int .i64 (↑(List.length (SEp.lead e)) : Int), .any, .any, .any, .any, .any, .any, .any, .any, .any, .any, .any, .any, .any, .any, .any, .any, .any, .any, .any, .any, .any, .any, .any, .any, .any, .any] [(.o 0, .flat [.int .i64 (SCfg.nodes (SEp.cfg e)), .int .i64 (SCfg.clients (SEp.cfg e)), .int .i64 (SCfg.window (SEp.cfg e)), .int .i64 (SCfg.buckets (SEp.cfg e)), .int .i64 (SCfg.cap (SEp.cfg e)), .int .i64 (SCfg.slots (SEp.cfg e)), .int .i64 (SCfg.requests (SEp.cfg e)), .int .i64 (SCfg.timeout (SEp.cfg e)), .int .i64 (SCfg.penalty (SEp.cfg e)), .int .i64 (SCfg.last (SEp.cfg e)), .int .i64 (SEp.num e), .int .i64 (SEp.start e), .ros 1 (List.length (SEp.lead e)) (li (SEp.lead e)) false])] 1 [], [decide ((↑k : Int) < (↑(List.length (SEp.lead e)) : Int)) = false, q (SCfg.nodes (SEp.cfg e)), q (SCfg.clients (SEp.cfg e)), q (SCfg.window (SEp.cfg e)), q (SCfg.buckets (SEp.cfg e)), q (SCfg.cap (SEp.cfg e)), q (SCfg.slots (SEp.cfg e)), q (SCfg.requests (SEp.cfg e)), q (SCfg.timeout (SEp.cfg e)), q (SCfg.penalty (SEp.cfg e)), q (SCfg.last (SEp.cfg e)), q (SEp.num e), q (SEp.start e), q (List.length (SEp.lead e)), ∀ (k : Nat), k < List.length (SEp.lead e) → [V.int IntKind.i64 (List.getD (SEp.lead e) k (0 : Int))] = [V.int IntKind.i64 (List.getD (SEp.lead e) k (0 : Int))], false = true → false = true, q0, q0, q0, lastL (SEp.lead e) k = lastL (SEp.lead e) (List.length (SEp.lead e)), q (List.length (SEp.lead e)), ∀ (k : Nat), k < List.length (SEp.lead e) → [V.int IntKind.i64 (List.getD (SEp.lead e) k (0 : Int))] = [V.int IntKind.i64 (List.getD (SEp.lead e) k (0 : Int))], false = true → false = true, q (↑(List.length (SEp.lead e)) : Int), (↑k : Int) = (↑(List.length (SEp.lead e)) : Int)]) : Option (Exit × St × List Prop)) := by kernel_rfl

theorem bdLd_p1 (e : SEp) (n : Int) (m : Nat) :
  along Tryz.prog (bdLd e n m) [true] = (some (.bool false, [], [RLoop Tryz.prog none 0 (cB (cB (cR (cL (cR (bodyOf (Bd.f (bdLd e n m)))))))) (List.length (SEp.lead e) + 1) (St.mk [.any, .int .i64 n, .any, .any, .any, .any, .any, .any, .ros 1 (List.length (SEp.lead e)) (li (SEp.lead e)) false, .int .i64 (↑(List.length (SEp.lead e)) : Int), .int .i64 0, .any, .any, .any, .any, .any, .any, .any] [] 0 []) (.exit 0) (St.mk [.any, .int .i64 n, .any, .any, .any, .any, .any, .any, .ros 1 (List.length (SEp.lead e)) (li (SEp.lead e)) false, .int .i64 (↑(List.length (SEp.lead e)) : Int), .int .i64 (↑(List.length (SEp.lead e)) : Int), .any, .any, .any, .any, .any, .any, .any] [] 0 []), q n, q (List.length (SEp.lead e)), ∀ (k : Nat), k < List.length (SEp.lead e) → [V.int IntKind.i64 (List.getD (SEp.lead e) k (0 : Int))] = [V.int IntKind.i64 (List.getD (SEp.lead e) k (0 : Int))], false = true → false = true, q (↑(List.length (SEp.lead e)) : Int), q1]) : Option (V × Heap × List Prop)) := by kernel_rfl
theorem bdLd_p0 (e : SEp) (n : Int) (m : Nat) :
  along Tryz.prog (bdLd e n m) [false] = (some (.bool true, [], [RLoop Tryz.prog none 0 (cB (cB (cR (cL (cR (bodyOf (Bd.f (bdLd e n m)))))))) (m + 1) (St.mk [.any, .int .i64 n, .any, .any, .any, .any, .any, .any, .ros 1 (List.length (SEp.lead e)) (li (SEp.lead e)) false, .int .i64 (↑(List.length (SEp.lead e)) : Int), .int .i64 0, .any, .any, .any, .any, .any, .any, .any] [] 0 []) .ret (St.mk [.any, .any, .any, .any, .bool true, .any, .any, .any, .any, .any, .any, .any, .any, .any, .any, .any, .any, .any] [] 0 []), q n, q (List.length (SEp.lead e)), ∀ (k : Nat), k < List.length (SEp.lead e) → [V.int IntKind.i64 (List.getD (SEp.lead e) k (0 : Int))] = [V.int IntKind.i64 (List.getD (SEp.lead e) k (0 : Int))], false = true → false = true, q (↑(List.length (SEp.lead e)) : Int), q1]) : Option (V × Heap × List Prop)) := by kernel_rfl

theorem pcLd_p11 (e : SEp) (n : Int) (k : Nat) :
  alongPc Tryz.prog (pcLd e n k) [true, true] = (some (.ret, St.mk [.any, .any, .any, .any, .bool true, .any, .any, .any, .any, .any, .any, .any, .any, .any, .any, .any, .any, .any] [] 0 [], [decide ((↑k : Int) < (↑(List.length (SEp.lead e)) : Int)) = true, (0 : Int) ≤ (↑k : Int) ∧ (↑k : Int) < (↑(List.length (SEp.lead e)) : Int), decide (List.getD (SEp.lead e) (Int.toNat (↑k : Int)) (0 : Int) = n) = true, q2]) : Option (Exit × St × List Prop)) := by kernel_rfl
theorem pcLd_p10 (e : SEp) (n : Int) (k : Nat) :
  alongPc Tryz.prog (pcLd e n k) [true, false] = (some (.normal, St.mk [.any, .int .i64 n, .any, .any, .any, .any, .any, .any, .ros 1 (List.length (SEp.lead e)) (li (SEp.lead e)) false, .int .i64 (↑(List.length (SEp.lead e)) : Int), .int .i64 (↑(k + 1) : Int), .any, .any, .any, .any, .any, .any, .any] [] 0 [], [decide ((↑k : Int) < (↑(List.length (SEp.lead e)) : Int)) = true, (0 : Int) ≤ (↑k : Int) ∧ (↑k : Int) < (↑(List.length (SEp.lead e)) : Int), decide (List.getD (SEp.lead e) (Int.toNat (↑k : Int)) (0 : Int) = n) = false, InR IntKind.i64 ((↑k : Int) + (1 : Int)), q n, q (List.length (SEp.lead e)), ∀ (k : Nat), k < List.length (SEp.lead e) → [V.int IntKind.i64 (List.getD (SEp.lead e) k (0 : Int))] = [V.int IntKind.i64 (List.getD (SEp.lead e) k (0 : Int))], false = true → false = true, q (↑(List.length (SEp.lead e)) : Int), (↑k : Int) + (1 : Int) = (↑(k + (1 : Nat)) : Int)]) : Option (Exit × St × List Prop)) := by kernel_rfl
theorem pcLd_p0 (e : SEp) (n : Int) (k : Nat) :
  alongPc Tryz.prog (pcLd e n k) [false] = (some (.exit 0, St.mk [.any, .int .i64 n, .any, .any, .any, .any, .any, .any, .ros 1 (List.length (SEp.lead e)) (li (SEp.lead e)) false, .int .i64 (↑(List.length (SEp.lead e)) : Int), .int .i64 (↑(List.length (SEp.lead e)) : Int), .any, .any, .any, .any, .any, .any, .any] [] 0 [], [decide ((↑k : Int) < (↑(List.length (SEp.lead e)) : Int)) = false, q n, q (List.length (SEp.lead e)), ∀ (k : Nat), k < List.length (SEp.lead e) → [V.int IntKind.i64 (List.getD (SEp.lead e) k (0 : Int))] = [V.int IntKind.i64 (List.getD (SEp.lead e) k (0 : Int))], false = true → false = true, q (↑(List.length (SEp.lead e)) : Int), (↑k : Int) = (↑(List.length (SEp.lead e)) : Int)]) : Option (Exit × St × List Prop)) := by kernel_rfl

theorem bdAs_p1 (e : SEp) (n : Int) (g : Bool) (b : Bool) :
  along Tryz.prog (bdAs e n g b) [true] = (some (.bool b, [], [T Tryz.prog 9 [.agg [.int .i64 (SCfg.nodes (SEp.cfg e)), .int .i64 (SCfg.clients (SEp.cfg e)), .int .i64 (SCfg.window (SEp.cfg e)), .int .i64 (SCfg.buckets (SEp.cfg e)), .int .i64 (SCfg.cap (SEp.cfg e)), .int .i64 (SCfg.slots (SEp.cfg e)), .int .i64 (SCfg.requests (SEp.cfg e)), .int .i64 (SCfg.timeout (SEp.cfg e)), .int .i64 (SCfg.penalty (SEp.cfg e)), .int .i64 (SCfg.last (SEp.cfg e)), .int .i64 (SEp.num e), .int .i64 (SEp.start e), .ros 1 (List.length (SEp.lead e)) (li (SEp.lead e)) false]] [] (.bool g) [], g = true, T Tryz.prog (50 : FuncId) [.agg [.int .i64 (SCfg.nodes (SEp.cfg e)), .int .i64 (SCfg.clients (SEp.cfg e)), .int .i64 (SCfg.window (SEp.cfg e)), .int .i64 (SCfg.buckets (SEp.cfg e)), .int .i64 (SCfg.cap (SEp.cfg e)), .int .i64 (SCfg.slots (SEp.cfg e)), .int .i64 (SCfg.requests (SEp.cfg e)), .int .i64 (SCfg.timeout (SEp.cfg e)), .int .i64 (SCfg.penalty (SEp.cfg e)), .int .i64 (SCfg.last (SEp.cfg e)), .int .i64 (SEp.num e), .int .i64 (SEp.start e), .ros 1 (List.length (SEp.lead e)) (li (SEp.lead e)) false], .int .i64 n] [] (.bool b) []]) : Option (V × Heap × List Prop)) := by kernel_rfl
theorem bdAs_p0 (e : SEp) (n : Int) (g : Bool) (b : Bool) :
  along Tryz.prog (bdAs e n g b) [false] = (some (.bool false, [], [T Tryz.prog 9 [.agg [.int .i64 (SCfg.nodes (SEp.cfg e)), .int .i64 (SCfg.clients (SEp.cfg e)), .int .i64 (SCfg.window (SEp.cfg e)), .int .i64 (SCfg.buckets (SEp.cfg e)), .int .i64 (SCfg.cap (SEp.cfg e)), .int .i64 (SCfg.slots (SEp.cfg e)), .int .i64 (SCfg.requests (SEp.cfg e)), .int .i64 (SCfg.timeout (SEp.cfg e)), .int .i64 (SCfg.penalty (SEp.cfg e)), .int .i64 (SCfg.last (SEp.cfg e)), .int .i64 (SEp.num e), .int .i64 (SEp.start e), .ros 1 (List.length (SEp.lead e)) (li (SEp.lead e)) false]] [] (.bool g) [], g = false]) : Option (V × Heap × List Prop)) := by kernel_rfl

theorem bdSl_p1 (e : SEp) (ld : Int) (a : Bool) (sz : Int) (m : Nat) (L : List Int) :
  along Tryz.prog (bdSl e ld a sz m L) [true] = (some (.ros 1 (List.length L) (li L) false, [], [T Tryz.prog 49 [.agg [.int .i64 (SCfg.nodes (SEp.cfg e)), .int .i64 (SCfg.clients (SEp.cfg e)), .int .i64 (SCfg.window (SEp.cfg e)), .int .i64 (SCfg.buckets (SEp.cfg e)), .int .i64 (SCfg.cap (SEp.cfg e)), .int .i64 (SCfg.slots (SEp.cfg e)), .int .i64 (SCfg.requests (SEp.cfg e)), .int .i64 (SCfg.timeout (SEp.cfg e)), .int .i64 (SCfg.penalty (SEp.cfg e)), .int .i64 (SCfg.last (SEp.cfg e)), .int .i64 (SEp.num e), .int .i64 (SEp.start e), .ros 1 (List.length (SEp.lead e)) (li (SEp.lead e)) false], .fn (.func 50) [] [], .int .i64 ld] [] (.bool a) [], (!a) = true, List.length L = (0 : Nat)]) : Option (V × Heap × List Prop)) := by kernel_rfl
theorem bdSl_p0 (e : SEp) (ld : Int) (a : Bool) (sz : Int) (m : Nat) (L : List Int) :
  along Tryz.prog (bdSl e ld a sz m L) [false] = some (V.ros (1 : Nat) (List.length L) (li L) false, [], [T Tryz.prog (49 : Nat) [V.agg [V.int IntKind.i64 (SCfg.nodes (SEp.cfg e)), V.int IntKind.i64 (SCfg.clients (SEp.cfg e)), V.int IntKind.i64 (SCfg.window (SEp.cfg e)), V.int IntKind.i64 (SCfg.buckets (SEp.cfg e)), V.int IntKind.i64 (SCfg.cap (SEp.cfg e)), V.int IntKind.i64 (SCfg.slots (SEp.cfg e)), V.int IntKind.i64 (SCfg.requests (SEp.cfg e)), V.int IntKind.i64 (SCfg.timeout (SEp.cfg e)), V.int IntKind.i64 (SCfg.penalty (SEp.cfg e)), V.int IntKind.i64 (SCfg.last (SEp.cfg e)), V.int IntKind.i64 (SEp.num e), V.int IntKind.i64 (SEp.start e), V.ros (1 : Nat) (List.length (SEp.lead e)) (li (SEp.lead e)) false], V.fn (Fn.func (50 : Nat)) [] [], V.int IntKind.i64 ld] [] (V.bool a) [], (!a) = false, T Tryz.prog (45 : Nat) [V.agg [V.int IntKind.i64 (SCfg.nodes (SEp.cfg e)), V.int IntKind.i64 (SCfg.clients (SEp.cfg e)), V.int IntKind.i64 (SCfg.window (SEp.cfg e)), V.int IntKind.i64 (SCfg.buckets (SEp.cfg e)), V.int IntKind.i64 (SCfg.cap (SEp.cfg e)), V.int IntKind.i64 (SCfg.slots (SEp.cfg e)), V.int IntKind.i64 (SCfg.requests (SEp.cfg e)), V.int IntKind.i64 (SCfg.timeout (SEp.cfg e)), V.int IntKind.i64 (SCfg.penalty (SEp.cfg e)), V.int IntKind.i64 (SCfg.last (SEp.cfg e)), V.int IntKind.i64 (SEp.num e), V.int IntKind.i64 (SEp.start e), V.ros (1 : Nat) (List.length (SEp.lead e)) (li (SEp.lead e)) false]] [] (V.int IntKind.i64 sz) [], RLoop Tryz.prog none (0 : Nat) (cB (cB (cR (cL (cR (cR (bodyOf (Bd.f (bdSl e ld a sz m L))))))))) (m + (1 : Nat)) (St.mk [V.any, V.int IntKind.i64 ld, V.ptr (Nm.o (0 : Nat)) (0 : Nat) (0 : Nat) (0 : Nat) (0 : Nat), V.any, V.sl (Nm.o (1 : Nat)) (1 : Nat) (0 : Nat) (0 : Nat) (0 : Nat) (nat_lit 0) none, V.any, V.any, V.any, V.any, V.any, V.any, V.int IntKind.i64 sz, V.int IntKind.i64 (0 : Int), V.any, V.any, V.any, V.any, V.any, V.any, V.any, V.any, V.any, V.any, V.any, V.any, V.any, V.any, V.any, V.any, V.any, V.any, V.any, V.any, V.any, V.any] [(Nm.o (0 : Nat), B.flat [V.int IntKind.i64 (SCfg.nodes (SEp.cfg e)), V.int IntKind.i64 (SCfg.clients (SEp.cfg e)), V.int IntKind.i64 (SCfg.window (SEp.cfg e)), V.int IntKind.i64 (SCfg.buckets (SEp.cfg e)), V.int IntKind.i64 (SCfg.cap (SEp.cfg e)), V.int IntKind.i64 (SCfg.slots (SEp.cfg e)), V.int IntKind.i64 (SCfg.requests (SEp.cfg e)), V.int IntKind.i64 (SCfg.timeout (SEp.cfg e)), V.int IntKind.i64 (SCfg.penalty (SEp.cfg e)), V.int IntKind.i64 (SCfg.last (SEp.cfg e)), V.int IntKind.i64 (SEp.num e), V.int IntKind.i64 (SEp.start e), V.ros (1 : Nat) (List.length (SEp.lead e)) (li (SEp.lead e)) false]), (Nm.o (1 : Nat), B.rows (1 : Nat) (nat_lit 0) (li []) true)] (2 : Nat) []) (Exit.exit (0 : Nat)) (St.mk [V.any, V.int IntKind.i64 ld, V.ptr (Nm.o (0 : Nat)) (0 : Nat) (0 : Nat) (0 : Nat) (0 : Nat), V.any, V.sl (Nm.o (1 : Nat)) (1 : Nat) (0 : Nat) (0 : Nat) (0 : Nat) (List.length L) none, V.any, V.any, V.any, V.any, V.any, V.any, V.int IntKind.i64 sz, V.int IntKind.i64 (↑m : Int), V.any, V.any, V.any, V.any, V.any, V.any, V.any, V.any, V.any, V.any, V.any, V.any, V.any, V.any, V.any, V.any, V.any, V.any, V.any, V.any, V.any, V.any] [(Nm.o (0 : Nat), B.flat [V.int IntKind.i64 (SCfg.nodes (SEp.cfg e)), V.int IntKind.i64 (SCfg.clients (SEp.cfg e)), V.int IntKind.i64 (SCfg.window (SEp.cfg e)), V.int IntKind.i64 (SCfg.buckets (SEp.cfg e)), V.int IntKind.i64 (SCfg.cap (SEp.cfg e)), V.int IntKind.i64 (SCfg.slots (SEp.cfg e)), V.int IntKind.i64 (SCfg.requests (SEp.cfg e)), V.int IntKind.i64 (SCfg.timeout (SEp.cfg e)), V.int IntKind.i64 (SCfg.penalty (SEp.cfg e)), V.int IntKind.i64 (SCfg.last (SEp.cfg e)), V.int IntKind.i64 (SEp.num e), V.int IntKind.i64 (SEp.start e), V.ros (1 : Nat) (List.length (SEp.lead e)) (li (SEp.lead e)) false]), (Nm.o (1 : Nat), B.rows (1 : Nat) (List.length L) (li L) true)] (2 : Nat) []), SCfg.nodes (SEp.cfg e) = SCfg.nodes (SEp.cfg e), SCfg.clients (SEp.cfg e) = SCfg.clients (SEp.cfg e), SCfg.window (SEp.cfg e) = SCfg.window (SEp.cfg e), SCfg.buckets (SEp.cfg e) = SCfg.buckets (SEp.cfg e), SCfg.cap (SEp.cfg e) = SCfg.cap (SEp.cfg e), SCfg.slots (SEp.cfg e) = SCfg.slots (SEp.cfg e), SCfg.requests (SEp.cfg e) = SCfg.requests (SEp.cfg e), SCfg.timeout (SEp.cfg e) = SCfg.timeout (SEp.cfg e), SCfg.penalty (SEp.cfg e) = SCfg.penalty (SEp.cfg e), SCfg.last (SEp.cfg e) = SCfg.last (SEp.cfg e), SEp.num e = SEp.num e, SEp.start e = SEp.start e, List.length (SEp.lead e) = List.length (SEp.lead e), ∀ (k : Nat), k < List.length (SEp.lead e) → [V.int IntKind.i64 (List.getD (SEp.lead e) k (0 : Int))] = [V.int IntKind.i64 (List.getD (SEp.lead e) k (0 : Int))], false = true → false = true, (0 : Nat) = nat_lit 0, ∀ (k : Nat), k < (0 : Nat) → [] = [V.int IntKind.i64 (0 : Int)], true = false → true = false, ld = ld, (0 : Nat) = (0 : Nat), (0 : Nat) = (0 : Nat), (0 : Nat) = (0 : Nat), (0 : Nat) = (0 : Nat), (0 : Nat) = (0 : Nat), (0 : Nat) = (0 : Nat), (0 : Nat) = nat_lit 0, (none : Option Nat) = none ∨ (none : Option Nat) = none, sz = sz, (0 : Int) = (0 : Int), List.length L = List.length L, (0 : Nat) + List.length L ≤ List.length L, ∀ (k : Nat), k < List.length L → [V.int IntKind.i64 (List.getD L ((0 : Nat) + k) (0 : Int))] = [V.int IntKind.i64 (List.getD L k (0 : Int))], false = true → none = some (List.length L)]) := by kernel_rfl

theorem pcSl_p11 (e : SEp) (ld : Int) (sz : Int) (L : List Int) (k : Nat) (L2 : List Int) :
  alongPc Tryz.prog (pcSl e ld sz L k L2) [true, true] = (some (.normal, St.mk [.any, .int .i64 ld, .ptr (.o 0) 0 0 0 0, .any, .sl (.o 1) 1 0 0 0 (List.length L2) none, .any, .any, .any, .any, .any, .any, .int .i64 sz, .int .i64 (↑(k + 1) : Int), .any, .any, .any, .any, .any, .any, .any, .any, .any, .any, .any, .any, .any, .any, .any, .any, .any, .any, .any, .any, .any, .any] [(.o 0, .flat [.int .i64 (SCfg.nodes (SEp.cfg e)), .int .i64 (SCfg.clients (SEp.cfg e)), .int .i64 (SCfg.window (SEp.cfg e)), .int .i64 (SCfg.buckets (SEp.cfg e)), .int .i64 (SCfg.cap (SEp.cfg e)), .int .i64 (SCfg.slots (SEp.cfg e)), .int .i64 (SCfg.requests (SEp.cfg e)), .int .i64 (SCfg.timeout (SEp.cfg e)), .int .i64 (SCfg.penalty (SEp.cfg e)), .int .i64 (SCfg.last (SEp.cfg e)), .int .i64 (SEp.num e), .int .i64 (SEp.start e), .ros 1 (List.length (SEp.lead e)) (li (SEp.lead e)) false]), (.o 1, .rows 1 (List.length L2) (li L2) true)] 2 [], [decide ((↑k : Int) < sz) = true, (0 : Int) ≤ (↑k : Int) ∧ (0 : Int) < (↑(List.length (SEp.lead e)) : Int), (0 : Int) ≤ (↑k : Int) % (↑(List.length (SEp.lead e)) : Int) ∧ (↑k : Int) % (↑(List.length (SEp.lead e)) : Int) < (↑(List.length (SEp.lead e)) : Int), decide (List.getD (SEp.lead e) (Int.toNat ((↑k : Int) % (↑(List.length (SEp.lead e)) : Int))) (0 : Int) = ld) = true, InR IntKind.i64 (SEp.start e + (↑k : Int)), q (List.length L), nat_lit 1 ≤ (1 : Nat), ∀ (k_1 : Nat), k_1 < (1 : Nat) → solid (getL [[V.int IntKind.i64 (SEp.start e + (↑k : Int))]] ((0 : Nat) + k_1)) = true, (List.length L + (1 : Nat)) * (8 : Nat) ≤ (140737488355328 : Nat), InR IntKind.i64 ((↑k : Int) + (1 : Int)), q (SCfg.nodes (SEp.cfg e)), q (SCfg.clients (SEp.cfg e)), q (SCfg.window (SEp.cfg e)), q (SCfg.buckets (SEp.cfg e)), q (SCfg.cap (SEp.cfg e)), q (SCfg.slots (SEp.cfg e)), q (SCfg.requests (SEp.cfg e)), q (SCfg.timeout (SEp.cfg e)), q (SCfg.penalty (SEp.cfg e)), q (SCfg.last (SEp.cfg e)), q (SEp.num e), q (SEp.start e), q (List.length (SEp.lead e)), ∀ (k : Nat), k < List.length (SEp.lead e) → [V.int IntKind.i64 (List.getD (SEp.lead e) k (0 : Int))] = [V.int IntKind.i64 (List.getD (SEp.lead e) k (0 : Int))], false = true → false = true, List.length L + (1 : Nat) = List.length L2, ∀ (k_1 : Nat), k_1 < List.length L + (1 : Nat) → catF (List.length L) (li L) (fun k_2 => getL [[V.int IntKind.i64 (SEp.start e + (↑k : Int))]] ((0 : Nat) + k_2)) k_1 = [V.int IntKind.i64 (List.getD L2 k_1 (0 : Int))], true = false → true = false, q ld, q0, q0, q0, q0, q0, q0, List.length L + (1 : Nat) = List.length L2, (none : Option Nat) = none ∨ (none : Option Nat) = none, q sz, (↑k : Int) + (1 : Int) = (↑(k + (1 : Nat)) : Int)]) : Option (Exit × St × List Prop)) := by kernel_rfl
theorem pcSl_p10 (e : SEp) (ld : Int) (sz : Int) (L : List Int) (k : Nat) (L2 : List Int) :
  alongPc Tryz.prog (pcSl e ld sz L k L2) [true, false] = (some (.normal, St.mk [.any, .int .i64 ld, .ptr (.o 0) 0 0 0 0, .any, .sl (.o 1) 1 0 0 0 (List.length L2) none, .any, .any, .any, .any, .any, .any, .int .i64 sz, .int .i64 (↑(k + 1) : Int), .any, .any, .any, .any, .any, .any, .any, .any, .any, .any, .any, .any, .any, .any, .any, .any, .any, .any, .any, .any, .any, .any] [(.o 0, .flat [.int .i64 (SCfg.nodes (SEp.cfg e)), .int .i64 (SCfg.clients (SEp.cfg e)), .int .i64 (SCfg.window (SEp.cfg e)), .int .i64 (SCfg.buckets (SEp.cfg e)), .int .i64 (SCfg.cap (SEp.cfg e)), .int .i64 (SCfg.slots (SEp.cfg e)), .int .i64 (SCfg.requests (SEp.cfg e)), .int .i64 (SCfg.timeout (SEp.cfg e)), .int .i64 (SCfg.penalty (SEp.cfg e)), .int .i64 (SCfg.last (SEp.cfg e)), .int .i64 (SEp.num e), .int .i64 (SEp.start e), .ros 1 (List.length (SEp.lead e)) (li (SEp.lead e)) false]), (.o 1, .rows 1 (List.length L2) (li L2) true)] 2 [], [decide ((↑k : Int) < sz) = true, (0 : Int) ≤ (↑k : Int) ∧ (0 : Int) < (↑(List.length (SEp.lead e)) : Int), (0 : Int) ≤ (↑k : Int) % (↑(List.length (SEp.lead e)) : Int) ∧ (↑k : Int) % (↑(List.length (SEp.lead e)) : Int) < (↑(List.length (SEp.lead e)) : Int), decide (List.getD (SEp.lead e) (Int.toNat ((↑k : Int) % (↑(List.length (SEp.lead e)) : Int))) (0 : Int) = ld) = false, InR IntKind.i64 ((↑k : Int) + (1 : Int)), q (SCfg.nodes (SEp.cfg e)), q (SCfg.clients (SEp.cfg e)), q (SCfg.window (SEp.cfg e)), q (SCfg.buckets (SEp.cfg e)), q (SCfg.cap (SEp.cfg e)), q (SCfg.slots (SEp.cfg e)), q (SCfg.requests (SEp.cfg e)), q (SCfg.timeout (SEp.cfg e)), q (SCfg.penalty (SEp.cfg e)), q (SCfg.last (SEp.cfg e)), q (SEp.num e), q (SEp.start e), q (List.length (SEp.lead e)), ∀ (k : Nat), k < List.length (SEp.lead e) → [V.int IntKind.i64 (List.getD (SEp.lead e) k (0 : Int))] = [V.int IntKind.i64 (List.getD (SEp.lead e) k (0 : Int))], false = true → false = true, List.length L = List.length L2, ∀ (k : Nat), k < List.length L → [V.int IntKind.i64 (List.getD L k (0 : Int))] = [V.int IntKind.i64 (List.getD L2 k (0 : Int))], true = false → true = false, q ld, q0, q0, q0, q0, q0, q0, List.length L = List.length L2, (none : Option Nat) = none ∨ (none : Option Nat) = none, q sz, (↑k : Int) + (1 : Int) = (↑(k + (1 : Nat)) : Int)]) : Option (Exit × St × List Prop)) := by kernel_rfl
theorem pcSl_p0 (e : SEp) (ld : Int) (sz : Int) (L : List Int) (k : Nat) (L2 : List Int) :
  alongPc Tryz.prog (pcSl e ld sz L k L2) [false] = (some (.exit 0, St.mk [.any, .int .i64 ld, .ptr (.o 0) 0 0 0 0, .any, .sl (.o 1) 1 0 0 0 (List.length L) none, .any, .any, .any, .any, .any, .any, .int .i64 sz, .int .i64 ↑k, .any, .any, .any, .any, .any, .any, .any, .any, .any, .any, .any, .any, .any, .any, .any, .any, .any, .any, .any, .any, .any, .any] [(.o 0, .flat [.int .i64 (SCfg.nodes (SEp.cfg e)), .int .i64 (SCfg.clients (SEp.cfg e)), .int .i64 (SCfg.window (SEp.cfg e)), .int .i64 (SCfg.buckets (SEp.cfg e)), .int .i64 (SCfg.cap (SEp.cfg e)), .int .i64 (SCfg.slots (SEp.cfg e)), .int .i64 (SCfg.requests (SEp.cfg e)), .int .i64 (SCfg.timeout (SEp.cfg e)), .int .i64 (SCfg.penalty (SEp.cfg e)), .int .i64 (SCfg.last (SEp.cfg e)), .int .i64 (SEp.num e), .int .i64 (SEp.start e), .ros 1 (List.length (SEp.lead e)) (li (SEp.lead e)) false]), (.o 1, .rows 1 (List.length L) (li L) true)] 2 [], [decide ((↑k : Int) < sz) = false, q (SCfg.nodes (SEp.cfg e)), q (SCfg.clients (SEp.cfg e)), q (SCfg.window (SEp.cfg e)), q (SCfg.buckets (SEp.cfg e)), q (SCfg.cap (SEp.cfg e)), q (SCfg.slots (SEp.cfg e)), q (SCfg.requests (SEp.cfg e)), q (SCfg.timeout (SEp.cfg e)), q (SCfg.penalty (SEp.cfg e)), q (SCfg.last (SEp.cfg e)), q (SEp.num e), q (SEp.start e), q (List.length (SEp.lead e)), ∀ (k : Nat), k < List.length (SEp.lead e) → [V.int IntKind.i64 (List.getD (SEp.lead e) k (0 : Int))] = [V.int IntKind.i64 (List.getD (SEp.lead e) k (0 : Int))], false = true → false = true, q (List.length L), ∀ (k : Nat), k < List.length L → [V.int IntKind.i64 (List.getD L k (0 : Int))] = [V.int IntKind.i64 (List.getD L k (0 : Int))], true = false → true = false, q ld, q0, q0, q0, q0, q0, q0, q (List.length L), (none : Option Nat) = none ∨ (none : Option Nat) = none, q sz, q (↑k : Int)]) : Option (Exit × St × List Prop)) := by kernel_rfl

theorem bdLt_p11 (e : SEp) :
  along Tryz.prog (bdLt e) [true, true] = (some (.bool false, [], [decide ((100 : Int) < (↑(List.length (SEp.lead e)) : Int)) = true, q2]) : Option (V × Heap × List Prop)) := by kernel_rfl
theorem bdLt_p000 (e : SEp) :
  along Tryz.prog (bdLt e) [false, false, false] = (some (.bool true, [], [decide ((100 : Int) < (↑(List.length (SEp.lead e)) : Int)) = false, q false, q false]) : Option (V × Heap × List Prop)) := by kernel_rfl

/-- Do leaders rise, each a node? -/
def riseB (e : SEp) (k : Nat) : Bool := !decide (e.lead.getD k 0 ≤ lastL e.lead k) && decide (e.lead.getD k 0 < e.cfg.nodes)
def riseA (e : SEp) : Bool := (List.range e.lead.length).all (riseB e)
theorem riseA_true {e : SEp} (h : ∀ k, k < e.lead.length → riseB e k = true) : riseA e = true := by
 rw [riseA, List.all_eq_true]; intro k hk; exact h k (List.mem_range.1 hk)
theorem riseA_false {e : SEp} {k : Nat} (hk : k < e.lead.length) (h : ¬ riseB e k = true) : riseA e = false := by
 rw [riseA, List.all_eq_false]; exact ⟨k, List.mem_range.2 hk, h⟩
theorem riseA_iff {e : SEp} (h : riseA e = true) (k : Nat) (hk : k < e.lead.length) : lastL e.lead k < e.lead.getD k 0 ∧ e.lead.getD k 0 < e.cfg.nodes := by
 rw [riseA, List.all_eq_true] at h
 have := h k (List.mem_range.2 hk)
 simp only [riseB, Bool.and_eq_true, Bool.not_eq_true', decide_eq_false_iff_not, decide_eq_true_eq] at this
 exact ⟨by omega, this.2⟩
theorem rise_ge {e : SEp} (h : riseA e = true) : ∀ k, k < e.lead.length → (k : Int) ≤ e.lead.getD k 0
 | 0, hk => by have := (riseA_iff h 0 hk).1; have h0 : lastL e.lead 0 = -1 := rfl; omega
 | k + 1, hk => by
  have h1 := rise_ge h k (by omega)
  have h2 := (riseA_iff h (k + 1) hk).1
  have h0 : lastL e.lead (k + 1) = e.lead.getD k 0 := rfl
  omega
theorem rise_len {e : SEp} (h : riseA e = true) (hn : e.cfg.nodes ≤ 64) : e.lead.length ≤ 64 := by
 rcases Nat.eq_zero_or_pos e.lead.length with h0 | h0
 ·omega
 ·have h1 := rise_ge h (e.lead.length - 1) (by omega)
  have h2 := (riseA_iff h (e.lead.length - 1) (by omega)).2
  omega
def goodEp (e : SEp) : Bool := goodC e.cfg && (decide (1 ≤ e.num ∧ e.num ≤ e.cfg.last) && (decide (e.lead.length ≠ 0) && (riseA e && decide (1 ≤ e.start ∧ e.start ≤ 1099511627776 - sizeE e))))
theorem cfgB {c : SCfg} (h : goodC c = true) : (1 ≤ c.slots ∧ c.slots ≤ 4) ∧ (4 ≤ c.nodes ∧ c.nodes ≤ 64 ∧ c.nodes % 3 = 1) := by
 have h1 := goodC_iff.1 h
 exact ⟨h1.2.2.2.2.2.1, goodN_iff.1 h1.1⟩
theorem sizeB {e : SEp} (hc : goodC e.cfg = true) (hr : riseA e = true) : 0 ≤ sizeE e ∧ sizeE e ≤ 256 := by
 obtain ⟨⟨h1, h2⟩, h3⟩ := cfgB hc
 have h4 := rise_len hr h3.2.1
 unfold sizeE
 have : 0 ≤ (e.lead.length : Int) := by omega
 constructor
 ·exact Int.mul_nonneg this (by omega)
 ·calc (e.lead.length : Int) * e.cfg.slots ≤ 64 * 4 := Int.mul_le_mul (by omega) h2 (by omega) (by decide)
   _ = 256 := by decide
theorem T_sz (e : SEp) (h : 0 ≤ sizeE e ∧ sizeE e ≤ 256) : T Tryz.prog 45 [.agg e.c] [] (.int .i64 (sizeE e)) [] := by
 have h' : 0 ≤ (e.lead.length : Int) * e.cfg.slots ∧ (e.lead.length : Int) * e.cfg.slots ≤ 256 := h
 refine T_al (bdSz_p e) Tryz.func45 ?_
 simp only [All, All_append, bdGd_c]; and_intros
 all_goals first
  | exact True.intro
  | exact InR64.2 (by omega)
  | (with_reducible assumption)
  | (rw [decide_eq_true_eq]; omega)
  | (rw [decide_eq_false_iff_not]; omega)
  | with_reducible rfl
  | (intro _ _; exact True.intro)
  | (intro _ _; with_reducible rfl)
  | (intro _ _; rfl)
  | (simp only [IntKind.min, IntKind.max, IntKind.signed, IntKind.bits, if_true]; omega)
  | omega
  | (intro h; exact h)
  | (intro h; cases h; done)
  | exact .inl rfl
  | exact .inl True.intro
  | exact .inr rfl
  | (simp; done)
theorem goLoop (e : SEp) (hl : e.lead.length ≤ 1000000) :
  (riseA e = true ∧ RLoop Tryz.prog none 0 (cB (cB (cR (cL (cR (cR (cR (bodyOf Tryz.f9)))))))) (e.lead.length + 1) (goI e 0) (.exit 0) (goI e e.lead.length)) ∨
  (riseA e = false ∧ ∃ m, RLoop Tryz.prog none 0 (cB (cB (cR (cL (cR (cR (cR (bodyOf Tryz.f9)))))))) (m + 1) (goI e 0) .ret goR) := by
 rcases loop_all (P := Tryz.prog) (ro := none) (p := 0) (c := cB (cB (cR (cL (cR (cR (cR (bodyOf Tryz.f9)))))))) (I := goI e) (F := fun _ => goR) (e := fun _ => .ret) (q := fun k => riseB e k = true) (n := e.lead.length)
   (fun k hk hq => by
    simp only [riseB, Bool.and_eq_true, Bool.not_eq_true', decide_eq_false_iff_not, decide_eq_true_eq] at hq
    refine R_alongPc NG MO _ (pcGd_p100 e k) ?_ (Nat.zero_le _)
    simp only [All, All_append, bdGd_c, Int.toNat_natCast]; and_intros
    all_goals first
     | exact True.intro
     | exact decide_eq_false hq.1
     | exact (rfl : e.lead.getD k 0 = lastL e.lead (k + 1))
     | (with_reducible assumption)
     | (rw [decide_eq_true_eq]; omega)
     | (rw [decide_eq_false_iff_not]; omega)
     | with_reducible rfl
     | (intro _ _; exact True.intro)
     | (intro _ _; with_reducible rfl)
     | (intro _ _; rfl)
     | (simp only [IntKind.min, IntKind.max, IntKind.signed, IntKind.bits, if_true]; omega)
     | omega
     | (intro h; exact h)
     | (intro h; cases h; done)
     | exact .inl rfl
     | exact .inl True.intro
     | exact .inr rfl
     | (simp; done)
)
   (fun k hk hq => by
    by_cases h1 : e.lead.getD k 0 ≤ lastL e.lead k
    ·refine R_alongPc NG MO _ (pcGd_p111 e k) ?_ (Nat.zero_le _)
     simp only [All, All_append, bdGd_c, Int.toNat_natCast]; and_intros
     all_goals first
      | exact True.intro
      | exact decide_eq_true h1
      | (with_reducible assumption)
      | (rw [decide_eq_true_eq]; omega)
      | (rw [decide_eq_false_iff_not]; omega)
      | with_reducible rfl
      | (intro _ _; exact True.intro)
      | (intro _ _; with_reducible rfl)
      | (intro _ _; rfl)
      | (simp only [IntKind.min, IntKind.max, IntKind.signed, IntKind.bits, if_true]; omega)
      | omega
      | (intro h; exact h)
      | (intro h; cases h; done)
      | exact .inl rfl
      | exact .inl True.intro
      | exact .inr rfl
      | (simp; done)
    ·have h2 : e.cfg.nodes ≤ e.lead.getD k 0 := by
      refine Int.not_lt.1 fun h2 => hq ?_
      rw [riseB, decide_eq_false h1, decide_eq_true h2]; rfl
     refine R_alongPc NG MO _ (pcGd_p101 e k) ?_ (Nat.zero_le _)
     simp only [All, All_append, bdGd_c, Int.toNat_natCast]; and_intros
     all_goals first
      | exact True.intro
      | exact decide_eq_false h1
      | (with_reducible assumption)
      | (rw [decide_eq_true_eq]; omega)
      | (rw [decide_eq_false_iff_not]; omega)
      | with_reducible rfl
      | (intro _ _; exact True.intro)
      | (intro _ _; with_reducible rfl)
      | (intro _ _; rfl)
      | (simp only [IntKind.min, IntKind.max, IntKind.signed, IntKind.bits, if_true]; omega)
      | omega
      | (intro h; exact h)
      | (intro h; cases h; done)
      | exact .inl rfl
      | exact .inl True.intro
      | exact .inr rfl
      | (simp; done)
)
   (by simp) (R_alongPc NG MO _ (pcGd_p0 e e.lead.length) (by
    simp only [All, All_append, bdGd_c]; and_intros
    all_goals first
     | exact True.intro
     | (with_reducible assumption)
     | (rw [decide_eq_true_eq]; omega)
     | (rw [decide_eq_false_iff_not]; omega)
     | with_reducible rfl
     | (intro _ _; exact True.intro)
     | (intro _ _; with_reducible rfl)
     | (intro _ _; rfl)
     | (simp only [IntKind.min, IntKind.max, IntKind.signed, IntKind.bits, if_true]; omega)
     | omega
     | (intro h; exact h)
     | (intro h; cases h; done)
     | exact .inl rfl
     | exact .inl True.intro
     | exact .inr rfl
     | (simp; done)
) (Nat.zero_le _)) (by simp) with ⟨h, hL⟩ | ⟨m, hm, _, hq, hL⟩
 ·exact .inl ⟨riseA_true h, hL⟩
 ·exact .inr ⟨riseA_false hm hq, m, hL⟩
theorem goodE_pos {c : SCfg} (h : goodC c = true) : goodE c = 0 := by rw [goodE, if_pos h]
theorem goodE_neg {c : SCfg} (h : ¬ goodC c = true) : goodE c = 110 := by rw [goodE, if_neg h]
theorem T_gd (e : SEp) (hl : e.lead.length ≤ 1000000) : T Tryz.prog 9 [.agg e.c] [] (.bool (goodEp e)) [] := by
 have hG := T_cg e.cfg
 by_cases h0 : goodC e.cfg = true
 ·rw [goodE_pos h0] at hG
  by_cases h1 : e.num < 1
  ·refine T.bool (T_al (bdGd_p0111 e 0 0 0) Tryz.func9 ?_) ?_
   ·simp only [All, All_append, bdGd_c]; and_intros
    all_goals first
     | exact True.intro
     | exact hG
     | exact neg_t (decide_eq_true rfl)
     | (with_reducible assumption)
     | (rw [decide_eq_true_eq]; omega)
     | (rw [decide_eq_false_iff_not]; omega)
     | with_reducible rfl
     | (intro _ _; exact True.intro)
     | (intro _ _; with_reducible rfl)
     | (intro _ _; rfl)
     | (simp only [IntKind.min, IntKind.max, IntKind.signed, IntKind.bits, if_true]; omega)
     | omega
     | (intro h; exact h)
     | (intro h; cases h; done)
     | exact .inl rfl
     | exact .inl True.intro
     | exact .inr rfl
     | (simp; done)
   ·rw [goodEp, decide_eq_false (p := 1 ≤ e.num ∧ e.num ≤ e.cfg.last) (by omega), Bool.false_and, Bool.and_false]
  ·by_cases h2 : e.cfg.last < e.num
   ·refine T.bool (T_al (bdGd_p0011 e 0 0 0) Tryz.func9 ?_) ?_
    ·simp only [All, All_append, bdGd_c]; and_intros
     all_goals first
      | exact True.intro
      | exact hG
      | exact neg_t (decide_eq_true rfl)
      | (with_reducible assumption)
      | (rw [decide_eq_true_eq]; omega)
      | (rw [decide_eq_false_iff_not]; omega)
      | with_reducible rfl
      | (intro _ _; exact True.intro)
      | (intro _ _; with_reducible rfl)
      | (intro _ _; rfl)
      | (simp only [IntKind.min, IntKind.max, IntKind.signed, IntKind.bits, if_true]; omega)
      | omega
      | (intro h; exact h)
      | (intro h; cases h; done)
      | exact .inl rfl
      | exact .inl True.intro
      | exact .inr rfl
      | (simp; done)
    ·rw [goodEp, decide_eq_false (p := 1 ≤ e.num ∧ e.num ≤ e.cfg.last) (by omega), Bool.false_and, Bool.and_false]
   ·by_cases h3 : e.lead.length = 0
    ·refine T.bool (T_al (bdGd_p0001 e 0 0 0) Tryz.func9 ?_) ?_
     ·simp only [All, All_append, bdGd_c]; and_intros
      all_goals first
       | exact True.intro
       | exact hG
       | exact neg_t (decide_eq_true rfl)
       | (with_reducible assumption)
       | (rw [decide_eq_true_eq]; omega)
       | (rw [decide_eq_false_iff_not]; omega)
       | with_reducible rfl
       | (intro _ _; exact True.intro)
       | (intro _ _; with_reducible rfl)
       | (intro _ _; rfl)
       | (simp only [IntKind.min, IntKind.max, IntKind.signed, IntKind.bits, if_true]; omega)
       | omega
       | (intro h; exact h)
       | (intro h; cases h; done)
       | exact .inl rfl
       | exact .inl True.intro
       | exact .inr rfl
       | (simp; done)
     ·rw [goodEp, decide_eq_false (p := e.lead.length ≠ 0) (by omega), Bool.false_and, Bool.and_false, Bool.and_false]
    ·rcases goLoop e hl with ⟨hr, hL⟩ | ⟨hr, m, hL⟩
     ·have hs := sizeB h0 hr
      have hS := T_sz e hs
      by_cases h4 : 1 ≤ e.start
      ·refine T.bool (T_al (bdGd_p000011 e 0 (sizeE e) 0) Tryz.func9 ?_) ?_
       ·simp only [All, All_append, bdGd_c]; and_intros
        all_goals first
         | exact True.intro
         | exact hG
         | exact neg_t (decide_eq_true rfl)
         | exact hL
         | exact hS
         | exact InR64.2 (by omega)
         | exact (rfl : -1 = lastL e.lead 0)
         | (with_reducible assumption)
         | (rw [decide_eq_true_eq]; omega)
         | (rw [decide_eq_false_iff_not]; omega)
         | with_reducible rfl
         | (intro _ _; exact True.intro)
         | (intro _ _; with_reducible rfl)
         | (intro _ _; rfl)
         | (simp only [IntKind.min, IntKind.max, IntKind.signed, IntKind.bits, if_true]; omega)
         | omega
         | (intro h; exact h)
         | (intro h; cases h; done)
         | exact .inl rfl
         | exact .inl True.intro
         | exact .inr rfl
         | (simp; done)
       ·rw [goodEp, h0, decide_eq_true (p := 1 ≤ e.num ∧ e.num ≤ e.cfg.last) (by omega), decide_eq_true (p := e.lead.length ≠ 0) (by omega), hr]
        simp only [Bool.true_and]
        rw [decide_eq_decide]; omega
      ·refine T.bool (T_al (bdGd_p000010 e 0 (sizeE e) 0) Tryz.func9 ?_) ?_
       ·simp only [All, All_append, bdGd_c]; and_intros
        all_goals first
         | exact True.intro
         | exact hG
         | exact neg_t (decide_eq_true rfl)
         | exact hL
         | exact hS
         | exact (rfl : -1 = lastL e.lead 0)
         | (with_reducible assumption)
         | (rw [decide_eq_true_eq]; omega)
         | (rw [decide_eq_false_iff_not]; omega)
         | with_reducible rfl
         | (intro _ _; exact True.intro)
         | (intro _ _; with_reducible rfl)
         | (intro _ _; rfl)
         | (simp only [IntKind.min, IntKind.max, IntKind.signed, IntKind.bits, if_true]; omega)
         | omega
         | (intro h; exact h)
         | (intro h; cases h; done)
         | exact .inl rfl
         | exact .inl True.intro
         | exact .inr rfl
         | (simp; done)
       ·rw [goodEp, decide_eq_false (p := 1 ≤ e.start ∧ e.start ≤ 1099511627776 - sizeE e) (by omega)]
        simp only [Bool.and_false]
     ·refine T.bool (T_al (bdGd_p00000 e 0 0 m) Tryz.func9 ?_) ?_
      ·simp only [All, All_append, bdGd_c]; and_intros
       all_goals first
        | exact True.intro
        | exact hG
        | exact neg_t (decide_eq_true rfl)
        | exact hL
        | exact (rfl : -1 = lastL e.lead 0)
        | (with_reducible assumption)
        | (rw [decide_eq_true_eq]; omega)
        | (rw [decide_eq_false_iff_not]; omega)
        | with_reducible rfl
        | (intro _ _; exact True.intro)
        | (intro _ _; with_reducible rfl)
        | (intro _ _; rfl)
        | (simp only [IntKind.min, IntKind.max, IntKind.signed, IntKind.bits, if_true]; omega)
        | omega
        | (intro h; exact h)
        | (intro h; cases h; done)
        | exact .inl rfl
        | exact .inl True.intro
        | exact .inr rfl
        | (simp; done)
      ·rw [goodEp, hr]; simp only [Bool.false_and, Bool.and_false]
 ·rw [goodE_neg h0] at hG
  refine T.bool (T_al (bdGd_p1111 e 110 0 0) Tryz.func9 ?_) ?_
  ·simp only [All, All_append, bdGd_c]; and_intros
   all_goals first
    | exact True.intro
    | exact hG
    | exact neg_f' (decide_eq_false (by decide))
    | (with_reducible assumption)
    | (rw [decide_eq_true_eq]; omega)
    | (rw [decide_eq_false_iff_not]; omega)
    | with_reducible rfl
    | (intro _ _; exact True.intro)
    | (intro _ _; with_reducible rfl)
    | (intro _ _; rfl)
    | (simp only [IntKind.min, IntKind.max, IntKind.signed, IntKind.bits, if_true]; omega)
    | omega
    | (intro h; exact h)
    | (intro h; cases h; done)
    | exact .inl rfl
    | exact .inl True.intro
    | exact .inr rfl
    | (simp; done)
  ·rw [goodEp]
   cases hc : goodC e.cfg with
   | true => exact (h0 hc).elim
   | false => rfl
theorem T_ld (e : SEp) (n : Int) (hl : e.lead.length ≤ 1000000) : T Tryz.prog 50 [.agg e.c, .int .i64 n] [] (.bool (decide (n ∈ e.lead))) [] := by
 rcases loop_all (P := Tryz.prog) (ro := none) (p := 0) (c := cB (cB (cR (cL (cR (bodyOf Tryz.f50)))))) (I := ldI e n) (F := fun _ => ldR) (e := fun _ => .ret) (q := fun k => ¬ e.lead.getD k 0 = n) (n := e.lead.length)
   (fun k hk hq => by
    refine R_alongPc NG MO _ (pcLd_p10 e n k) ?_ (Nat.zero_le _)
    simp only [All, All_append, bdGd_c, Int.toNat_natCast]; and_intros
    all_goals first
     | exact True.intro
     | exact decide_eq_false hq
     | (with_reducible assumption)
     | (rw [decide_eq_true_eq]; omega)
     | (rw [decide_eq_false_iff_not]; omega)
     | with_reducible rfl
     | (intro _ _; exact True.intro)
     | (intro _ _; with_reducible rfl)
     | (intro _ _; rfl)
     | (simp only [IntKind.min, IntKind.max, IntKind.signed, IntKind.bits, if_true]; omega)
     | omega
     | (intro h; exact h)
     | (intro h; cases h; done)
     | exact .inl rfl
     | exact .inl True.intro
     | exact .inr rfl
     | (simp; done)
)
   (fun k hk hq => by
    refine R_alongPc NG MO _ (pcLd_p11 e n k) ?_ (Nat.zero_le _)
    simp only [All, All_append, bdGd_c, Int.toNat_natCast]; and_intros
    all_goals first
     | exact True.intro
     | exact decide_eq_true (Classical.not_not.1 hq)
     | (with_reducible assumption)
     | (rw [decide_eq_true_eq]; omega)
     | (rw [decide_eq_false_iff_not]; omega)
     | with_reducible rfl
     | (intro _ _; exact True.intro)
     | (intro _ _; with_reducible rfl)
     | (intro _ _; rfl)
     | (simp only [IntKind.min, IntKind.max, IntKind.signed, IntKind.bits, if_true]; omega)
     | omega
     | (intro h; exact h)
     | (intro h; cases h; done)
     | exact .inl rfl
     | exact .inl True.intro
     | exact .inr rfl
     | (simp; done)
)
   (by simp) (R_alongPc NG MO _ (pcLd_p0 e n e.lead.length) (by
    simp only [All, All_append, bdGd_c]; and_intros
    all_goals first
     | exact True.intro
     | (with_reducible assumption)
     | (rw [decide_eq_true_eq]; omega)
     | (rw [decide_eq_false_iff_not]; omega)
     | with_reducible rfl
     | (intro _ _; exact True.intro)
     | (intro _ _; with_reducible rfl)
     | (intro _ _; rfl)
     | (simp only [IntKind.min, IntKind.max, IntKind.signed, IntKind.bits, if_true]; omega)
     | omega
     | (intro h; exact h)
     | (intro h; cases h; done)
     | exact .inl rfl
     | exact .inl True.intro
     | exact .inr rfl
     | (simp; done)
) (Nat.zero_le _)) (by simp) with ⟨h, hL⟩ | ⟨m, hm, _, hq, hL⟩
 ·refine T.bool (T_al (bdLd_p1 e n 0) Tryz.func50 ?_) ?_
  ·simp only [All, All_append, bdGd_c]; and_intros
   all_goals first
    | exact True.intro
    | exact hL
    | (with_reducible assumption)
    | (rw [decide_eq_true_eq]; omega)
    | (rw [decide_eq_false_iff_not]; omega)
    | with_reducible rfl
    | (intro _ _; exact True.intro)
    | (intro _ _; with_reducible rfl)
    | (intro _ _; rfl)
    | (simp only [IntKind.min, IntKind.max, IntKind.signed, IntKind.bits, if_true]; omega)
    | omega
    | (intro h; exact h)
    | (intro h; cases h; done)
    | exact .inl rfl
    | exact .inl True.intro
    | exact .inr rfl
    | (simp; done)
  ·rw [eq_comm, decide_eq_false_iff_not, mem_getD]
   rintro ⟨k, hk, e1⟩; exact h k hk e1
 ·refine T.bool (T_al (bdLd_p0 e n m) Tryz.func50 ?_) ?_
  ·simp only [All, All_append, bdGd_c]; and_intros
   all_goals first
    | exact True.intro
    | exact hL
    | (with_reducible assumption)
    | (rw [decide_eq_true_eq]; omega)
    | (rw [decide_eq_false_iff_not]; omega)
    | with_reducible rfl
    | (intro _ _; exact True.intro)
    | (intro _ _; with_reducible rfl)
    | (intro _ _; rfl)
    | (simp only [IntKind.min, IntKind.max, IntKind.signed, IntKind.bits, if_true]; omega)
    | omega
    | (intro h; exact h)
    | (intro h; cases h; done)
    | exact .inl rfl
    | exact .inl True.intro
    | exact .inr rfl
    | (simp; done)
  ·rw [eq_comm, decide_eq_true_eq, mem_getD]
   exact ⟨m, hm, Classical.not_not.1 hq⟩
def askB (e : SEp) (n : Int) : Bool := goodEp e && decide (n ∈ e.lead)
theorem T_as (e : SEp) (n : Int) (hl : e.lead.length ≤ 1000000) : T Tryz.prog 49 [.agg e.c, .fn (.func 50) [] [], .int .i64 n] [] (.bool (askB e n)) [] := by
 have hG := T_gd e hl
 have hL := T_ld e n hl
 cases hg : goodEp e with
 | true =>
  rw [hg] at hG
  refine T.bool (T_al (bdAs_p1 e n true (decide (n ∈ e.lead))) Tryz.func49 ?_) ?_
  ·simp only [All, All_append, bdGd_c]; and_intros
   all_goals first
    | exact True.intro
    | exact hG
    | exact hL
    | (with_reducible assumption)
    | (rw [decide_eq_true_eq]; omega)
    | (rw [decide_eq_false_iff_not]; omega)
    | with_reducible rfl
    | (intro _ _; exact True.intro)
    | (intro _ _; with_reducible rfl)
    | (intro _ _; rfl)
    | (simp only [IntKind.min, IntKind.max, IntKind.signed, IntKind.bits, if_true]; omega)
    | omega
    | (intro h; exact h)
    | (intro h; cases h; done)
    | exact .inl rfl
    | exact .inl True.intro
    | exact .inr rfl
    | (simp; done)
  ·rw [askB, hg, Bool.true_and]
 | false =>
  rw [hg] at hG
  refine T.bool (T_al (bdAs_p0 e n false false) Tryz.func49 ?_) ?_
  ·simp only [All, All_append, bdGd_c]; and_intros
   all_goals first
    | exact True.intro
    | exact hG
    | (with_reducible assumption)
    | (rw [decide_eq_true_eq]; omega)
    | (rw [decide_eq_false_iff_not]; omega)
    | with_reducible rfl
    | (intro _ _; exact True.intro)
    | (intro _ _; with_reducible rfl)
    | (intro _ _; rfl)
    | (simp only [IntKind.min, IntKind.max, IntKind.signed, IntKind.bits, if_true]; omega)
    | omega
    | (intro h; exact h)
    | (intro h; cases h; done)
    | exact .inl rfl
    | exact .inl True.intro
    | exact .inr rfl
    | (simp; done)
  ·rw [askB, hg, Bool.false_and]
/-- A leader's slots. -/
def slotsE (e : SEp) (ld : Int) : List Int := if askB e ld = true then slotL e ld (sizeE e).toNat else []
theorem slotL_len (e : SEp) (ld : Int) : ∀ k, (slotL e ld k).length ≤ k
 | 0 => Nat.le_refl _
 | k + 1 => by
  have := slotL_len e ld k
  rw [slotL]; split
  ·rw [List.length_append]; simp; omega
  ·omega
theorem T_sl (e : SEp) (ld : Int) (hl : e.lead.length ≤ 1000000) : T Tryz.prog 12 [.agg e.c, .int .i64 ld] [] (lr (slotsE e ld)) [] := by
 have hA := T_as e ld hl
 cases ha : askB e ld with
 | false =>
  rw [ha] at hA
  rw [slotsE, if_neg (by rw [ha]; decide)]
  refine T_al (bdSl_p1 e ld false 0 0 []) Tryz.func12 ?_
  simp only [All, All_append, bdGd_c]; and_intros
  all_goals first
   | exact True.intro
   | exact hA
   | (with_reducible assumption)
   | (rw [decide_eq_true_eq]; omega)
   | (rw [decide_eq_false_iff_not]; omega)
   | with_reducible rfl
   | (intro _ _; exact True.intro)
   | (intro _ _; with_reducible rfl)
   | (intro _ _; rfl)
   | (simp only [IntKind.min, IntKind.max, IntKind.signed, IntKind.bits, if_true]; omega)
   | omega
   | (intro h; exact h)
   | (intro h; cases h; done)
   | exact .inl rfl
   | exact .inl True.intro
   | exact .inr rfl
   | (simp; done)
 | true =>
  rw [ha] at hA
  rw [slotsE, if_pos ha]
  have hg : goodEp e = true := by rw [askB, Bool.and_eq_true] at ha; exact ha.1
  simp only [goodEp, Bool.and_eq_true, decide_eq_true_eq] at hg
  obtain ⟨g1, g2, g3, g4, g5⟩ := hg
  have hs := sizeB g1 g4
  have hS := T_sz e hs
  obtain ⟨M, hM⟩ : ∃ M : Nat, sizeE e = (M : Int) := ⟨(sizeE e).toNat, by omega⟩
  rw [hM] at hS hs ⊢
  rw [Int.toNat_natCast]
  have hL : RLoop Tryz.prog none 0 (cB (cB (cR (cL (cR (cR (bodyOf Tryz.f12))))))) (M + 1) (slI e ld (M : Nat) (slotL e ld 0) 0) (.exit 0) (slI e ld (M : Nat) (slotL e ld M) M) := by
   have hstep : ∀ k, k < M → R Tryz.prog none 0 (cB (cB (cR (cL (cR (cR (bodyOf Tryz.f12))))))) (slI e ld (M : Nat) (slotL e ld k) k) .normal (slI e ld (M : Nat) (slotL e ld (k + 1)) (k + 1)) := by
    intro k hk
    have h1 := slotL_len e ld k
    have hmod : Int.toNat ((k : Int) % (e.lead.length : Int)) = k % e.lead.length := by
     rw [← Int.natCast_emod, Int.toNat_natCast]
    have hlt : k % e.lead.length < e.lead.length := Nat.mod_lt _ (by omega)
    have hb : (0 : Int) ≤ (k : Int) % (e.lead.length : Int) ∧ (k : Int) % (e.lead.length : Int) < (e.lead.length : Int) := by
     rw [← Int.natCast_emod]; omega
    by_cases hq : e.lead.getD (k % e.lead.length) 0 = ld
    ·have e1 : slotL e ld (k + 1) = slotL e ld k ++ [e.start + (k : Nat)] := by rw [slotL, if_pos hq]
     have e2 : (slotL e ld (k + 1)).length = (slotL e ld k).length + 1 := by rw [e1, List.length_append]; rfl
     have hc := catF_li e1
     refine R_alongPc NG MO _ (pcSl_p11 e ld (M : Nat) (slotL e ld k) k (slotL e ld (k + 1))) ?_ (Nat.zero_le _)
     simp only [All, All_append, bdGd_c, hmod, e2]; and_intros
     all_goals first
      | exact True.intro
      | exact hb
      | exact hc
      | exact decide_eq_true hq
      | exact InR64.2 (by omega)
      | (intro j hj; obtain rfl : j = 0 := (by omega); rfl)
      | (with_reducible assumption)
      | (rw [decide_eq_true_eq]; omega)
      | (rw [decide_eq_false_iff_not]; omega)
      | with_reducible rfl
      | (intro _ _; exact True.intro)
      | (intro _ _; with_reducible rfl)
      | (intro _ _; rfl)
      | (simp only [IntKind.min, IntKind.max, IntKind.signed, IntKind.bits, if_true]; omega)
      | omega
      | (intro h; exact h)
      | (intro h; cases h; done)
      | exact .inl rfl
      | exact .inl True.intro
      | exact .inr rfl
      | (simp; done)
    ·have e1 : slotL e ld (k + 1) = slotL e ld k := by rw [slotL, if_neg hq]
     refine R_alongPc NG MO _ (pcSl_p10 e ld (M : Nat) (slotL e ld k) k (slotL e ld (k + 1))) ?_ (Nat.zero_le _)
     simp only [All, All_append, bdGd_c, hmod, e1]; and_intros
     all_goals first
      | exact True.intro
      | exact hb
      | exact decide_eq_false hq
      | (with_reducible assumption)
      | (rw [decide_eq_true_eq]; omega)
      | (rw [decide_eq_false_iff_not]; omega)
      | with_reducible rfl
      | (intro _ _; exact True.intro)
      | (intro _ _; with_reducible rfl)
      | (intro _ _; rfl)
      | (simp only [IntKind.min, IntKind.max, IntKind.signed, IntKind.bits, if_true]; omega)
      | omega
      | (intro h; exact h)
      | (intro h; cases h; done)
      | exact .inl rfl
      | exact .inl True.intro
      | exact .inr rfl
      | (simp; done)
   have hend : R Tryz.prog none 0 (cB (cB (cR (cL (cR (cR (bodyOf Tryz.f12))))))) (slI e ld (M : Nat) (slotL e ld M) M) (.exit 0) (slI e ld (M : Nat) (slotL e ld M) M) := by
    refine R_alongPc NG MO _ (pcSl_p0 e ld (M : Nat) (slotL e ld M) M []) ?_ (Nat.zero_le _)
    simp only [All, All_append, bdGd_c]; and_intros
    all_goals first
     | exact True.intro
     | (with_reducible assumption)
     | (rw [decide_eq_true_eq]; omega)
     | (rw [decide_eq_false_iff_not]; omega)
     | with_reducible rfl
     | (intro _ _; exact True.intro)
     | (intro _ _; with_reducible rfl)
     | (intro _ _; rfl)
     | (simp only [IntKind.min, IntKind.max, IntKind.signed, IntKind.bits, if_true]; omega)
     | omega
     | (intro h; exact h)
     | (intro h; cases h; done)
     | exact .inl rfl
     | exact .inl True.intro
     | exact .inr rfl
     | (simp; done)
   exact RLoop.inv (fun k => slI e ld (M : Nat) (slotL e ld k) k) M hstep hend (by simp)
  generalize slotL e ld M = L at *
  refine T_al (bdSl_p0 e ld true (M : Nat) M L) Tryz.func12 ?_
  simp only [All, All_append, bdGd_c]; and_intros
  all_goals first
   | exact True.intro
   | exact hA
   | exact hS
   | exact hL
   | (intro k hk; rw [Nat.zero_add])
   | (intro k hk; exact absurd hk (Nat.not_lt_zero k))
   | (with_reducible assumption)
   | (rw [decide_eq_true_eq]; omega)
   | (rw [decide_eq_false_iff_not]; omega)
   | with_reducible rfl
   | (intro _ _; exact True.intro)
   | (intro _ _; with_reducible rfl)
   | (intro _ _; rfl)
   | (simp only [IntKind.min, IntKind.max, IntKind.signed, IntKind.bits, if_true]; omega)
   | omega
   | (intro h; exact h)
   | (intro h; cases h; done)
   | exact .inl rfl
   | exact .inl True.intro
   | exact .inr rfl
   | (simp; done)
theorem T_lt (e : SEp) : T Tryz.prog 8 [.agg e.c, .snil] [] (.bool (decide (e.lead.length ≤ 100))) [] := by
 by_cases h : (100 : Int) < (e.lead.length : Int)
 ·refine T.bool (T_al (bdLt_p11 e) Tryz.func8 ?_) ?_
  ·simp only [All, All_append, bdGd_c]; and_intros
   all_goals first
    | exact True.intro
    | exact decide_eq_true h
    | (with_reducible assumption)
    | (rw [decide_eq_true_eq]; omega)
    | (rw [decide_eq_false_iff_not]; omega)
    | with_reducible rfl
    | (intro _ _; exact True.intro)
    | (intro _ _; with_reducible rfl)
    | (intro _ _; rfl)
    | (simp only [IntKind.min, IntKind.max, IntKind.signed, IntKind.bits, if_true]; omega)
    | omega
    | (intro h; exact h)
    | (intro h; cases h; done)
    | exact .inl rfl
    | exact .inl True.intro
    | exact .inr rfl
    | (simp; done)
  ·rw [eq_comm, decide_eq_false_iff_not]; omega
 ·refine T.bool (T_al (bdLt_p000 e) Tryz.func8 ?_) ?_
  ·simp only [All, All_append, bdGd_c]; and_intros
   all_goals first
    | exact True.intro
    | exact decide_eq_false h
    | (with_reducible assumption)
    | (rw [decide_eq_true_eq]; omega)
    | (rw [decide_eq_false_iff_not]; omega)
    | with_reducible rfl
    | (intro _ _; exact True.intro)
    | (intro _ _; with_reducible rfl)
    | (intro _ _; rfl)
    | (simp only [IntKind.min, IntKind.max, IntKind.signed, IntKind.bits, if_true]; omega)
    | omega
    | (intro h; exact h)
    | (intro h; cases h; done)
    | exact .inl rfl
    | exact .inl True.intro
    | exact .inr rfl
    | (simp; done)
  ·rw [eq_comm, decide_eq_true_eq]; omega
end Go.Proofs.YtlakhciklfkocaaGreat
namespace Sy
open Go
def noopB : SBatch := { noop := true }
/-- One more held batch: it is taken if it is of the slot, and of a higher view. -/
def bestS (slot : Int) (st : SBatch × Int) (h : SHeld) : SBatch × Int := if h.cert.vote.slot = slot ∧ st.2 < h.cert.vote.view then (h.batch, h.cert.vote.view) else st
def bestF (slot : Int) (hs : List SHeld) : SBatch × Int := hs.foldl (bestS slot) (noopB, -1)
theorem bestF_snoc (slot : Int) (hs : List SHeld) (h : SHeld) : bestF slot (hs ++ [h]) = bestS slot (bestF slot hs) h := by
 rw [bestF, List.foldl_append]; rfl
theorem best_inv {slot v : Int} {b : SBatch} : ∀ (hs : List SHeld) (st : SBatch × Int), (∀ h ∈ hs, h.cert.vote.slot = slot → h.cert.vote.view ≤ v ∧ (h.cert.vote.view = v → h.batch = b)) → st.2 ≤ v → (st.2 = v → st.1 = b) →
  (hs.foldl (bestS slot) st).2 ≤ v ∧ ((hs.foldl (bestS slot) st).2 = v → (hs.foldl (bestS slot) st).1 = b) ∧ ((∃ h ∈ hs, h.cert.vote.slot = slot ∧ h.cert.vote.view = v) ∨ st.2 = v → (hs.foldl (bestS slot) st).2 = v)
 | [], st, _, h1, h2 => ⟨h1, h2, fun h => by
   rcases h with ⟨h, hm, _⟩ | h
   ·exact absurd hm List.not_mem_nil
   ·exact h⟩
 | a :: hs, st, hh, h1, h2 => by
  have ha := hh a (List.mem_cons_self ..)
  have hn : (bestS slot st a).2 ≤ v ∧ ((bestS slot st a).2 = v → (bestS slot st a).1 = b) := by
   unfold bestS
   split
   ·rename_i hc; exact ha hc.1
   ·exact ⟨h1, h2⟩
  obtain ⟨k1, k2, k3⟩ := best_inv hs (bestS slot st a) (fun h hm => hh h (List.mem_cons_of_mem _ hm)) hn.1 hn.2
  refine ⟨k1, k2, fun h => k3 ?_⟩
  rcases h with ⟨h, hm, hs1, hs2⟩ | h
  ·rcases List.mem_cons.1 hm with hm | hm
   ·subst hm
    right
    unfold bestS
    split
    ·exact hs2
    ·rename_i hc
     have : ¬ st.2 < h.cert.vote.view := fun hl => hc ⟨hs1, hl⟩
     omega
   ·exact .inl ⟨h, hm, hs1, hs2⟩
  ·right
   unfold bestS
   split
   ·rename_i hc
    have := (ha hc.1).1
    omega
   ·exact h
theorem best_eq {slot v : Int} {b : SBatch} (hv : 0 ≤ v) {hs : List SHeld} (hh : ∀ h ∈ hs, h.cert.vote.slot = slot → h.cert.vote.view ≤ v ∧ (h.cert.vote.view = v → h.batch = b)) (hx : ∃ h ∈ hs, h.cert.vote.slot = slot ∧ h.cert.vote.view = v) : (bestF slot hs).1 = b := by
 obtain ⟨_, k2, k3⟩ := best_inv hs (noopB, -1) hh (by show (-1 : Int) ≤ v; omega) (fun h => by have h : (-1 : Int) = v := h; omega)
 exact k2 (k3 (.inl hx))
/-- What one node of those that are asked tells: what it held, or a lie, or nothing; how many may lie still. -/
def tellS (held : SHeld) (m : Nat) (lie : Nat → SHeld) (v : Int) (holds : Nat → Bool) (i left : Nat) : List SHeld × Nat :=
 if holds i = true ∧ (left = 0 ∨ m ≤ i) then ([held], left)
 else if i < m then (if (lie i).cert.vote.view < v then [lie i] else [], if holds i = true then left - 1 else left)
 else ([], left)
/-- All that was told so far; how many may lie still. -/
def tellA (held : SHeld) (m : Nat) (lie : Nat → SHeld) (v : Int) (asked holds : Nat → Bool) (F : Nat) : Nat → List (List SHeld) × Nat
 | 0 => ([], F)
 | i + 1 => if asked i = true then ((tellA held m lie v asked holds F i).1 ++ [(tellS held m lie v holds i (tellA held m lie v asked holds F i).2).1], (tellS held m lie v holds i (tellA held m lie v asked holds F i).2).2) else tellA held m lie v asked holds F i
theorem tellA_inv (held : SHeld) (m : Nat) (lie : Nat → SHeld) (v : Int) (asked holds : Nat → Bool) (F : Nat) : ∀ n, (tellA held m lie v asked holds F n).2 ≤ F ∧ (tellA held m lie v asked holds F n).1.length ≤ n ∧
  (∀ l ∈ (tellA held m lie v asked holds F n).1, l = [held] ∨ l = [] ∨ ∃ i, i < m ∧ (lie i).cert.vote.view < v ∧ l = [lie i]) ∧
  ([held] ∈ (tellA held m lie v asked holds F n).1 ∨ cntX n (fun q => asked q && holds q) + (tellA held m lie v asked holds F n).2 ≤ F)
 | 0 => ⟨Nat.le_refl _, Nat.le_refl _, fun l h => absurd h List.not_mem_nil, .inr (by show cntX 0 _ + F ≤ F; simp [cntX])⟩
 | n + 1 => by
  obtain ⟨h1, h2, h3, h4⟩ := tellA_inv held m lie v asked holds F n
  have hc := cntX_succ n fun q => asked q && holds q
  rw [tellA]
  cases ha : asked n with
  | false =>
   rw [if_neg (by decide)]
   simp only [ha, Bool.false_and, Bool.false_eq_true, if_false, Nat.add_zero] at hc
   exact ⟨h1, by omega, h3, by rw [hc]; exact h4⟩
  | true =>
   rw [if_pos rfl]
   generalize (tellA held m lie v asked holds F n).1 = L at *
   generalize (tellA held m lie v asked holds F n).2 = left at *
   simp only [ha, Bool.true_and] at hc
   unfold tellS
   by_cases c1 : holds n = true ∧ (left = 0 ∨ m ≤ n)
   ·rw [if_pos c1]
    refine ⟨h1, by rw [List.length_append]; simp; omega, fun l hl => ?_, .inl (by simp)⟩
    rcases List.mem_append.1 hl with hl | hl
    ·exact h3 l hl
    ·exact .inl (by simpa using hl)
   ·rw [if_neg c1]
    by_cases c2 : n < m
    ·rw [if_pos c2]
     refine ⟨by show (if holds n = true then left - 1 else left) ≤ F; split <;> omega, by rw [List.length_append]; simp; omega, fun l hl => ?_, ?_⟩
     ·rcases List.mem_append.1 hl with hl | hl
      ·exact h3 l hl
      ·rw [List.mem_singleton] at hl
       by_cases c3 : (lie n).cert.vote.view < v
       ·simp only [if_pos c3] at hl; exact .inr (.inr ⟨n, c2, c3, hl⟩)
       ·simp only [if_neg c3] at hl; exact .inr (.inl hl)
     ·rcases h4 with h4 | h4
      ·exact .inl (List.mem_append_left _ h4)
      ·refine .inr ?_
       cases hh : holds n with
       | false =>
        simp only [hh, Bool.false_eq_true, if_false, Nat.add_zero] at hc ⊢
        omega
       | true =>
        simp only [hh, if_true] at hc ⊢
        have : left ≠ 0 := fun h => c1 ⟨hh, .inl h⟩
        omega
    ·rw [if_neg c2]
     have hh : holds n = false := by
      cases hh : holds n with
      | false => rfl
      | true => exact (c1 ⟨hh, .inr (by omega)⟩).elim
     simp only [hh, Bool.false_eq_true, if_false, Nat.add_zero] at hc
     refine ⟨h1, by rw [List.length_append]; simp; omega, fun l hl => ?_, ?_⟩
     ·rcases List.mem_append.1 hl with hl | hl
      ·exact h3 l hl
      ·exact .inr (.inl (by simpa using hl))
     ·rcases h4 with h4 | h4
      ·exact .inl (List.mem_append_left _ h4)
      ·exact .inr (by rw [hc]; exact h4)
/-- If a quorum held it, and few of them lie, it is chosen out of any quorum's changes. -/
theorem tell_best {held : SHeld} {m : Nat} {lie : Nat → SHeld} {v slot : Int} {asked holds : Nat → Bool} {F n : Nat} (hv : 0 ≤ v) (hs : held.cert.vote.slot = slot) (hw : held.cert.vote.view = v) (hq : F < cntX n (fun q => asked q && holds q)) :
  (bestF slot (tellA held m lie v asked holds F n).1.flatten).1 = held.batch := by
 obtain ⟨_, _, h3, h4⟩ := tellA_inv held m lie v asked holds F n
 refine best_eq hv (fun h hm hsl => ?_) ?_
 ·obtain ⟨l, hl, hm⟩ := List.mem_flatten.1 hm
  rcases h3 l hl with e | e | ⟨i, _, hi, e⟩ <;> subst e
  ·rw [List.mem_singleton] at hm; subst hm
   exact ⟨by omega, fun _ => rfl⟩
  ·exact absurd hm List.not_mem_nil
  ·rw [List.mem_singleton] at hm; subst hm
   exact ⟨by omega, fun h => by omega⟩
 ·rcases h4 with h4 | h4
  ·exact ⟨held, List.mem_flatten.2 ⟨_, h4, List.mem_cons_self ..⟩, hs, hw⟩
  ·omega
/-- A change: how many it held, which. -/
structure SChg where
 ep : Int := 0
 ld : Int := 0
 vw : Int := 0
 hn : Nat := 0
 hf : Nat → SHeld := fun _ => {}
def SChg.c (x : SChg) : List V := [.int .i64 x.ep, .int .i64 x.ld, .int .i64 x.vw, hl x.hn x.hf]
def chv (n : Nat) (x : Nat → SChg) : V := .ros 4 n (fun i => (x i).c) false
def hpL (n : Nat) (f : Nat → SHeld) : List SHeld := (List.range n).map f
/-- What the first changes held, and some more. -/
def hsL (x : Nat → SChg) : Nat → List SHeld
 | 0 => []
 | i + 1 => hsL x i ++ hpL (x i).hn (x i).hf
theorem hpL_succ (n : Nat) (f : Nat → SHeld) : hpL (n + 1) f = hpL n f ++ [f n] := by simp [hpL, List.range_succ]
end Sy
namespace Go.Proofs.YtlakhciklfkocaaGreat
open Go Sy Go.Proofs
def bsl (a n : Nat) : V := .sl (.o a) 2 0 0 0 n none
def bsB (n : Nat) (O : Nat → SBatch) : B := .rows 2 n (fun i => (O i).c) true
def pO (n : Nat) : V := .ptr (.o n) 0 0 0 0
noncomputable def bdNo : Bd := { f := Tryz.f55, args := [], kb := kb0 }
def kHe (n : Nat) (x : Nat → SChg) (s : Int) : Exit → St → Option W := fun _ t => match getV t.tmps 4 with
 | .fn _ _ [.ptr a _ _ _ _, .ptr b _ _ _ _] => some ⟨[(.o 3, a), (.o 4, b)], [(4, .set (.fn (.func 87) [] [pO 3, pO 4]))], [(.o 3, .set (.flat [chv n x])), (.o 4, .set (.flat [.int .i64 s]))], none, t.next⟩
 | _ => none
noncomputable def bdHe (n : Nat) (x : Nat → SChg) (s : Int) : Bd := { f := Tryz.f56, args := [chv n x, .int .i64 s], kb := kb0, k := kHe n x s, names := fun _ => [.o 3, .o 4] }
def csT (n : Nat) (x : Nat → SChg) (sl : List Int) (k : Nat) (y : List (Nat × V)) : List V := mkT 42 ([(2, chv n x), (6, bsl 0 k), (15, lr sl), (16, .int .i64 (sl.length : Nat)), (17, .int .i64 (k : Nat))] ++ y)
def csI (n : Nat) (x : Nat → SChg) (sl : List Int) (O : Nat → SBatch) (k : Nat) : St := ⟨csT n x sl k [], [(.o 0, bsB k O)], 1, []⟩
def csA (n : Nat) (x : Nat → SChg) (sl : List Int) (O : Nat → SBatch) (k : Nat) (b : Bool) : St := ⟨csT n x sl k [(18, .bool b)], [(.o 0, bsB k O)], 1, []⟩
def csB (n : Nat) (x : Nat → SChg) (sl : List Int) (O : Nat → SBatch) (k : Nat) (s : Int) : St := ⟨csT n x sl k [(8, .int .i64 s)], [(.o 0, bsB k O)], 1, []⟩
def cs4 (n : Nat) (x : Nat → SChg) (sl : List Int) (O : Nat → SBatch) (k : Nat) (s : Int) : St := ⟨csT n x sl k [(8, .int .i64 s), (9, pO 1), (10, pO 2)], [(.o 1, .flat noopB.c), (.o 2, .flat [.int .i64 (-1)]), (.o 0, bsB k O)], 3, []⟩
def csR (n : Nat) (x : Nat → SChg) (sl : List Int) (k : Nat) : List V := csT n x sl k [(9, pO 1), (10, pO 2), (24, .fn (.func 87) [] [pO 3, pO 4])]
def csP (n : Nat) (x : Nat → SChg) (b : SBatch) (v s : Int) : Heap := [(.o 1, .flat b.c), (.o 2, .flat [.int .i64 v]), (.o 3, .flat [chv n x]), (.o 4, .flat [.int .i64 s])]
def cs5 (n : Nat) (x : Nat → SChg) (sl : List Int) (O : Nat → SBatch) (k : Nat) (s : Int) : St := ⟨csR n x sl k, csP n x noopB (-1) s ++ [(.o 0, bsB k O)], 5, []⟩
def cs6 (n : Nat) (x : Nat → SChg) (sl : List Int) (O : Nat → SBatch) (k : Nat) (b : SBatch) (v s : Int) : St := ⟨csR n x sl k, csP n x b v s ++ [(.o 0, bsB k O)], 500, []⟩
def cs7 (n : Nat) (x : Nat → SChg) (sl : List Int) (O : Nat → SBatch) (k : Nat) : St := ⟨mkT 42 [(2, chv n x), (6, bsl 0 (k + 1)), (15, lr sl), (16, .int .i64 (sl.length : Nat)), (17, .int .i64 (k : Nat))], [(.o 0, bsB (k + 1) O)], 1, []⟩
noncomputable def csC : Code := bodyOf Tryz.f16
noncomputable def csL : Code := cB (cB (cR (cL (cR csC))))
noncomputable def csX : Code := cB (cL (cR (cR csL)))
noncomputable def csG : Code := cB (cR (cL (cR (cR csX))))
noncomputable def pcC0 (e : SEp) (ld : Int) (n : Nat) (x : Nat → SChg) : Pc := { c := cL csC, st := ⟨[.agg e.c, .int .i64 ld, chv n x] ++ List.replicate 39 (.tup []), [], 0, []⟩, kb := kb0, k := fun _ t => some (wToS [(.o 0, nmV (getV t.tmps 3))] ⟨mkT 42 [(1, .int .i64 ld), (2, chv n x), (3, pO 0), (6, .snil)], [(.o 0, .flat e.c)], 1, []⟩) }
noncomputable def pcC1 (e : SEp) (ld : Int) (n : Nat) (x : Nat → SChg) (sl : List Int) (O : Nat → SBatch) : Pc := { c := cL (cL (cR csC)), st := ⟨mkT 42 [(1, .int .i64 ld), (2, chv n x), (3, pO 0), (6, .snil)], [(.o 0, .flat e.c)], 1, []⟩, kb := { db := dbQ [(12, cVal (lr sl))], fx := fun id _ => bif Nat.beq id 1 then [.virt 6 2] else [] }, k := fun _ t => some (wToS [(.o 0, nmV (getV t.tmps 6))] (csI n x sl O 0)) }
noncomputable def pcC2 (n : Nat) (x : Nat → SChg) (sl : List Int) (O : Nat → SBatch) (k : Nat) (b : Bool) : Pc := { c := cL csL, st := csI n x sl O k, kb := kb0, k := fun _ _ => some (wTo (csA n x sl O k b)) }
noncomputable def pcCi (n : Nat) (x : Nat → SChg) (sl : List Int) (O : Nat → SBatch) (k : Nat) : Pc := { c := cL (cR csL), st := csA n x sl O k true, kb := kb0, k := fun _ _ => some (wTo (csI n x sl O k)) }
noncomputable def pcCx (n : Nat) (x : Nat → SChg) (sl : List Int) (O : Nat → SBatch) (k : Nat) : Pc := { c := cL (cR csL), st := csA n x sl O k false, kb := kb0, k := fun _ _ => some (wTo (csI n x sl O k)) }
noncomputable def pcC3 (n : Nat) (x : Nat → SChg) (sl : List Int) (O : Nat → SBatch) (k : Nat) (s : Int) : Pc := { c := cL csX, st := csI n x sl O k, kb := kb0, k := fun _ _ => some (wTo (csB n x sl O k s)) }
noncomputable def pcC4 (n : Nat) (x : Nat → SChg) (sl : List Int) (O : Nat → SBatch) (k : Nat) (s : Int) : Pc := { c := cL (cR csX), st := csB n x sl O k s, kb := { db := dbQ [(55, cVal (.agg noopB.c))] }, k := fun _ t => some (wToS [(.o 1, nmV (getV t.tmps 9)), (.o 2, nmV (getV t.tmps 10))] (cs4 n x sl O k s)) }
noncomputable def pcC5 (n : Nat) (x : Nat → SChg) (sl : List Int) (O : Nat → SBatch) (k : Nat) (s : Int) : Pc := { c := cL (cL (cR (cR csX))), st := cs4 n x sl O k s, kb := { db := dbQ [(56, fun _ _ lo => [{ val := .fn (.func 87) [] [pO lo, pO (lo + 1)], post := [(.o lo, .flat [chv n x]), (.o (lo + 1), .flat [.int .i64 s])] }])] }, k := fun _ t => match getV t.tmps 24 with
 | .fn _ _ [.ptr a _ _ _ _, .ptr b _ _ _ _] => some (wToS [(.o 3, a), (.o 4, b)] (cs5 n x sl O k s))
 | _ => none }
noncomputable def pcC6 (n : Nat) (x : Nat → SChg) (sl : List Int) (O O2 : Nat → SBatch) (k : Nat) (b : SBatch) (v s : Int) : Pc := { c := cR (cR (cR csX)), st := cs6 n x sl O k b v s, kb := kb0, k := fun _ t => some (wToS [(.o 0, nmV (getV t.tmps 6))] (cs7 n x sl O2 k)) }
noncomputable def pcC7 (n : Nat) (x : Nat → SChg) (sl : List Int) (O : Nat → SBatch) (k : Nat) : Pc := { c := cR (cR (cR csL)), st := cs7 n x sl O k, kb := kb0, k := fun _ _ => some (wTo (csI n x sl O (k + 1))) }
noncomputable def pcC8 (n : Nat) (x : Nat → SChg) (sl : List Int) (O : Nat → SBatch) (k : Nat) : Pc := { c := cR (cR csC), st := csI n x sl O k, kb := kb0, k := fun _ _ => some (wTo ⟨mkT 42 [(6, bsl 0 k)], [(.o 0, bsB k O)], 1, []⟩) }
end Go.Proofs.YtlakhciklfkocaaGreat
namespace Go.Proofs.YtlakhciklfkocaaGreat
open Go Sy Go.Proofs
theorem bdNo_p :
  along Tryz.prog (bdNo) [] = (some (.agg [.bool true, .snil], [], []) : Option (V × Heap × List Prop)) := by kernel_rfl

theorem bdHe_p (n : Nat) (x : Nat → SChg) (s : Int) :
  along Tryz.prog (bdHe n x s) [] = (some (.fn (.func (87 : FuncId)) [] [.ptr (.o 3) 0 0 0 0, .ptr (.o 4) 0 0 0 0], [(.o 3, .flat [chv n x]), (.o 4, .flat [.int .i64 s])], [q n, ∀ (k : Nat), k < n → SChg.c (x k) = SChg.c (x k), false = true → false = true, q s, q0, q0, q0, q0, q0, q0]) : Option (V × Heap × List Prop)) := by kernel_rfl

theorem pcC0_p (e : SEp) (ld : Int) (n : Nat) (x : Nat → SChg) :
  alongPc Tryz.prog (pcC0 e ld n x) [] = (some (.normal, St.mk [.any, .int .i64 ld, .ros 4 n (fun i => SChg.c (x i)) false, .ptr (.o 0) 0 0 0 0, .any, .any, .snil, .any, .any, .any, .any, .any, .any, .any, .any, .any, .any, .any, .any, .any, .any, .any, .any, .any, .any, .any, .any, .any, .any, .any, .any, .any, .any, .any, .any, .any, .any, .any, .any, .any, .any, .any] [(.o 0, .flat [.int .i64 (SCfg.nodes (SEp.cfg e)), .int .i64 (SCfg.clients (SEp.cfg e)), .int .i64 (SCfg.window (SEp.cfg e)), .int .i64 (SCfg.buckets (SEp.cfg e)), .int .i64 (SCfg.cap (SEp.cfg e)), .int .i64 (SCfg.slots (SEp.cfg e)), .int .i64 (SCfg.requests (SEp.cfg e)), .int .i64 (SCfg.timeout (SEp.cfg e)), .int .i64 (SCfg.penalty (SEp.cfg e)), .int .i64 (SCfg.last (SEp.cfg e)), .int .i64 (SEp.num e), .int .i64 (SEp.start e), .ros 1 (List.length (SEp.lead e)) (li (SEp.lead e)) false])] 1 [], [q (SCfg.nodes (SEp.cfg e)), q (SCfg.clients (SEp.cfg e)), q (SCfg.window (SEp.cfg e)), q (SCfg.buckets (SEp.cfg e)), q (SCfg.cap (SEp.cfg e)), q (SCfg.slots (SEp.cfg e)), q (SCfg.requests (SEp.cfg e)), q (SCfg.timeout (SEp.cfg e)), q (SCfg.penalty (SEp.cfg e)), q (SCfg.last (SEp.cfg e)), q (SEp.num e), q (SEp.start e), q (List.length (SEp.lead e)), ∀ (k : Nat), k < List.length (SEp.lead e) → [V.int IntKind.i64 (List.getD (SEp.lead e) k (0 : Int))] = [V.int IntKind.i64 (List.getD (SEp.lead e) k (0 : Int))], false = true → false = true, q ld, q n, ∀ (k : Nat), k < n → SChg.c (x k) = SChg.c (x k), false = true → false = true, q0, q0, q0]) : Option (Exit × St × List Prop)) := by kernel_rfl

theorem pcC1_p (e : SEp) (ld : Int) (n : Nat) (x : Nat → SChg) (sl : List Int) (O : Nat → SBatch) :
  alongPc Tryz.prog (pcC1 e ld n x sl O) [] = (some (.normal, St.mk [.any, .any, .ros 4 n (fun i => SChg.c (x i)) false, .any, .any, .any, .sl (.o 0) 2 0 0 0 0 none, .any, .any, .any, .any, .any, .any, .any, .any, .ros 1 (List.length sl) (li sl) false, .int .i64 (↑(List.length sl) : Int), .int .i64 0, .any, .any, .any, .any, .any, .any, .any, .any, .any, .any, .any, .any, .any, .any, .any, .any, .any, .any, .any, .any, .any, .any, .any, .any] [(.o 0, .rows 2 0 (fun i => SBatch.c (O i)) true)] 1 [], [T Tryz.prog 12 [.agg [.int .i64 (SCfg.nodes (SEp.cfg e)), .int .i64 (SCfg.clients (SEp.cfg e)), .int .i64 (SCfg.window (SEp.cfg e)), .int .i64 (SCfg.buckets (SEp.cfg e)), .int .i64 (SCfg.cap (SEp.cfg e)), .int .i64 (SCfg.slots (SEp.cfg e)), .int .i64 (SCfg.requests (SEp.cfg e)), .int .i64 (SCfg.timeout (SEp.cfg e)), .int .i64 (SCfg.penalty (SEp.cfg e)), .int .i64 (SCfg.last (SEp.cfg e)), .int .i64 (SEp.num e), .int .i64 (SEp.start e), .ros 1 (List.length (SEp.lead e)) (li (SEp.lead e)) false], .int .i64 ld] [] (.ros 1 (List.length sl) (li sl) false) [], q0, ∀ (k : Nat), k < (0 : Nat) → [] = SBatch.c (O k), true = false → true = false, q n, ∀ (k : Nat), k < n → SChg.c (x k) = SChg.c (x k), false = true → false = true, q0, q0, q0, q0, (none : Option Nat) = none ∨ (none : Option Nat) = none, q (List.length sl), ∀ (k : Nat), k < List.length sl → [V.int IntKind.i64 (List.getD sl k (0 : Int))] = [V.int IntKind.i64 (List.getD sl k (0 : Int))], false = true → false = true, q (↑(List.length sl) : Int), q1]) : Option (Exit × St × List Prop)) := by kernel_rfl

theorem pcC2_p (n : Nat) (x : Nat → SChg) (sl : List Int) (O : Nat → SBatch) (k : Nat) (b : Bool) :
  alongPc Tryz.prog (pcC2 n x sl O k b) [] = (some (.normal, St.mk [.any, .any, .ros 4 n (fun i => SChg.c (x i)) false, .any, .any, .any, .sl (.o 0) 2 0 0 0 k none, .any, .any, .any, .any, .any, .any, .any, .any, .ros 1 (List.length sl) (li sl) false, .int .i64 (↑(List.length sl) : Int), .int .i64 ↑k, .bool b, .any, .any, .any, .any, .any, .any, .any, .any, .any, .any, .any, .any, .any, .any, .any, .any, .any, .any, .any, .any, .any, .any, .any] [(.o 0, .rows 2 k (fun i => SBatch.c (O i)) true)] 1 [], [q k, ∀ (k_1 : Nat), k_1 < k → SBatch.c (O k_1) = SBatch.c (O k_1), true = false → true = false, q n, ∀ (k : Nat), k < n → SChg.c (x k) = SChg.c (x k), false = true → false = true, q0, q0, q0, q k, (none : Option Nat) = none ∨ (none : Option Nat) = none, q (List.length sl), ∀ (k : Nat), k < List.length sl → [V.int IntKind.i64 (List.getD sl k (0 : Int))] = [V.int IntKind.i64 (List.getD sl k (0 : Int))], false = true → false = true, q (↑(List.length sl) : Int), q (↑k : Int), decide ((↑k : Int) < (↑(List.length sl) : Int)) = b]) : Option (Exit × St × List Prop)) := by kernel_rfl

theorem pcCi_p1 (n : Nat) (x : Nat → SChg) (sl : List Int) (O : Nat → SBatch) (k : Nat) :
  alongPc Tryz.prog (pcCi n x sl O k) [true] = (some (.normal, St.mk [.any, .any, .ros 4 n (fun i => SChg.c (x i)) false, .any, .any, .any, .sl (.o 0) 2 0 0 0 k none, .any, .any, .any, .any, .any, .any, .any, .any, .ros 1 (List.length sl) (li sl) false, .int .i64 (↑(List.length sl) : Int), .int .i64 ↑k, .any, .any, .any, .any, .any, .any, .any, .any, .any, .any, .any, .any, .any, .any, .any, .any, .any, .any, .any, .any, .any, .any, .any, .any] [(.o 0, .rows 2 k (fun i => SBatch.c (O i)) true)] 1 [], [q2, q k, ∀ (k_1 : Nat), k_1 < k → SBatch.c (O k_1) = SBatch.c (O k_1), true = false → true = false, q n, ∀ (k : Nat), k < n → SChg.c (x k) = SChg.c (x k), false = true → false = true, q0, q0, q0, q k, (none : Option Nat) = none ∨ (none : Option Nat) = none, q (List.length sl), ∀ (k : Nat), k < List.length sl → [V.int IntKind.i64 (List.getD sl k (0 : Int))] = [V.int IntKind.i64 (List.getD sl k (0 : Int))], false = true → false = true, q (↑(List.length sl) : Int), q (↑k : Int)]) : Option (Exit × St × List Prop)) := by kernel_rfl

theorem pcCx_p0 (n : Nat) (x : Nat → SChg) (sl : List Int) (O : Nat → SBatch) (k : Nat) :
  alongPc Tryz.prog (pcCx n x sl O k) [false] = (some (.exit 0, St.mk [.any, .any, .ros 4 n (fun i => SChg.c (x i)) false, .any, .any, .any, .sl (.o 0) 2 0 0 0 k none, .any, .any, .any, .any, .any, .any, .any, .any, .ros 1 (List.length sl) (li sl) false, .int .i64 (↑(List.length sl) : Int), .int .i64 ↑k, .any, .any, .any, .any, .any, .any, .any, .any, .any, .any, .any, .any, .any, .any, .any, .any, .any, .any, .any, .any, .any, .any, .any, .any] [(.o 0, .rows 2 k (fun i => SBatch.c (O i)) true)] 1 [], [q false, q k, ∀ (k_1 : Nat), k_1 < k → SBatch.c (O k_1) = SBatch.c (O k_1), true = false → true = false, q n, ∀ (k : Nat), k < n → SChg.c (x k) = SChg.c (x k), false = true → false = true, q0, q0, q0, q k, (none : Option Nat) = none ∨ (none : Option Nat) = none, q (List.length sl), ∀ (k : Nat), k < List.length sl → [V.int IntKind.i64 (List.getD sl k (0 : Int))] = [V.int IntKind.i64 (List.getD sl k (0 : Int))], false = true → false = true, q (↑(List.length sl) : Int), q (↑k : Int)]) : Option (Exit × St × List Prop)) := by kernel_rfl

theorem pcC3_p (n : Nat) (x : Nat → SChg) (sl : List Int) (O : Nat → SBatch) (k : Nat) (s : Int) :
  alongPc Tryz.prog (pcC3 n x sl O k s) [] = (some (.normal, St.mk [.any, .any, .ros 4 n (fun i => SChg.c (x i)) false, .any, .any, .any, .sl (.o 0) 2 0 0 0 k none, .any, .int .i64 s, .any, .any, .any, .any, .any, .any, .ros 1 (List.length sl) (li sl) false, .int .i64 (↑(List.length sl) : Int), .int .i64 ↑k, .any, .any, .any, .any, .any, .any, .any, .any, .any, .any, .any, .any, .any, .any, .any, .any, .any, .any, .any, .any, .any, .any, .any, .any] [(.o 0, .rows 2 k (fun i => SBatch.c (O i)) true)] 1 [], [(0 : Int) ≤ (↑k : Int) ∧ (↑k : Int) < (↑(List.length sl) : Int), q k, ∀ (k_1 : Nat), k_1 < k → SBatch.c (O k_1) = SBatch.c (O k_1), true = false → true = false, q n, ∀ (k : Nat), k < n → SChg.c (x k) = SChg.c (x k), false = true → false = true, q0, q0, q0, q k, (none : Option Nat) = none ∨ (none : Option Nat) = none, List.getD sl (Int.toNat (↑k : Int)) (0 : Int) = s, q (List.length sl), ∀ (k : Nat), k < List.length sl → [V.int IntKind.i64 (List.getD sl k (0 : Int))] = [V.int IntKind.i64 (List.getD sl k (0 : Int))], false = true → false = true, q (↑(List.length sl) : Int), q (↑k : Int)]) : Option (Exit × St × List Prop)) := by kernel_rfl

theorem pcC4_p (n : Nat) (x : Nat → SChg) (sl : List Int) (O : Nat → SBatch) (k : Nat) (s : Int) :
  alongPc Tryz.prog (pcC4 n x sl O k s) [] = (some (.normal, St.mk [.any, .any, .ros 4 n (fun i => SChg.c (x i)) false, .any, .any, .any, .sl (.o 0) 2 0 0 0 k none, .any, .int .i64 s, .ptr (.o 1) 0 0 0 0, .ptr (.o 2) 0 0 0 0, .any, .any, .any, .any, .ros 1 (List.length sl) (li sl) false, .int .i64 (↑(List.length sl) : Int), .int .i64 ↑k, .any, .any, .any, .any, .any, .any, .any, .any, .any, .any, .any, .any, .any, .any, .any, .any, .any, .any, .any, .any, .any, .any, .any, .any] [(.o 1, .flat (SBatch.c (SBatch.mk true 0 fun x => SReq.mk (0 : Int) (0 : Int) ByteArray.empty []))), (.o 2, .flat [.int .i64 (-1 : Int)]), (.o 0, .rows 2 k (fun i => SBatch.c (O i)) true)] 3 [], [T Tryz.prog 55 [] [] (.agg (SBatch.c (SBatch.mk true 0 fun x => SReq.mk (0 : Int) (0 : Int) ByteArray.empty []))) [], q2, q0, ∀ (k : Nat), k < (0 : Nat) → SReq.c (SReq.mk (0 : Int) (0 : Int) ByteArray.empty []) = SReq.c (SReq.mk (0 : Int) (0 : Int) ByteArray.empty []), false = true → false = true, q (-1 : Int), q k, ∀ (k_1 : Nat), k_1 < k → SBatch.c (O k_1) = SBatch.c (O k_1), true = false → true = false, q n, ∀ (k : Nat), k < n → SChg.c (x k) = SChg.c (x k), false = true → false = true, q0, q0, q0, q k, (none : Option Nat) = none ∨ (none : Option Nat) = none, q s, q0, q0, q0, q0, q0, q0, q (List.length sl), ∀ (k : Nat), k < List.length sl → [V.int IntKind.i64 (List.getD sl k (0 : Int))] = [V.int IntKind.i64 (List.getD sl k (0 : Int))], false = true → false = true, q (↑(List.length sl) : Int), q (↑k : Int)]) : Option (Exit × St × List Prop)) := by kernel_rfl

theorem pcC5_p (n : Nat) (x : Nat → SChg) (sl : List Int) (O : Nat → SBatch) (k : Nat) (s : Int) :
  alongPc Tryz.prog (pcC5 n x sl O k s) [] = (some (.normal, St.mk [.any, .any, .ros 4 n (fun i => SChg.c (x i)) false, .any, .any, .any, .sl (.o 0) 2 0 0 0 k none, .any, .any, .ptr (.o 1) 0 0 0 0, .ptr (.o 2) 0 0 0 0, .any, .any, .any, .any, .ros 1 (List.length sl) (li sl) false, .int .i64 (↑(List.length sl) : Int), .int .i64 ↑k, .any, .any, .any, .any, .any, .any, .fn (.func (87 : FuncId)) [] [.ptr (.o 3) 0 0 0 0, .ptr (.o 4) 0 0 0 0], .any, .any, .any, .any, .any, .any, .any, .any, .any, .any, .any, .any, .any, .any, .any, .any, .any] [(.o 1, .flat (SBatch.c (SBatch.mk true 0 fun x => SReq.mk (0 : Int) (0 : Int) ByteArray.empty []))), (.o 2, .flat [.int .i64 (-1 : Int)]), (.o 3, .flat [chv n x]), (.o 4, .flat [.int .i64 s]), (.o 0, .rows 2 k (fun i => SBatch.c (O i)) true)] 5 [], [T Tryz.prog 56 [.ros 4 n (fun i => SChg.c (x i)) false, .int .i64 s] [] (.fn (.func (87 : FuncId)) [] [.ptr (.o 131) 0 0 0 0, .ptr (.o 132) 0 0 0 0]) [(.o 131, .flat [chv n x]), (.o 132, .flat [.int .i64 s])], q2, q0, ∀ (k : Nat), k < (0 : Nat) → SReq.c (SReq.mk (0 : Int) (0 : Int) ByteArray.empty []) = SReq.c (SReq.mk (0 : Int) (0 : Int) ByteArray.empty []), false = true → false = true, q (-1 : Int), q n, ∀ (k : Nat), k < n → SChg.c (x k) = SChg.c (x k), false = true → false = true, q s, q k, ∀ (k_1 : Nat), k_1 < k → SBatch.c (O k_1) = SBatch.c (O k_1), true = false → true = false, q n, ∀ (k : Nat), k < n → SChg.c (x k) = SChg.c (x k), false = true → false = true, q0, q0, q0, q k, (none : Option Nat) = none ∨ (none : Option Nat) = none, q0, q0, q0, q0, q0, q0, q (List.length sl), ∀ (k : Nat), k < List.length sl → [V.int IntKind.i64 (List.getD sl k (0 : Int))] = [V.int IntKind.i64 (List.getD sl k (0 : Int))], false = true → false = true, q (↑(List.length sl) : Int), q (↑k : Int), q0, q0, q0, q0, q0, q0]) : Option (Exit × St × List Prop)) := by kernel_rfl

theorem pcC6_p (n : Nat) (x : Nat → SChg) (sl : List Int) (O : Nat → SBatch) (O2 : Nat → SBatch) (k : Nat) (b : SBatch) (v : Int) (s : Int) :
  alongPc Tryz.prog (pcC6 n x sl O O2 k b v s) [] = (some (.normal, St.mk [.any, .any, .ros 4 n (fun i => SChg.c (x i)) false, .any, .any, .any, .sl (.o 0) 2 0 0 0 (k + 1) none, .any, .any, .any, .any, .any, .any, .any, .any, .ros 1 (List.length sl) (li sl) false, .int .i64 (↑(List.length sl) : Int), .int .i64 ↑k, .any, .any, .any, .any, .any, .any, .any, .any, .any, .any, .any, .any, .any, .any, .any, .any, .any, .any, .any, .any, .any, .any, .any, .any] [(.o 0, .rows 2 (k + 1) (fun i => SBatch.c (O2 i)) true)] 1 [], [q k, nat_lit 1 ≤ (1 : Nat), ∀ (k : Nat), k < (1 : Nat) → solid (getL [(SBatch.c b)] ((0 : Nat) + k)) = true, (k + (1 : Nat)) * (32 : Nat) ≤ (140737488355328 : Nat), q (k + (1 : Nat)), ∀ (k_1 : Nat), k_1 < k + (1 : Nat) → catF k (fun i => SBatch.c (O i)) (fun k => getL [(SBatch.c b)] ((0 : Nat) + k)) k_1 = SBatch.c (O2 k_1), true = false → true = false, q n, ∀ (k : Nat), k < n → SChg.c (x k) = SChg.c (x k), false = true → false = true, q0, q0, q0, q (k + (1 : Nat)), (none : Option Nat) = none ∨ (none : Option Nat) = none, q (List.length sl), ∀ (k : Nat), k < List.length sl → [V.int IntKind.i64 (List.getD sl k (0 : Int))] = [V.int IntKind.i64 (List.getD sl k (0 : Int))], false = true → false = true, q (↑(List.length sl) : Int), q (↑k : Int)]) : Option (Exit × St × List Prop)) := by kernel_rfl

theorem pcC7_p (n : Nat) (x : Nat → SChg) (sl : List Int) (O : Nat → SBatch) (k : Nat) :
  alongPc Tryz.prog (pcC7 n x sl O k) [] = (some (.normal, St.mk [.any, .any, .ros 4 n (fun i => SChg.c (x i)) false, .any, .any, .any, .sl (.o 0) 2 0 0 0 (k + 1) none, .any, .any, .any, .any, .any, .any, .any, .any, .ros 1 (List.length sl) (li sl) false, .int .i64 (↑(List.length sl) : Int), .int .i64 (↑(k + 1) : Int), .any, .any, .any, .any, .any, .any, .any, .any, .any, .any, .any, .any, .any, .any, .any, .any, .any, .any, .any, .any, .any, .any, .any, .any] [(.o 0, .rows 2 (k + 1) (fun i => SBatch.c (O i)) true)] 1 [], [InR IntKind.i64 ((↑k : Int) + (1 : Int)), q (k + (1 : Nat)), ∀ (k_1 : Nat), k_1 < k + (1 : Nat) → SBatch.c (O k_1) = SBatch.c (O k_1), true = false → true = false, q n, ∀ (k : Nat), k < n → SChg.c (x k) = SChg.c (x k), false = true → false = true, q0, q0, q0, q (k + (1 : Nat)), (none : Option Nat) = none ∨ (none : Option Nat) = none, q (List.length sl), ∀ (k : Nat), k < List.length sl → [V.int IntKind.i64 (List.getD sl k (0 : Int))] = [V.int IntKind.i64 (List.getD sl k (0 : Int))], false = true → false = true, q (↑(List.length sl) : Int), (↑k : Int) + (1 : Int) = (↑(k + (1 : Nat)) : Int)]) : Option (Exit × St × List Prop)) := by kernel_rfl

theorem pcC8_p (n : Nat) (x : Nat → SChg) (sl : List Int) (O : Nat → SBatch) (k : Nat) :
  alongPc Tryz.prog (pcC8 n x sl O k) [] = (some (.ret, St.mk [.any, .any, .any, .any, .any, .any, .sl (.o 0) 2 0 0 0 k none, .any, .any, .any, .any, .any, .any, .any, .any, .any, .any, .any, .any, .any, .any, .any, .any, .any, .any, .any, .any, .any, .any, .any, .any, .any, .any, .any, .any, .any, .any, .any, .any, .any, .any, .any] [(.o 0, .rows 2 k (fun i => SBatch.c (O i)) true)] 1 [], [q k, ∀ (k_1 : Nat), k_1 < k → SBatch.c (O k_1) = SBatch.c (O k_1), true = false → true = false, q0, q0, q0, q k, (none : Option Nat) = none ∨ (none : Option Nat) = none]) : Option (Exit × St × List Prop)) := by kernel_rfl

theorem T_no : T Tryz.prog 55 [] [] (.agg noopB.c) [] := by
 have h : T Tryz.prog 55 [] [] (.agg [.bool true, .snil]) [] := by
  refine T_al bdNo_p Tryz.func55 ?_
  simp only [All]; and_intros
  all_goals first
   | exact True.intro
   | (with_reducible assumption)
   | (rw [decide_eq_true_eq]; omega)
   | (rw [decide_eq_false_iff_not]; omega)
   | with_reducible rfl
   | (intro _ _; exact True.intro)
   | (intro _ _; with_reducible rfl)
   | (intro _ _; rfl)
   | (simp only [IntKind.min, IntKind.max, IntKind.signed, IntKind.bits, if_true]; omega)
   | omega
   | (intro h; exact h)
   | (intro h; cases h; done)
   | exact .inl rfl
   | exact .inl True.intro
   | exact .inr rfl
   | (simp; done)
 refine T.le h rfl ?_
 and_intros
 all_goals first
  | exact True.intro
  | (intro k hk; exact absurd hk (Nat.not_lt_zero k))
  | rfl
  | (intro h; cases h)
theorem T_he (n : Nat) (x : Nat → SChg) (s : Int) : T Tryz.prog 56 [chv n x, .int .i64 s] [] (.fn (.func 87) [] [pO 131, pO 132]) [(.o 131, .flat [chv n x]), (.o 132, .flat [.int .i64 s])] := by
 have h : T Tryz.prog 56 [chv n x, .int .i64 s] [] (.fn (.func 87) [] [pO 3, pO 4]) [(.o 3, .flat [chv n x]), (.o 4, .flat [.int .i64 s])] := by
  refine T_al (bdHe_p n x s) Tryz.func56 ?_
  simp only [All]; and_intros
  all_goals first
   | exact True.intro
   | (with_reducible assumption)
   | (rw [decide_eq_true_eq]; omega)
   | (rw [decide_eq_false_iff_not]; omega)
   | with_reducible rfl
   | (intro _ _; exact True.intro)
   | (intro _ _; with_reducible rfl)
   | (intro _ _; rfl)
   | (simp only [IntKind.min, IntKind.max, IntKind.signed, IntKind.bits, if_true]; omega)
   | omega
   | (intro h; exact h)
   | (intro h; cases h; done)
   | exact .inl rfl
   | exact .inl True.intro
   | exact .inr rfl
   | (simp; done)
 obtain ⟨σ, hσ, h3⟩ := T.at h [.o 3, .o 4] [.o 131, .o 132] (by decide) (by decide) rfl
 simp only [List.map_cons, List.map_nil, List.cons.injEq, and_true] at hσ
 simpa [V.rens, V.ren, Heap.ren, Sy.B.ren, pO, chv, hσ.1, hσ.2] using h3
end Go.Proofs.YtlakhciklfkocaaGreat
namespace Go.Proofs.YtlakhciklfkocaaGreat
open Go Sy Go.Proofs
def cA : Code → Code
 | .rangeFunc _ _ a _ => a
 | _ => .skip
def cY : Code → Code
 | .rangeFunc _ _ _ b => b
 | _ => .skip
def hkeeps (n : Nm) : Heap → List (Nm × HK)
 | [] => []
 | q :: r => (bif q.1.beq n then (q.1, .keep) else (q.1, .set q.2)) :: hkeeps n r
def wToK (sw : List (Nm × Nm)) (n : Nm) (st : St) : W := ⟨sw, setsOf (enumT 0 st.tmps), hkeeps n st.heap, none, st.next⟩
noncomputable def rgB (fn : FuncId) (ts : List V) (st : LoopState) : B := .loop fn #[25] ts (cA csG) (cY csG) st none
def yH (b : SBatch) (v : Int) : Heap := [(.o 1, .flat b.c), (.o 2, .flat [.int .i64 v])]
def yT : List V := mkT 42 [(9, pO 1), (10, pO 2), (11, pO 7)]
noncomputable def pcYa (qq : Nat) (fn : FuncId) (n : Nat) (x : Nat → SChg) (sl : List Int) (k : Nat) (h : SHeld) (b : SBatch) (v : Int) : Pc := { c := cA csG, st := ⟨setMany (csR n x sl k) [(25, .agg h.c)], (.o 6, rgB fn (csR n x sl k) .ready) :: yH b v, 7, []⟩, p := 7, kb := kb0, ro := some qq, k := fun _ t => some (wToK [(.o 7, nmV (getV t.tmps 11))] (.o 6) ⟨yT, (.o 6, rgB fn (csR n x sl k) .ready) :: (.o 7, .flat h.c) :: yH b v, 600, []⟩) }
noncomputable def pcYb (qq : Nat) (fn : FuncId) (n : Nat) (x : Nat → SChg) (sl : List Int) (k : Nat) (h : SHeld) (b : SBatch) (v : Int) (b2 : SBatch) (v2 : Int) : Pc := { c := cY csG, st := ⟨yT, (.o 6, rgB fn (csR n x sl k) .busy) :: (.o 7, .flat h.c) :: yH b v, 600, []⟩, p := 7, kb := kb0, ro := some qq, k := fun _ _ => some (wToK [] (.o 6) ⟨mkT 42 [], (.o 6, rgB fn (csR n x sl k) .busy) :: yH b2 v2, 1000, []⟩) }
noncomputable def itC : Code := bodyOf Tryz.f87
noncomputable def itD : Code := cB (cB (cR itC))
noncomputable def itE : Code := cB (cB (cR (cR (cB (cL (cR (cR itD)))))))
noncomputable def itO (fn : FuncId) (ts : List V) (n : Nat) (x : Nat → SChg) (s : Int) (i : Nat) (b : SBatch) (v : Int) : St := ⟨mkT 35 [(0, .yld (.o 6)), (2, pO 4), (8, chv n x), (9, .int .i64 (n : Nat)), (10, .int .i64 (i : Nat))], (.o 6, rgB fn ts .ready) :: csP n x b v s, 7, []⟩
noncomputable def itN (fn : FuncId) (ts : List V) (n : Nat) (x : Nat → SChg) (s : Int) (i j : Nat) (b : SBatch) (v : Int) : St := ⟨mkT 35 [(0, .yld (.o 6)), (2, pO 4), (8, chv n x), (9, .int .i64 (n : Nat)), (10, .int .i64 (i : Nat)), (15, hl (x i).hn (x i).hf), (16, .int .i64 ((x i).hn : Nat)), (17, .int .i64 (j : Nat))], (.o 6, rgB fn ts .ready) :: csP n x b v s, 7, []⟩
noncomputable def bdIt (fn : FuncId) (sl : List Int) (k : Nat) (n : Nat) (x : Nat → SChg) (s : Int) (b : SBatch) (v : Int) : Bd := { f := Tryz.f87, args := [.yld (.o 6), pO 3, pO 4], pre := (.o 6, rgB fn (csR n x sl k) .ready) :: csP n x noopB (-1) s, base := 7, kb := { db := fun _ _ _ _ => [], lp := fun _ _ => [(True, .loop (n + 1) (wToK [] (.o 6) (itO fn (csR n x sl k) n x s 0 noopB (-1))) (.exit 0) (itO fn (csR n x sl k) n x s n b v))] }, names := fun _ => [.o 6, .o 1, .o 2, .o 3, .o 4] }
noncomputable def pcIo (fn : FuncId) (ts : List V) (n : Nat) (x : Nat → SChg) (s : Int) (i : Nat) (b : SBatch) (v : Int) (b2 : SBatch) (v2 : Int) : Pc := { c := itD, st := itO fn ts n x s i b v, p := 7, kb := { db := fun _ _ _ _ => [], lp := fun _ _ => [(True, .loop ((x i).hn + 1) (wToK [] (.o 6) (itN fn ts n x s i 0 b v)) (.exit 2) (itN fn ts n x s i (x i).hn b2 v2))] }, k := fun x_ _ => match x_ with
 | .normal => some (wToK [] (.o 6) (itO fn ts n x s (i + 1) b2 v2))
 | _ => some (wToK [] (.o 6) (itO fn ts n x s i b v)) }
noncomputable def pcIn (fn : FuncId) (ts : List V) (n : Nat) (x : Nat → SChg) (s : Int) (i j : Nat) (b : SBatch) (v : Int) (b2 : SBatch) (v2 : Int) : Pc := { c := itE, st := itN fn ts n x s i j b v, p := 7, kb := { db := fun _ _ _ _ => [], vl := fun _ => [{ pre := [.o 6, .o 1, .o 2], val := .bool true, post := (.o 6, rgB fn ts .ready) :: yH b2 v2 }] }, k := fun x_ _ => match x_ with
 | .normal => some (wToK [] (.o 6) (itN fn ts n x s i (j + 1) b2 v2))
 | _ => some (wToK [] (.o 6) (itN fn ts n x s i j b v)) }
end Go.Proofs.YtlakhciklfkocaaGreat
