/-
  Abstract states; what a piece of code does to them ('R'); its rules; a call's contract out of its body (own work of this seat).
-/
import Derived.Test.YthifjamdfpjilaaSy1
import Derived.LoopNIn
namespace Sy
open Go

structure St where
  tmps : List V
  heap : Heap
  next : Nat
  dfs : List Nm

def DfRel (ρ : Env) : List Nm → List Deferred → Prop
  | [], l => l = []
  | n :: ns, l => ∃ lc r, ρ n = some lc ∧ l = { target := .collected lc.blk, args := #[] } :: r ∧ DfRel ρ ns r

structure StRel (U : Imm) (ρ : Env) (st : St) (a : Act) (w : World) : Prop where
  tmps : VsRel U ρ st.tmps a.tmps.toList
  dfs : DfRel ρ st.dfs a.defers
  heap : HRel U ρ st.heap w
  fresh : ∀ k, st.next ≤ k → ρ (.o k) = none

/-- The names that were there when the activation began: 'g', and 'o' below a number. -/
def Nm.pin (p : Nat) : Nm → Bool
  | .o k => decide (k < p)
  | .g _ => true

structure Turn (p : Nat) (U : Imm) (ρ : Env) (h : Heap) (w : World) (U' : Imm) (ρ' : Env) (h' : Heap) (w' : World) : Prop where
  ext : Ext U ρ h w U' ρ' h' w'
  pins : ∀ n, n.pin p = true → ρ' n = ρ n ∧ (h'.dom n → h.dom n)

theorem Turn.refl (p : Nat) (U : Imm) (ρ : Env) (h : Heap) (w : World) : Turn p U ρ h w U ρ h w := ⟨Ext.refl _ _ _ _, fun _ _ => ⟨rfl, id⟩⟩
theorem Turn.trans {p : Nat} {U U1 U2 : Imm} {ρ ρ1 ρ2 : Env} {h h1 h2 : Heap} {w w1 w2 : World} (a : Turn p U ρ h w U1 ρ1 h1 w1) (b : Turn p U1 ρ1 h1 w1 U2 ρ2 h2 w2) : Turn p U ρ h w U2 ρ2 h2 w2 :=
  ⟨a.ext.trans b.ext, fun n hp => ⟨(b.pins n hp).1.trans (a.pins n hp).1, fun hd => (a.pins n hp).2 ((b.pins n hp).2 hd)⟩⟩

def Fw (ro : Option Nat) : Fence := { Fence.wide with round := ro }

/-- From this state the code is left so, in that state. -/
def R (P : Program) (ro : Option Nat) (p : Nat) (c : Code) (st : St) (e : Exit) (st' : St) : Prop :=
  ∀ (U : Imm) (ρ : Env) (a : Act) (w : World) (Q : Exit → Act → World → Prop), StRel U ρ st a w →
    (∀ U' ρ' a' w', StRel U' ρ' st' a' w' → Turn p U ρ st.heap w U' ρ' st'.heap w' → Q e a' w') → c.wpIn (Fw ro) 0 P Q a w

def RLoop (P : Program) (ro : Option Nat) (p : Nat) (c : Code) (m : Nat) (st : St) (e : Exit) (st' : St) : Prop :=
  ∀ (U : Imm) (ρ : Env) (a : Act) (w : World) (Q : Exit → Act → World → Prop), StRel U ρ st a w →
    (∀ U' ρ' a' w', StRel U' ρ' st' a' w' → Turn p U ρ st.heap w U' ρ' st'.heap w' → Q e a' w') → Code.roundsIn (Fw ro) 0 P c Q m a w

/-- The second state says no more than the first (perhaps under other names). -/
def Wk (p : Nat) (st st' : St) : Prop :=
  ∀ U ρ a w, StRel U ρ st a w → ∃ U' ρ', StRel U' ρ' st' a w ∧ Turn p U ρ st.heap w U' ρ' st'.heap w

section rules
variable {P : Program} {ro : Option Nat} {p : Nat} {st st1 st2 st' : St} {e : Exit} {x y c : Code}

theorem Wk.refl (st : St) : Wk p st st := fun U ρ _ _ h => ⟨U, ρ, h, Turn.refl _ _ _ _ _⟩
theorem Wk.trans (h : Wk p st st1) (h' : Wk p st1 st2) : Wk p st st2 := fun U ρ a w hs => by
  obtain ⟨U1, ρ1, h1, t1⟩ := h U ρ a w hs
  obtain ⟨U2, ρ2, h2, t2⟩ := h' U1 ρ1 a w h1
  exact ⟨U2, ρ2, h2, t1.trans t2⟩
theorem R.pre (h : Wk p st st1) (h' : R P ro p c st1 e st') : R P ro p c st e st' := fun U ρ a w Q hs hq => by
  obtain ⟨U1, ρ1, h1, t1⟩ := h U ρ a w hs
  exact h' U1 ρ1 a w Q h1 fun U' ρ' a' w' h2 t2 => hq U' ρ' a' w' h2 (t1.trans t2)
theorem R.post (h : R P ro p c st e st1) (h' : Wk p st1 st') : R P ro p c st e st' := fun U ρ a w Q hs hq =>
  h U ρ a w Q hs fun U1 ρ1 a1 w1 h1 t1 => by
    obtain ⟨U2, ρ2, h2, t2⟩ := h' U1 ρ1 a1 w1 h1
    exact hq U2 ρ2 a1 w1 h2 (t1.trans t2)

theorem R.skip (st : St) : R P ro p .skip st .normal st := fun U ρ a w _ hs hq => wpIn_skip (hq U ρ a w hs (Turn.refl _ _ _ _ _))
theorem R.exit (id : Nat) (st : St) : R P ro p (.exit id) st (.exit id) st := fun U ρ a w _ hs hq => wpIn_exit (hq U ρ a w hs (Turn.refl _ _ _ _ _))
theorem R.ret (st : St) : R P ro p .ret st .ret st := fun U ρ a w _ hs hq => wpIn_ret (hq U ρ a w hs (Turn.refl _ _ _ _ _))
theorem R.seq (h : R P ro p x st .normal st1) (h' : R P ro p y st1 e st') : R P ro p (.seq x y) st e st' := fun U ρ a w Q hs hq =>
  wpIn_seq (h U ρ a w _ hs fun U1 ρ1 a1 w1 h1 t1 => h' U1 ρ1 a1 w1 Q h1 fun U2 ρ2 a2 w2 h2 t2 => hq U2 ρ2 a2 w2 h2 (t1.trans t2))
theorem R.seq_out (h : R P ro p x st e st') (he : e ≠ .normal) : R P ro p (.seq x y) st e st' := fun U ρ a w Q hs hq =>
  wpIn_seq (h U ρ a w _ hs fun U1 ρ1 a1 w1 h1 t1 => by
    have := hq U1 ρ1 a1 w1 h1 t1
    cases e <;> first | exact (he rfl).elim | exact this)
theorem R.cond {o : Operand} {b : Bool} (hb : ∀ U ρ a w, StRel U ρ st a w → a.eval o = .bool b) (h : R P ro p (if b then x else y) st e st') : R P ro p (.cond o x y) st e st' :=
  fun U ρ a w Q hs hq => wpIn_cond (hb U ρ a w hs) (h U ρ a w Q hs hq)
theorem R.block {id : Nat} (h : R P ro p c st .normal st') : R P ro p (.block id c) st .normal st' := fun U ρ a w _ hs hq =>
  wpIn_block (h U ρ a w _ hs fun U1 ρ1 a1 w1 h1 t1 => hq U1 ρ1 a1 w1 h1 t1)
theorem R.block_exit {id : Nat} (h : R P ro p c st (.exit id) st') : R P ro p (.block id c) st .normal st' := fun U ρ a w _ hs hq =>
  wpIn_block (h U ρ a w _ hs fun U1 ρ1 a1 w1 h1 t1 => by simp only [Exit.inBlock, if_true]; exact hq U1 ρ1 a1 w1 h1 t1)
theorem R.block_out {id : Nat} (h : R P ro p c st e st') (he : e ≠ .normal) (he' : e ≠ .exit id) : R P ro p (.block id c) st e st' := fun U ρ a w _ hs hq =>
  wpIn_block (h U ρ a w _ hs fun U1 ρ1 a1 w1 h1 t1 => by
    have := hq U1 ρ1 a1 w1 h1 t1
    cases e with
    | exit id' =>
      have hne : id' ≠ id := fun h => he' (by rw [h])
      simp only [Exit.inBlock, hne, if_false]; exact this
    | _ => exact this)
theorem R.loop {m : Nat} (h : RLoop P ro p c m st e st') : R P ro p (.loop c) st e st' := fun U ρ a w Q hs hq => wpIn_loop_rounds m (h U ρ a w Q hs hq)
theorem RLoop.step {m : Nat} (h : R P ro p c st .normal st1) (h' : RLoop P ro p c m st1 e st') : RLoop P ro p c (m + 1) st e st' := fun U ρ a w Q hs hq => by
  rw [roundsIn_succ]
  exact h U ρ a w _ hs fun U1 ρ1 a1 w1 h1 t1 => h' U1 ρ1 a1 w1 Q h1 fun U2 ρ2 a2 w2 h2 t2 => hq U2 ρ2 a2 w2 h2 (t1.trans t2)
theorem RLoop.out {m : Nat} (h : R P ro p c st e st') (he : e ≠ .normal) : RLoop P ro p c (m + 1) st e st' := fun U ρ a w Q hs hq => by
  rw [roundsIn_succ]
  exact h U ρ a w _ hs fun U1 ρ1 a1 w1 h1 t1 => by
    have := hq U1 ρ1 a1 w1 h1 t1
    cases e <;> first | exact (he rfl).elim | exact this
theorem RLoop.pre {m : Nat} (h : Wk p st st1) (h' : RLoop P ro p c m st1 e st') : RLoop P ro p c m st e st' := fun U ρ a w Q hs hq => by
  obtain ⟨U1, ρ1, h1, t1⟩ := h U ρ a w hs
  exact h' U1 ρ1 a w Q h1 fun U' ρ' a' w' h2 t2 => hq U' ρ' a' w' h2 (t1.trans t2)
end rules

/-! ### Values at places -/
def constV : Value → V
  | .bool b => .bool b
  | .int k n => .int k n
  | .string s => .str s
  | .pointer none => .pnil
  | .slice none 0 0 => .snil
  | .nilFunc => .fnil
  | .nilIface => .inil
  | .map none => .mpnil
  | .tuple ⟨[]⟩ => .tup []
  | _ => .any
theorem constV_rel (U : Imm) (ρ : Env) (x : Value) : VRel U ρ (constV x) x := by
  unfold constV
  split <;> simp [VRel, VsRel]

def getV : List V → Nat → V
  | [], _ => .any
  | v :: _, 0 => v
  | _ :: vs, n + 1 => getV vs n
def setV : List V → Nat → V → List V
  | [], _, _ => []
  | _ :: vs, 0, x => x :: vs
  | v :: vs, n + 1, x => v :: setV vs n x

def evV (tmps : List V) : Operand → V
  | .tmp t => getV tmps t
  | .const v => constV v
  | .func f => .fn (.func f) [] []
  | .global _ => .any

theorem getV_rel {U : Imm} {ρ : Env} : ∀ {l : List V} {xs : List Value} (t : Nat), VsRel U ρ l xs → VRel U ρ (getV l t) (xs.getD t undef)
  | [], xs, t, _ => by simp [getV, VRel]
  | v :: vs, xs, 0, h => by
    rw [VsRel] at h
    obtain ⟨x, r, rfl, h1, _⟩ := h
    simpa [getV] using h1
  | v :: vs, xs, t + 1, h => by
    rw [VsRel] at h
    obtain ⟨x, r, rfl, _, h2⟩ := h
    simpa [getV] using getV_rel t h2
theorem setV_rel {U : Imm} {ρ : Env} {v : V} {y : Value} (hv : VRel U ρ v y) : ∀ {l : List V} {xs : List Value} (t : Nat), VsRel U ρ l xs → VsRel U ρ (setV l t v) (xs.set t y)
  | [], xs, t, h => by rw [VsRel] at h; subst h; simp [setV, VsRel]
  | u :: vs, xs, 0, h => by
    rw [VsRel] at h
    obtain ⟨x, r, rfl, h1, h2⟩ := h
    simp only [setV, List.set_cons_zero]
    rw [VsRel]; exact ⟨y, r, rfl, hv, h2⟩
  | u :: vs, xs, t + 1, h => by
    rw [VsRel] at h
    obtain ⟨x, r, rfl, h1, h2⟩ := h
    simp only [setV, List.set_cons_succ]
    rw [VsRel]; exact ⟨x, _, rfl, h1, setV_rel hv t h2⟩

theorem evV_rel {U : Imm} {ρ : Env} {l : List V} {a : Act} (h : VsRel U ρ l a.tmps.toList) (x : Operand) : VRel U ρ (evV l x) (a.eval x) := by
  cases x with
  | tmp t =>
    have := getV_rel t h
    simpa [evV, Act.eval] using this
  | const v => exact constV_rel U ρ v
  | global g => simp [evV, VRel]
  | func f => rw [evV, Act.eval, VRel]; exact ⟨#[], #[], rfl, by simp [VsRel], by simp [VsRel]⟩

def putV (tmps : List V) (dst : Option Tmp) (v : V) : List V :=
  match dst with
  | some d => setV tmps d v
  | none => tmps
theorem putV_rel {U : Imm} {ρ : Env} {l : List V} {a : Act} {v : V} {y : Value} (h : VsRel U ρ l a.tmps.toList) (hv : VRel U ρ v y) (dst : Option Tmp) :
    VsRel U ρ (putV l dst v) (a.put dst y).tmps.toList := by
  cases dst with
  | none => exact h
  | some d => simpa [putV, Act.put] using setV_rel hv d h

end Sy
