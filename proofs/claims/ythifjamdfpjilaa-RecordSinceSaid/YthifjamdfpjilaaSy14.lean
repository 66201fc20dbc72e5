/-
  Operations of a region, one by one: the executable part, and its law (own work of this seat).
-/
import Derived.Test.YthifjamdfpjilaaSy13
namespace Sy
open Go

variable {P : Program} {U : Imm} {ρ : Env}

/-- What a call of a value does. -/
def TV (P : Program) (v : V) (args : List V) (pre : Heap) (val : V) (post : Heap) : Prop :=
  ∀ (U : Imm) (ρ : Env) (w : World) (x : Value) (xs : Array Value), HRel U ρ pre w → VRel U ρ v x → VsRel U ρ args xs.toList → (∀ n, post.dom n → pre.dom n ∨ ρ n = none) →
    Leads P (fun y w' => ∃ U' ρ', Leaves U ρ pre w val post y U' ρ' w') ((do let d ← Deferred.ofValue x xs; invoke d.target d.args : Sem Next).run P w)

/-- Is it a function with a body? -/
def callable (P : Program) (f : FuncId) : Bool := match P.funcs[f]? with
  | some fn => fn.body.isSome
  | none => false
/-- No function with a body is the one that counts goroutines. -/
def NoNG (P : Program) : Prop := ∀ (f : FuncId) (fn : Func), P.funcs[f]? = some fn → fn.body.isSome = true → (fn.name == "runtime.NumGoroutine") = false

theorem VsRel_append {a b : List V} {l : List Value} : VsRel U ρ (a ++ b) l ↔ ∃ la lb, l = la ++ lb ∧ VsRel U ρ a la ∧ VsRel U ρ b lb := by
  induction a generalizing l with
  | nil => 
    constructor
    · intro h; exact ⟨[], l, rfl, by rw [VsRel], h⟩
    · rintro ⟨la, lb, rfl, h1, h2⟩; rw [VsRel] at h1; subst h1; exact h2
  | cons v vs ih =>
    rw [List.cons_append, VsRel]
    constructor
    · rintro ⟨x, r, rfl, h1, h2⟩
      obtain ⟨la, lb, rfl, h3, h4⟩ := ih.1 h2
      exact ⟨x :: la, lb, rfl, by rw [VsRel]; exact ⟨x, la, rfl, h1, h3⟩, h4⟩
    · rintro ⟨la, lb, rfl, h1, h2⟩
      rw [VsRel] at h1
      obtain ⟨x, r, rfl, h3, h4⟩ := h1
      exact ⟨x, r ++ lb, by simp, h3, ih.2 ⟨r, lb, rfl, h4, h2⟩⟩

theorem TV.of_T (hng : NoNG P) {f : FuncId} {a b args : List V} {pre post : Heap} {val : V} (hc : callable P f = true) (h : T P f (a ++ (args ++ b)) pre val post) : TV P (.fn (.func f) a b) args pre val post := by
  intro U ρ w x xs hh hx ha hf
  rw [VRel] at hx
  obtain ⟨l, m, rfl, h1, h2⟩ := hx
  unfold callable at hc
  cases hfn : P.funcs[f]? with
  | none => simp [hfn] at hc
  | some fn =>
    simp only [hfn] at hc
    have hn := hng f fn hfn hc
    have hb : fn.body.isNone = false := by cases hbo : fn.body <;> simp [hbo] at hc ⊢
    have hT := h U ρ w (l ++ xs ++ m) hh (by
      rw [Array.toList_append, Array.toList_append, List.append_assoc]
      exact VsRel_append.2 ⟨_, _, rfl, h1, VsRel_append.2 ⟨_, _, rfl, ha, h2⟩⟩) hf
    simp only [Deferred.ofValue, Sem.run_bind, Sem.run_pure, Result.andThen_ok, invoke, callFunc, run_program, hfn, hn, hb, Bool.false_eq_true, if_false]
    refine Calls.mono hT ?_
    rintro e w' ⟨y, U', ρ', rfl, hL⟩
    exact ⟨y, rfl, U', ρ', hL⟩

inductive OH where
  | dir (b : Bool)
  | call (sym : Bool) (rd pre : List Nm) (tl : Option (Nat × Heap)) (val : V) (post : Heap)

/-! ### Taking blocks out of a heap -/
def pull (n : Nm) : Heap → Option (B × Heap)
  | [] => none
  | p :: h => bif n.beq p.1 then some (p.2, h) else match pull n h with
    | some (b, r) => some (b, p :: r)
    | none => none
theorem pull_perm {n : Nm} : ∀ {h : Heap} {b : B} {r : Heap}, pull n h = some (b, r) → h.Perm ((n, b) :: r)
  | [], _, _, e => by simp [pull] at e
  | p :: h, b, r, e => by
    unfold pull at e
    cases hb : n.beq p.1 with
    | true =>
      simp only [hb, cond_true, Option.some.injEq, Prod.mk.injEq] at e
      obtain ⟨rfl, rfl⟩ := e
      have := Nm.beq_iff.1 hb; subst this
      exact List.Perm.refl _
    | false =>
      simp only [hb, cond_false] at e
      cases hp : pull n h with
      | none => simp [hp] at e
      | some q =>
        obtain ⟨b', r'⟩ := q
        simp only [hp, Option.some.injEq, Prod.mk.injEq] at e
        obtain ⟨rfl, rfl⟩ := e
        exact ((pull_perm hp).cons p).trans (List.Perm.swap ..)
def takeH : List Nm → Heap → Option (Heap × Heap)
  | [], h => some ([], h)
  | n :: ns, h => match pull n h with
    | some (b, r) => match takeH ns r with
      | some (bs, r') => some ((n, b) :: bs, r')
      | none => none
    | none => none
theorem takeH_perm : ∀ {ns : List Nm} {h bs r : Heap}, takeH ns h = some (bs, r) → h.Perm (bs ++ r)
  | [], h, bs, r, e => by simp only [takeH, Option.some.injEq, Prod.mk.injEq] at e; obtain ⟨rfl, rfl⟩ := e; exact List.Perm.refl _
  | n :: ns, h, bs, r, e => by
    unfold takeH at e
    cases hp : pull n h with
    | none => simp [hp] at e
    | some q =>
      obtain ⟨b, r1⟩ := q
      simp only [hp] at e
      cases ht : takeH ns r1 with
      | none => simp [ht] at e
      | some q2 =>
        obtain ⟨bs', r'⟩ := q2
        simp only [ht, Option.some.injEq, Prod.mk.injEq] at e
        obtain ⟨rfl, rfl⟩ := e
        exact (pull_perm hp).trans ((takeH_perm ht).cons _)
/-- Blocks that stay where they are. -/
def seeH : List Nm → Heap → Option Heap
  | [], _ => some []
  | n :: ns, h => match pull n h with
    | some (b, _) => match seeH ns h with
      | some bs => some ((n, b) :: bs)
      | none => none
    | none => none
theorem seeH_mem : ∀ {ns : List Nm} {h bs : Heap}, seeH ns h = some bs → ∀ q ∈ bs, q ∈ h
  | [], h, bs, e, q, hq => by simp only [seeH, Option.some.injEq] at e; subst e; cases hq
  | n :: ns, h, bs, e, q, hq => by
    unfold seeH at e
    cases hp : pull n h with
    | none => simp [hp] at e
    | some x =>
      obtain ⟨b, r1⟩ := x
      simp only [hp] at e
      cases ht : seeH ns h with
      | none => simp [ht] at e
      | some bs' =>
        simp only [ht, Option.some.injEq] at e
        subst e
        rcases List.mem_cons.1 hq with rfl | hq
        · exact (pull_perm hp).mem_iff.2 (List.mem_cons_self ..)
        · exact seeH_mem ht q hq
def memNm (n : Nm) : Heap → Bool
  | [] => false
  | p :: h => n.beq p.1 || memNm n h
theorem memNm_dom {n : Nm} : ∀ {h : Heap}, memNm n h = true → h.dom n
  | [], e => by simp [memNm] at e
  | p :: h, e => by
    rw [memNm, Bool.or_eq_true] at e
    rcases e with e | e
    · have := Nm.beq_iff.1 e; subst this; exact ⟨p.2, List.mem_cons_self ..⟩
    · obtain ⟨b, hb⟩ := memNm_dom e; exact ⟨b, List.mem_cons_of_mem _ hb⟩
theorem memNm_false {n : Nm} : ∀ {h : Heap}, memNm n h = false → ∀ q ∈ h, q.1 ≠ n
  | [], _, q, hq => by cases hq
  | p :: h, e, q, hq => by
    rw [memNm, Bool.or_eq_false_iff] at e
    rcases List.mem_cons.1 hq with rfl | hq
    · intro h; have := Nm.beq_iff.2 h.symm; rw [this] at e; exact absurd e.1 (by simp)
    · exact memNm_false e.2 q hq
def ndNm : Heap → Bool
  | [] => true
  | p :: h => !memNm p.1 h && ndNm h
theorem ndNm_nd : ∀ {h : Heap}, ndNm h = true → (h.map Prod.fst).Nodup
  | [], _ => List.nodup_nil
  | p :: h, e => by
    rw [ndNm, Bool.and_eq_true, Bool.not_eq_true'] at e
    rw [List.map_cons, List.nodup_cons]
    refine ⟨fun hm => ?_, ndNm_nd e.2⟩
    obtain ⟨q, hq, h2⟩ := List.mem_map.1 hm
    exact memNm_false e.1 q hq h2
def newOk (lo hi : Nat) (old : Heap) : Heap → Bool
  | [] => true
  | p :: h => (memNm p.1 old || match p.1 with
    | .o k => Nat.ble lo k && Nat.blt k hi
    | .g _ => false) && newOk lo hi old h
theorem newOk_spec {lo hi : Nat} {old : Heap} : ∀ {h : Heap}, newOk lo hi old h = true → ∀ n, h.dom n → old.dom n ∨ ∃ k, n = .o k ∧ lo ≤ k ∧ k < hi
  | [], _, n, ⟨b, hb⟩ => by cases hb
  | p :: h, e, n, ⟨b, hb⟩ => by
    rw [newOk, Bool.and_eq_true, Bool.or_eq_true] at e
    rcases List.mem_cons.1 hb with h1 | h1
    · rcases e.1 with e1 | e1
      · left; rw [← h1] at e1; exact memNm_dom e1
      · right
        rw [← h1] at e1
        cases n with
        | o k =>
          simp only [Bool.and_eq_true] at e1
          exact ⟨k, rfl, Nat.le_of_ble_eq_true e1.1, by have := e1.2; rwa [Nat.blt_eq] at this⟩
        | g k => simp at e1
    · exact newOk_spec e.2 n ⟨b, h1⟩

/-! ### One operation -/
def tmpsOf : List Operand → List Nat
  | [] => []
  | x :: r => match x with
    | .tmp t => t :: tmpsOf r
    | _ => tmpsOf r
def find : List (Nat × V) → Nat → V
  | [], _ => .any
  | p :: r, t => bif Nat.beq p.1 t then p.2 else find r t
def evL (ls : List (Nat × V)) (x : Operand) : V := match x with
  | .tmp t => find ls t
  | .const v => constV v
  | .func f => .fn (.func f) [] []
  | .global _ => .any
theorem find_rel {a : Act} {t : Nat} : ∀ {ls : List (Nat × V)}, LookRel U ρ ls a → VRel U ρ (find ls t) (a.tmps.toList.getD t undef)
  | [], _ => by simp [find, VRel]
  | p :: r, h => by
    rw [find]
    cases hb : Nat.beq p.1 t with
    | true => have := Nat.eq_of_beq_eq_true hb; subst this; exact h p (List.mem_cons_self ..)
    | false => exact find_rel (ls := r) fun q hq => h q (List.mem_cons_of_mem _ hq)
theorem evL_rel {a : Act} {ls : List (Nat × V)} (h : LookRel U ρ ls a) (x : Operand) : VRel U ρ (evL ls x) (a.eval x) := by
  cases x with
  | tmp t =>
    have := find_rel (t := t) h
    simpa [evL, Act.eval] using this
  | const v => exact constV_rel U ρ v
  | global g => simp [evL, VRel]
  | func f => rw [evL, Act.eval, VRel]; exact ⟨#[], #[], rfl, by simp [VsRel], by simp [VsRel]⟩

def nmOf : V → List Nm
  | .ptr n _ _ _ _ => [n]
  | .sl n _ _ _ _ _ _ => [n]
  | .mp n => [n]
  | _ => []
/-- The blocks that are read, those that are changed. -/
def needs (ev : Operand → V) (h : Option OH) : Op → List Nm × List Nm
  | .load _ a => (nmOf (ev a), [])
  | .store _ a _ => ([], nmOf (ev a))
  | .convert _ _ x => (nmOf (ev x), [])
  | .call c => match c.callee with
    | .builtin .append => match c.args[0]? with
      | some d => match c.args[1]? with
        | some s => (nmOf (ev s), nmOf (ev d))
        | none => ([], [])
      | none => ([], [])
    | .value _ => match h with
      | some (.call _ rd pre _ _ _) => (rd, pre)
      | _ => ([], [])
    | _ => ([], [])
  | _ => ([], [])

def noH (rd pre : Heap) (r : Option Eff) : Option Eff := match rd with
  | [] => match pre with
    | [] => r
    | _ => none
  | _ => none
def pureE (r : Option (V × List Prop)) : Option Eff := match r with
  | some (v, cs) => some (v, [], cs)
  | none => none

def callE (P : Program) (ev : Operand → V) (f : Operand) (args : List Operand) (rd pre : Heap) (sym : Bool) (val : V) (post : Heap) : Option Eff :=
  match sym with
  | true => some (val, post, [TV P (ev f) (mapEv ev args) (pre ++ rd) val (post ++ rd)])
  | false => match ev f with
    | .fn g a b => match g with
      | .func k => bif callable P k then some (val, post, [T P k (a ++ (mapEv ev args ++ b)) (pre ++ rd) val (post ++ rd)]) else none
      | _ => none
    | _ => none

/-- What an operation does: its value, what becomes of the blocks 'pre' (those of 'rd' stay), what is asked. -/
def opEff (P : Program) (base : Nat) (ev : Operand → V) (h : Option OH) (op : Op) (rd pre : Heap) : Option Eff :=
  match op with
  | .alloc t => noH rd pre (allocH P base t)
  | .box _ v => noH rd pre (boxH base (ev v))
  | .buildSlice t len parts => noH rd pre (buildSliceH P base t len (pairEv ev parts.toList))
  | .makeSlice t l c => noH rd pre (makeSliceH P base t (ev l) (ev c))
  | .load t a => match pre with
    | [] => match rd with
      | [] => pureE (pureV P ev (.load t a))
      | _ => match loadH P t (ev a) rd with
        | some (v, _, cs) => some (v, [], cs)
        | none => none
    | _ => none
  | .store t a v => match rd with
    | [] => storeH P t (ev a) (ev v) pre
    | _ => none
  | .convert s d x => match bytesStr P s d with
    | true => match pre with
      | [] => match strH P s d (ev x) rd with
        | some (v, cs) => some (v, [], cs)
        | none => none
      | _ => none
    | false => noH rd pre (pureE (pureV P ev (.convert s d x)))
  | .call c => match c.callee with
    | .builtin .append => match c.args.toList with
      | [d, s] => match c.argTypes.toList with
        | [t, tx] => match appendH P base t tx (ev d) (ev s) pre rd with
          | some (v, p :: _, cs) => some (v, [p], cs)
          | _ => none
        | _ => none
      | _ => none
    | .value f => match h with
      | some (.call sym _ _ _ val post) => callE P ev f c.args.toList rd pre sym val post
      | _ => none
    | _ => noH rd pre (pureE (pureV P ev (.call c)))
  | op => noH rd pre (pureE (pureV P ev op))

theorem noH_some {rd pre : Heap} {r : Option Eff} {e : Eff} (h : noH rd pre r = some e) : rd = [] ∧ pre = [] ∧ r = some e := by
  unfold noH at h
  split at h
  · split at h
    · exact ⟨rfl, rfl, h⟩
    · simp at h
  · simp at h
theorem pureE_some {r : Option (V × List Prop)} {v : V} {post : Heap} {cs : List Prop} (h : pureE r = some (v, post, cs)) : post = [] ∧ r = some (v, cs) := by
  unfold pureE at h
  split at h
  · simp only [Option.some.injEq, Prod.mk.injEq] at h; obtain ⟨rfl, rfl, rfl⟩ := h; exact ⟨rfl, rfl⟩
  · simp at h
theorem loadH_post {t : TypeId} {a : V} {bs : Heap} {r : Eff} (h : loadH P t a bs = some r) : r.2.1 = bs := by
  unfold loadH at h
  cases a <;> simp only [reduceCtorEq] at h
  split at h
  · rename_i n' b
    revert h
    cases (Nm.beq _ n') <;> simp only [cond_true, cond_false, reduceCtorEq, false_implies]
    intro h
    split at h
    · split at h
      · simp only [Option.some.injEq] at h; subst h; rfl
      · simp at h
    · simp at h
  · simp at h
theorem appendH_post {base : Nat} {t tx : TypeId} {d s : V} {db sb : Heap} {r : Eff} (h : appendH P base t tx d s db sb = some r) : ∃ p, r.2.1 = p :: sb := by
  unfold appendH at h
  split at h
  · split at h
    · split at h
      · revert h
        cases (Nat.beq _ _ && _) <;> simp only [cond_true, cond_false, reduceCtorEq, false_implies]
        intro h
        split at h
        · split at h
          · simp only [Option.some.injEq] at h; subst h; exact ⟨_, rfl⟩
          · simp at h
        · simp at h
      · simp at h
    · simp at h
  · simp at h

theorem sstep_val {s : Sem Value} {pre post : Heap} {val : V} {w : World} (h : ∃ x w' U' ρ', s.run P w = .ok x w' ∧ Leaves U ρ pre w val post x U' ρ' w') :
    SStep P (do pure (.value (← s)) : Sem Next) U ρ pre w val post := by
  obtain ⟨x, w', U', ρ', h1, h2⟩ := h
  exact Goes.step ⟨x, w', U', ρ', .inl (run_val h1), h2⟩

theorem pure_step {ev : Operand → V} {e : Operand → Value} {o : Oper} {v : V} {cs : List Prop} {w : World} (h : pureV P ev o.op = some (v, cs)) (hc : All cs) (hev : ∀ x, VRel U ρ (ev x) (e x)) {pre : Heap} (H : HRel U ρ pre w) :
    SStep P (execOp e o) U ρ pre w v pre := by
  obtain ⟨x, h1, h2⟩ := pureV_ok h hc hev H
  exact Goes.step ⟨x, w, U, ρ, .inl h1, Leaves.same H h2 rfl⟩

theorem call_step (hng : NoNG P) {ev : Operand → V} {e : Operand → Value} {o : Oper} {c : Call} {f : Operand} {rd pre post : Heap} {sym : Bool} {val v : V} {post' : Heap} {cs : List Prop} {w : World} (ho : o.op = .call c) (hcl : c.callee = .value f)
    (h : callE P ev f c.args.toList rd pre sym val post = some (v, post', cs)) (hc : All cs) (hev : ∀ x, VRel U ρ (ev x) (e x)) (H : HRel U ρ (pre ++ rd) w)
    (hnew : ∀ n, Heap.dom (post' ++ rd) n → Heap.dom (pre ++ rd) n ∨ ρ n = none) : SStep P (execOp e o) U ρ (pre ++ rd) w v (post' ++ rd) := by
  have key : TV P (ev f) (mapEv ev c.args.toList) (pre ++ rd) v (post' ++ rd) := by
    unfold callE at h
    split at h
    · simp only [Option.some.injEq, Prod.mk.injEq] at h
      obtain ⟨rfl, rfl, rfl⟩ := h
      exact hc.1
    · split at h
      · rename_i g a b hfv
        split at h
        · rename_i k
          cases hk : callable P k <;> simp only [hk, cond_true, cond_false, reduceCtorEq, Option.some.injEq, Prod.mk.injEq] at h
          obtain ⟨rfl, rfl, rfl⟩ := h
          rw [hfv]
          exact TV.of_T hng hk hc.1
        · simp at h
      · simp at h
  have := key U ρ w (e f) (c.args.map e) H (hev f) (by rw [Array.toList_map]; exact mapEv_rel hev _) hnew
  unfold SStep execOp
  simp only [ho, resolve, hcl]
  exact this

theorem opEff_ok (hng : NoNG P) {base : Nat} {ev : Operand → V} {e : Operand → Value} {h : Option OH} {o : Oper} {rd pre post : Heap} {v : V} {cs : List Prop} {w : World} (he : opEff P base ev h o.op rd pre = some (v, post, cs)) (hc : All cs)
    (hev : ∀ x, VRel U ρ (ev x) (e x)) (H : HRel U ρ (pre ++ rd) w) (hf : ρ (.o base) = none) (hnew : ∀ n, Heap.dom (post ++ rd) n → Heap.dom (pre ++ rd) n ∨ ρ n = none) :
    SStep P (execOp e o) U ρ (pre ++ rd) w v (post ++ rd) := by
  have pureCase : ∀ {post : Heap} {v : V} {cs : List Prop}, All cs → noH rd pre (pureE (pureV P ev o.op)) = some (v, post, cs) → SStep P (execOp e o) U ρ (pre ++ rd) w v (post ++ rd) := by
    intro post v cs hc h
    obtain ⟨rfl, rfl, h1⟩ := noH_some h
    obtain ⟨rfl, h2⟩ := pureE_some h1
    exact pure_step h2 hc hev H
  have ex : ∀ {s : Sem Value}, execOp e o = (do pure (.value (← s)) : Sem Next) → (∃ x w' U' ρ', s.run P w = .ok x w' ∧ Leaves U ρ (pre ++ rd) w v (post ++ rd) x U' ρ' w') → SStep P (execOp e o) U ρ (pre ++ rd) w v (post ++ rd) :=
    fun hs h => by rw [hs]; exact sstep_val h
  cases hop : o.op
  case alloc t =>
    rw [hop] at he; simp only [opEff] at he
    obtain ⟨rfl, rfl, h1⟩ := noH_some he
    have := allocH_ok h1 H hf
    refine ex (s := Instr.alloc t true (.tuple #[])) (by simp only [execOp, hop]) ?_
    simpa using this
  case box t x =>
    rw [hop] at he; simp only [opEff] at he
    obtain ⟨rfl, rfl, h1⟩ := noH_some he
    have := boxH_ok (P := P) (t := t) h1 (hev x) H hf
    refine ex (s := Instr.box t (e x)) (by simp only [execOp, hop]) ?_
    simpa using this
  case buildSlice t len parts =>
    rw [hop] at he; simp only [opEff] at he
    obtain ⟨rfl, rfl, h1⟩ := noH_some he
    have := buildSliceH_ok (xs := parts.map fun (i, x) => (i, e x)) h1 (by rw [Array.toList_map]; exact pairEv_rel hev _) H hf
    refine ex (s := Instr.buildSlice t len (parts.map fun (i, x) => (i, e x))) (by simp only [execOp, hop]) ?_
    simpa using this
  case makeSlice t l c =>
    rw [hop] at he; simp only [opEff] at he
    obtain ⟨rfl, rfl, h1⟩ := noH_some he
    have := makeSliceH_ok h1 hc (hev l) (hev c) H hf
    refine ex (s := Instr.makeSlice t (e l) (e c)) (by simp only [execOp, hop]) ?_
    simpa using this
  case load t a =>
    have he0 := he
    rw [hop] at he; simp only [opEff] at he
    split at he
    · split at he
      · obtain ⟨rfl, h2⟩ := pureE_some he
        rw [← hop] at h2
        exact pure_step h2 hc hev H
      · cases hl : loadH P t (ev a) rd with
        | none => simp [hl] at he
        | some r =>
          obtain ⟨v', p', c'⟩ := r
          simp only [hl, Option.some.injEq, Prod.mk.injEq] at he
          obtain ⟨rfl, rfl, rfl⟩ := he
          have hp := loadH_post hl
          simp only at hp
          subst hp
          have := loadH_ok hl hc (hev a) H
          exact ex (s := Instr.loadAt t (e a)) (by simp only [execOp, hop]) this
    · simp at he
  case store t a x =>
    rw [hop] at he; simp only [opEff] at he
    split at he
    · obtain ⟨w', U', ρ', h1, h2⟩ := storeH_ok he hc (hev a) (hev x) (by simpa using H)
      refine Goes.step ⟨undef, w', U', ρ', .inr ⟨?_, rfl⟩, by simpa using h2⟩
      simp only [execOp, hop, Sem.run_bind, h1, Result.andThen_ok, Sem.run_pure]
    · simp at he
  case convert s d x =>
    have he0 := he
    rw [hop] at he; simp only [opEff] at he
    cases hbs : bytesStr P s d with
    | false => simp only [hbs] at he; rw [← hop] at he; exact pureCase hc he
    | true =>
      simp only [hbs] at he
      split at he
      · split at he
        · rename_i v' c' hst
          simp only [Option.some.injEq, Prod.mk.injEq] at he
          obtain ⟨rfl, rfl, rfl⟩ := he
          obtain ⟨y, h1, h2⟩ := strH_ok hst hc (hev x) (by simpa using H)
          refine Goes.step ⟨y, w, U, ρ, .inl ?_, Leaves.same H h2 rfl⟩
          simp only [execOp, hop, Sem.run_bind, h1, Result.andThen_ok, Sem.run_pure]
        · simp at he
      · simp at he
  case call c =>
    have he0 := he
    rw [hop] at he; simp only [opEff] at he
    cases hcl : c.callee with
    | value f =>
      simp only [hcl] at he
      split at he
      · exact call_step hng hop hcl he hc hev H hnew
      · simp at he
    | invoke r m => simp only [hcl] at he; rw [← hop] at he; exact pureCase hc he
    | builtin b =>
      simp only [hcl] at he
      split at he
      · rename_i hb
        cases hb
        split at he
        · rename_i d s hargs
          split at he
          · rename_i t tx htys
            split at he
            · rename_i v' p' rest' c' ha
              simp only [Option.some.injEq, Prod.mk.injEq] at he
              obtain ⟨rfl, rfl, rfl⟩ := he
              obtain ⟨q, hq⟩ := appendH_post ha
              simp only [List.cons.injEq] at hq
              obtain ⟨rfl, rfl⟩ := hq
              obtain ⟨y, w', U', ρ', h1, h2⟩ := appendH_ok (ty := o.type) ha hc (hev d) (hev s) H hf
              have e1 : c.args = #[d, s] := by apply Array.ext'; simpa using hargs
              have e2 : c.argTypes = #[t, tx] := by apply Array.ext'; simpa using htys
              refine Goes.step ⟨y, w', U', ρ', .inl ?_, h2⟩
              simp only [execOp, hop, resolve, hcl, Sem.run_bind, Sem.run_pure, Result.andThen_ok, invoke, builtin, e1, e2]
              have : (#[d, s] : Array Operand).map e = #[e d, e s] := by simp
              rw [this, h1]; rfl
            · simp at he
          · simp at he
        · simp at he
      · rename_i hv; cases hv
      · rw [← hop] at he; exact pureCase hc he
  all_goals
    rw [hop] at he
    simp only [opEff] at he
    rw [← hop] at he
    exact pureCase hc he

end Sy
