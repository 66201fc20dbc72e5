/-
  One operation: a function of the abstract values, and its law (own work of this seat).
-/
import Derived.Test.YthifjamdfpjilaaSy9
namespace Sy
open Go

variable {P : Program} {U : Imm} {ρ : Env}

def someL {α : Type} : Option α → List Prop → Option (α × List Prop)
  | some v, c => some (v, c)
  | none, _ => none
/-- Have the elements of this type's values a table's row? -/
def elemOk (P : Program) (t : TypeId) : Bool := match P.underlying t with
  | some (.array _ e) => (P.info? e).isSome
  | some (.slice e) => (P.info? e).isSome
  | _ => true
theorem elemOk_spec {t : TypeId} (h : elemOk P t = true) : ∀ e, (∃ len, P.underlying t = some (.array len e)) ∨ P.underlying t = some (.slice e) → (P.info? e).isSome = true := by
  intro e he
  unfold elemOk at h
  rcases he with ⟨len, he⟩ | he <;> simpa [he] using h

def isIface (P : Program) (t : TypeId) : Bool := match P.underlying t with
  | some (.interface _) => true
  | none => true
  | _ => false

def lenV (P : Program) (t : TypeId) (x : V) : Option V :=
  match P.underlying t with
  | some .string => match x with
    | .str s => some (.int .i64 (s.size : Int))
    | _ => none
  | some (.array n _) => some (.int .i64 (n : Int))
  | some (.slice _) => match x with
    | .snil => some (.int .i64 0)
    | .ros _ len _ _ => some (.int .i64 (len : Int))
    | .sl _ _ _ _ _ len _ => some (.int .i64 (len : Int))
    | _ => none
  | some (.map _ _) => match x with
    | .mpnil => some (.int .i64 0)
    | _ => none
  | _ => none
theorem lenV_ok {t : TypeId} {a v : V} {x : Value} {ts : Array TypeId} {r : TypeId} {xs : Array Value} (h : lenV P t a = some v) (ha : VRel U ρ a x) (h1 : ts[0]? = some t) (h2 : xs[0]? = some x) (w : World) :
    ∃ z, (Builtin.len_ ts r xs).run P w = .ok z w ∧ VRel U ρ v z := by
  unfold lenV at h
  have run : (Builtin.len_ ts r xs).run P w = (match ts[0]?, xs[0]? with
    | some t, some x => (Builtin.len_ #[t] r #[x]).run P w
    | _, _ => (Builtin.len_ ts r xs).run P w) := by
    rw [h1, h2]; unfold Builtin.len_; simp [h1, h2]
  rw [run, h1, h2]
  simp only
  cases hu : P.underlying t with
  | none => simp [hu] at h
  | some d =>
    cases d <;> simp only [hu, reduceCtorEq] at h
    case string =>
      cases a <;> simp only [reduceCtorEq, Option.some.injEq] at h
      rename_i s
      subst h
      rw [VRel] at ha; subst ha
      exact ⟨.int .i64 (s.size : Int), by simp [Builtin.len_, run_under hu, goInt], by rw [VRel]⟩
    case array n e =>
      simp only [Option.some.injEq] at h; subst h
      exact ⟨.int .i64 (n : Int), by simp [Builtin.len_, run_under hu, goInt], by rw [VRel]⟩
    case slice e =>
      cases a <;> simp only [reduceCtorEq, Option.some.injEq] at h <;> subst h
      · rw [VRel] at ha; subst ha
        exact ⟨.int .i64 _, by simp [Builtin.len_, run_under hu, goInt]; rfl, by rw [VRel]⟩
      · obtain ⟨_, _, rfl⟩ := shape_sl ha
        exact ⟨.int .i64 _, by simp [Builtin.len_, run_under hu, goInt]; rfl, by rw [VRel]⟩
      · rw [VRel] at ha; obtain ⟨_, _, rfl, _⟩ := ha
        exact ⟨.int .i64 _, by simp [Builtin.len_, run_under hu, goInt]; rfl, by rw [VRel]⟩
    case map k e =>
      cases a <;> simp only [reduceCtorEq, Option.some.injEq] at h
      subst h
      rw [VRel] at ha; subst ha
      exact ⟨.int .i64 _, by simp [Builtin.len_, run_under hu, goInt]; rfl, by rw [VRel]⟩

def nilCheckV : V → Option V
  | .ptr n es i o j => some (.ptr n es i o j)
  | .rop cs o j => some (.rop cs o j)
  | .fn (.func f) a b => some (.fn (.func f) a b)
  | _ => none

def mapEv (ev : Operand → V) : List Operand → List V
  | [] => []
  | x :: xs => ev x :: mapEv ev xs
def pairEv (ev : Operand → V) : List (Nat × Operand) → List (Nat × V)
  | [] => []
  | (i, x) :: xs => (i, ev x) :: pairEv ev xs
theorem mapEv_rel {ev : Operand → V} {e : Operand → Value} (h : ∀ x, VRel U ρ (ev x) (e x)) : ∀ l : List Operand, VsRel U ρ (mapEv ev l) (l.map e)
  | [] => by rw [mapEv, VsRel]; rfl
  | x :: xs => by rw [mapEv, VsRel]; exact ⟨_, _, rfl, h x, mapEv_rel h xs⟩
theorem pairEv_rel {ev : Operand → V} {e : Operand → Value} (h : ∀ x, VRel U ρ (ev x) (e x)) : ∀ l : List (Nat × Operand), PairsRel U ρ (pairEv ev l) (l.map fun (i, x) => (i, e x))
  | [] => by rw [pairEv, PairsRel]; rfl
  | (i, x) :: xs => by rw [pairEv, PairsRel]; exact ⟨_, _, rfl, h x, pairEv_rel h xs⟩

/-- What an operation that leaves the heap as it is comes to. -/
def pureV (P : Program) (ev : Operand → V) : Op → Option (V × List Prop)
  | .move x => some (ev x, [])
  | .assign x => some (ev x, [])
  | .pick c a b => match ev c with
    | .bool t => match t with
      | true => some (ev a, [])
      | false => some (ev b, [])
    | _ => none
  | .build t parts => someL (buildV P t (pairEv ev parts.toList)) []
  | .binOp op t x y _ => binV P op t (ev x) (ev y)
  | .unOp op _ x => unV op (ev x)
  | .convert s d x => convV P s d (ev x)
  | .makeInterface t x => bif isIface P t then none else some (.ifc t (ev x), [])
  | .makeFunc f a b => some (.fn f (mapEv ev a.toList) (mapEv ev b.toList), [])
  | .slice t x lo hi mx => match intO (lo.map ev) with
    | none => none
    | some l => match intO (hi.map ev) with
      | none => none
      | some h => match intO (mx.map ev) with
        | none => none
        | some m => bif elemOk P t then sliceV P t (ev x) l h m else none
  | .fieldAddr s x f => someL (fieldAddrV P s (ev x) f) []
  | .field t x f => someL (fieldV P t (ev x) f) []
  | .indexAddr t x i => bif elemOk P t then indexAddrV P t (ev x) (ev i) else none
  | .index t x i => bif elemOk P t then indexV P t (ev x) (ev i) else none
  | .extract x i => match ev x with
    | .tup vs => match vs[i]? with
      | some v => some (v, [])
      | none => none
    | _ => none
  | .nilCheck x => someL (nilCheckV (ev x)) []
  | .load t a => match ev a with
    | .rop cs o j => loadC P t cs o j
    | _ => none
  | .call c => match c.callee with
    | .builtin .len => match c.argTypes[0]? with
      | some t => match c.args[0]? with
        | some x => someL (lenV P t (ev x)) []
        | none => none
      | none => none
    | _ => none
  | _ => none

theorem VsRel_get {vs : List V} {l : List Value} {i : Nat} {v : V} (h : VsRel U ρ vs l) (hv : vs[i]? = some v) : ∃ x, l[i]? = some x ∧ VRel U ρ v x := by
  induction vs generalizing l i with
  | nil => simp at hv
  | cons u us ih =>
    rw [VsRel] at h
    obtain ⟨x, r, rfl, h1, h2⟩ := h
    cases i with
    | zero => simp at hv; subst hv; exact ⟨x, rfl, h1⟩
    | succ i => simp at hv; obtain ⟨y, h3, h4⟩ := ih h2 hv; exact ⟨y, by simpa using h3, h4⟩

theorem someL_some {α : Type} {o : Option α} {c c' : List Prop} {v : α} (h : someL o c = some (v, c')) : o = some v ∧ c = c' := by
  cases o <;> simp [someL] at h
  exact ⟨by rw [h.1], h.2⟩

theorem opt_rel {ev : Operand → V} {e : Operand → Value} (h : ∀ x, VRel U ρ (ev x) (e x)) {o : Option Operand} {n : Option Int} (hn : intO (o.map ev) = some n) : OptRel n (o.map e) := by
  refine intO_rel (U := U) (ρ := ρ) hn (fun u hu => ?_) (fun hu => ?_)
  · cases o with
    | none => simp at hu
    | some x => simp at hu; subst hu; exact ⟨_, rfl, h x⟩
  · cases o with
    | none => rfl
    | some x => simp at hu

theorem pureV_ok {ev : Operand → V} {e : Operand → Value} {o : Oper} {v : V} {cs : List Prop} (h : pureV P ev o.op = some (v, cs)) (hc : All cs) (hev : ∀ x, VRel U ρ (ev x) (e x)) {pre : Heap} {w : World} (H : HRel U ρ pre w) :
    ∃ x, (execOp e o).run P w = .ok (.value x) w ∧ VRel U ρ v x := by
  have val : ∀ {s : Sem Value} {x : Value}, s.run P w = .ok x w → (do pure (.value (← s)) : Sem Next).run P w = .ok (.value x) w := by
    intro s x hs
    simp only [Sem.run_bind, hs, Result.andThen_ok, Sem.run_pure]
  unfold execOp
  cases hop : o.op <;> rw [hop] at h <;> simp only [pureV, reduceCtorEq] at h
  case move x => simp only [Option.some.injEq, Prod.mk.injEq] at h; obtain ⟨rfl, rfl⟩ := h; exact ⟨_, rfl, hev x⟩
  case assign x => simp only [Option.some.injEq, Prod.mk.injEq] at h; obtain ⟨rfl, rfl⟩ := h; exact ⟨_, rfl, hev x⟩
  case pick c a b =>
    have hcv := hev c
    cases hcc : ev c <;> simp only [hcc, reduceCtorEq] at h
    rename_i t
    rw [hcc, VRel] at hcv
    cases t <;> simp only [Option.some.injEq, Prod.mk.injEq] at h <;> obtain ⟨rfl, rfl⟩ := h
    · exact ⟨e b, by simp [asBool, hcv], hev b⟩
    · exact ⟨e a, by simp [asBool, hcv], hev a⟩
  case build t parts =>
    obtain ⟨h0, rfl⟩ := someL_some h
    obtain ⟨z, h1, h2⟩ := buildV_ok (xs := parts.map fun (i, x) => (i, e x)) h0 (by rw [Array.toList_map]; exact pairEv_rel hev _) w
    exact ⟨z, val h1, h2⟩
  case load t a =>
    have ha := hev a
    cases haa : ev a <;> simp only [haa, reduceCtorEq] at h
    rename_i c0 o0 j0
    rw [haa, VRel] at ha
    obtain ⟨b, base, c, h1, h2, l, h3, h4⟩ := ha
    obtain ⟨el, fr, h5⟩ := H.imm b c h1
    obtain ⟨x, h6, h7⟩ := loadC_ok (ρ := ρ) h hc (CsRel.mono (Imm.le_refl _) (Env.none_le _) h3) (w := w) (b := b) (base := base) (fun k hk => by rw [cell_of h5]; exact h4 k hk)
    exact ⟨x, val (by simp only [Instr.loadAt, h2, Instr.sureAddr, Sem.run_bind, Sem.run_pure, Result.andThen_ok]; exact h6), h7⟩
  case nilCheck x =>
    obtain ⟨h0, rfl⟩ := someL_some h
    have hx := hev x
    unfold nilCheckV at h0
    split at h0 <;> simp only [reduceCtorEq, Option.some.injEq] at h0 <;> subst h0 <;> rename_i heq <;> rw [heq] at hx
    · obtain ⟨a, ha⟩ := shape_ptr hx; exact ⟨e x, by simp [ha], hx⟩
    · obtain ⟨a, ha⟩ := shape_rop hx; exact ⟨e x, by simp [ha], hx⟩
    · obtain ⟨l, m, ha⟩ := shape_fn hx; exact ⟨e x, by simp [ha], hx⟩
  case binOp op t x y yt =>
    obtain ⟨z, h1, h2⟩ := binV_ok (ox := x) (oy := y) h hc (hev x) (hev y) w
    exact ⟨z, val h1, h2⟩
  case unOp op t x =>
    obtain ⟨z, h1, h2⟩ := unV_ok h hc (hev x) w
    exact ⟨z, val h1, h2⟩
  case convert s d x =>
    obtain ⟨z, h1, h2⟩ := convV_ok h hc (hev x) w
    exact ⟨z, val h1, h2⟩
  case makeInterface t x =>
    cases hi : isIface P t <;> simp only [hi, cond_true, cond_false, reduceCtorEq, Option.some.injEq, Prod.mk.injEq] at h
    obtain ⟨rfl, rfl⟩ := h
    refine ⟨.iface t (e x), val ?_, by rw [VRel]; exact ⟨_, rfl, hev x⟩⟩
    unfold isIface at hi
    cases hu : P.underlying t with
    | none => simp [hu] at hi
    | some d =>
      simp only [Instr.makeInterface, Sem.run_bind, run_under hu, Result.andThen_ok]
      cases d <;> first | rfl | (simp [hu] at hi)
  case makeFunc f a b =>
    simp only [Option.some.injEq, Prod.mk.injEq] at h
    obtain ⟨rfl, rfl⟩ := h
    refine ⟨.func f (a.map e) (b.map e), rfl, ?_⟩
    rw [VRel]
    exact ⟨_, _, rfl, by rw [Array.toList_map]; exact mapEv_rel hev _, by rw [Array.toList_map]; exact mapEv_rel hev _⟩
  case slice t x lo hi mx =>
    cases h1 : intO (lo.map ev) <;> simp only [h1, reduceCtorEq] at h
    cases h2 : intO (hi.map ev) <;> simp only [h2, reduceCtorEq] at h
    cases h3 : intO (mx.map ev) <;> simp only [h3, reduceCtorEq] at h
    cases h4 : elemOk P t <;> simp only [h4, cond_true, cond_false, reduceCtorEq] at h
    obtain ⟨z, h5, h6⟩ := sliceV_ok (intSizes_all P) h hc (hev x) (opt_rel hev h1) (opt_rel hev h2) (opt_rel hev h3) (fun e' he => elemOk_spec h4 e' (he.symm.imp id id)) w
    exact ⟨z, val h5, h6⟩
  case fieldAddr s x f =>
    obtain ⟨h0, rfl⟩ := someL_some h
    obtain ⟨z, h1, h2⟩ := fieldAddrV_ok h0 (hev x) w
    exact ⟨z, val h1, h2⟩
  case field t x f =>
    obtain ⟨h0, rfl⟩ := someL_some h
    obtain ⟨z, h1, h2⟩ := fieldV_ok h0 (hev x) w
    exact ⟨z, val h1, h2⟩
  case indexAddr t x i =>
    cases h4 : elemOk P t <;> simp only [h4, cond_true, cond_false, reduceCtorEq] at h
    obtain ⟨z, h1, h2⟩ := indexAddrV_ok (intSizes_all P) h hc (hev x) (hev i) (elemOk_spec h4) w
    exact ⟨z, val h1, h2⟩
  case index t x i =>
    cases h4 : elemOk P t <;> simp only [h4, cond_true, cond_false, reduceCtorEq] at h
    obtain ⟨z, h1, h2⟩ := indexV_ok h hc (hev x) (hev i) (fun e' len he => ⟨elemOk_spec h4 e' (.inl ⟨len, he⟩), fun hi => ⟨(intT_spec hi).2.2, (intT_spec hi).2.1⟩⟩) w
    exact ⟨z, val h1, h2⟩
  case extract x i =>
    have hx := hev x
    cases hxx : ev x <;> simp only [hxx, reduceCtorEq] at h
    rename_i vs
    cases hvi : vs[i]? <;> simp only [hvi, reduceCtorEq, Option.some.injEq, Prod.mk.injEq] at h
    obtain ⟨rfl, rfl⟩ := h
    rw [hxx, VRel] at hx
    obtain ⟨l, h1, h2⟩ := hx
    obtain ⟨y, h3, h4⟩ := VsRel_get h2 hvi
    refine ⟨y, val ?_, h4⟩
    rw [Array.getElem?_toList] at h3
    simp [Instr.extract, h1, h3]
  case call c =>
    cases hcl : c.callee with
    | value f => simp [hcl] at h
    | invoke r m => simp [hcl] at h
    | builtin b =>
      cases b <;> simp only [hcl, reduceCtorEq] at h
      cases ht : c.argTypes[0]? <;> simp only [ht, reduceCtorEq] at h
      cases hx : c.args[0]? <;> simp only [hx, reduceCtorEq] at h
      rename_i t x
      obtain ⟨h0, rfl⟩ := someL_some h
      obtain ⟨z, h1, h2⟩ := lenV_ok (r := o.type) (ts := c.argTypes) (xs := c.args.map e) h0 (hev x) ht (by simp [hx]) w
      refine ⟨z, ?_, h2⟩
      simp only [resolve, hcl, Sem.run_bind, Sem.run_pure, Result.andThen_ok, invoke, builtin, h1]

end Sy
