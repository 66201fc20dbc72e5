/-
  Hints for a body, found along a path of choices; nothing is proved of it (own work of this seat).
-/
import Derived.Test.YthifjamdfpjilaaSy18
namespace Sy
open Go


inductive PR.{u} (α : Type u) where
  | ok (a : α)
  | need (c : Option Bool)
  | call (k lo : Nat) (args : List V) (h : Heap)
  | bad (n : Nat) (st : List V) (h : Heap)

/-- What a call does, where it is made. -/
structure Cl where
  sym : Bool := false
  rd : List Nm := []
  pre : List Nm := []
  tl : Option (Nat × Heap) := none
  val : V
  post : Heap := []

/-- What is known of functions, loops, places. -/
structure Kb where
  db : Nat → List V → Heap → Nat → List Cl
  lp : Nat → St → List (Prop × Hint) := fun _ _ => []
  fx : Nat → St → List Hint := fun _ _ => []
  lit : Bool := false

/-- The next choice. -/
def nextB (kb : Kb) (c : Bool) (path : List Bool) : Option (Bool × List Bool) := match kb.lit with
  | true => match c with
    | true => some (true, path)
    | false => some (false, path)
  | false => match path with
    | [] => none
    | b :: path => some (b, path)

def guards (ops : Array Oper) (i : Nat) : Bool := ops.toList.any fun o => match o.guard with
  | some g => Nat.beq g.1 i
  | none => false

structure RegO where
  hs : List (Nat × OH)
  as : List Prop
  path : List Bool

def choose.{u} {α : Type u} : List α → List Bool → PR (α × List Bool)
  | [], _ => .bad 1 [] []
  | [a], p => .ok (a, p)
  | a :: l, p => match p with
    | [] => .need none
    | b :: p' => match b with
      | true => .ok (a, p')
      | false => choose l p'

def dirO (P : Program) (kb : Kb) (ops : Array Oper) (base i : Nat) (s : S) (path : List Bool) : PR (Option OH × List Prop × List Bool) :=
  match stepE P ops base [] i s with
  | none => .bad (60000 + i) s.tmps s.heap
  | some r => match r.ent.val with
    | .bool c => match nextB kb c path with
      | none => .need (some c)
      | some (x, path') => .ok (some (.dir x), [c = x], path')
    | _ => .bad (70000 + i) s.tmps s.heap

def autoOp (P : Program) (kb : Kb) (ops : Array Oper) (base i : Nat) (s : S) (path : List Bool) : PR (Option OH × List Prop × List Bool) :=
  match ops[i]? with
  | none => .bad 2 s.tmps s.heap
  | some o =>
    let ls := look s.tmps (gref ops o ++ tmpsOf o.op.operands.toList)
    match wantE ops ls o with
    | none => .bad (30000 + i) s.tmps s.heap
    | some w => match w with
      | false => .ok (none, [], path)
      | true => match o.op with
        | .call c => match c.callee with
          | .value f => match evL ls f with
            | .fn g a b => match g with
              | .func k => match choose (kb.db k (a ++ (mapEv (evL ls) c.args.toList ++ b)) s.heap (base + 64 * i)) path with
                | .need c => .need c
                | .call k lo as h => .call k lo as h
                | .bad _ _ _ => .call k (base + 64 * i) (a ++ (mapEv (evL ls) c.args.toList ++ b)) s.heap
                | .ok (cl, path) => match guards ops i with
                  | false => .ok (some (.call cl.sym cl.rd cl.pre cl.tl cl.val cl.post), [], path)
                  | true => match cl.val with
                    | .bool c => match nextB kb c path with
                      | none => .need (some c)
                      | some (x, path') => .ok (some (.call cl.sym cl.rd cl.pre cl.tl (.bool x) cl.post), [c = x], path')
                    | _ => .bad 3 s.tmps s.heap
              | _ => .bad 4 s.tmps s.heap
            | _ => .bad (50000 + i) s.tmps s.heap
          | _ => match guards ops i with
            | false => .ok (none, [], path)
            | true => dirO P kb ops base i s path
        | _ => match guards ops i with
          | false => .ok (none, [], path)
          | true => dirO P kb ops base i s path

def autoL (P : Program) (kb : Kb) (ops : Array Oper) (base : Nat) : List Nat → S → List Bool → PR (RegO × List V)
  | [], s, path => .ok (⟨[], [], path⟩, s.tmps)
  | i :: l, s, path => match autoOp P kb ops base i s path with
    | .need c => .need c
    | .call k lo as h => .call k lo as h
    | .bad n st h => .bad n st h
    | .ok (oh, as, path) =>
      let hs := match oh with
        | some h => [(i, h)]
        | none => []
      match stepE P ops base hs i s with
      | none => .bad (20000 + i) s.tmps s.heap
      | some r => match autoL P kb ops base l r.s path with
        | .need c => .need c
        | .call k lo as h => .call k lo as h
        | .bad n st h => .bad n st h
        | .ok (ro, ts) => .ok (⟨hs ++ ro.hs, as ++ ro.as, ro.path⟩, ts)

structure PO where
  e : Exit
  st : St
  hs : List Hint
  as : List Prop
  path : List Bool

def headId : Code → Nat
  | .region id _ _ => id
  | .seq x _ => headId x
  | .block _ c => headId c
  | .loop c => headId c
  | _ => 0

def prepPlan (p : Nat) (hs : List Hint) (st : St) : PR St := match prep p hs st with
  | none => .bad 5 st.tmps st.heap
  | some q => .ok q.1

def planIter (f : St → List Bool → PR PO) : Nat → St → List Bool → PR PO
  | 0, st, _ => .bad 6 st.tmps st.heap
  | n + 1, st, path => match f st path with
    | .need c => .need c
    | .call k lo as h => .call k lo as h
    | .bad n st h => .bad n st h
    | .ok r => match r.e with
      | .normal => match planIter f n r.st r.path with
        | .need c => .need c
        | .call k lo as h => .call k lo as h
        | .bad n st h => .bad n st h
        | .ok r2 => .ok { r2 with hs := r.hs ++ r2.hs, as := r.as ++ r2.as }
      | _ => .ok r

def plan (P : Program) (kb : Kb) (p : Nat) : Nat → Code → St → List Bool → PR PO
  | _, .skip, st, path => .ok ⟨.normal, st, [], [], path⟩
  | _, .ret, st, path => .ok ⟨.ret, st, [], [], path⟩
  | _, .exit id, st, path => .ok ⟨.exit id, st, [], [], path⟩
  | _, .region id ops draw, st, path => match autoL P kb ops st.next (List.range ops.size) ⟨st.tmps, st.heap⟩ path with
    | .need c => .need c
    | .call k lo as h => .call k lo as h
    | .bad n st h => .bad (100000 * id + n) st h
    | .ok (ro, _) => match regE P ops draw ro.hs st with
      | none => .bad (100000 * id + 7) st.tmps st.heap
      | some (st', _) => .ok ⟨.normal, st', (match hungry ops with
          | true => [.reg ro.hs]
          | false => []), ro.as, ro.path⟩
  | _, .seq x y, st, path => match plan P kb p 0 x st path with
    | .need c => .need c
    | .call k lo as h => .call k lo as h
    | .bad n st h => .bad n st h
    | .ok r => match r.e with
      | .normal =>
        let hs := kb.fx (headId y) r.st
        match prepPlan p hs r.st with
        | .need c => .need c
        | .call k lo as h => .call k lo as h
        | .bad n st h => .bad (100000 * headId y + n) st h
        | .ok st2 => match plan P kb p 0 y st2 r.path with
          | .need c => .need c
          | .call k lo as h => .call k lo as h
          | .bad n st h => .bad n st h
          | .ok r2 => .ok ⟨r2.e, r2.st, r.hs ++ (hs ++ r2.hs), r.as ++ r2.as, r2.path⟩
      | _ => .ok r
  | _, .cond o x y, st, path => match evV st.tmps o with
    | .bool c => match nextB kb c path with
      | none => .need (some c)
      | some (b, path) => match b with
        | true => match plan P kb p 0 x st path with
          | .need c => .need c
          | .call k lo as h => .call k lo as h
          | .bad n st h => .bad n st h
          | .ok r => .ok { r with hs := .br true :: r.hs, as := (c = true) :: r.as }
        | false => match plan P kb p 0 y st path with
          | .need c => .need c
          | .call k lo as h => .call k lo as h
          | .bad n st h => .bad n st h
          | .ok r => .ok { r with hs := .br false :: r.hs, as := (c = false) :: r.as }
    | _ => .bad 8 st.tmps st.heap
  | _, .block id c, st, path => match plan P kb p id c st path with
    | .need c => .need c
    | .call k lo as h => .call k lo as h
    | .bad n st h => .bad n st h
    | .ok r => match r.e with
      | .exit k => bif Nat.beq k id then .ok { r with e := .normal } else .ok r
      | _ => .ok r
  | id, .loop c, st, path => match choose (kb.lp id st) path with
    | .need c => .need c
    | .call k lo as h => .call k lo as h
    | .bad _ _ _ => .bad (40000 + id) st.tmps st.heap
    | .ok ((a, h), path) => match h with
      | .loop m k e st1 => .ok ⟨e, st1, [.loop m k e st1], [a], path⟩
      | .rounds n => match planIter (plan P kb p 0 c) n st path with
        | .need c => .need c
        | .call k lo as h => .call k lo as h
        | .bad n st h => .bad n st h
        | .ok r => .ok { r with hs := .rounds n :: r.hs }
      | _ => .bad 9 st.tmps st.heap
  | _, _, st, _ => .bad 10 st.tmps st.heap

/-- A function that is looked at. -/
structure Bd where
  f : Func
  args : List V
  pre : Heap := []
  base : Nat := 0
  kb : Kb
  k : Exit → St → Option W := fun _ _ => none
  names : St → List Nm := fun _ => []
  tl : Option Nat := none

def bodyOf (fn : Func) : Code := match fn.body with
  | some c => c
  | none => .skip

structure PW where
  po : PO
  hs : List Hint
  k : Option W
  names : List Nm

def planF (P : Program) (b : Bd) (path : List Bool) : PR PW :=
  let st0 : St := ⟨b.args ++ List.replicate (b.f.ntmps - b.args.length) (.tup []), b.pre, b.base, []⟩
  let hs0 := b.kb.fx (headId (bodyOf b.f)) st0
  match prepPlan b.base hs0 st0 with
  | .need c => .need c
  | .call k lo as h => .call k lo as h
  | .bad n st h => .bad n st h
  | .ok st1 => match plan P b.kb b.base 0 (bodyOf b.f) st1 path with
    | .need c => .need c
    | .call k lo as h => .call k lo as h
    | .bad n st h => .bad n st h
    | .ok r => .ok ⟨r, hs0 ++ r.hs, b.k r.e r.st, b.names r.st⟩

/-- The body along a path. -/
def along (P : Program) (b : Bd) (path : List Bool) : Option (V × Heap × List Prop) := match planF P b path with
  | .ok w => fnB P b.f (bodyOf b.f) b.args b.pre b.base w.hs w.k w.names b.tl
  | _ => none

theorem T_along {P : Program} (hng : NoNG P) (hm : P.follows .mixedOrders = true) {f : FuncId} {b : Bd} (path : List Bool) {val : V} {post : Heap} {cs : List Prop} (h : along P b path = some (val, post, cs)) (hf : P.funcs[f]? = some b.f) (hb : b.f.body = some (bodyOf b.f)) (hc : All cs) (hpin : PinH b.base b.pre) (hargs : V.withins (Nm.pin b.base) b.args = true) :
    T P f b.args b.pre val post := by
  unfold along at h
  cases hp : planF P b path <;> simp only [hp, reduceCtorEq] at h
  exact T_of_fnB hng hm hf hb h hc hpin hargs

/-- A piece of code that is looked at. -/
structure Pc where
  c : Code
  st : St
  p : Nat := 0
  kb : Kb
  k : Exit → St → Option W := fun _ _ => none

def planPc (P : Program) (b : Pc) (path : List Bool) : PR PW :=
  let hs0 := b.kb.fx (headId b.c) b.st
  match prepPlan b.p hs0 b.st with
  | .need c => .need c
  | .call k lo as h => .call k lo as h
  | .bad n st h => .bad n st h
  | .ok st1 => match plan P b.kb b.p 0 b.c st1 path with
    | .need c => .need c
    | .call k lo as h => .call k lo as h
    | .bad n st h => .bad n st h
    | .ok r => .ok ⟨r, hs0 ++ r.hs, b.k r.e r.st, []⟩

def alongPc (P : Program) (b : Pc) (path : List Bool) : Option (Exit × St × List Prop) := match planPc P b path with
  | .ok w => bodyRunO P none b.p b.c b.st w.hs w.k
  | _ => none

theorem R_alongPc {P : Program} (hng : NoNG P) (hm : P.follows .mixedOrders = true) {b : Pc} (path : List Bool) {e : Exit} {st' : St} {cs : List Prop} (h : alongPc P b path = some (e, st', cs)) (hc : All cs) (hp : b.p ≤ b.st.next) : R P none b.p b.c b.st e st' := by
  unfold alongPc at h
  cases hp' : planPc P b path <;> simp only [hp', reduceCtorEq] at h
  exact R_of_bodyRunO hng hm h hc hp

/-- Calls by their places. -/
def lookN : List (Nat × Cl) → Nat → List Cl
  | [], _ => []
  | p :: r, n => bif Nat.beq p.1 n then [p.2] else lookN r n
def dbT (l : List (Nat × Cl)) : Nat → List V → Heap → Nat → List Cl := fun _ _ _ lo => lookN l lo
/-- What was found at these calls, all loops by rounds. -/
def kbT (l : List (Nat × Cl)) : Kb := ⟨dbT l, fun _ _ => [(True, .rounds 1000)], fun _ _ => [], true⟩
/-- A list as a function. -/
def lst : List (List V) → Nat → List V
  | [], _ => []
  | v :: _, 0 => v
  | _ :: r, n + 1 => lst r n
def AllK : Nat → (Nat → Prop) → Prop
  | 0, _ => True
  | n + 1, p => AllK n p ∧ p n
theorem AllK.all : ∀ {n : Nat} {p : Nat → Prop}, AllK n p → ∀ k, k < n → p k
  | 0, _, _, k, h => absurd h (Nat.not_lt_zero k)
  | n + 1, p, h, k, hk => by
    by_cases e : k = n
    · subst e; exact h.2
    · exact AllK.all h.1 k (by omega)
/-! ### Notations -/
def nth : List V → Nat → V
  | [], _ => .any
  | v :: _, 0 => v
  | _ :: r, n + 1 => nth r n
/-- So many temporaries; those that are named have these values. -/
def mkT (n : Nat) (l : List (Nat × V)) : List V := (List.range n).map fun i => find l i
def setsOf : List (Nat × V) → List (Nat × K)
  | [] => []
  | p :: r => (p.1, .set p.2) :: setsOf r
def hsetsOf : Heap → List (Nm × HK)
  | [] => []
  | p :: r => (p.1, .set p.2) :: hsetsOf r
def enumT : Nat → List V → List (Nat × V)
  | _, [] => []
  | n, v :: r => match v with
    | .any => enumT (n + 1) r
    | v => (n, v) :: enumT (n + 1) r
/-- Weaken to just this state. -/
def wTo (st : St) : W := ⟨[], setsOf (enumT 0 st.tmps), hsetsOf st.heap, none, st.next⟩
def wToS (sw : List (Nm × Nm)) (st : St) : W := ⟨sw, setsOf (enumT 0 st.tmps), hsetsOf st.heap, none, st.next⟩

end Sy
