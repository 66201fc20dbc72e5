/-
  Operations that look at no block of the heap (own work of this seat).
-/
import Derived.Test.YthifjamdfpjilaaSy3
import Derived.Laws.Entries
import Derived.Laws.Strings
namespace Sy
open Go

def All : List Prop → Prop
  | [] => True
  | p :: ps => p ∧ All ps
theorem All_append {a b : List Prop} : All (a ++ b) ↔ All a ∧ All b := by
  induction a with
  | nil => simp [All]
  | cons p ps ih => simp [All, ih, and_assoc]

/-! ### Lists of cells -/
def splitC : List V → Nat → Option (List V × List V)
  | [], n => bif Nat.beq n 0 then some ([], []) else none
  | v :: vs, n => bif Nat.beq n 0 then some ([], v :: vs) else bif Nat.ble v.csz n then
      match splitC vs (n - v.csz) with
      | some (a, b) => some (v :: a, b)
      | none => none
    else none
theorem splitC_spec : ∀ {cs : List V} {n : Nat} {a b : List V}, splitC cs n = some (a, b) → cs = a ++ b ∧ csize a = n
  | [], n, a, b, h => by
    unfold splitC at h
    cases hn : Nat.beq n 0 <;> simp [hn] at h
    obtain ⟨rfl, rfl⟩ := h
    simp at hn; exact ⟨rfl, by simp [csize, hn]⟩
  | v :: vs, n, a, b, h => by
    unfold splitC at h
    cases hn : Nat.beq n 0
    · cases hl : Nat.ble v.csz n <;> simp [hn, hl] at h
      cases hs : splitC vs (n - v.csz) with
      | none => simp [hs] at h
      | some p =>
        obtain ⟨a1, b1⟩ := p
        simp [hs] at h
        obtain ⟨rfl, rfl⟩ := h
        obtain ⟨h1, h2⟩ := splitC_spec hs
        simp at hl
        exact ⟨by rw [h1]; rfl, by simp only [csize, h2]; omega⟩
    · simp [hn] at h
      obtain ⟨rfl, rfl⟩ := h
      simp at hn; exact ⟨rfl, by simp [csize, hn]⟩

/-- The cells from one place on, so many. -/
def midC (cs : List V) (o n : Nat) : Option (List V) :=
  match splitC cs o with
  | some (_, b) => match splitC b n with
    | some (c, _) => some c
    | none => none
  | none => none
theorem midC_rel {U ρ cs o n c} {l : List Value} (h : midC cs o n = some c) (hl : CsRel U ρ cs l) : CsRel U ρ c ((l.drop o).take n) ∧ o + n ≤ l.length := by
  unfold midC at h
  cases h1 : splitC cs o with
  | none => simp [h1] at h
  | some p =>
    obtain ⟨a, b⟩ := p
    simp only [h1] at h
    cases h2 : splitC b n with
    | none => simp [h2] at h
    | some q =>
      obtain ⟨c', d⟩ := q
      simp only [h2, Option.some.injEq] at h
      subst h
      obtain ⟨rfl, h3⟩ := splitC_spec h1
      obtain ⟨rfl, h4⟩ := splitC_spec h2
      obtain ⟨la, lb, rfl, h5, h6⟩ := CsRel_append.1 hl
      obtain ⟨lc, ld, rfl, h7, h8⟩ := CsRel_append.1 h6
      have e1 := h5.len; have e2 := h7.len
      rw [h3] at e1; rw [h4] at e2
      refine ⟨?_, by simp; omega⟩
      rw [List.drop_append_of_le_length (by omega), List.drop_of_length_le (by omega), List.nil_append, List.take_append_of_le_length (by omega), List.take_of_length_le (by omega)]
      exact h7

/-! ### Types -/
def aggT (P : Program) (t : TypeId) : Bool :=
  match P.underlying t with
  | some (.struct _) => true
  | some (.array _ _) => true
  | _ => false
def szT (P : Program) (t : TypeId) : Nat := (P.info? t).elim 0 (·.size)

theorem run_under {P : Program} {t : TypeId} {d : TypeDesc} (h : P.underlying t = some d) (w : World) : (underlying t).run P w = .ok d w := run_underlying h w
theorem run_info {P : Program} {t : TypeId} {i : TypeInfo} (h : P.info? t = some i) (w : World) : (typeInfo t).run P w = .ok i w := by simp [typeInfo, h]
theorem run_size {P : Program} {t : TypeId} {i : TypeInfo} (h : P.info? t = some i) (w : World) : (Go.sizeOf t).run P w = .ok i.size w := by simp [Go.sizeOf, run_info h]
theorem info_of_under {P : Program} {t : TypeId} {d : TypeDesc} (h : P.underlying t = some d) : ∃ i, P.info? t = some i := by
  unfold Program.underlying at h
  cases hi : P.info? t with
  | none => simp [hi] at h
  | some i => exact ⟨i, rfl⟩
theorem run_isAgg {P : Program} {t : TypeId} {d : TypeDesc} (h : P.underlying t = some d) (w : World) : (isAgg t).run P w = .ok (aggT P t) w := by
  unfold isAgg aggT
  simp only [Sem.run_bind, run_under h, Result.andThen_ok, h]
  cases d <;> rfl

/-! ### Numbers -/
def InR (k : IntKind) (n : Int) : Prop := k.min ≤ n ∧ n ≤ k.max
theorem InR.wrap {k : IntKind} {n : Int} (h : InR k n) : k.wrap n = n := by
  obtain ⟨h1, h2⟩ := h
  cases k <;> simp [IntKind.min, IntKind.max, IntKind.signed, IntKind.bits, IntKind.wrap] at * <;> omega
theorem inr64 {n : Int} (h : -9223372036854775808 ≤ n) (h' : n ≤ 9223372036854775807) : InR .i64 n := by
  constructor <;> simp [IntKind.min, IntKind.max, IntKind.signed, IntKind.bits] <;> omega

/-- The bits of two numbers together. -/
def ibits (f : (m : Nat) → BitVec m → BitVec m → BitVec m) (k : IntKind) (x y : Int) : Int := k.wrap (f k.bits (BitVec.ofInt k.bits x) (BitVec.ofInt k.bits y)).toNat

def arith (k : IntKind) (n : Int) : V × List Prop := if k.signed then (.int k n, [InR k n]) else (.int k (k.wrap n), [])
theorem arith_rel {k : IntKind} {n : Int} {U ρ} (h : All (arith k n).2) : VRel U ρ (arith k n).1 (.int k (k.wrap n)) := by
  unfold arith at *
  by_cases hs : k.signed = true
  · simp only [hs, if_true, All, and_true] at h ⊢
    rw [h.wrap]; simp [VRel]
  · simp only [hs, if_false, Bool.false_eq_true]; simp [VRel]

/-- A two-handed operation on numbers of one kind. -/
def ibin (op : BinOp) (k : IntKind) (a b : Int) : Option (V × List Prop) :=
  match op with
  | .add => some (arith k (a + b))
  | .sub => some (arith k (a - b))
  | .mul => some (arith k (a * b))
  | .quo => some (.int k (a / b), [0 ≤ a ∧ 0 < b ∧ InR k (a / b)])
  | .rem => some (.int k (a % b), [0 ≤ a ∧ 0 < b])
  | .and => some (.int k (ibits (fun _ x y => x &&& y) k a b), [])
  | .or => some (.int k (ibits (fun _ x y => x ||| y) k a b), [])
  | .xor => some (.int k (ibits (fun _ x y => x ^^^ y) k a b), [])
  | .andNot => some (.int k (ibits (fun _ x y => x &&& ~~~y) k a b), [])
  | .eql => some (.bool (decide (a = b)), [])
  | .neq => some (.bool (!decide (a = b)), [])
  | .lss => some (.bool (decide (a < b)), [])
  | .leq => some (.bool (decide (a ≤ b)), [])
  | .gtr => some (.bool (decide (b < a)), [])
  | .geq => some (.bool (decide (b ≤ a)), [])
  | _ => none

theorem ibin_ok {P : Program} {op : BinOp} {k : IntKind} {a b : Int} {v : V} {cs : List Prop} {U ρ} {t : TypeId} (w : World) (h : ibin op k a b = some (v, cs)) (hc : All cs) :
    ∃ x, (binOp op t (.int k a) (.int k b)).run P w = .ok x w ∧ VRel U ρ v x := by
  cases op <;> simp only [ibin, Option.some.injEq, Prod.mk.injEq, reduceCtorEq] at h
  case add =>
    simp only [binOp, ne_eq, not_true_eq_false, if_false, Op.intArith, Sem.run_pure]
    exact ⟨_, rfl, by have := arith_rel (U := U) (ρ := ρ) (k := k) (n := a + b) (by rw [h]; exact hc); rw [h] at this; exact this⟩
  case sub =>
    simp only [binOp, ne_eq, not_true_eq_false, if_false, Op.intArith, Sem.run_pure]
    exact ⟨_, rfl, by have := arith_rel (U := U) (ρ := ρ) (k := k) (n := a - b) (by rw [h]; exact hc); rw [h] at this; exact this⟩
  case mul =>
    simp only [binOp, ne_eq, not_true_eq_false, if_false, Op.intArith, Sem.run_pure]
    exact ⟨_, rfl, by have := arith_rel (U := U) (ρ := ρ) (k := k) (n := a * b) (by rw [h]; exact hc); rw [h] at this; exact this⟩
  case quo =>
    obtain ⟨rfl, rfl⟩ := h
    obtain ⟨⟨h1, h2, h3⟩, _⟩ := hc
    refine ⟨.int k (a / b), ?_, by simp [VRel]⟩
    have hb : b ≠ 0 := by omega
    simp only [binOp, ne_eq, not_true_eq_false, if_false, Op.intDiv, hb, Sem.run_pure, Int.tdiv_eq_ediv_of_nonneg h1, h3.wrap]
  case rem =>
    obtain ⟨rfl, rfl⟩ := h
    obtain ⟨⟨h1, h2⟩, _⟩ := hc
    refine ⟨.int k (a % b), ?_, by simp [VRel]⟩
    have hb : b ≠ 0 := by omega
    simp only [binOp, ne_eq, not_true_eq_false, if_false, Op.intDiv, hb, Sem.run_pure, Int.tmod_eq_emod_of_nonneg h1]
  all_goals
    obtain ⟨rfl, rfl⟩ := h
    simp only [binOp, ne_eq, not_true_eq_false, if_false, Op.intBits, Op.intCmp, Sem.run_pure]
    exact ⟨_, rfl, by first | (rw [VRel]; done) | (rw [VRel]; rfl)⟩

/-- A shift. -/
def ishift (op : BinOp) (k : IntKind) (a b : Int) : Option (V × List Prop) :=
  match op with
  | .shl => some ((arith k (a * 2 ^ b.toNat)).1, (0 ≤ b ∧ b ≤ (k.bits : Int)) :: (arith k (a * 2 ^ b.toNat)).2)
  | .shr => some (.int k (a / 2 ^ b.toNat), [0 ≤ b ∧ b ≤ (k.bits : Int)])
  | _ => none
theorem ishift_ok {P : Program} {op : BinOp} {k k' : IntKind} {a b : Int} {v : V} {cs : List Prop} {U ρ} {t : TypeId} (w : World) (h : ishift op k a b = some (v, cs)) (hc : All cs) :
    ∃ x, (binOp op t (.int k a) (.int k' b)).run P w = .ok x w ∧ VRel U ρ v x := by
  cases op <;> simp only [ishift, Option.some.injEq, Prod.mk.injEq, reduceCtorEq] at h
  case shl =>
    obtain ⟨rfl, rfl⟩ := h
    obtain ⟨⟨h1, h2⟩, h3⟩ := hc
    have hb : ¬ b < 0 := by omega
    have hm : min b.toNat k.bits = b.toNat := by omega
    simp only [binOp, Op.shift, hb, if_false, hm, Sem.run_pure]
    exact ⟨_, rfl, arith_rel h3⟩
  case shr =>
    obtain ⟨rfl, rfl⟩ := h
    obtain ⟨⟨h1, h2⟩, h3⟩ := hc
    have hb : ¬ b < 0 := by omega
    have hm : min b.toNat k.bits = b.toNat := by omega
    refine ⟨.int k (a / 2 ^ b.toNat), ?_, by simp [VRel]⟩
    simp only [binOp, Op.shift, hb, if_false, hm, Sem.run_pure]
    rw [Int.fdiv_eq_ediv_of_nonneg _ (by exact Int.pow_nonneg (by omega))]

/-! ### Strings -/
theorem toList_inj (x y : ByteArray) : (x.toList == y.toList) = decide (x = y) := by
  rw [Bool.eq_iff_iff, beq_iff_eq, decide_eq_true_iff]
  constructor
  · intro h
    rw [ByteArray.toList_eq, ByteArray.toList_eq] at h
    have : x.data.toList = y.data.toList := h
    cases x; cases y
    simp at this
    simp [this]
  · rintro rfl; rfl
def sbin (op : BinOp) (x y : ByteArray) : Option (V × List Prop) :=
  match op with
  | .add => some (.str (x ++ y), [x.size + y.size ≤ 9223372036854775807])
  | .eql => some (.bool (decide (x = y)), [])
  | .neq => some (.bool (!decide (x = y)), [])
  | .lss => some (.bool (Op.bytesLess x.toList y.toList), [])
  | _ => none
theorem sbin_ok {P : Program} {op : BinOp} {a b : ByteArray} {v : V} {cs : List Prop} {U ρ} {t : TypeId} (w : World) (h : sbin op a b = some (v, cs)) (hc : All cs) :
    ∃ x, (binOp op t (.string a) (.string b)).run P w = .ok x w ∧ VRel U ρ v x := by
  cases op <;> simp only [sbin, Option.some.injEq, Prod.mk.injEq, reduceCtorEq] at h
  case add =>
    obtain ⟨rfl, rfl⟩ := h
    have h1 := hc.1
    refine ⟨.string (a ++ b), ?_, by simp [VRel]⟩
    have : ¬ ((a.size + b.size : Nat) : Int) > IntKind.i64.max := by simp [IntKind.max, IntKind.signed, IntKind.bits]; omega
    simp only [binOp, Op.stringOp, this, if_false, Sem.run_pure]
  all_goals
    obtain ⟨rfl, rfl⟩ := h
    simp only [binOp, Op.stringOp, Sem.run_pure]
    exact ⟨_, rfl, by first | (rw [VRel]; done) | (rw [VRel]; simp only [toList_inj])⟩

end Sy
