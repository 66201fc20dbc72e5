/-
  Abstract values and their relation to the model's values and worlds (own work of this seat).
-/
import Derived.CallsIn
import Derived.RangeFuncLeaves
import Derived.KernelRfl
namespace Sy
open Go

/-- Names of blocks: 'o': made by the activation that is looked at, or handed to it; 'g': of a heap that is carried along. -/
inductive Nm where
  | o (n : Nat)
  | g (n : Nat)
  deriving DecidableEq

def Nm.beq : Nm → Nm → Bool
  | .o a, .o b => Nat.beq a b
  | .g a, .g b => Nat.beq a b
  | _, _ => false

theorem Nm.beq_iff {a b : Nm} : a.beq b = true ↔ a = b := by
  cases a <;> cases b <;> simp [Nm.beq]

/-- Abstract values. 'any': nothing is known. 'seg': as many cells of numbers of one kind (only as a part of a list of cells). -/
inductive V where
  | any
  | bool (b : Bool)
  | int (k : IntKind) (n : Int)
  | str (s : ByteArray)
  | pnil
  | ptr (n : Nm) (es i o j : Nat)
  | rop (cs : List V) (o j : Nat)
  | snil
  | sl (n : Nm) (es i o j len : Nat) (cap : Option Nat)
  | ros (es len : Nat) (f : Nat → List V) (clip : Bool)
  | fn (f : Fn) (first cap : List V)
  | fnil
  | ifc (t : TypeId) (v : V)
  | inil
  | agg (cs : List V)
  | tup (vs : List V)
  | mp (n : Nm)
  | yld (n : Nm)
  | mpnil
  | seg (k : IntKind) (m : Nat) (xs : List Int)

/-- One cell. -/
def V.cell : V → Bool
  | .seg .. | .agg _ | .tup _ => false
  | _ => true
/-- One cell, of which something is known. -/
def V.one : V → Bool
  | .seg .. | .agg _ | .tup _ | .any => false
  | _ => true
theorem V.cell_of_one {v : V} (h : v.one = true) : v.cell = true := by cases v <;> simp_all [V.one, V.cell]

abbrev Imm := Nat → Option (Array Value)
/-- Where a block lies; 'real = false': nowhere (a nil slice's). -/
structure Loc where
  blk : Nat
  sz : Nat
  real : Bool := true
abbrev Env := Nm → Option Loc
def Env.none : Env := fun _ => Option.none

mutual
def VRel (U : Imm) (ρ : Env) : V → Value → Prop
  | .any, _ => True
  | .bool b, x => x = .bool b
  | .int k n, x => x = .int k n
  | .str s, x => x = .string s
  | .pnil, x => x = .pointer none
  | .ptr n es i o j, x => ∃ l, ρ n = some l ∧ l.real = true ∧ x = .pointer (some ⟨l.blk, i * es + o + j, none⟩)
  | .rop cs o j, x => ∃ b base c, U b = some c ∧ x = .pointer (some ⟨b, base + o + j, none⟩) ∧ ∃ l, CsRel U Env.none cs l ∧ ∀ k, k < l.length → c[base + k]? = l[k]?
  | .snil, x => x = .slice none 0 0
  | .sl n es i o j len cap, x => ∃ l cp, ρ n = some l ∧ len ≤ cp ∧ (∀ c, cap = some c → cp = c) ∧ ((l.real = true ∧ x = .slice (some ⟨l.blk, i * es + o + j, none⟩) len cp ∧ (i + cp) * es ≤ l.sz) ∨ (l.real = false ∧ x = .slice none 0 0 ∧ len = 0 ∧ cp = 0))
  | .ros es len f clip, x => ∃ a cp, x = .slice a len cp ∧ len ≤ cp ∧ (clip = true → cp = len) ∧ ∀ i, i < len → ∃ b base c, a = some ⟨b, base, none⟩ ∧ U b = some c ∧ ∃ l, CsRel U Env.none (f i) l ∧ l.length = es ∧ ∀ k, k < l.length → c[base + i * es + k]? = l[k]?
  | .fn f a b, x => ∃ l m, x = .func f l m ∧ VsRel U ρ a l.toList ∧ VsRel U ρ b m.toList
  | .fnil, x => x = .nilFunc
  | .ifc t v, x => ∃ y, x = .iface t y ∧ VRel U ρ v y
  | .inil, x => x = .nilIface
  | .agg cs, x => ∃ l, x = .agg l ∧ CsRel U ρ cs l.toList
  | .tup cs, x => ∃ l, x = .tuple l ∧ VsRel U ρ cs l.toList
  | .mp n, x => ∃ l, ρ n = some l ∧ l.real = true ∧ x = .map (some l.blk)
  | .yld n, x => ∃ l, ρ n = some l ∧ l.real = true ∧ x = .func (.yield l.blk) #[] #[]
  | .mpnil, x => x = .map none
  | .seg _ _ _, _ => False
def VsRel (U : Imm) (ρ : Env) : List V → List Value → Prop
  | [], l => l = []
  | v :: vs, l => ∃ x r, l = x :: r ∧ VRel U ρ v x ∧ VsRel U ρ vs r
/-- A list of cells: each value one cell (none is 'agg', 'tup'), but 'seg', which is many. -/
def CsRel (U : Imm) (ρ : Env) : List V → List Value → Prop
  | [], l => l = []
  | v :: vs, l => ∃ l1 l2, l = l1 ++ l2 ∧ ((∃ k m xs, v = .seg k m xs ∧ xs.length = m ∧ l1 = xs.map (Value.int k)) ∨ (V.cell v = true ∧ ∃ x, l1 = [x] ∧ VRel U ρ v x)) ∧ CsRel U ρ vs l2
end

/-- How many cells a part has. -/
def V.csz : V → Nat
  | .seg _ m _ => m
  | _ => 1
def csize : List V → Nat
  | [] => 0
  | v :: vs => v.csz + csize vs

theorem CsRel.len {U ρ} : ∀ {cs l}, CsRel U ρ cs l → l.length = csize cs
  | [], l, h => by rw [CsRel] at h; subst h; rfl
  | v :: vs, l, h => by
    rw [CsRel] at h
    obtain ⟨l1, l2, rfl, h1, h2⟩ := h
    have := CsRel.len h2
    rcases h1 with ⟨k, m, xs, rfl, hm, rfl⟩ | ⟨hc, x, rfl, _⟩
    · simp [csize, V.csz, this, hm]
    · have : V.csz v = 1 := by cases v <;> first | rfl | simp [V.cell] at hc
      simp [csize, *]; omega

theorem CsRel_append {U ρ} : ∀ {a b l}, CsRel U ρ (a ++ b) l ↔ ∃ la lb, l = la ++ lb ∧ CsRel U ρ a la ∧ CsRel U ρ b lb
  | [], b, l => by
    constructor
    · intro h; exact ⟨[], l, rfl, by rw [CsRel], h⟩
    · rintro ⟨la, lb, rfl, h1, h2⟩; rw [CsRel] at h1; subst h1; exact h2
  | v :: vs, b, l => by
    rw [List.cons_append, CsRel]
    constructor
    · rintro ⟨l1, l2, rfl, h1, h2⟩
      obtain ⟨la, lb, rfl, h3, h4⟩ := CsRel_append.1 h2
      exact ⟨l1 ++ la, lb, by simp, by rw [CsRel]; exact ⟨l1, la, rfl, h1, h3⟩, h4⟩
    · rintro ⟨la, lb, rfl, h1, h2⟩
      rw [CsRel] at h1
      obtain ⟨l1, l2, rfl, h3, h4⟩ := h1
      exact ⟨l1, l2 ++ lb, by simp, h3, CsRel_append.2 ⟨l2, lb, rfl, h4, h2⟩⟩

theorem CsRel_one {U ρ v vs l} (h : V.cell v = true) : CsRel U ρ (v :: vs) l ↔ ∃ x r, l = x :: r ∧ VRel U ρ v x ∧ CsRel U ρ vs r := by
  rw [CsRel]
  constructor
  · rintro ⟨l1, l2, rfl, h1, h2⟩
    rcases h1 with ⟨k, m, xs, rfl, hm, rfl⟩ | ⟨hc, x, rfl, hx⟩
    · simp [V.cell] at h
    · exact ⟨x, l2, rfl, hx, h2⟩
  · rintro ⟨x, r, rfl, hx, hr⟩
    exact ⟨[x], r, rfl, .inr ⟨h, x, rfl, hx⟩, hr⟩
theorem CsRel_seg {U ρ k m xs vs l} : CsRel U ρ (.seg k m xs :: vs) l ↔ xs.length = m ∧ ∃ r, l = xs.map (Value.int k) ++ r ∧ CsRel U ρ vs r := by
  rw [CsRel]
  constructor
  · rintro ⟨l1, l2, rfl, h1, h2⟩
    rcases h1 with ⟨k, m, xs, hv, hm, rfl⟩ | ⟨hc, _⟩
    · cases hv; exact ⟨hm, l2, rfl, h2⟩
    · simp [V.cell] at hc
  · rintro ⟨hm, r, rfl, hr⟩
    exact ⟨_, r, rfl, .inl ⟨_, _, _, rfl, hm, rfl⟩, hr⟩

/-! ### More is known, more blocks are there -/
def Imm.le (U U' : Imm) : Prop := ∀ b c, U b = some c → U' b = some c
def Env.le (ρ ρ' : Env) : Prop := ∀ n l, ρ n = some l → ρ' n = some l
theorem Imm.le_refl (U : Imm) : U.le U := fun _ _ h => h
theorem Env.le_refl (ρ : Env) : ρ.le ρ := fun _ _ h => h
theorem Imm.le_trans {U U' U'' : Imm} (h : U.le U') (h' : U'.le U'') : U.le U'' := fun b c e => h' b c (h b c e)
theorem Env.le_trans {U U' U'' : Env} (h : U.le U') (h' : U'.le U'') : U.le U'' := fun b c e => h' b c (h b c e)

mutual
/-- The names in a value, each by another name. (What is immutable holds none.) -/
def V.ren (σ : Nm → Nm) : V → V
  | .ptr n es i o j => .ptr (σ n) es i o j
  | .sl n es i o j len cap => .sl (σ n) es i o j len cap
  | .fn f a b => .fn f (V.rens σ a) (V.rens σ b)
  | .ifc t v => .ifc t (V.ren σ v)
  | .agg cs => .agg (V.rens σ cs)
  | .tup cs => .tup (V.rens σ cs)
  | .mp n => .mp (σ n)
  | .yld n => .yld (σ n)
  | .any => .any
  | .bool b => .bool b
  | .int k n => .int k n
  | .str s => .str s
  | .pnil => .pnil
  | .rop cs o j => .rop cs o j
  | .snil => .snil
  | .ros es len f clip => .ros es len f clip
  | .fnil => .fnil
  | .inil => .inil
  | .mpnil => .mpnil
  | .seg k m xs => .seg k m xs
def V.rens (σ : Nm → Nm) : List V → List V
  | [] => []
  | v :: vs => V.ren σ v :: V.rens σ vs
end
mutual
/-- All names in a value are of a kind. -/
def V.within (S : Nm → Bool) : V → Bool
  | .ptr n _ _ _ _ => S n
  | .sl n _ _ _ _ _ _ => S n
  | .fn _ a b => V.withins S a && V.withins S b
  | .ifc _ v => V.within S v
  | .agg cs => V.withins S cs
  | .tup cs => V.withins S cs
  | .mp n => S n
  | .yld n => S n
  | .any => true
  | .bool _ => true
  | .int _ _ => true
  | .str _ => true
  | .pnil => true
  | .rop _ _ _ => true
  | .snil => true
  | .ros _ _ _ _ => true
  | .fnil => true
  | .inil => true
  | .mpnil => true
  | .seg _ _ _ => true
def V.withins (S : Nm → Bool) : List V → Bool
  | [] => true
  | v :: vs => V.within S v && V.withins S vs
end
mutual
theorem V.ren_id : ∀ v : V, V.ren (fun n => n) v = v
  | .ptr n es i o j => by rw [V.ren]
  | .sl n es i o j len cap => by rw [V.ren]
  | .fn f a b => by rw [V.ren, V.rens_id a, V.rens_id b]
  | .ifc t v => by rw [V.ren, V.ren_id v]
  | .agg cs => by rw [V.ren, V.rens_id cs]
  | .tup cs => by rw [V.ren, V.rens_id cs]
  | .mp n => by rw [V.ren]
  | .yld n => by rw [V.ren]
  | .any => by rw [V.ren]
  | .bool b => by rw [V.ren]
  | .int k n => by rw [V.ren]
  | .str s => by rw [V.ren]
  | .pnil => by rw [V.ren]
  | .rop cs o j => by rw [V.ren]
  | .snil => by rw [V.ren]
  | .ros es len f clip => by rw [V.ren]
  | .fnil => by rw [V.ren]
  | .inil => by rw [V.ren]
  | .mpnil => by rw [V.ren]
  | .seg k m xs => by rw [V.ren]
theorem V.rens_id : ∀ v : List V, V.rens (fun n => n) v = v
  | [] => by rw [V.rens]
  | v :: vs => by rw [V.rens, V.ren_id v, V.rens_id vs]
end
mutual
theorem V.ren_ren (σ τ : Nm → Nm) : ∀ v : V, V.ren σ (V.ren τ v) = V.ren (fun n => σ (τ n)) v
  | .ptr n es i o j => by simp only [V.ren]
  | .sl n es i o j len cap => by simp only [V.ren]
  | .fn f a b => by simp only [V.ren, V.rens_rens σ τ a, V.rens_rens σ τ b]
  | .ifc t v => by simp only [V.ren, V.ren_ren σ τ v]
  | .agg cs => by simp only [V.ren, V.rens_rens σ τ cs]
  | .tup cs => by simp only [V.ren, V.rens_rens σ τ cs]
  | .mp n => by simp only [V.ren]
  | .yld n => by simp only [V.ren]
  | .any => by simp only [V.ren]
  | .bool b => by simp only [V.ren]
  | .int k n => by simp only [V.ren]
  | .str s => by simp only [V.ren]
  | .pnil => by simp only [V.ren]
  | .rop cs o j => by simp only [V.ren]
  | .snil => by simp only [V.ren]
  | .ros es len f clip => by simp only [V.ren]
  | .fnil => by simp only [V.ren]
  | .inil => by simp only [V.ren]
  | .mpnil => by simp only [V.ren]
  | .seg k m xs => by simp only [V.ren]
theorem V.rens_rens (σ τ : Nm → Nm) : ∀ v : List V, V.rens σ (V.rens τ v) = V.rens (fun n => σ (τ n)) v
  | [] => by simp only [V.rens]
  | v :: vs => by simp only [V.rens, V.ren_ren σ τ v, V.rens_rens σ τ vs]
end
mutual
theorem V.within_true : ∀ v : V, V.within (fun _ => true) v = true
  | .ptr n es i o j => by simp only [V.within]
  | .sl n es i o j len cap => by simp only [V.within]
  | .fn f a b => by simp only [V.within, V.withins_true a, V.withins_true b, Bool.and_self]
  | .ifc t v => by simp only [V.within, V.within_true v]
  | .agg cs => by simp only [V.within, V.withins_true cs]
  | .tup cs => by simp only [V.within, V.withins_true cs]
  | .mp n => by simp only [V.within]
  | .yld n => by simp only [V.within]
  | .any => by simp only [V.within]
  | .bool b => by simp only [V.within]
  | .int k n => by simp only [V.within]
  | .str s => by simp only [V.within]
  | .pnil => by simp only [V.within]
  | .rop cs o j => by simp only [V.within]
  | .snil => by simp only [V.within]
  | .ros es len f clip => by simp only [V.within]
  | .fnil => by simp only [V.within]
  | .inil => by simp only [V.within]
  | .mpnil => by simp only [V.within]
  | .seg k m xs => by simp only [V.within]
theorem V.withins_true : ∀ v : List V, V.withins (fun _ => true) v = true
  | [] => by rw [V.withins]
  | v :: vs => by rw [V.withins, V.within_true v, V.withins_true vs]; rfl
end
theorem V.ren_cell (σ : Nm → Nm) (v : V) : (V.ren σ v).cell = v.cell := by cases v <;> simp [V.ren, V.cell]
theorem V.ren_one (σ : Nm → Nm) (v : V) : (V.ren σ v).one = v.one := by cases v <;> simp [V.ren, V.one]


/-! What holds of a value holds where more is known, under other names. First for what is immutable (no name in it counts). -/
mutual
theorem VRel.tr {U U' : Imm} {ρ ρ' : Env} {σ : Nm → Nm} {S : Nm → Bool} (hU : U.le U') (hρ : ∀ n l, S n = true → ρ n = some l → ρ' (σ n) = some l) :
    ∀ (v : V) (x : Value), V.within S v = true → VRel U ρ v x → VRel U' ρ' (V.ren σ v) x
  | .any, x, _, h => by simp [VRel, V.ren]
  | .bool b, x, _, h => by simpa [VRel, V.ren] using h
  | .int k n, x, _, h => by simpa [VRel, V.ren] using h
  | .str s, x, _, h => by simpa [VRel, V.ren] using h
  | .pnil, x, _, h => by simpa [VRel, V.ren] using h
  | .ptr n es i o j, x, hs, h => by
    rw [V.ren, VRel]; rw [VRel] at h; rw [V.within] at hs
    obtain ⟨l, h1, h2⟩ := h; exact ⟨l, hρ _ _ hs h1, h2⟩
  | .rop cs o j, x, _, h => by
    rw [V.ren, VRel]; rw [VRel] at h
    obtain ⟨b, base, c, h1, h2, l, h3, h4⟩ := h
    exact ⟨b, base, c, hU _ _ h1, h2, l, CsRel.imm hU _ _ h3, h4⟩
  | .snil, x, _, h => by simpa [VRel, V.ren] using h
  | .sl n es i o j len cap, x, hs, h => by
    rw [V.ren, VRel]; rw [VRel] at h; rw [V.within] at hs
    obtain ⟨l, cp, h1, h2⟩ := h; exact ⟨l, cp, hρ _ _ hs h1, h2⟩
  | .ros es len f clip, x, _, h => by
    rw [V.ren, VRel]; rw [VRel] at h
    obtain ⟨a, cp, h1, h2, h3, h4⟩ := h
    refine ⟨a, cp, h1, h2, h3, fun i hi => ?_⟩
    obtain ⟨b, base, c, h5, h6, l, h7, h8⟩ := h4 i hi
    exact ⟨b, base, c, h5, hU _ _ h6, l, CsRel.imm hU _ _ h7, h8⟩
  | .fn f a b, x, hs, h => by
    rw [V.ren, VRel]; rw [VRel] at h; rw [V.within, Bool.and_eq_true] at hs
    obtain ⟨l, m, h1, h2, h3⟩ := h
    exact ⟨l, m, h1, VsRel.tr hU hρ _ _ hs.1 h2, VsRel.tr hU hρ _ _ hs.2 h3⟩
  | .fnil, x, _, h => by simpa [VRel, V.ren] using h
  | .ifc t v, x, hs, h => by
    rw [V.ren, VRel]; rw [VRel] at h; rw [V.within] at hs
    obtain ⟨y, h1, h2⟩ := h; exact ⟨y, h1, VRel.tr hU hρ _ _ hs h2⟩
  | .inil, x, _, h => by simpa [VRel, V.ren] using h
  | .agg cs, x, hs, h => by
    rw [V.ren, VRel]; rw [VRel] at h; rw [V.within] at hs
    obtain ⟨y, h1, h2⟩ := h; exact ⟨y, h1, CsRel.tr hU hρ _ _ hs h2⟩
  | .tup cs, x, hs, h => by
    rw [V.ren, VRel]; rw [VRel] at h; rw [V.within] at hs
    obtain ⟨y, h1, h2⟩ := h; exact ⟨y, h1, VsRel.tr hU hρ _ _ hs h2⟩
  | .mp n, x, hs, h => by
    rw [V.ren, VRel]; rw [VRel] at h; rw [V.within] at hs
    obtain ⟨y, h1, h2⟩ := h; exact ⟨y, hρ _ _ hs h1, h2⟩
  | .yld n, x, hs, h => by
    rw [V.ren, VRel]; rw [VRel] at h; rw [V.within] at hs
    obtain ⟨y, h1, h2⟩ := h; exact ⟨y, hρ _ _ hs h1, h2⟩
  | .mpnil, x, _, h => by simpa [VRel, V.ren] using h
  | .seg _ _ _, x, _, h => by simp [VRel] at h
theorem VsRel.tr {U U' : Imm} {ρ ρ' : Env} {σ : Nm → Nm} {S : Nm → Bool} (hU : U.le U') (hρ : ∀ n l, S n = true → ρ n = some l → ρ' (σ n) = some l) :
    ∀ (v : List V) (x : List Value), V.withins S v = true → VsRel U ρ v x → VsRel U' ρ' (V.rens σ v) x
  | [], x, _, h => by rw [V.rens, VsRel]; rw [VsRel] at h; exact h
  | v :: vs, x, hs, h => by
    rw [V.rens, VsRel]; rw [VsRel] at h; rw [V.withins, Bool.and_eq_true] at hs
    obtain ⟨y, r, h1, h2, h3⟩ := h
    exact ⟨y, r, h1, VRel.tr hU hρ _ _ hs.1 h2, VsRel.tr hU hρ _ _ hs.2 h3⟩
theorem CsRel.tr {U U' : Imm} {ρ ρ' : Env} {σ : Nm → Nm} {S : Nm → Bool} (hU : U.le U') (hρ : ∀ n l, S n = true → ρ n = some l → ρ' (σ n) = some l) :
    ∀ (v : List V) (x : List Value), V.withins S v = true → CsRel U ρ v x → CsRel U' ρ' (V.rens σ v) x
  | [], x, _, h => by rw [V.rens, CsRel]; rw [CsRel] at h; exact h
  | v :: vs, x, hs, h => by
    rw [V.rens, CsRel]; rw [CsRel] at h; rw [V.withins, Bool.and_eq_true] at hs
    obtain ⟨l1, l2, h1, h2, h3⟩ := h
    refine ⟨l1, l2, h1, ?_, CsRel.tr hU hρ _ _ hs.2 h3⟩
    rcases h2 with ⟨k, m, xs, h2, h2', h2''⟩ | ⟨h2, x, h4, h5⟩
    · exact .inl ⟨k, m, xs, by rw [h2, V.ren], h2', h2''⟩
    · exact .inr ⟨by rw [V.ren_cell]; exact h2, x, h4, VRel.tr hU hρ _ _ hs.1 h5⟩
theorem CsRel.imm {U U' : Imm} (hU : U.le U') : ∀ (v : List V) (x : List Value), CsRel U Env.none v x → CsRel U' Env.none v x
  | [], x, h => by rw [CsRel] at h ⊢; exact h
  | v :: vs, x, h => by
    rw [CsRel] at h ⊢
    obtain ⟨l1, l2, h1, h2, h3⟩ := h
    refine ⟨l1, l2, h1, ?_, CsRel.imm hU _ _ h3⟩
    rcases h2 with h2 | ⟨h2, x, h4, h5⟩
    · exact .inl h2
    · exact .inr ⟨h2, x, h4, by have := VRel.tr (ρ := Env.none) (ρ' := Env.none) (σ := fun n => n) (S := fun _ => true) hU (fun n l _ h => by cases h) v x (V.within_true v) h5; rwa [V.ren_id] at this⟩
end
theorem VRel.mono {U U' : Imm} {ρ ρ' : Env} (hU : U.le U') (hρ : ρ.le ρ') {v : V} {x : Value} (h : VRel U ρ v x) : VRel U' ρ' v x := by
  have := VRel.tr (σ := fun n => n) (S := fun _ => true) hU (fun n l _ h => hρ n l h) v x (V.within_true v) h; rwa [V.ren_id] at this
theorem VsRel.mono {U U' : Imm} {ρ ρ' : Env} (hU : U.le U') (hρ : ρ.le ρ') {v : List V} {x : List Value} (h : VsRel U ρ v x) : VsRel U' ρ' v x := by
  have := VsRel.tr (σ := fun n => n) (S := fun _ => true) hU (fun n l _ h => hρ n l h) v x (V.withins_true v) h; rwa [V.rens_id] at this
theorem CsRel.mono {U U' : Imm} {ρ ρ' : Env} (hU : U.le U') (hρ : ρ.le ρ') {v : List V} {x : List Value} (h : CsRel U ρ v x) : CsRel U' ρ' v x := by
  have := CsRel.tr (σ := fun n => n) (S := fun _ => true) hU (fun n l _ h => hρ n l h) v x (V.withins_true v) h; rwa [V.rens_id] at this
theorem VRel.within {U U' : Imm} {ρ ρ' : Env} {S : Nm → Bool} (hU : U.le U') (hρ : ∀ n l, S n = true → ρ n = some l → ρ' n = some l) {v : V} {x : Value} (hs : v.within S = true) (h : VRel U ρ v x) : VRel U' ρ' v x := by
  have := VRel.tr (σ := fun n => n) (S := S) hU (fun n l hs h => hρ n l hs h) v x hs h; rwa [V.ren_id] at this
theorem VsRel.within {U U' : Imm} {ρ ρ' : Env} {S : Nm → Bool} (hU : U.le U') (hρ : ∀ n l, S n = true → ρ n = some l → ρ' n = some l) {v : List V} {x : List Value} (hs : V.withins S v = true) (h : VsRel U ρ v x) : VsRel U' ρ' v x := by
  have := VsRel.tr (σ := fun n => n) (S := S) hU (fun n l hs h => hρ n l hs h) v x hs h; rwa [V.rens_id] at this
theorem CsRel.within {U U' : Imm} {ρ ρ' : Env} {S : Nm → Bool} (hU : U.le U') (hρ : ∀ n l, S n = true → ρ n = some l → ρ' n = some l) {v : List V} {x : List Value} (hs : V.withins S v = true) (h : CsRel U ρ v x) : CsRel U' ρ' v x := by
  have := CsRel.tr (σ := fun n => n) (S := S) hU (fun n l hs h => hρ n l hs h) v x hs h; rwa [V.rens_id] at this

end Sy
