/-
  Contracts and laws that the claim's theorem leans on, joined out of the texts Sy0 Sy1 Sy2 Sy3 Sy4 Sy5 Sy6 Sy7 (own work of this seat): Abstract values and their relation to the model's values and worlds; Abstract heaps and their relation to a world; what a step may have changed; a call's contract; Abstract states; what a piece of code does to them ('R'); its rules; a call's contract out of its body; What an operation leaves: small laws on 'Leaves'; an operation in a region; regions; Operations that look at no block of the heap; Operations that look at no block of the heap, continued: addresses, parts, slices, conversions; Slice expressions, conversions, equality of plain values, and other operations that look at no block; Cells that are read and written: lists of cells, blocks.
-/
import Derived.CallsIn
import Derived.RangeFuncLeaves
import Derived.KernelRfl
import Derived.Scope
import Derived.LoopNIn
import Derived.Laws.Entries
import Derived.Laws.Strings
import Derived.Laws.Cells
set_option linter.unusedVariables false
set_option linter.unusedSimpArgs false
set_option maxHeartbeats 1000000
namespace Sy
open Go
inductive Nm where
 | o (n : Nat)
 | g (n : Nat)
 deriving DecidableEq
def Nm.beq : Nm → Nm → Bool
 | .o a, .o b => Nat.beq a b
 | .g a, .g b => Nat.beq a b
 | _, _ => false
theorem Nm.beq_iff {a b : Nm} : a.beq b = true ↔ a = b := by
 cases a <;> cases b <;> simp [Nm.beq]
inductive V where
 | any
 | bool (b : Bool)
 | int (k : IntKind) (n : Int)
 | str (s : ByteArray)
 | pnil
 | ptr (n : Nm) (es i o j : Nat)
 | rop (cs : List V) (o j : Nat)
 | snil
 | sl (n : Nm) (es i o j len : Nat) (cap : Option Nat)
 | ros (es len : Nat) (f : Nat → List V) (clip : Bool)
 | fn (f : Fn) (first cap : List V)
 | fnil
 | ifc (t : TypeId) (v : V)
 | inil
 | agg (cs : List V)
 | tup (vs : List V)
 | mp (n : Nm)
 | yld (n : Nm)
 | mpnil
 | abs (b o : Nat)
 | seg (k : IntKind) (m : Nat) (xs : List Int)
def V.cell : V → Bool
 | .seg .. | .agg _ | .tup _ => false
 | _ => true
def V.one : V → Bool
 | .seg .. | .agg _ | .tup _ | .any => false
 | _ => true
theorem V.cell_of_one {v : V} (h : v.one = true) : v.cell = true := by cases v <;> simp_all [V.one, V.cell]
abbrev Imm := Nat → Option (Array Value)
structure Loc where
 blk : Nat
 sz : Nat
 real : Bool := true
abbrev Env := Nm → Option Loc
def Env.none : Env := fun _ => Option.none
mutual
def c9 (U : Imm) (ρ : Env) : V → Value → Prop
 | .any, _ => True
 | .bool b, x => x = .bool b
 | .int k n, x => x = .int k n
 | .str s, x => x = .string s
 | .pnil, x => x = .pointer none
 | .ptr n es i o j, x => ∃ l, ρ n = some l ∧ l.real = true ∧ x = .pointer (some ⟨l.blk, i * es + o + j, none⟩)
 | .rop cs o j, x => ∃ b base c, U b = some c ∧ x = .pointer (some ⟨b, base + o + j, none⟩) ∧ ∃ l, i6 U Env.none cs l ∧ ∀ k, k < l.length → c[base + k]? = l[k]?
 | .snil, x => x = .slice none 0 0
 | .sl n es i o j len cap, x => ∃ l cp, ρ n = some l ∧ len ≤ cp ∧ (∀ c, cap = some c → cp = c) ∧ ((l.real = true ∧ x = .slice (some ⟨l.blk, i * es + o + j, none⟩) len cp ∧ (i + cp) * es ≤ l.sz) ∨ (l.real = false ∧ x = .slice none 0 0 ∧ len = 0 ∧ cp = 0))
 | .ros es len f clip, x => ∃ a cp, x = .slice a len cp ∧ len ≤ cp ∧ (clip = true → cp = len) ∧ ∀ i, i < len → ∃ b base c, a = some ⟨b, base, none⟩ ∧ U b = some c ∧ ∃ l, i6 U Env.none (f i) l ∧ l.length = es ∧ ∀ k, k < l.length → c[base + i * es + k]? = l[k]?
 | .fn f a b, x => ∃ l m, x = .func f l m ∧ i8 U ρ a l.toList ∧ i8 U ρ b m.toList
 | .fnil, x => x = .nilFunc
 | .ifc t v, x => ∃ y, x = .iface t y ∧ c9 U ρ v y
 | .inil, x => x = .nilIface
 | .agg cs, x => ∃ l, x = .agg l ∧ i6 U ρ cs l.toList
 | .tup cs, x => ∃ l, x = .tuple l ∧ i8 U ρ cs l.toList
 | .mp n, x => ∃ l, ρ n = some l ∧ l.real = true ∧ x = .map (some l.blk)
 | .yld n, x => ∃ l, ρ n = some l ∧ l.real = true ∧ x = .func (.yield l.blk) #[] #[]
 | .mpnil, x => x = .map none
 | .abs b o, x => x = .pointer (some ⟨b, o, none⟩)
 | .seg _ _ _, _ => False
def i8 (U : Imm) (ρ : Env) : List V → List Value → Prop
 | [], l => l = []
 | v :: vs, l => ∃ x r, l = x :: r ∧ c9 U ρ v x ∧ i8 U ρ vs r
def i6 (U : Imm) (ρ : Env) : List V → List Value → Prop
 | [], l => l = []
 | v :: vs, l => ∃ l1 l2, l = l1 ++ l2 ∧ ((∃ k m xs, v = .seg k m xs ∧ xs.length = m ∧ l1 = xs.map (Value.int k)) ∨ (V.cell v = true ∧ ∃ x, l1 = [x] ∧ c9 U ρ v x)) ∧ i6 U ρ vs l2
end
def V.csz : V → Nat
 | .seg _ m _ => m
 | _ => 1
def E9 : List V → Nat
 | [] => 0
 | v :: vs => v.csz + E9 vs
theorem i6.len {U ρ} : ∀ {cs l}, i6 U ρ cs l → l.length = E9 cs
 | [], l, h => by rw [i6] at h; subst h; rfl
 | v :: vs, l, h => by
  rw [i6] at h
  obtain ⟨l1, l2, rfl, h1, h2⟩ := h
  have := i6.len h2
  rcases h1 with ⟨k, m, xs, rfl, hm, rfl⟩ | ⟨hc, x, rfl, _⟩
  ·simp [E9, V.csz, this, hm]
  ·have : V.csz v = 1 := by cases v <;> first | rfl | simp [V.cell] at hc
   simp [E9, *]; omega
theorem m4 {U ρ} : ∀ {a b l}, i6 U ρ (a ++ b) l ↔ ∃ la lb, l = la ++ lb ∧ i6 U ρ a la ∧ i6 U ρ b lb
 | [], b, l => by
  constructor
  ·intro h; exact ⟨[], l, rfl, by rw [i6], h⟩
  ·rintro ⟨la, lb, rfl, h1, h2⟩; rw [i6] at h1; subst h1; exact h2
 | v :: vs, b, l => by
  rw [List.cons_append, i6]
  constructor
  ·rintro ⟨l1, l2, rfl, h1, h2⟩
   obtain ⟨la, lb, rfl, h3, h4⟩ := m4.1 h2
   exact ⟨l1 ++ la, lb, by simp, by rw [i6]; exact ⟨l1, la, rfl, h1, h3⟩, h4⟩
  ·rintro ⟨la, lb, rfl, h1, h2⟩
   rw [i6] at h1
   obtain ⟨l1, l2, rfl, h3, h4⟩ := h1
   exact ⟨l1, l2 ++ lb, by simp, h3, m4.2 ⟨l2, lb, rfl, h4, h2⟩⟩
theorem v7 {U ρ v vs l} (h : V.cell v = true) : i6 U ρ (v :: vs) l ↔ ∃ x r, l = x :: r ∧ c9 U ρ v x ∧ i6 U ρ vs r := by
 rw [i6]
 constructor
 ·rintro ⟨l1, l2, rfl, h1, h2⟩
  rcases h1 with ⟨k, m, xs, rfl, hm, rfl⟩ | ⟨hc, x, rfl, hx⟩
  ·simp [V.cell] at h
  ·exact ⟨x, l2, rfl, hx, h2⟩
 ·rintro ⟨x, r, rfl, hx, hr⟩
  exact ⟨[x], r, rfl, .inr ⟨h, x, rfl, hx⟩, hr⟩
theorem F1 {U ρ k m xs vs l} : i6 U ρ (.seg k m xs :: vs) l ↔ xs.length = m ∧ ∃ r, l = xs.map (Value.int k) ++ r ∧ i6 U ρ vs r := by
 rw [i6]
 constructor
 ·rintro ⟨l1, l2, rfl, h1, h2⟩
  rcases h1 with ⟨k, m, xs, hv, hm, rfl⟩ | ⟨hc, _⟩
  ·cases hv; exact ⟨hm, l2, rfl, h2⟩
  ·simp [V.cell] at hc
 ·rintro ⟨hm, r, rfl, hr⟩
  exact ⟨_, r, rfl, .inl ⟨_, _, _, rfl, hm, rfl⟩, hr⟩
def Imm.le (U U' : Imm) : Prop := ∀ b c, U b = some c → U' b = some c
def Env.le (ρ ρ' : Env) : Prop := ∀ n l, ρ n = some l → ρ' n = some l
theorem Imm.le_refl (U : Imm) : U.le U := fun _ _ h => h
theorem Env.le_refl (ρ : Env) : ρ.le ρ := fun _ _ h => h
theorem Imm.le_trans {U U' U'' : Imm} (h : U.le U') (h' : U'.le U'') : U.le U'' := fun b c e => h' b c (h b c e)
theorem Env.le_trans {U U' U'' : Env} (h : U.le U') (h' : U'.le U'') : U.le U'' := fun b c e => h' b c (h b c e)
mutual
def V.ren (σ : Nm → Nm) : V → V
 | .ptr n es i o j => .ptr (σ n) es i o j
 | .sl n es i o j len cap => .sl (σ n) es i o j len cap
 | .fn f a b => .fn f (V.rens σ a) (V.rens σ b)
 | .ifc t v => .ifc t (V.ren σ v)
 | .agg cs => .agg (V.rens σ cs)
 | .tup cs => .tup (V.rens σ cs)
 | .mp n => .mp (σ n)
 | .yld n => .yld (σ n)
 | .any => .any
 | .bool b => .bool b
 | .int k n => .int k n
 | .str s => .str s
 | .pnil => .pnil
 | .rop cs o j => .rop cs o j
 | .snil => .snil
 | .ros es len f clip => .ros es len f clip
 | .fnil => .fnil
 | .inil => .inil
 | .mpnil => .mpnil
 | .abs b o => .abs b o
 | .seg k m xs => .seg k m xs
def V.rens (σ : Nm → Nm) : List V → List V
 | [] => []
 | v :: vs => V.ren σ v :: V.rens σ vs
end
mutual
def V.within (S : Nm → Bool) : V → Bool
 | .ptr n _ _ _ _ => S n
 | .sl n _ _ _ _ _ _ => S n
 | .fn _ a b => V.withins S a && V.withins S b
 | .ifc _ v => V.within S v
 | .agg cs => V.withins S cs
 | .tup cs => V.withins S cs
 | .mp n => S n
 | .yld n => S n
 | .any => true
 | .bool _ => true
 | .int _ _ => true
 | .str _ => true
 | .pnil => true
 | .rop _ _ _ => true
 | .snil => true
 | .ros _ _ _ _ => true
 | .fnil => true
 | .inil => true
 | .mpnil => true
 | .abs _ _ => true
 | .seg _ _ _ => true
def V.withins (S : Nm → Bool) : List V → Bool
 | [] => true
 | v :: vs => V.within S v && V.withins S vs
end
mutual
theorem V.ren_id : ∀ v : V, V.ren (fun n => n) v = v
 | .ptr n es i o j => by rw [V.ren]
 | .sl n es i o j len cap => by rw [V.ren]
 | .fn f a b => by rw [V.ren, V.rens_id a, V.rens_id b]
 | .ifc t v => by rw [V.ren, V.ren_id v]
 | .agg cs => by rw [V.ren, V.rens_id cs]
 | .tup cs => by rw [V.ren, V.rens_id cs]
 | .mp n => by rw [V.ren]
 | .yld n => by rw [V.ren]
 | .any => by rw [V.ren]
 | .bool b => by rw [V.ren]
 | .int k n => by rw [V.ren]
 | .str s => by rw [V.ren]
 | .pnil => by rw [V.ren]
 | .rop cs o j => by rw [V.ren]
 | .snil => by rw [V.ren]
 | .ros es len f clip => by rw [V.ren]
 | .fnil => by rw [V.ren]
 | .inil => by rw [V.ren]
 | .mpnil => by rw [V.ren]
 | .abs _ _ => by rw [V.ren]
 | .seg k m xs => by rw [V.ren]
theorem V.rens_id : ∀ v : List V, V.rens (fun n => n) v = v
 | [] => by rw [V.rens]
 | v :: vs => by rw [V.rens, V.ren_id v, V.rens_id vs]
end
mutual
theorem V.ren_ren (σ τ : Nm → Nm) : ∀ v : V, V.ren σ (V.ren τ v) = V.ren (fun n => σ (τ n)) v
 | .ptr n es i o j => by simp only [V.ren]
 | .sl n es i o j len cap => by simp only [V.ren]
 | .fn f a b => by simp only [V.ren, V.rens_rens σ τ a, V.rens_rens σ τ b]
 | .ifc t v => by simp only [V.ren, V.ren_ren σ τ v]
 | .agg cs => by simp only [V.ren, V.rens_rens σ τ cs]
 | .tup cs => by simp only [V.ren, V.rens_rens σ τ cs]
 | .mp n => by simp only [V.ren]
 | .yld n => by simp only [V.ren]
 | .any => by simp only [V.ren]
 | .bool b => by simp only [V.ren]
 | .int k n => by simp only [V.ren]
 | .str s => by simp only [V.ren]
 | .pnil => by simp only [V.ren]
 | .rop cs o j => by simp only [V.ren]
 | .snil => by simp only [V.ren]
 | .ros es len f clip => by simp only [V.ren]
 | .fnil => by simp only [V.ren]
 | .inil => by simp only [V.ren]
 | .mpnil => by simp only [V.ren]
 | .abs _ _ => by simp only [V.ren]
 | .seg k m xs => by simp only [V.ren]
theorem V.rens_rens (σ τ : Nm → Nm) : ∀ v : List V, V.rens σ (V.rens τ v) = V.rens (fun n => σ (τ n)) v
 | [] => by simp only [V.rens]
 | v :: vs => by simp only [V.rens, V.ren_ren σ τ v, V.rens_rens σ τ vs]
end
mutual
theorem V.within_true : ∀ v : V, V.within (fun _ => true) v = true
 | .ptr n es i o j => by simp only [V.within]
 | .sl n es i o j len cap => by simp only [V.within]
 | .fn f a b => by simp only [V.within, V.withins_true a, V.withins_true b, Bool.and_self]
 | .ifc t v => by simp only [V.within, V.within_true v]
 | .agg cs => by simp only [V.within, V.withins_true cs]
 | .tup cs => by simp only [V.within, V.withins_true cs]
 | .mp n => by simp only [V.within]
 | .yld n => by simp only [V.within]
 | .any => by simp only [V.within]
 | .bool b => by simp only [V.within]
 | .int k n => by simp only [V.within]
 | .str s => by simp only [V.within]
 | .pnil => by simp only [V.within]
 | .rop cs o j => by simp only [V.within]
 | .snil => by simp only [V.within]
 | .ros es len f clip => by simp only [V.within]
 | .fnil => by simp only [V.within]
 | .inil => by simp only [V.within]
 | .mpnil => by simp only [V.within]
 | .abs _ _ => by simp only [V.within]
 | .seg k m xs => by simp only [V.within]
theorem V.withins_true : ∀ v : List V, V.withins (fun _ => true) v = true
 | [] => by rw [V.withins]
 | v :: vs => by rw [V.withins, V.within_true v, V.withins_true vs]; rfl
end
theorem V.ren_cell (σ : Nm → Nm) (v : V) : (V.ren σ v).cell = v.cell := by cases v <;> simp [V.ren, V.cell]
mutual
theorem c9.tr {U U' : Imm} {ρ ρ' : Env} {σ : Nm → Nm} {S : Nm → Bool} (hU : U.le U') (hρ : ∀ n l, S n = true → ρ n = some l → ρ' (σ n) = some l) :
  ∀ (v : V) (x : Value), V.within S v = true → c9 U ρ v x → c9 U' ρ' (V.ren σ v) x
 | .any, x, _, h => by simp [c9, V.ren]
 | .bool b, x, _, h => by simpa [c9, V.ren] using h
 | .int k n, x, _, h => by simpa [c9, V.ren] using h
 | .str s, x, _, h => by simpa [c9, V.ren] using h
 | .pnil, x, _, h => by simpa [c9, V.ren] using h
 | .ptr n es i o j, x, hs, h => by
  rw [V.ren, c9]; rw [c9] at h; rw [V.within] at hs
  obtain ⟨l, h1, h2⟩ := h; exact ⟨l, hρ _ _ hs h1, h2⟩
 | .rop cs o j, x, _, h => by
  rw [V.ren, c9]; rw [c9] at h
  obtain ⟨b, base, c, h1, h2, l, h3, h4⟩ := h
  exact ⟨b, base, c, hU _ _ h1, h2, l, i6.imm hU _ _ h3, h4⟩
 | .snil, x, _, h => by simpa [c9, V.ren] using h
 | .sl n es i o j len cap, x, hs, h => by
  rw [V.ren, c9]; rw [c9] at h; rw [V.within] at hs
  obtain ⟨l, cp, h1, h2⟩ := h; exact ⟨l, cp, hρ _ _ hs h1, h2⟩
 | .ros es len f clip, x, _, h => by
  rw [V.ren, c9]; rw [c9] at h
  obtain ⟨a, cp, h1, h2, h3, h4⟩ := h
  refine ⟨a, cp, h1, h2, h3, fun i hi => ?_⟩
  obtain ⟨b, base, c, h5, h6, l, h7, h8⟩ := h4 i hi
  exact ⟨b, base, c, h5, hU _ _ h6, l, i6.imm hU _ _ h7, h8⟩
 | .fn f a b, x, hs, h => by
  rw [V.ren, c9]; rw [c9] at h; rw [V.within, Bool.and_eq_true] at hs
  obtain ⟨l, m, h1, h2, h3⟩ := h
  exact ⟨l, m, h1, i8.tr hU hρ _ _ hs.1 h2, i8.tr hU hρ _ _ hs.2 h3⟩
 | .fnil, x, _, h => by simpa [c9, V.ren] using h
 | .ifc t v, x, hs, h => by
  rw [V.ren, c9]; rw [c9] at h; rw [V.within] at hs
  obtain ⟨y, h1, h2⟩ := h; exact ⟨y, h1, c9.tr hU hρ _ _ hs h2⟩
 | .inil, x, _, h => by simpa [c9, V.ren] using h
 | .agg cs, x, hs, h => by
  rw [V.ren, c9]; rw [c9] at h; rw [V.within] at hs
  obtain ⟨y, h1, h2⟩ := h; exact ⟨y, h1, i6.tr hU hρ _ _ hs h2⟩
 | .tup cs, x, hs, h => by
  rw [V.ren, c9]; rw [c9] at h; rw [V.within] at hs
  obtain ⟨y, h1, h2⟩ := h; exact ⟨y, h1, i8.tr hU hρ _ _ hs h2⟩
 | .mp n, x, hs, h => by
  rw [V.ren, c9]; rw [c9] at h; rw [V.within] at hs
  obtain ⟨y, h1, h2⟩ := h; exact ⟨y, hρ _ _ hs h1, h2⟩
 | .yld n, x, hs, h => by
  rw [V.ren, c9]; rw [c9] at h; rw [V.within] at hs
  obtain ⟨y, h1, h2⟩ := h; exact ⟨y, hρ _ _ hs h1, h2⟩
 | .mpnil, x, _, h => by simpa [c9, V.ren] using h
 | .abs _ _, x, _, h => by simpa [c9, V.ren] using h
 | .seg _ _ _, x, _, h => by simp [c9] at h
theorem i8.tr {U U' : Imm} {ρ ρ' : Env} {σ : Nm → Nm} {S : Nm → Bool} (hU : U.le U') (hρ : ∀ n l, S n = true → ρ n = some l → ρ' (σ n) = some l) :
  ∀ (v : List V) (x : List Value), V.withins S v = true → i8 U ρ v x → i8 U' ρ' (V.rens σ v) x
 | [], x, _, h => by rw [V.rens, i8]; rw [i8] at h; exact h
 | v :: vs, x, hs, h => by
  rw [V.rens, i8]; rw [i8] at h; rw [V.withins, Bool.and_eq_true] at hs
  obtain ⟨y, r, h1, h2, h3⟩ := h
  exact ⟨y, r, h1, c9.tr hU hρ _ _ hs.1 h2, i8.tr hU hρ _ _ hs.2 h3⟩
theorem i6.tr {U U' : Imm} {ρ ρ' : Env} {σ : Nm → Nm} {S : Nm → Bool} (hU : U.le U') (hρ : ∀ n l, S n = true → ρ n = some l → ρ' (σ n) = some l) :
  ∀ (v : List V) (x : List Value), V.withins S v = true → i6 U ρ v x → i6 U' ρ' (V.rens σ v) x
 | [], x, _, h => by rw [V.rens, i6]; rw [i6] at h; exact h
 | v :: vs, x, hs, h => by
  rw [V.rens, i6]; rw [i6] at h; rw [V.withins, Bool.and_eq_true] at hs
  obtain ⟨l1, l2, h1, h2, h3⟩ := h
  refine ⟨l1, l2, h1, ?_, i6.tr hU hρ _ _ hs.2 h3⟩
  rcases h2 with ⟨k, m, xs, h2, h2', h2''⟩ | ⟨h2, x, h4, h5⟩
  ·exact .inl ⟨k, m, xs, by rw [h2, V.ren], h2', h2''⟩
  ·exact .inr ⟨by rw [V.ren_cell]; exact h2, x, h4, c9.tr hU hρ _ _ hs.1 h5⟩
theorem i6.imm {U U' : Imm} (hU : U.le U') : ∀ (v : List V) (x : List Value), i6 U Env.none v x → i6 U' Env.none v x
 | [], x, h => by rw [i6] at h ⊢; exact h
 | v :: vs, x, h => by
  rw [i6] at h ⊢
  obtain ⟨l1, l2, h1, h2, h3⟩ := h
  refine ⟨l1, l2, h1, ?_, i6.imm hU _ _ h3⟩
  rcases h2 with h2 | ⟨h2, x, h4, h5⟩
  ·exact .inl h2
  ·exact .inr ⟨h2, x, h4, by have := c9.tr (ρ := Env.none) (ρ' := Env.none) (σ := fun n => n) (S := fun _ => true) hU (fun n l _ h => by cases h) v x (V.within_true v) h5; rwa [V.ren_id] at this⟩
end
theorem c9.mono {U U' : Imm} {ρ ρ' : Env} (hU : U.le U') (hρ : ρ.le ρ') {v : V} {x : Value} (h : c9 U ρ v x) : c9 U' ρ' v x := by
 have := c9.tr (σ := fun n => n) (S := fun _ => true) hU (fun n l _ h => hρ n l h) v x (V.within_true v) h; rwa [V.ren_id] at this
theorem i8.mono {U U' : Imm} {ρ ρ' : Env} (hU : U.le U') (hρ : ρ.le ρ') {v : List V} {x : List Value} (h : i8 U ρ v x) : i8 U' ρ' v x := by
 have := i8.tr (σ := fun n => n) (S := fun _ => true) hU (fun n l _ h => hρ n l h) v x (V.withins_true v) h; rwa [V.rens_id] at this
theorem i6.mono {U U' : Imm} {ρ ρ' : Env} (hU : U.le U') (hρ : ρ.le ρ') {v : List V} {x : List Value} (h : i6 U ρ v x) : i6 U' ρ' v x := by
 have := i6.tr (σ := fun n => n) (S := fun _ => true) hU (fun n l _ h => hρ n l h) v x (V.withins_true v) h; rwa [V.rens_id] at this
theorem c9.within {U U' : Imm} {ρ ρ' : Env} {S : Nm → Bool} (hU : U.le U') (hρ : ∀ n l, S n = true → ρ n = some l → ρ' n = some l) {v : V} {x : Value} (hs : v.within S = true) (h : c9 U ρ v x) : c9 U' ρ' v x := by
 have := c9.tr (σ := fun n => n) (S := S) hU (fun n l hs h => hρ n l hs h) v x hs h; rwa [V.ren_id] at this
theorem i8.within {U U' : Imm} {ρ ρ' : Env} {S : Nm → Bool} (hU : U.le U') (hρ : ∀ n l, S n = true → ρ n = some l → ρ' n = some l) {v : List V} {x : List Value} (hs : V.withins S v = true) (h : i8 U ρ v x) : i8 U' ρ' v x := by
 have := i8.tr (σ := fun n => n) (S := S) hU (fun n l hs h => hρ n l hs h) v x hs h; rwa [V.rens_id] at this
theorem i6.within {U U' : Imm} {ρ ρ' : Env} {S : Nm → Bool} (hU : U.le U') (hρ : ∀ n l, S n = true → ρ n = some l → ρ' n = some l) {v : List V} {x : List Value} (hs : V.withins S v = true) (h : i6 U ρ v x) : i6 U' ρ' v x := by
 have := i6.tr (σ := fun n => n) (S := S) hU (fun n l hs h => hρ n l hs h) v x hs h; rwa [V.rens_id] at this
end Sy
namespace Sy
open Go
inductive B where
 | flat (cs : List V)
 | rows (es n : Nat) (f : Nat → List V) (grow : Bool)
 | map (ents : List (Nat × V × V)) (clock : Nat)
 | iter (m : Nm) (since : Nat) (seen : List Nat) (c0 : Nat)
 | dfr
 | loop (fn : FuncId) (ps : Array Tmp) (tmps : List V) (assign body : Code) (st : LoopState) (pend : Option Code)
def B.ren (σ : Nm → Nm) : B → B
 | .flat cs => .flat (V.rens σ cs)
 | .rows es n f g => .rows es n f g
 | .map ents c => .map ents c
 | .iter m a s c => .iter (σ m) a s c
 | .dfr => .dfr
 | .loop f ps ts a b s p => .loop f ps (V.rens σ ts) a b s p
def B.within (S : Nm → Bool) : B → Bool
 | .flat cs => V.withins S cs
 | .rows _ _ _ _ => true
 | .map _ _ => true
 | .iter m _ _ _ => S m
 | .dfr => true
 | .loop _ _ ts _ _ _ _ => V.withins S ts
abbrev c5 := List (Nm × B)
def c5.dom (h : c5) (n : Nm) : Prop := ∃ b, (n, b) ∈ h
def c5.ren (σ : Nm → Nm) (h : c5) : c5 := h.map fun p => (σ p.1, p.2.ren σ)
def G0 (U : Imm) : List (Nat × V × V) → List MapEntry → Prop
 | [], l => l = []
 | p :: ps, l => ∃ e r, l = e :: r ∧ e.born = p.1 ∧ c9 U Env.none p.2.1 e.key ∧ c9 U Env.none p.2.2 e.val ∧ G0 U ps r
def r8 (U : Imm) (ρ : Env) (sz : Nat) : B → Obj → Prop
 | .flat cs, o => ∃ c el lo hi, o = .cells c el (lo, hi) ∧ c.size = sz ∧ (hi = lo ∨ c.size ≤ lo) ∧ i6 U ρ cs c.toList
 | .rows es n f g, o => ∃ c el lo hi, o = .cells c el (lo, hi) ∧ c.size = sz ∧ (hi = lo ∨ c.size ≤ lo) ∧ n * es ≤ c.size ∧ (g = false → c.size = n * es) ∧
   ∀ i, i < n → ∃ r, i6 U Env.none (f i) r ∧ r.length = es ∧ ∀ k, k < r.length → c[i * es + k]? = r[k]?
 | .map ents clock, o => ∃ es, o = .map es clock ∧ G0 U ents es.toList
 | .iter m since seen c0, o => ∃ l, ρ m = some l ∧ l.real = true ∧ o = .mapIter (some l.blk) since seen.toArray c0
 | .dfr, o => o = .deferred (some [])
 | .loop f ps ts a b s p, o => ∃ r, o = .loop r ∧ r.fn = f ∧ r.params = ps ∧ i8 U ρ ts r.tmps.toList ∧ r.assign = a ∧ r.body = b ∧ r.state = s ∧ r.pending = p
theorem G0.imm {U U' : Imm} (hU : U.le U') : ∀ (v : List (Nat × V × V)) (x : List MapEntry), G0 U v x → G0 U' v x
 | [], x, h => by rw [G0] at h; subst h; rfl
 | p :: ps, x, h => by
  rw [G0] at h
  obtain ⟨e, r, rfl, h0, h1, h2, h3⟩ := h
  rw [G0]
  exact ⟨e, r, rfl, h0, c9.mono hU (fun _ _ h => h) h1, c9.mono hU (fun _ _ h => h) h2, G0.imm hU ps r h3⟩
theorem r8.tr {U U' : Imm} {ρ ρ' : Env} {σ : Nm → Nm} {S : Nm → Bool} {sz : Nat} (hU : U.le U') (hρ : ∀ n l, S n = true → ρ n = some l → ρ' (σ n) = some l)
  {b : B} {o : Obj} (hs : b.within S = true) (h : r8 U ρ sz b o) : r8 U' ρ' sz (b.ren σ) o := by
 cases b with
 | flat cs =>
  obtain ⟨c, el, lo, hi, h1, h2, h3, h4⟩ := h
  exact ⟨c, el, lo, hi, h1, h2, h3, i6.tr hU hρ _ _ hs h4⟩
 | rows es n f g =>
  obtain ⟨c, el, lo, hi, h1, h2, h3, h4, h5, h6⟩ := h
  refine ⟨c, el, lo, hi, h1, h2, h3, h4, h5, fun i hi' => ?_⟩
  obtain ⟨r, h7, h8, h9⟩ := h6 i hi'
  exact ⟨r, i6.imm hU _ _ h7, h8, h9⟩
 | map ents clock =>
  obtain ⟨es, h1, h2⟩ := h
  exact ⟨es, h1, G0.imm hU _ _ h2⟩
 | iter m a s c =>
  obtain ⟨l, h1, h2, h3⟩ := h
  exact ⟨l, hρ m l hs h1, h2, h3⟩
 | dfr => exact h
 | loop f ps ts a b s p =>
  obtain ⟨r, h1, h2, h3, h4, h5⟩ := h
  exact ⟨r, h1, h2, h3, i8.tr hU hρ _ _ hs h4, h5⟩
theorem B.ren_id (b : B) : b.ren (fun n => n) = b := by
 cases b with
 | flat cs => simp [B.ren, V.rens_id]
 | rows => rfl
 | map => rfl
 | iter => rfl
 | dfr => rfl
 | loop f ps ts a b s p => simp [B.ren, V.rens_id]
theorem B.ren_ren (σ τ : Nm → Nm) (b : B) : (b.ren τ).ren σ = b.ren fun n => σ (τ n) := by
 cases b with
 | flat cs => simp [B.ren, V.rens_rens]
 | rows => rfl
 | map => rfl
 | iter => rfl
 | dfr => rfl
 | loop f ps ts a b s p => simp [B.ren, V.rens_rens]
theorem B.within_true (b : B) : b.within (fun _ => true) = true := by
 cases b with
 | flat cs => exact V.withins_true cs
 | rows => rfl
 | map => rfl
 | iter => rfl
 | dfr => rfl
 | loop f ps ts a b s p => exact V.withins_true ts
theorem r8.within {U U' : Imm} {ρ ρ' : Env} {S : Nm → Bool} {sz : Nat} (hU : U.le U') (hρ : ∀ n l, S n = true → ρ n = some l → ρ' n = some l)
  {b : B} {o : Obj} (hs : b.within S = true) (h : r8 U ρ sz b o) : r8 U' ρ' sz b o := by
 have := r8.tr (σ := fun n => n) hU hρ hs h; rwa [B.ren_id] at this
theorem r8.mono {U U' : Imm} {ρ ρ' : Env} {sz : Nat} (hU : U.le U') (hρ : ρ.le ρ') {b : B} {o : Obj} (h : r8 U ρ sz b o) : r8 U' ρ' sz b o :=
 r8.within (S := fun _ => true) hU (fun n l _ h => hρ n l h) (B.within_true b) h
structure HRel (U : Imm) (ρ : Env) (h : c5) (w : World) : Prop where
 blk : ∀ n b, (n, b) ∈ h → ∃ l, ρ n = some l ∧ ((l.real = true ∧ ∃ o, w.heap[l.blk]? = some o ∧ r8 U ρ l.sz b o ∧ U l.blk = none) ∨ (l.real = false ∧ ∃ es f, b = .rows es 0 f true))
 inj : ∀ n b n' b' l l', (n, b) ∈ h → (n', b') ∈ h → ρ n = some l → ρ n' = some l' → l.real = true → l'.real = true → l.blk = l'.blk → n = n'
 nd : (h.map Prod.fst).Nodup
 imm : ∀ b c, U b = some c → ∃ el fr, w.heap[b]? = some (.cells c el fr)
theorem HRel.drew {U ρ h} {w w' : World} (H : HRel U ρ h w) (e : w'.heap = w.heap) : HRel U ρ h w' :=
 ⟨fun n b hm => by rw [e]; exact H.blk n b hm, H.inj, H.nd, fun b c hc => by rw [e]; exact H.imm b c hc⟩
theorem A2 {w : World} {b : Nat} {o : Obj} (h : w.heap[b]? = some o) : b < w.heap.size := by
 rcases Nat.lt_or_ge b w.heap.size with h1 | h1
 ·exact h1
 ·simp [Array.getElem?_eq_none h1] at h
theorem HRel.perm {U ρ h h1} {w : World} (H : HRel U ρ h w) (hp : h.Perm h1) : HRel U ρ h1 w :=
 ⟨fun n b hm => H.blk n b (hp.mem_iff.2 hm), fun n b n' b' l l' m m' => H.inj n b n' b' l l' (hp.mem_iff.2 m) (hp.mem_iff.2 m'), (hp.map Prod.fst).nodup_iff.1 H.nd, H.imm⟩
theorem HRel.left {U ρ a b} {w : World} (H : HRel U ρ (a ++ b) w) : HRel U ρ a w :=
 ⟨fun n x hm => H.blk n x (List.mem_append_left _ hm), fun n b n' b' l l' m m' => H.inj n b n' b' l l' (List.mem_append_left _ m) (List.mem_append_left _ m'),
  by have := H.nd; rw [List.map_append, List.nodup_append] at this; exact this.1, H.imm⟩
theorem HRel.right {U ρ a b} {w : World} (H : HRel U ρ (a ++ b) w) : HRel U ρ b w :=
 HRel.left (a := b) (b := a) (H.perm List.perm_append_comm)
theorem HRel.same {U ρ h} {w : World} (H : HRel U ρ h w) {n : Nm} {b b' : B} (m : (n, b) ∈ h) (m' : (n, b') ∈ h) : b = b' := by
 have := H.nd
 induction h with
 | nil => cases m
 | cons p t ih =>
  rw [List.map_cons, List.nodup_cons] at this
  rcases List.mem_cons.1 m with h | m1
  ·rcases List.mem_cons.1 m' with h' | m1'
   ·rw [← h'] at h; exact congrArg Prod.snd h
   ·exact (this.1 (List.mem_map.2 ⟨_, m1', by rw [← h]⟩)).elim
  ·rcases List.mem_cons.1 m' with h' | m1'
   ·exact (this.1 (List.mem_map.2 ⟨_, m1, by rw [← h']⟩)).elim
   ·exact ih (HRel.right (a := [p]) H) m1 m1' this.2
structure Ext (U : Imm) (ρ : Env) (h : c5) (w : World) (U' : Imm) (ρ' : Env) (h' : c5) (w' : World) : Prop where
 size : w.heap.size ≤ w'.heap.size
 imm : U.le U'
 frame : ∀ b, b < w.heap.size → (∀ n l, h.dom n → ρ n = some l → l.real = true → l.blk ≠ b) → w'.heap[b]? = w.heap[b]?
 new : ∀ n l, h'.dom n → ρ' n = some l → l.real = true → w.heap.size ≤ l.blk ∨ ∃ n0 l0, h.dom n0 ∧ ρ n0 = some l0 ∧ l0.real = true ∧ l0.blk = l.blk
 newImm : ∀ b c, U' b = some c → U b = some c ∨ w.heap.size ≤ b ∨ ∃ n l, h.dom n ∧ ρ n = some l ∧ l.real = true ∧ l.blk = b
 out : w'.os = w.os ∧ w'.output = w.output
theorem Ext.refl (U : Imm) (ρ : Env) (h : c5) (w : World) : Ext U ρ h w U ρ h w :=
 ⟨Nat.le_refl _, Imm.le_refl _, fun _ _ _ => rfl, fun n l hd e hr => .inr ⟨n, l, hd, e, hr, rfl⟩, fun _ _ e => .inl e, rfl, rfl⟩
theorem Ext.trans {U U1 U2 : Imm} {ρ ρ1 ρ2 : Env} {h h1 h2 : c5} {w w1 w2 : World} (a : Ext U ρ h w U1 ρ1 h1 w1) (b : Ext U1 ρ1 h1 w1 U2 ρ2 h2 w2) : Ext U ρ h w U2 ρ2 h2 w2 := by
 refine ⟨Nat.le_trans a.size b.size, Imm.le_trans a.imm b.imm, fun x hx hn => ?_, fun n l hd e hr => ?_, fun x c e => ?_, b.out.1.trans a.out.1, b.out.2.trans a.out.2⟩
 ·rw [b.frame x (Nat.lt_of_lt_of_le hx a.size) fun n l hd e hr he => ?_, a.frame x hx hn]
  rcases a.new n l hd e hr with h | ⟨n0, l0, h3, h4, h4r, h5⟩
  ·omega
  ·exact hn n0 l0 h3 h4 h4r (h5.trans he)
 ·rcases b.new n l hd e hr with h | ⟨n0, l0, h3, h4, h4r, h5⟩
  ·exact .inl (Nat.le_trans a.size h)
  ·rw [← h5]; exact a.new n0 l0 h3 h4 h4r
 ·rcases b.newImm x c e with h | h | ⟨n, l, h3, h4, h4r, h5⟩
  ·exact a.newImm x c h
  ·exact .inr (.inl (Nat.le_trans a.size h))
  ·rcases a.new n l h3 h4 h4r with h | ⟨n0, l0, h6, h7, h7r, h8⟩
   ·exact .inr (.inl (h5 ▸ h))
   ·exact .inr (.inr ⟨n0, l0, h6, h7, h7r, h8.trans h5⟩)
structure Leaves (U : Imm) (ρ : Env) (pre : c5) (w : World) (val : V) (post : c5) (x : Value) (U' : Imm) (ρ' : Env) (w' : World) : Prop where
 val : c9 U' ρ' val x
 heap : HRel U' ρ' post w'
 keep : ∀ n l, post.dom n → ρ n = some l → ρ' n = some l
 only : ∀ n l, ρ' n = some l → post.dom n ∨ ρ n = some l
 ext : Ext U ρ pre w U' ρ' post w'
def T (P : Program) (f : FuncId) (args : List V) (pre : c5) (val : V) (post : c5) : Prop :=
 ∀ (U : Imm) (ρ : Env) (w : World) (xs : Array Value), HRel U ρ pre w → i8 U ρ args xs.toList → (∀ n, post.dom n → pre.dom n ∨ ρ n = none) →
  Calls P f xs w fun e w' => ∃ x U' ρ', e = .returned x ∧ Leaves U ρ pre w val post x U' ρ' w'
theorem c5.dom_ren {σ : Nm → Nm} {h : c5} {n : Nm} : (h.ren σ).dom n ↔ ∃ m, n = σ m ∧ h.dom m := by
 constructor
 ·rintro ⟨b, hb⟩
  obtain ⟨⟨m, b'⟩, hm, he⟩ := List.mem_map.1 hb
  cases he
  exact ⟨m, rfl, b', hm⟩
 ·rintro ⟨m, rfl, b, hb⟩
  exact ⟨b.ren σ, List.mem_map.2 ⟨(m, b), hb, rfl⟩⟩
theorem c5.ren_ren (σ τ : Nm → Nm) (h : c5) : (h.ren τ).ren σ = h.ren fun n => σ (τ n) := by
 simp [c5.ren, Function.comp_def, B.ren_ren]
theorem c5.ren_id (h : c5) : h.ren (fun n => n) = h := by simp [c5.ren, B.ren_id]
theorem ad9 {α β γ : Type} {f : α → β} {g : β → γ} (hi : ∀ a b, g a = g b → a = b) : ∀ {l : List α}, (l.map f).Nodup → (l.map fun x => g (f x)).Nodup
 | [], _ => List.nodup_nil
 | x :: xs, h => by
  rw [List.map_cons, List.nodup_cons] at h ⊢
  refine ⟨fun hm => h.1 ?_, ad9 hi h.2⟩
  obtain ⟨y, hy, e⟩ := List.mem_map.1 hm
  exact List.mem_map.2 ⟨y, hy, hi _ _ e⟩
theorem HRel.ren {U : Imm} {ρ ρ' : Env} {σ τ : Nm → Nm} (hτσ : ∀ n, τ (σ n) = n) {h : c5} {w : World} (hρ : ∀ n, ρ' (σ n) = ρ n) (H : HRel U ρ h w) :
  HRel U ρ' (h.ren σ) w := by
 have hi : ∀ a b, σ a = σ b → a = b := fun a b e => by rw [← hτσ a, ← hτσ b, e]
 refine ⟨fun n b hm => ?_, fun n b n' b' l l' m m' e1 e2 r1 r2 e3 => ?_, ?_, H.imm⟩
 ·obtain ⟨⟨m, b0⟩, hm0, he⟩ := List.mem_map.1 hm
  cases he
  obtain ⟨l, h1, h2⟩ := H.blk m b0 hm0
  refine ⟨l, by rw [hρ]; exact h1, h2.imp ?_ ?_⟩
  ·rintro ⟨hr, o, h2, h3, h4⟩
   exact ⟨hr, o, h2, r8.tr (S := fun _ => true) (Imm.le_refl _) (fun n l _ e => by rw [hρ]; exact e) (B.within_true _) h3, h4⟩
  ·rintro ⟨hr, es, f, rfl⟩; exact ⟨hr, es, f, rfl⟩
 ·obtain ⟨⟨k, b0⟩, hm, he⟩ := List.mem_map.1 m
  obtain ⟨⟨k', b0'⟩, hm', he'⟩ := List.mem_map.1 m'
  cases he; cases he'
  rw [hρ] at e1 e2
  exact congrArg σ (H.inj k b0 k' b0' l l' hm hm' e1 e2 r1 r2 e3)
 ·rw [c5.ren, List.map_map]
  exact ad9 (g := σ) hi H.nd
theorem Ext.ren {U U' : Imm} {ρ ρ' r r' : Env} {σ σ' : Nm → Nm} {h h' : c5} {w w' : World} (hr : ∀ n, r (σ n) = ρ n) (hr' : ∀ n, r' (σ' n) = ρ' n)
  (e : Ext U ρ h w U' ρ' h' w') : Ext U r (h.ren σ) w U' r' (h'.ren σ') w' := by
 refine ⟨e.size, e.imm, fun b hb hn => e.frame b hb fun n l hd hl hrl => hn (σ n) l (c5.dom_ren.2 ⟨n, rfl, hd⟩) (by rw [hr]; exact hl) hrl, fun n l hd hl hrl => ?_, fun b c hc => ?_, e.out⟩
 ·obtain ⟨m, rfl, hd0⟩ := c5.dom_ren.1 hd
  rw [hr'] at hl
  rcases e.new m l hd0 hl hrl with h | ⟨n0, l0, h3, h4, h4r, h5⟩
  ·exact .inl h
  ·exact .inr ⟨σ n0, l0, c5.dom_ren.2 ⟨n0, rfl, h3⟩, by rw [hr]; exact h4, h4r, h5⟩
 ·rcases e.newImm b c hc with h | h | ⟨n0, l0, h3, h4, h4r, h5⟩
  ·exact .inl h
  ·exact .inr (.inl h)
  ·exact .inr (.inr ⟨σ n0, l0, c5.dom_ren.2 ⟨n0, rfl, h3⟩, by rw [hr]; exact h4, h4r, h5⟩)
theorem T.ren {P : Program} {f : FuncId} {args : List V} {pre : c5} {val : V} {post : c5} (σ τ : Nm → Nm) (hστ : ∀ n, σ (τ n) = n) (hτσ : ∀ n, τ (σ n) = n)
  (H : T P f args pre val post) : T P f (V.rens σ args) (pre.ren σ) (V.ren σ val) (post.ren σ) := by
 intro U ρ w xs hh ha hf
 have hh' : HRel U (fun n => ρ (σ n)) pre w := by
  have := HRel.ren (σ := τ) (τ := σ) (ρ' := fun n => ρ (σ n)) hστ (fun n => by rw [hστ]) hh
  rwa [c5.ren_ren, show (fun n => τ (σ n)) = fun n => n from funext hτσ, c5.ren_id] at this
 have ha' : i8 U (fun n => ρ (σ n)) args xs.toList := by
  have := i8.tr (σ := τ) (ρ' := fun n => ρ (σ n)) (S := fun _ => true) (Imm.le_refl U) (fun n l _ e => by rw [hστ]; exact e) _ _ (V.withins_true _) ha
  rwa [V.rens_rens, show (fun n => τ (σ n)) = fun n => n from funext hτσ, V.rens_id] at this
 refine (H U _ w xs hh' ha' fun n hd => ?_).mono ?_
 ·rcases hf (σ n) (c5.dom_ren.2 ⟨n, rfl, hd⟩) with h | h
  ·obtain ⟨m, e, h⟩ := c5.dom_ren.1 h
   have : n = m := by rw [← hτσ n, ← hτσ m, e]
   exact .inl (this ▸ h)
  ·exact .inr h
 rintro e w' ⟨x, U', ρ', h1, h2, h3, h4, h5, h6⟩
 refine ⟨x, U', fun n => ρ' (τ n), h1, c9.tr (S := fun _ => true) (Imm.le_refl _) (fun n l _ e => by rw [hτσ]; exact e) _ _ (V.within_true _) h2,
  HRel.ren hτσ (fun n => by rw [hτσ]) h3, fun n l hd e => ?_, fun n l e => ?_, Ext.ren (fun n => rfl) (fun n => by rw [hτσ]) h6⟩
 ·obtain ⟨m, rfl, hd0⟩ := c5.dom_ren.1 hd
  show ρ' (τ (σ m)) = _
  rw [hτσ]
  exact h4 m l hd0 e
 ·rcases h5 _ l e with h | h
  ·exact .inl (c5.dom_ren.2 ⟨_, (hστ n).symm, h⟩)
  ·simp only [hστ] at h; exact .inr h
def Nm.swap (a b : Nm) (n : Nm) : Nm := if n = a then b else if n = b then a else n
theorem Nm.swap_swap (a b n : Nm) : Nm.swap a b (Nm.swap a b n) = n := by
 unfold Nm.swap
 by_cases h : n = a
 ·subst h; by_cases h' : b = n
  ·subst h'; simp
  ·simp [h']
 ·by_cases h' : n = b
  ·subst h'; simp [h]
  ·simp [h, h']
theorem T.swap {P : Program} {f : FuncId} {args : List V} {pre : c5} {val : V} {post : c5} (a b : Nm) (H : T P f args pre val post) :
  T P f (V.rens (Nm.swap a b) args) (pre.ren (Nm.swap a b)) (V.ren (Nm.swap a b) val) (post.ren (Nm.swap a b)) :=
 T.ren _ _ (Nm.swap_swap a b) (Nm.swap_swap a b) H
theorem j7 {a b : c5} {n : Nm} : c5.dom (a ++ b) n ↔ c5.dom a n ∨ c5.dom b n := by
 constructor
 ·rintro ⟨x, hx⟩; rcases List.mem_append.1 hx with h | h
  ·exact .inl ⟨x, h⟩
  ·exact .inr ⟨x, h⟩
 ·rintro (⟨x, hx⟩ | ⟨x, hx⟩)
  ·exact ⟨x, List.mem_append_left _ hx⟩
  ·exact ⟨x, List.mem_append_right _ hx⟩
theorem HRel.ex {U ρ h} {w : World} (H : HRel U ρ h w) {n : Nm} (hd : h.dom n) : ∃ l, ρ n = some l := by
 obtain ⟨b, hb⟩ := hd; obtain ⟨l, h1, _⟩ := H.blk n b hb; exact ⟨l, h1⟩
theorem HRel.real {U ρ h} {w : World} (H : HRel U ρ h w) {n : Nm} {b : B} (hb : (n, b) ∈ h) {l : Loc} (hl : ρ n = some l) (hr : l.real = true) : ∃ o, w.heap[l.blk]? = some o ∧ r8 U ρ l.sz b o ∧ U l.blk = none := by
 obtain ⟨l', h1, h2⟩ := H.blk n b hb
 rw [hl] at h1; cases h1
 rcases h2 with ⟨_, h⟩ | ⟨h, _⟩
 ·exact h
 ·rw [hr] at h; cases h
open Classical in
noncomputable def Env.both (post : c5) (ρ' ρ : Env) : Env := fun n => if post.dom n then ρ' n else ρ n
theorem Leaves.frame {U U' : Imm} {ρ ρ' : Env} {pre post rest : c5} {w w' : World} {val : V} {x : Value}
  (H : HRel U ρ (pre ++ rest) w) (hf : ∀ n, post.dom n → pre.dom n ∨ ρ n = none) (L : Leaves U ρ pre w val post x U' ρ' w') :
  ρ.le (Env.both post ρ' ρ) ∧ c9 U' (Env.both post ρ' ρ) val x ∧ HRel U' (Env.both post ρ' ρ) (post ++ rest) w' ∧ Ext U ρ (pre ++ rest) w U' (Env.both post ρ' ρ) (post ++ rest) w' := by
 have hp : ∀ n, post.dom n → Env.both post ρ' ρ n = ρ' n := fun n h => by simp [Env.both, h]
 have hq : ∀ n, ¬ post.dom n → Env.both post ρ' ρ n = ρ n := fun n h => by simp [Env.both, h]
 have hle : ρ.le (Env.both post ρ' ρ) := fun n l e => by
  by_cases h : post.dom n
  ·rw [hp n h]; exact L.keep n l h e
  ·rw [hq n h]; exact e
 have hle' : ρ'.le (Env.both post ρ' ρ) := fun n l e => by
  by_cases h : post.dom n
  ·rw [hp n h]; exact e
  ·rw [hq n h]; exact (L.only n l e).resolve_left h
 have hrest : ∀ n, c5.dom rest n → ¬ c5.dom pre n := fun n ⟨b, hb⟩ ⟨b', hb'⟩ => by
  have := H.nd
  rw [List.map_append, List.nodup_append] at this
  exact this.2.2 n (List.mem_map.2 ⟨_, hb', rfl⟩) n (List.mem_map.2 ⟨_, hb, rfl⟩) rfl
 have hdis : ∀ n, c5.dom rest n → ¬ post.dom n := fun n hr hpn => by
  rcases hf n hpn with h | h
  ·exact hrest n hr h
  ·obtain ⟨l, hl⟩ := H.right.ex hr; rw [h] at hl; cases hl
 have hapart : ∀ n l n0 l0, c5.dom rest n → ρ n = some l → l.real = true → c5.dom pre n0 → ρ n0 = some l0 → l0.real = true → l0.blk ≠ l.blk := by
  rintro n l n0 l0 ⟨b, hb⟩ hl hr ⟨b0, hb0⟩ hl0 hr0 e
  have := H.inj n0 b0 n b l0 l (List.mem_append_left _ hb0) (List.mem_append_right _ hb) hl0 hl hr0 hr e
  subst this
  exact hrest n0 ⟨b, hb⟩ ⟨b0, hb0⟩
 refine ⟨hle, c9.mono (Imm.le_refl _) hle' L.val, ⟨fun n b hm => ?_, fun n b n' b' l l' m m' e1 e2 r1 r2 e3 => ?_, ?_, L.heap.imm⟩, ⟨L.ext.size, L.ext.imm, fun b hb hn => ?_, fun n l hd e hr => ?_, fun b c e => ?_, L.ext.out⟩⟩
 ·rcases List.mem_append.1 hm with hm | hm
  ·obtain ⟨l, h1, h2⟩ := L.heap.blk n b hm
   refine ⟨l, hle' _ _ h1, h2.imp ?_ id⟩
   rintro ⟨hr, o, h2, h3, h4⟩
   exact ⟨hr, o, h2, r8.mono (Imm.le_refl _) hle' h3, h4⟩
  ·obtain ⟨l, h1, h2⟩ := H.right.blk n b hm
   refine ⟨l, hle _ _ h1, h2.imp ?_ id⟩
   rintro ⟨hr, o, h2, h3, h4⟩
   refine ⟨hr, o, ?_, r8.mono L.ext.imm hle h3, ?_⟩
   ·rw [L.ext.frame l.blk (A2 h2) fun n0 l0 hd0 hl0 hr0 => hapart n l n0 l0 ⟨b, hm⟩ h1 hr hd0 hl0 hr0]; exact h2
   ·cases hU : U' l.blk with
    | none => rfl
    | some c =>
     rcases L.ext.newImm _ _ hU with h | h | ⟨n0, l0, h5, h6, h6r, h7⟩
     ·rw [h4] at h; cases h
     ·have := A2 h2; omega
     ·exact (hapart n l n0 l0 ⟨b, hm⟩ h1 hr h5 h6 h6r h7).elim
 ·-- one block, one name
  have key : ∀ n b n' b' l l', (n, b) ∈ post → (n', b') ∈ rest → Env.both post ρ' ρ n = .some l → Env.both post ρ' ρ n' = .some l' → l.real = true → l'.real = true → l.blk = l'.blk → False := by
   intro n b n' b' l l' m m' e1 e2 r1 r2 e3
   rw [hp n ⟨b, m⟩] at e1
   rw [hq n' (hdis n' ⟨b', m'⟩)] at e2
   obtain ⟨o, h2, _⟩ := H.right.real m' e2 r2
   rcases L.ext.new n l ⟨b, m⟩ e1 r1 with h | ⟨n0, l0, h5, h6, h6r, h7⟩
   ·have := A2 h2; omega
   ·exact hapart n' l' n0 l0 ⟨b', m'⟩ e2 r2 h5 h6 h6r (h7.trans e3)
  rcases List.mem_append.1 m with m | m <;> rcases List.mem_append.1 m' with m' | m'
  ·rw [hp n ⟨b, m⟩] at e1; rw [hp n' ⟨b', m'⟩] at e2
   exact L.heap.inj n b n' b' l l' m m' e1 e2 r1 r2 e3
  ·exact (key n b n' b' l l' m m' e1 e2 r1 r2 e3).elim
  ·exact (key n' b' n b l' l m' m e2 e1 r2 r1 e3.symm).elim
  ·rw [hq n (hdis n ⟨b, m⟩)] at e1; rw [hq n' (hdis n' ⟨b', m'⟩)] at e2
   exact H.right.inj n b n' b' l l' m m' e1 e2 r1 r2 e3
 ·rw [List.map_append, List.nodup_append]
  refine ⟨L.heap.nd, H.right.nd, fun n hn n' hn' e => ?_⟩
  subst e
  obtain ⟨⟨_, b⟩, hb, rfl⟩ := List.mem_map.1 hn
  obtain ⟨⟨m, b'⟩, hb', e⟩ := List.mem_map.1 hn'
  cases e
  exact hdis _ ⟨b', hb'⟩ ⟨b, hb⟩
 ·exact L.ext.frame b hb fun n l hd e hr => hn n l (j7.2 (.inl hd)) e hr
 ·rcases j7.1 hd with hd | hd
  ·rw [hp n hd] at e
   rcases L.ext.new n l hd e hr with h | ⟨n0, l0, h5, h6⟩
   ·exact .inl h
   ·exact .inr ⟨n0, l0, j7.2 (.inl h5), h6⟩
  ·rw [hq n (hdis n hd)] at e
   exact .inr ⟨n, l, j7.2 (.inr hd), e, hr, rfl⟩
 ·rcases L.ext.newImm b c e with h | h | ⟨n0, l0, h5, h6⟩
  ·exact .inl h
  ·exact .inr (.inl h)
  ·exact .inr (.inr ⟨n0, l0, j7.2 (.inl h5), h6⟩)
end Sy
namespace Sy
open Go
structure St where
 tmps : List V
 heap : c5
 next : Nat
 dfs : List Nm
def I5 (X : List Deferred) (ρ : Env) : List Nm → List Deferred → Prop
 | [], l => l = X
 | n :: ns, l => ∃ lc r, ρ n = some lc ∧ l = { target := .collected lc.blk, args := #[] } :: r ∧ I5 X ρ ns r
structure StRel (X : List Deferred) (U : Imm) (ρ : Env) (st : St) (a : Act) (w : World) : Prop where
 tmps : i8 U ρ st.tmps a.tmps.toList
 dfs : I5 X ρ st.dfs a.defers
 heap : HRel U ρ st.heap w
 fresh : ∀ k, st.next ≤ k → ρ (.o k) = none
def Nm.pin (p : Nat) : Nm → Bool
 | .o k => decide (k < p)
 | .g _ => true
structure Turn (p : Nat) (U : Imm) (ρ : Env) (h : c5) (w : World) (U' : Imm) (ρ' : Env) (h' : c5) (w' : World) : Prop where
 ext : Ext U ρ h w U' ρ' h' w'
 pins : ∀ n, n.pin p = true → ρ' n = ρ n ∧ (h'.dom n → h.dom n)
theorem Turn.refl (p : Nat) (U : Imm) (ρ : Env) (h : c5) (w : World) : Turn p U ρ h w U ρ h w := ⟨Ext.refl _ _ _ _, fun _ _ => ⟨rfl, id⟩⟩
theorem Turn.trans {p : Nat} {U U1 U2 : Imm} {ρ ρ1 ρ2 : Env} {h h1 h2 : c5} {w w1 w2 : World} (a : Turn p U ρ h w U1 ρ1 h1 w1) (b : Turn p U1 ρ1 h1 w1 U2 ρ2 h2 w2) : Turn p U ρ h w U2 ρ2 h2 w2 :=
 ⟨a.ext.trans b.ext, fun n hp => ⟨(b.pins n hp).1.trans (a.pins n hp).1, fun hd => (a.pins n hp).2 ((b.pins n hp).2 hd)⟩⟩
def Fw (ro : Option Nat) : Fence := { Fence.wide with round := ro }
def R (P : Program) (ro : Option Nat) (p : Nat) (c : Code) (st : St) (e : Exit) (st' : St) : Prop :=
 ∀ ⦃X : List Deferred⦄ (U : Imm) (ρ : Env) (a : Act) (w : World) (Q : Exit → Act → World → Prop), StRel X U ρ st a w →
  (∀ U' ρ' a' w', StRel X U' ρ' st' a' w' → Turn p U ρ st.heap w U' ρ' st'.heap w' → Q e a' w') → c.wpIn (Fw ro) 0 P Q a w
def f9 (P : Program) (ro : Option Nat) (p : Nat) (c : Code) (m : Nat) (st : St) (e : Exit) (st' : St) : Prop :=
 ∀ ⦃X : List Deferred⦄ (U : Imm) (ρ : Env) (a : Act) (w : World) (Q : Exit → Act → World → Prop), StRel X U ρ st a w →
  (∀ U' ρ' a' w', StRel X U' ρ' st' a' w' → Turn p U ρ st.heap w U' ρ' st'.heap w' → Q e a' w') → Code.roundsIn (Fw ro) 0 P c Q m a w
def Wk (p : Nat) (st st' : St) : Prop :=
 ∀ ⦃X : List Deferred⦄ U ρ a w, StRel X U ρ st a w → ∃ U' ρ', StRel X U' ρ' st' a w ∧ Turn p U ρ st.heap w U' ρ' st'.heap w
section rules
variable {P : Program} {ro : Option Nat} {p : Nat} {st st1 st2 st' : St} {e : Exit} {x y c : Code}
theorem Wk.refl (st : St) : Wk p st st := fun X U ρ _ _ h => ⟨U, ρ, h, Turn.refl _ _ _ _ _⟩
theorem Wk.trans (h : Wk p st st1) (h' : Wk p st1 st2) : Wk p st st2 := fun X U ρ a w hs => by
 obtain ⟨U1, ρ1, h1, t1⟩ := h U ρ a w hs
 obtain ⟨U2, ρ2, h2, t2⟩ := h' U1 ρ1 a w h1
 exact ⟨U2, ρ2, h2, t1.trans t2⟩
theorem R.pre (h : Wk p st st1) (h' : R P ro p c st1 e st') : R P ro p c st e st' := fun X U ρ a w Q hs hq => by
 obtain ⟨U1, ρ1, h1, t1⟩ := h U ρ a w hs
 exact h' U1 ρ1 a w Q h1 fun U' ρ' a' w' h2 t2 => hq U' ρ' a' w' h2 (t1.trans t2)
theorem R.post (h : R P ro p c st e st1) (h' : Wk p st1 st') : R P ro p c st e st' := fun X U ρ a w Q hs hq =>
 h U ρ a w Q hs fun U1 ρ1 a1 w1 h1 t1 => by
  obtain ⟨U2, ρ2, h2, t2⟩ := h' U1 ρ1 a1 w1 h1
  exact hq U2 ρ2 a1 w1 h2 (t1.trans t2)
theorem R.skip (st : St) : R P ro p .skip st .normal st := fun X U ρ a w _ hs hq => wpIn_skip (hq U ρ a w hs (Turn.refl _ _ _ _ _))
theorem R.exit (id : Nat) (st : St) : R P ro p (.exit id) st (.exit id) st := fun X U ρ a w _ hs hq => wpIn_exit (hq U ρ a w hs (Turn.refl _ _ _ _ _))
theorem R.ret (st : St) : R P ro p .ret st .ret st := fun X U ρ a w _ hs hq => wpIn_ret (hq U ρ a w hs (Turn.refl _ _ _ _ _))
theorem R.seq (h : R P ro p x st .normal st1) (h' : R P ro p y st1 e st') : R P ro p (.seq x y) st e st' := fun X U ρ a w Q hs hq =>
 wpIn_seq (h U ρ a w _ hs fun U1 ρ1 a1 w1 h1 t1 => h' U1 ρ1 a1 w1 Q h1 fun U2 ρ2 a2 w2 h2 t2 => hq U2 ρ2 a2 w2 h2 (t1.trans t2))
theorem R.seq_out (h : R P ro p x st e st') (he : e ≠ .normal) : R P ro p (.seq x y) st e st' := fun X U ρ a w Q hs hq =>
 wpIn_seq (h U ρ a w _ hs fun U1 ρ1 a1 w1 h1 t1 => by
  have := hq U1 ρ1 a1 w1 h1 t1
  cases e <;> first | exact (he rfl).elim | exact this)
theorem R.cond {o : Operand} {b : Bool} (hb : ∀ ⦃X : List Deferred⦄ U ρ a w, StRel X U ρ st a w → a.eval o = .bool b) (h : R P ro p (if b then x else y) st e st') : R P ro p (.cond o x y) st e st' :=
 fun X U ρ a w Q hs hq => wpIn_cond (hb U ρ a w hs) (h U ρ a w Q hs hq)
theorem R.block {id : Nat} (h : R P ro p c st .normal st') : R P ro p (.block id c) st .normal st' := fun X U ρ a w _ hs hq =>
 wpIn_block (h U ρ a w _ hs fun U1 ρ1 a1 w1 h1 t1 => hq U1 ρ1 a1 w1 h1 t1)
theorem R.block_exit {id : Nat} (h : R P ro p c st (.exit id) st') : R P ro p (.block id c) st .normal st' := fun X U ρ a w _ hs hq =>
 wpIn_block (h U ρ a w _ hs fun U1 ρ1 a1 w1 h1 t1 => by simp only [Exit.inBlock, if_true]; exact hq U1 ρ1 a1 w1 h1 t1)
theorem R.block_out {id : Nat} (h : R P ro p c st e st') (he : e ≠ .normal) (he' : e ≠ .exit id) : R P ro p (.block id c) st e st' := fun X U ρ a w _ hs hq =>
 wpIn_block (h U ρ a w _ hs fun U1 ρ1 a1 w1 h1 t1 => by
  have := hq U1 ρ1 a1 w1 h1 t1
  cases e with
  | exit id' =>
   have hne : id' ≠ id := fun h => he' (by rw [h])
   simp only [Exit.inBlock, hne, if_false]; exact this
  | _ => exact this)
theorem I3 {b : Frame} {a : Act} {k : List Item} {cs : List Frame} {w : World} : step P (lone (b.atR a (.code (.scope c) :: k)) cs w) = .next (lone (b.atR a (.code c :: .inScope c :: k)) cs w) :=
 step_lone_go (by simp [stepG, stepG.exec, Frame.atR])
theorem az0 {b : Frame} {a : Act} {k : List Item} {cs : List Frame} {w : World} : step P (lone (b.atR a (.inScope c :: k)) cs w) = .next (lone (b.atR a k) cs w) :=
 step_lone_go (by simp [stepG, stepG.exec, Frame.atR])
theorem aU9 {F : Fence} {n : Nat} {Q : Exit → Act → World → Prop} {a : Act} {w : World} (h : c.wpIn F n P (Exit.noGoto Q) a w) : (Code.scope c).wpIn F n P Q a w := by
 intro b k cs hro hb hr
 have h0 : (lone (b.atR a (.code (.scope c) :: k)) cs w).fenced P F := fenced_calm hb hr rfl
 obtain ⟨e, a₁, w₁, hq, harr⟩ := h b (.inScope c :: k) cs hro hb hr
 cases e with
 | normal => exact ⟨.normal, a₁, w₁, hq, .head h0 I3 (StepsIn.trans harr (.one (fenced_calm hb hr rfl) az0))⟩
 | exit id =>
  have hx : exitTo id (.inScope c :: k) = exitTo id k := by simp [exitTo]
  exact ⟨.exit id, a₁, w₁, hq, fun k' hk => .head h0 I3 (harr.1 k' (by rw [hx]; exact hk)),
   fun hr' hk => let ⟨k₁, h1, h2⟩ := harr.2 hr' (by rw [hx]; exact hk); ⟨k₁, h1, .head h0 I3 h2⟩⟩
 | goto l => exact hq.elim
 | ret => exact ⟨_, a₁, w₁, hq, .of_steps (.one h0 I3) harr⟩
 | panic ch => exact ⟨_, a₁, w₁, hq, .of_steps (.one h0 I3) harr⟩
 | outgrown => exact ⟨_, a₁, w₁, hq, .of_steps (.one h0 I3) harr⟩
theorem R.scope (h : R P ro p c st e st') (he : ∀ l, e ≠ .goto l) : R P ro p (.scope c) st e st' := fun X U ρ a w _ hs hq =>
 aU9 (h U ρ a w _ hs fun U1 ρ1 a1 w1 h1 t1 => by
  have := hq U1 ρ1 a1 w1 h1 t1
  cases e with
  | goto l => exact (he l rfl).elim
  | _ => exact this)
theorem R.label (l : Nat) (st : St) : R P ro p (.label l) st .normal st := fun X U ρ a w _ hs hq => wpIn_label (hq U ρ a w hs (Turn.refl _ _ _ _ _))
theorem R.loop {m : Nat} (h : f9 P ro p c m st e st') : R P ro p (.loop c) st e st' := fun X U ρ a w Q hs hq => wpIn_loop_rounds m (h U ρ a w Q hs hq)
theorem f9.step {m : Nat} (h : R P ro p c st .normal st1) (h' : f9 P ro p c m st1 e st') : f9 P ro p c (m + 1) st e st' := fun X U ρ a w Q hs hq => by
 rw [roundsIn_succ]
 exact h U ρ a w _ hs fun U1 ρ1 a1 w1 h1 t1 => h' U1 ρ1 a1 w1 Q h1 fun U2 ρ2 a2 w2 h2 t2 => hq U2 ρ2 a2 w2 h2 (t1.trans t2)
theorem f9.out {m : Nat} (h : R P ro p c st e st') (he : e ≠ .normal) : f9 P ro p c (m + 1) st e st' := fun X U ρ a w Q hs hq => by
 rw [roundsIn_succ]
 exact h U ρ a w _ hs fun U1 ρ1 a1 w1 h1 t1 => by
  have := hq U1 ρ1 a1 w1 h1 t1
  cases e <;> first | exact (he rfl).elim | exact this
theorem f9.pre {m : Nat} (h : Wk p st st1) (h' : f9 P ro p c m st1 e st') : f9 P ro p c m st e st' := fun X U ρ a w Q hs hq => by
 obtain ⟨U1, ρ1, h1, t1⟩ := h U ρ a w hs
 exact h' U1 ρ1 a w Q h1 fun U' ρ' a' w' h2 t2 => hq U' ρ' a' w' h2 (t1.trans t2)
end rules
def ap1 : Value → V
 | .bool b => .bool b
 | .int k n => .int k n
 | .string s => .str s
 | .pointer none => .pnil
 | .slice none 0 0 => .snil
 | .nilFunc => .fnil
 | .nilIface => .inil
 | .map none => .mpnil
 | .tuple ⟨[]⟩ => .tup []
 | _ => .any
theorem ap2 (U : Imm) (ρ : Env) (x : Value) : c9 U ρ (ap1 x) x := by
 unfold ap1
 split <;> simp [c9, i8]
def m6 : List V → Nat → V
 | [], _ => .any
 | v :: _, 0 => v
 | _ :: vs, n + 1 => m6 vs n
def J8 : List V → Nat → V → List V
 | [], _, _ => []
 | _ :: vs, 0, x => x :: vs
 | v :: vs, n + 1, x => v :: J8 vs n x
def evV (tmps : List V) : Operand → V
 | .tmp t => m6 tmps t
 | .const v => ap1 v
 | .func f => .fn (.func f) [] []
 | .global _ => .any
theorem W4 {U : Imm} {ρ : Env} : ∀ {l : List V} {xs : List Value} (t : Nat), i8 U ρ l xs → c9 U ρ (m6 l t) (xs.getD t undef)
 | [], xs, t, _ => by simp [m6, c9]
 | v :: vs, xs, 0, h => by
  rw [i8] at h
  obtain ⟨x, r, rfl, h1, _⟩ := h
  simpa [m6] using h1
 | v :: vs, xs, t + 1, h => by
  rw [i8] at h
  obtain ⟨x, r, rfl, _, h2⟩ := h
  simpa [m6] using W4 t h2
theorem aG_ {U : Imm} {ρ : Env} {v : V} {y : Value} (hv : c9 U ρ v y) : ∀ {l : List V} {xs : List Value} (t : Nat), i8 U ρ l xs → i8 U ρ (J8 l t v) (xs.set t y)
 | [], xs, t, h => by rw [i8] at h; subst h; simp [J8, i8]
 | u :: vs, xs, 0, h => by
  rw [i8] at h
  obtain ⟨x, r, rfl, h1, h2⟩ := h
  simp only [J8, List.set_cons_zero]
  rw [i8]; exact ⟨y, r, rfl, hv, h2⟩
 | u :: vs, xs, t + 1, h => by
  rw [i8] at h
  obtain ⟨x, r, rfl, h1, h2⟩ := h
  simp only [J8, List.set_cons_succ]
  rw [i8]; exact ⟨x, _, rfl, h1, aG_ hv t h2⟩
theorem bE9 {U : Imm} {ρ : Env} {l : List V} {a : Act} (h : i8 U ρ l a.tmps.toList) (x : Operand) : c9 U ρ (evV l x) (a.eval x) := by
 cases x with
 | tmp t =>
  have := W4 t h
  simpa [evV, Act.eval] using this
 | const v => exact ap2 U ρ v
 | global g => simp [evV, c9]
 | func f => rw [evV, Act.eval, c9]; exact ⟨#[], #[], rfl, by simp [i8], by simp [i8]⟩
def K7 (tmps : List V) (dst : Option Tmp) (v : V) : List V :=
 match dst with
 | some d => J8 tmps d v
 | none => tmps
theorem ad1 {U : Imm} {ρ : Env} {l : List V} {a : Act} {v : V} {y : Value} (h : i8 U ρ l a.tmps.toList) (hv : c9 U ρ v y) (dst : Option Tmp) :
  i8 U ρ (K7 l dst v) (a.put dst y).tmps.toList := by
 cases dst with
 | none => exact h
 | some d => simpa [K7, Act.put] using aG_ hv d h
end Sy
namespace Sy
open Go
theorem HRel.nil {U ρ} {h : c5} {w : World} (H : HRel U ρ h w) : HRel U ρ [] w :=
 HRel.left (a := []) (b := h) H
theorem Leaves.same {U ρ pre} {w w' : World} {val : V} {x : Value} (H : HRel U ρ pre w) (hv : c9 U ρ val x) (e : w'.heap = w.heap) (eo : w'.os = w.os ∧ w'.output = w.output := by exact ⟨rfl, rfl⟩) : Leaves U ρ pre w val pre x U ρ w' :=
 ⟨hv, H.drew e, fun _ _ _ h => h, fun _ _ h => .inr h, ⟨by rw [e]; exact Nat.le_refl _, Imm.le_refl _, fun _ _ _ => by rw [e], fun n l hd e hr => .inr ⟨n, l, hd, e, hr, rfl⟩, fun _ _ e => .inl e, eo⟩⟩
def Env.add (ρ : Env) (m : Nm) (l : Loc) : Env := fun n => if n = m then some l else ρ n
theorem Env.le_add {ρ : Env} {m : Nm} (h : ρ m = Option.none) (l : Loc) : ρ.le (ρ.add m l) := fun n l' e => by
 unfold Env.add
 by_cases hn : n = m
 ·subst hn; rw [h] at e; cases e
 ·simp [hn, e]
theorem Env.add_self {ρ : Env} {m : Nm} {l : Loc} : ρ.add m l m = some l := by simp [Env.add]
theorem Leaves.newG {U ρ pre} {w w' : World} {val : V} {x : Value} {m : Nm} {b : B} {l : Loc} (H : HRel U ρ pre w) (hm : ρ m = none)
  (hsz : w.heap.size ≤ w'.heap.size) (hold : ∀ k, k < w.heap.size → w'.heap[k]? = w.heap[k]?)
  (hb : (l.real = true ∧ w.heap.size ≤ l.blk ∧ ∃ o, w'.heap[l.blk]? = some o ∧ r8 U (ρ.add m l) l.sz b o) ∨ (l.real = false ∧ ∃ es f, b = .rows es 0 f true))
  (hv : c9 U (ρ.add m l) val x) (eo : w'.os = w.os ∧ w'.output = w.output := by exact ⟨rfl, rfl⟩) :
  Leaves U ρ pre w val ((m, b) :: pre) x U (ρ.add m l) w' := by
 have hle := Env.le_add hm l
 have hpm : ∀ b', (m, b') ∉ pre := fun b' h => by obtain ⟨l, h1, _⟩ := H.blk m b' h; rw [hm] at h1; cases h1
 have hlt : ∀ n b, (n, b) ∈ pre → n ≠ m := fun n b h e => hpm b (e ▸ h)
 refine ⟨hv, ⟨fun n b' h => ?_, fun n b1 n' b2 l1 l2 h1 h2 e1 e2 r1 r2 e3 => ?_, ?_, fun k c hk => ?_⟩, fun n l _ h => hle n l h, fun n l0 h => ?_, ⟨hsz, Imm.le_refl _, fun k hk _ => hold k hk, fun n l0 hd h hr => ?_, fun _ _ h => .inl h, eo⟩⟩
 ·rcases List.mem_cons.1 h with h | h
  ·cases h
   refine ⟨_, Env.add_self, hb.imp ?_ id⟩
   rintro ⟨hr, hge, o, h1, h2⟩
   refine ⟨hr, o, h1, h2, ?_⟩
   cases hU : U l.blk with
   | none => rfl
   | some c => obtain ⟨_, _, h⟩ := H.imm _ _ hU; have := A2 h; omega
  ·obtain ⟨l, h1, h2⟩ := H.blk n b' h
   refine ⟨l, hle _ _ h1, h2.imp ?_ id⟩
   rintro ⟨hr, o', h2, h3, h4⟩
   exact ⟨hr, o', by rw [hold _ (A2 h2)]; exact h2, r8.mono (Imm.le_refl _) hle h3, h4⟩
 ·have blk : ∀ n b l0, (n, b) ∈ pre → ρ.add m l n = some l0 → l0.real = true → l0.blk < w.heap.size ∧ ρ n = some l0 := fun n b l0 h e hr => by
   have hn := hlt n b h
   simp only [Env.add, hn, if_false] at e
   obtain ⟨o', h2, _⟩ := H.real h e hr
   exact ⟨A2 h2, e⟩
  have new : l.real = true → w.heap.size ≤ l.blk := fun hr => by
   rcases hb with ⟨_, h, _⟩ | ⟨h, _⟩
   ·exact h
   ·rw [hr] at h; cases h
  rcases List.mem_cons.1 h1 with h1 | h1 <;> rcases List.mem_cons.1 h2 with h2 | h2
  ·cases h1; cases h2; rfl
  ·cases h1
   obtain ⟨h3, _⟩ := blk _ _ _ h2 e2 r2
   rw [Env.add_self] at e1; cases e1
   have := new r1; omega
  ·cases h2
   obtain ⟨h3, _⟩ := blk _ _ _ h1 e1 r1
   rw [Env.add_self] at e2; cases e2
   have := new r2; omega
  ·exact H.inj n b1 n' b2 l1 l2 h1 h2 (blk _ _ _ h1 e1 r1).2 (blk _ _ _ h2 e2 r2).2 r1 r2 e3
 ·rw [List.map_cons, List.nodup_cons]
  refine ⟨fun h => ?_, H.nd⟩
  obtain ⟨⟨n, b'⟩, h1, rfl⟩ := List.mem_map.1 h
  exact hpm b' h1
 ·obtain ⟨el, fr, h⟩ := H.imm k c hk
  exact ⟨el, fr, by rw [hold _ (A2 h)]; exact h⟩
 ·by_cases hn : n = m
  ·subst hn; exact .inl ⟨b, by simp⟩
  ·simp only [Env.add, hn, if_false] at h; exact .inr h
 ·obtain ⟨b', hb'⟩ := hd
  rcases List.mem_cons.1 hb' with h1 | h1
  ·cases h1; rw [Env.add_self] at h; cases h
   rcases hb with ⟨_, h, _⟩ | ⟨h, _⟩
   ·exact .inl h
   ·rw [hr] at h; cases h
  ·have := hlt n b' h1
   simp only [Env.add, this, if_false] at h
   exact .inr ⟨n, l0, ⟨b', h1⟩, h, hr, rfl⟩
theorem Leaves.new {U ρ pre} {w w' : World} {val : V} {x : Value} {m : Nm} {b : B} {o : Obj} {sz : Nat} (H : HRel U ρ pre w) (hm : ρ m = none)
  (e : w'.heap = w.heap.push o) (hb : r8 U (ρ.add m ⟨w.heap.size, sz, true⟩) sz b o) (hv : c9 U (ρ.add m ⟨w.heap.size, sz, true⟩) val x) (eo : w'.os = w.os ∧ w'.output = w.output := by exact ⟨rfl, rfl⟩) :
  Leaves U ρ pre w val ((m, b) :: pre) x U (ρ.add m ⟨w.heap.size, sz, true⟩) w' :=
 Leaves.newG H hm (by rw [e]; simp) (fun k hk => by rw [e, Array.getElem?_push]; simp [Nat.ne_of_lt hk]) (.inl ⟨rfl, Nat.le_refl _, o, by rw [e]; simp, hb⟩) hv eo
theorem Leaves.set {U ρ} {w w' : World} {val : V} {x : Value} {n : Nm} {b b' : B} {l : Loc} {o' : Obj} (H : HRel U ρ [(n, b)] w) (hl : ρ n = some l) (hr : l.real = true)
  (e : w'.heap = w.heap.setIfInBounds l.blk o') (hb : r8 U ρ l.sz b' o') (hv : c9 U ρ val x) (eo : w'.os = w.os ∧ w'.output = w.output := by exact ⟨rfl, rfl⟩) : Leaves U ρ [(n, b)] w val [(n, b')] x U ρ w' := by
 obtain ⟨o, h2, h3, h4⟩ := H.real (b := b) (by simp) hl hr
 have hlt := A2 h2
 have hold : ∀ k, k ≠ l.blk → w'.heap[k]? = w.heap[k]? := fun k hk => by rw [e, Array.getElem?_setIfInBounds]; simp [Ne.symm hk]
 refine ⟨hv, ⟨fun m b1 h => ?_, fun m b1 m' b2 l1 l2 h1 h2 _ _ _ _ _ => ?_, by simp, fun k c hk => ?_⟩, fun _ _ _ h => h, fun _ _ h => .inr h, ⟨by rw [e]; simp, Imm.le_refl _, fun k hk hn => hold k ?_, fun m l1 hd e1 hr1 => ?_, fun _ _ h => .inl h, eo⟩⟩
 ·simp only [List.mem_singleton, Prod.mk.injEq] at h
  obtain ⟨rfl, rfl⟩ := h
  exact ⟨l, hl, .inl ⟨hr, o', by rw [e, Array.getElem?_setIfInBounds]; simp [hlt], hb, h4⟩⟩
 ·simp only [List.mem_singleton, Prod.mk.injEq] at h1 h2
  rw [h1.1, h2.1]
 ·obtain ⟨el, fr, h⟩ := H.imm k c hk
  exact ⟨el, fr, by rw [hold k (fun hk' => by rw [hk', h4] at hk; cases hk)]; exact h⟩
 ·intro hk'; exact hn n l ⟨b, by simp⟩ hl hr hk'.symm
 ·obtain ⟨b1, h⟩ := hd
  simp only [List.mem_singleton, Prod.mk.injEq] at h
  obtain ⟨rfl, rfl⟩ := h
  rw [hl] at e1; cases e1
  exact .inr ⟨m, l, ⟨b, by simp⟩, hl, hr, rfl⟩
theorem Leaves.drop {U ρ pre} {w : World} {val : V} {post post' : c5} {x : Value} {U' : Imm} {ρ' : Env} {w' : World} (L : Leaves U ρ pre w val post x U' ρ' w')
  (hs : post'.Sublist post) (hd : ∀ n, post.dom n → post'.dom n ∨ ∃ l, ρ n = some l) : Leaves U ρ pre w val post' x U' ρ' w' := by
 have hm : ∀ p, p ∈ post' → p ∈ post := fun p h => hs.subset h
 refine ⟨L.val, ⟨fun n b h => L.heap.blk n b (hm _ h), fun n b n' b' l l' h h' => L.heap.inj n b n' b' l l' (hm _ h) (hm _ h'), (hs.map Prod.fst).nodup L.heap.nd, L.heap.imm⟩,
  fun n l ⟨b, h⟩ e => L.keep n l ⟨b, hm _ h⟩ e, fun n l e => ?_, ⟨L.ext.size, L.ext.imm, L.ext.frame, fun n l ⟨b, h⟩ e => L.ext.new n l ⟨b, hm _ h⟩ e, L.ext.newImm, L.ext.out⟩⟩
 rcases L.only n l e with h | h
 ·rcases hd n h with h' | ⟨l0, h0⟩
  ·exact .inl h'
  ·have := L.keep n l0 h h0
   rw [this] at e; cases e; exact .inr h0
 ·exact .inr h
def an9 (P : Program) (K : Value → World → Prop) : Result Next → Prop
 | .ok (.value v) w' => K v w'
 | .ok .skip w' => K undef w'
 | .ok (.enter f args) w' => Calls P f args w' fun e w'' => ∃ v, e = .returned v ∧ K v w''
 | .ok (.round l f tmps assign body) w' => RoundIn (Fw none) 0 P l f tmps assign body w' fun e w'' => ∃ v, e = .returned v ∧ K v w''
 | _ => False
theorem au8 (ro : Option Nat) (f : FuncId) : (Fw ro).fn f := trivial
theorem aA4 (ro : Option Nat) : (Fw ro).depth.isSome = true → 1 ≤ (0 : Nat) := fun h => by simp [Fw, Fence.wide] at h
theorem ae0 {P : Program} {ro : Option Nat} {o : Oper} {a : Act} {w : World} {next : Act → World → Prop} {Q : Exit → Act → World → Prop}
  (hd : ∀ c, o.op ≠ .defer c) (h : an9 P (fun v w' => next (a.put o.dst v) w') ((execOp a.eval o).run P w)) : o.wpIn (Fw ro) 0 P a w next Q := by
 refine ⟨fun f _ => au8 ro f, ?_⟩
 rw [Oper.semAt_eq _ _ _ hd]
 generalize (execOp a.eval o).run P w = r at h ⊢
 cases r with
 | halt h' w' => exact h.elim
 | ok x w' =>
  cases x with
  | value v => exact h
  | skip => exact h
  | enter f args =>
   refine ⟨aA4 ro, ?_⟩
   have h1 : CallsIn Fence.wide (0 - 1) P f args w' _ := callsIn_wide.2 h
   refine CallsIn.mono (F := Fw ro) h1 ?_
   rintro e w'' ⟨v, rfl, hv⟩
   exact hv
  | round l f tmps assign body =>
   refine ⟨aA4 ro, ?_⟩
   refine RoundIn.mono (F := Fw ro) h ?_
   rintro e w'' ⟨v, rfl, hv⟩
   exact hv
  | _ => exact h.elim
def E8 (P : Program) (s : Sem Next) (U : Imm) (ρ : Env) (pre : c5) (w : World) (val : V) (post : c5) : Prop :=
 an9 P (fun x w' => ∃ U' ρ', Leaves U ρ pre w val post x U' ρ' w') (s.run P w)
def RO (P : Program) (ro : Option Nat) (p : Nat) (ops : Array Oper) (l : List Nat) (st st' : St) : Prop :=
 ∀ ⦃X : List Deferred⦄ (U : Imm) (ρ : Env) (a : Act) (w : World) (Q : Exit → Act → World → Prop), StRel X U ρ st a w →
  (∀ U' ρ' a' w', StRel X U' ρ' st' a' w' → Turn p U ρ st.heap w U' ρ' st'.heap w' → Q .normal a' w') → wpOpsIn (Fw ro) 0 P ops Q l a w
section
variable {P : Program} {ro : Option Nat} {p : Nat} {ops : Array Oper} {st st1 st' : St}
variable {X : List Deferred}
theorem RO.nil (st : St) : RO P ro p ops [] st st := fun X U ρ a w Q hs hq => by
 simp only [wpOpsIn]; exact hq U ρ a w hs (Turn.refl _ _ _ _ _)
theorem aU4 {s : Sem Next} {U : Imm} {ρ : Env} {a : Act} {w : World} {pre rest post : c5} {val : V} {dst : Option Tmp} {nx : Nat} {K : Value → World → Prop}
  (hs : StRel X U ρ st a w) (hperm : st.heap.Perm (pre ++ rest)) (hp : p ≤ st.next) (hnx : st.next ≤ nx)
  (hfresh : ∀ n, post.dom n → pre.dom n ∨ ∃ k, n = .o k ∧ st.next ≤ k ∧ k < nx)
  (hstep : E8 P s U ρ pre w val post)
  (hK : ∀ U' ρ' x w', StRel X U' ρ' { st with tmps := K7 st.tmps dst val, heap := post ++ rest, next := nx } (a.put dst x) w' → Turn p U ρ st.heap w U' ρ' (post ++ rest) w' → K x w') :
  an9 P K (s.run P w) := by
 have H := hs.heap.perm hperm
 have hf : ∀ n, post.dom n → pre.dom n ∨ ρ n = none := fun n hd => (hfresh n hd).imp id fun ⟨k, hk, h1, _⟩ => by rw [hk]; exact hs.fresh k h1
 have main : ∀ x w', (∃ U' ρ', Leaves U ρ pre w val post x U' ρ' w') → K x w' := by
  rintro x w' ⟨U', ρ', L⟩
  obtain ⟨h1, h2, h3, h4⟩ := L.frame H hf
  have hsub : ∀ n, st.heap.dom n ↔ (pre ++ rest).dom n := fun n => ⟨fun ⟨b, hb⟩ => ⟨b, hperm.mem_iff.1 hb⟩, fun ⟨b, hb⟩ => ⟨b, hperm.mem_iff.2 hb⟩⟩
  refine hK U' (Env.both post ρ' ρ) x w' ⟨?_, ?_, h3, fun k hk => ?_⟩ ⟨?_, fun n hpn => ?_⟩
  ·exact ad1 (i8.mono L.ext.imm h1 hs.tmps) h2 dst
  ·have : ∀ (l : List Nm) (d : List Deferred), I5 X ρ l d → I5 X (Env.both post ρ' ρ) l d := by
    intro l
    induction l with
    | nil => exact fun d h => h
    | cons n ns ih => rintro d ⟨lc, r, e1, e2, e3⟩; exact ⟨lc, r, h1 _ _ e1, e2, ih _ e3⟩
   have hd := this _ _ hs.dfs
   cases dst <;> exact hd
  ·have hk0 : st.next ≤ k := Nat.le_trans hnx hk
   have hnp : ¬ post.dom (.o k) := fun hd => by
    rcases hfresh _ hd with ⟨b, hb⟩ | ⟨k', e, _, h6⟩
    ·obtain ⟨l, e, _⟩ := H.left.blk _ _ hb; rw [hs.fresh k hk0] at e; cases e
    ·cases e; exact absurd hk (Nat.not_le.2 h6)
   simp only [Env.both, hnp, if_false]; exact hs.fresh k hk0
  ·exact ⟨h4.size, h4.imm, fun b hb hn => h4.frame b hb fun n l hd e hr => hn n l ((hsub n).2 hd) e hr, fun n l hd e hr => by
    rcases h4.new n l hd e hr with h | ⟨n0, l0, h5, h6⟩
    ·exact .inl h
    ·exact .inr ⟨n0, l0, (hsub n0).2 h5, h6⟩, fun b c e => by
    rcases h4.newImm b c e with h | h | ⟨n0, l0, h5, h6⟩
    ·exact .inl h
    ·exact .inr (.inl h)
    ·exact .inr (.inr ⟨n0, l0, (hsub n0).2 h5, h6⟩), h4.out⟩
  ·constructor
   ·by_cases hpd : post.dom n
    ·rcases hfresh n hpd with hpre | ⟨k, rfl, h5, _⟩
     ·obtain ⟨l, hl⟩ := H.left.ex hpre
      rw [h1 _ _ hl, hl]
     ·simp only [Nm.pin, decide_eq_true_eq] at hpn; omega
    ·simp [Env.both, hpd]
   ·intro hd
    by_cases hpd : post.dom n
    ·rcases hfresh n hpd with hpre | ⟨k, rfl, h5, _⟩
     ·exact (hsub n).2 (j7.2 (.inl hpre))
     ·simp only [Nm.pin, decide_eq_true_eq] at hpn; omega
    ·rcases j7.1 hd with hd | hd
     ·exact absurd hd hpd
     ·exact (hsub n).2 (j7.2 (.inr hd))
 unfold E8 at hstep
 generalize s.run P w = r at hstep ⊢
 cases r with
 | halt h' w' => exact hstep.elim
 | ok x w' =>
  cases x with
  | value v => exact main _ _ hstep
  | skip => exact main _ _ hstep
  | enter f args => exact Calls.mono hstep fun e w'' ⟨v, hv, h⟩ => ⟨v, hv, main _ _ h⟩
  | round l f tmps assign body => exact RoundIn.mono hstep fun e w'' ⟨v, hv, h⟩ => ⟨v, hv, main _ _ h⟩
  | _ => exact hstep.elim
theorem RO.step {i : Nat} {l : List Nat} {o : Oper} {pre rest post : c5} {val : V} {nx : Nat} (ho : ops[i]? = some o) (hd : ∀ c, o.op ≠ .defer c)
  (hw : ∀ ⦃X : List Deferred⦄ U ρ a w, StRel X U ρ st a w → Region.wanted o (yielded ops a.tmps) = true)
  (hperm : st.heap.Perm (pre ++ rest)) (hp : p ≤ st.next) (hnx : st.next ≤ nx) (hfresh : ∀ n, post.dom n → pre.dom n ∨ ∃ k, n = .o k ∧ st.next ≤ k ∧ k < nx)
  (hstep : ∀ ⦃X : List Deferred⦄ U ρ a w, StRel X U ρ st a w → E8 P (execOp a.eval o) U ρ pre w val post)
  (h : RO P ro p ops l { st with tmps := K7 st.tmps o.dst val, heap := post ++ rest, next := nx } st') : RO P ro p ops (i :: l) st st' := fun X U ρ a w Q hs hq => by
 simp only [wpOpsIn, ho, hw U ρ a w hs, if_true]
 exact ae0 hd (aU4 hs hperm hp hnx hfresh (hstep U ρ a w hs) fun U1 ρ1 x w1 h1 t1 => h U1 ρ1 _ w1 Q h1 fun U2 ρ2 a2 w2 h2 t2 => hq U2 ρ2 a2 w2 h2 (t1.trans t2))
theorem RO.skip {i : Nat} {l : List Nat} {o : Oper} (ho : ops[i]? = some o) (hw : ∀ ⦃X : List Deferred⦄ U ρ a w, StRel X U ρ st a w → Region.wanted o (yielded ops a.tmps) = false)
  (h : RO P ro p ops l { st with tmps := K7 st.tmps o.dst (.tup []) } st') : RO P ro p ops (i :: l) st st' := fun X U ρ a w Q hs hq => by
 simp only [wpOpsIn, ho, hw U ρ a w hs, Bool.false_eq_true, if_false]
 refine ⟨fun f _ => au8 ro f, h U ρ _ w Q ⟨?_, ?_, hs.heap, hs.fresh⟩ fun U' ρ' a' w' h1 t1 => hq U' ρ' a' w' h1 t1⟩
 ·exact ad1 hs.tmps (by rw [c9]; exact ⟨#[], rfl, by simp [i8]⟩) o.dst
 ·have := hs.dfs
  cases hdst : o.dst <;> simpa [Act.put, hdst] using this
theorem RO.pre {l : List Nat} (h : Wk p st st1) (h' : RO P ro p ops l st1 st') : RO P ro p ops l st st' := fun X U ρ a w Q hs hq => by
 obtain ⟨U1, ρ1, h1, t1⟩ := h U ρ a w hs
 exact h' U1 ρ1 a w Q h1 fun U' ρ' a' w' h2 t2 => hq U' ρ' a' w' h2 (t1.trans t2)
theorem R.region {id : Nat} (h : RO P ro p ops (List.range ops.size) st st') : R P ro p (.region id ops false) st .normal st' := fun X U ρ a w Q hs hq =>
 wpIn_region (h U ρ a w Q hs hq)
end
end Sy
namespace Sy
open Go
def All : List Prop → Prop
 | [] => True
 | p :: ps => p ∧ All ps
theorem f6 {a b : List Prop} : All (a ++ b) ↔ All a ∧ All b := by
 induction a with
 | nil => simp [All]
 | cons p ps ih => simp [All, ih, and_assoc]
def u4 : List V → Nat → Option (List V × List V)
 | [], n => bif Nat.beq n 0 then some ([], []) else none
 | v :: vs, n => bif Nat.beq n 0 then some ([], v :: vs) else bif Nat.ble v.csz n then
   match u4 vs (n - v.csz) with
   | some (a, b) => some (v :: a, b)
   | none => none
  else none
theorem u9 : ∀ {cs : List V} {n : Nat} {a b : List V}, u4 cs n = some (a, b) → cs = a ++ b ∧ E9 a = n
 | [], n, a, b, h => by
  unfold u4 at h
  cases hn : Nat.beq n 0 <;> simp [hn] at h
  obtain ⟨rfl, rfl⟩ := h
  simp at hn; exact ⟨rfl, by simp [E9, hn]⟩
 | v :: vs, n, a, b, h => by
  unfold u4 at h
  cases hn : Nat.beq n 0
  ·cases hl : Nat.ble v.csz n <;> simp [hn, hl] at h
   cases hs : u4 vs (n - v.csz) with
   | none => simp [hs] at h
   | some p =>
    obtain ⟨a1, b1⟩ := p
    simp [hs] at h
    obtain ⟨rfl, rfl⟩ := h
    obtain ⟨h1, h2⟩ := u9 hs
    simp at hl
    exact ⟨by rw [h1]; rfl, by simp only [E9, h2]; omega⟩
  ·simp [hn] at h
   obtain ⟨rfl, rfl⟩ := h
   simp at hn; exact ⟨rfl, by simp [E9, hn]⟩
def aF2 (cs : List V) (o n : Nat) : Option (List V) :=
 match u4 cs o with
 | some (_, b) => match u4 b n with
  | some (c, _) => some c
  | none => none
 | none => none
theorem aF3 {U ρ cs o n c} {l : List Value} (h : aF2 cs o n = some c) (hl : i6 U ρ cs l) : i6 U ρ c ((l.drop o).take n) ∧ o + n ≤ l.length := by
 unfold aF2 at h
 cases h1 : u4 cs o with
 | none => simp [h1] at h
 | some p =>
  obtain ⟨a, b⟩ := p
  simp only [h1] at h
  cases h2 : u4 b n with
  | none => simp [h2] at h
  | some q =>
   obtain ⟨c', d⟩ := q
   simp only [h2, Option.some.injEq] at h
   subst h
   obtain ⟨rfl, h3⟩ := u9 h1
   obtain ⟨rfl, h4⟩ := u9 h2
   obtain ⟨la, lb, rfl, h5, h6⟩ := m4.1 hl
   obtain ⟨lc, ld, rfl, h7, h8⟩ := m4.1 h6
   have e1 := h5.len; have e2 := h7.len
   rw [h3] at e1; rw [h4] at e2
   refine ⟨?_, by simp; omega⟩
   rw [List.drop_append_of_le_length (by omega), List.drop_of_length_le (by omega), List.nil_append, List.take_append_of_le_length (by omega), List.take_of_length_le (by omega)]
   exact h7
def R9 (P : Program) (t : TypeId) : Bool :=
 match P.underlying t with
 | some (.struct _) => true
 | some (.array _ _) => true
 | _ => false
def szT (P : Program) (t : TypeId) : Nat := (P.info? t).elim 0 (·.size)
theorem j2 {P : Program} {t : TypeId} {d : TypeDesc} (h : P.underlying t = some d) (w : World) : (underlying t).run P w = .ok d w := run_underlying h w
theorem am8 {P : Program} {t : TypeId} {i : TypeInfo} (h : P.info? t = some i) (w : World) : (typeInfo t).run P w = .ok i w := by simp [typeInfo, h]
theorem z7 {P : Program} {t : TypeId} {i : TypeInfo} (h : P.info? t = some i) (w : World) : (Go.sizeOf t).run P w = .ok i.size w := by simp [Go.sizeOf, am8 h]
theorem L6 {P : Program} {t : TypeId} {d : TypeDesc} (h : P.underlying t = some d) : ∃ i, P.info? t = some i := by
 unfold Program.underlying at h
 cases hi : P.info? t with
 | none => simp [hi] at h
 | some i => exact ⟨i, rfl⟩
theorem Y5 {P : Program} {t : TypeId} {d : TypeDesc} (h : P.underlying t = some d) (w : World) : (isAgg t).run P w = .ok (R9 P t) w := by
 unfold isAgg R9
 simp only [Sem.run_bind, j2 h, Result.andThen_ok, h]
 cases d <;> rfl
def InR (k : IntKind) (n : Int) : Prop := k.min ≤ n ∧ n ≤ k.max
theorem InR.wrap {k : IntKind} {n : Int} (h : InR k n) : k.wrap n = n := by
 obtain ⟨h1, h2⟩ := h
 cases k <;> simp [IntKind.min, IntKind.max, IntKind.signed, IntKind.bits, IntKind.wrap] at * <;> omega
theorem bx0 {n : Int} (h : -9223372036854775808 ≤ n) (h' : n ≤ 9223372036854775807) : InR .i64 n := by
 constructor <;> simp [IntKind.min, IntKind.max, IntKind.signed, IntKind.bits] <;> omega
def j8 (f : (m : Nat) → BitVec m → BitVec m → BitVec m) (k : IntKind) (x y : Int) : Int := k.wrap (f k.bits (BitVec.ofInt k.bits x) (BitVec.ofInt k.bits y)).toNat
def Q5 (k : IntKind) (n : Int) : V × List Prop := if k.signed then (.int k n, [InR k n]) else (.int k (k.wrap n), [])
theorem M7 {k : IntKind} {n : Int} {U ρ} (h : All (Q5 k n).2) : c9 U ρ (Q5 k n).1 (.int k (k.wrap n)) := by
 unfold Q5 at *
 by_cases hs : k.signed = true
 ·simp only [hs, if_true, All, and_true] at h ⊢
  rw [h.wrap]; simp [c9]
 ·simp only [hs, if_false, Bool.false_eq_true]; simp [c9]
def bn5 (op : BinOp) (k : IntKind) (a b : Int) : Option (V × List Prop) :=
 match op with
 | .add => some (Q5 k (a + b))
 | .sub => some (Q5 k (a - b))
 | .mul => some (Q5 k (a * b))
 | .quo => some (.int k (a / b), [0 ≤ a ∧ 0 < b ∧ InR k (a / b)])
 | .rem => some (.int k (a % b), [0 ≤ a ∧ 0 < b])
 | .and => some (.int k (j8 (fun _ x y => x &&& y) k a b), [])
 | .or => some (.int k (j8 (fun _ x y => x ||| y) k a b), [])
 | .xor => some (.int k (j8 (fun _ x y => x ^^^ y) k a b), [])
 | .andNot => some (.int k (j8 (fun _ x y => x &&& ~~~y) k a b), [])
 | .eql => some (.bool (decide (a = b)), [])
 | .neq => some (.bool (!decide (a = b)), [])
 | .lss => some (.bool (decide (a < b)), [])
 | .leq => some (.bool (decide (a ≤ b)), [])
 | .gtr => some (.bool (decide (b < a)), [])
 | .geq => some (.bool (decide (b ≤ a)), [])
 | _ => none
theorem bE_ {P : Program} {op : BinOp} {k : IntKind} {a b : Int} {v : V} {cs : List Prop} {U ρ} {t : TypeId} (w : World) (h : bn5 op k a b = some (v, cs)) (hc : All cs) :
  ∃ x, (binOp op t (.int k a) (.int k b)).run P w = .ok x w ∧ c9 U ρ v x := by
 cases op <;> simp only [bn5, Option.some.injEq, Prod.mk.injEq, reduceCtorEq] at h
 case add =>
  simp only [binOp, ne_eq, not_true_eq_false, if_false, Op.intArith, Sem.run_pure]
  exact ⟨_, rfl, by have := M7 (U := U) (ρ := ρ) (k := k) (n := a + b) (by rw [h]; exact hc); rw [h] at this; exact this⟩
 case sub =>
  simp only [binOp, ne_eq, not_true_eq_false, if_false, Op.intArith, Sem.run_pure]
  exact ⟨_, rfl, by have := M7 (U := U) (ρ := ρ) (k := k) (n := a - b) (by rw [h]; exact hc); rw [h] at this; exact this⟩
 case mul =>
  simp only [binOp, ne_eq, not_true_eq_false, if_false, Op.intArith, Sem.run_pure]
  exact ⟨_, rfl, by have := M7 (U := U) (ρ := ρ) (k := k) (n := a * b) (by rw [h]; exact hc); rw [h] at this; exact this⟩
 case quo =>
  obtain ⟨rfl, rfl⟩ := h
  obtain ⟨⟨h1, h2, h3⟩, _⟩ := hc
  refine ⟨.int k (a / b), ?_, by simp [c9]⟩
  have hb : b ≠ 0 := by omega
  simp only [binOp, ne_eq, not_true_eq_false, if_false, Op.intDiv, hb, Sem.run_pure, Int.tdiv_eq_ediv_of_nonneg h1, h3.wrap]
 case rem =>
  obtain ⟨rfl, rfl⟩ := h
  obtain ⟨⟨h1, h2⟩, _⟩ := hc
  refine ⟨.int k (a % b), ?_, by simp [c9]⟩
  have hb : b ≠ 0 := by omega
  simp only [binOp, ne_eq, not_true_eq_false, if_false, Op.intDiv, hb, Sem.run_pure, Int.tmod_eq_emod_of_nonneg h1]
 all_goals
  obtain ⟨rfl, rfl⟩ := h
  simp only [binOp, ne_eq, not_true_eq_false, if_false, Op.intBits, Op.intCmp, Sem.run_pure]
  exact ⟨_, rfl, by first | (rw [c9]; done) | (rw [c9]; rfl)⟩
def ap8 (op : BinOp) (k : IntKind) (a b : Int) : Option (V × List Prop) :=
 match op with
 | .shl => some ((Q5 k (a * 2 ^ b.toNat)).1, (0 ≤ b ∧ b ≤ (k.bits : Int)) :: (Q5 k (a * 2 ^ b.toNat)).2)
 | .shr => some (.int k (a / 2 ^ b.toNat), [0 ≤ b ∧ b ≤ (k.bits : Int)])
 | _ => none
theorem av4 {P : Program} {op : BinOp} {k k' : IntKind} {a b : Int} {v : V} {cs : List Prop} {U ρ} {t : TypeId} (w : World) (h : ap8 op k a b = some (v, cs)) (hc : All cs) :
  ∃ x, (binOp op t (.int k a) (.int k' b)).run P w = .ok x w ∧ c9 U ρ v x := by
 cases op <;> simp only [ap8, Option.some.injEq, Prod.mk.injEq, reduceCtorEq] at h
 case shl =>
  obtain ⟨rfl, rfl⟩ := h
  obtain ⟨⟨h1, h2⟩, h3⟩ := hc
  have hb : ¬ b < 0 := by omega
  have hm : min b.toNat k.bits = b.toNat := by omega
  simp only [binOp, Op.shift, hb, if_false, hm, Sem.run_pure]
  exact ⟨_, rfl, M7 h3⟩
 case shr =>
  obtain ⟨rfl, rfl⟩ := h
  obtain ⟨⟨h1, h2⟩, h3⟩ := hc
  have hb : ¬ b < 0 := by omega
  have hm : min b.toNat k.bits = b.toNat := by omega
  refine ⟨.int k (a / 2 ^ b.toNat), ?_, by simp [c9]⟩
  simp only [binOp, Op.shift, hb, if_false, hm, Sem.run_pure]
  rw [Int.fdiv_eq_ediv_of_nonneg _ (by exact Int.pow_nonneg (by omega))]
theorem aU6 (x y : ByteArray) : (x.toList == y.toList) = decide (x = y) := by
 rw [Bool.eq_iff_iff, beq_iff_eq, decide_eq_true_iff]
 constructor
 ·intro h
  rw [ByteArray.toList_eq, ByteArray.toList_eq] at h
  have : x.data.toList = y.data.toList := h
  cases x; cases y
  simp at this
  simp [this]
 ·rintro rfl; rfl
def bt1 (op : BinOp) (x y : ByteArray) : Option (V × List Prop) :=
 match op with
 | .add => some (.str (x ++ y), [x.size + y.size ≤ 9223372036854775807])
 | .eql => some (.bool (decide (x = y)), [])
 | .neq => some (.bool (!decide (x = y)), [])
 | .lss => some (.bool (Op.bytesLess x.toList y.toList), [])
 | _ => none
theorem bK9 {P : Program} {op : BinOp} {a b : ByteArray} {v : V} {cs : List Prop} {U ρ} {t : TypeId} (w : World) (h : bt1 op a b = some (v, cs)) (hc : All cs) :
  ∃ x, (binOp op t (.string a) (.string b)).run P w = .ok x w ∧ c9 U ρ v x := by
 cases op <;> simp only [bt1, Option.some.injEq, Prod.mk.injEq, reduceCtorEq] at h
 case add =>
  obtain ⟨rfl, rfl⟩ := h
  have h1 := hc.1
  refine ⟨.string (a ++ b), ?_, by simp [c9]⟩
  have : ¬ ((a.size + b.size : Nat) : Int) > IntKind.i64.max := by simp [IntKind.max, IntKind.signed, IntKind.bits]; omega
  simp only [binOp, Op.stringOp, this, if_false, Sem.run_pure]
 all_goals
  obtain ⟨rfl, rfl⟩ := h
  simp only [binOp, Op.stringOp, Sem.run_pure]
  exact ⟨_, rfl, by first | (rw [c9]; done) | (rw [c9]; simp only [aU6])⟩
end Sy
namespace Sy
open Go
variable {P : Program} {U : Imm} {ρ : Env}
def T5 (P : Program) (t : TypeId) (cs : List V) (o : Nat) : Option V :=
 match P.underlying t with
 | none => none
 | some _ => bif R9 P t then (aF2 cs o (szT P t)).map .agg
  else match u4 cs o with
   | some (_, v :: _) => bif v.one then some v else none
   | _ => none
theorem Y3 {t : TypeId} {cs : List V} {o : Nat} {v : V} {l : Array Value} (h : T5 P t cs o = some v) (hl : i6 U ρ cs l.toList) (w : World) :
  ∃ x, (part t l o).run P w = .ok x w ∧ c9 U ρ v x := by
 unfold T5 at h
 cases hu : P.underlying t with
 | none => simp [hu] at h
 | some d =>
  obtain ⟨i, hi⟩ := L6 hu
  simp only [hu] at h
  unfold part
  simp only [Sem.run_bind, Y5 hu, Result.andThen_ok]
  cases ha : R9 P t with
  | true =>
   simp only [ha, cond_true, Option.map_eq_some_iff] at h
   obtain ⟨c, hc, rfl⟩ := h
   simp only [if_true, Sem.run_bind, z7 hi, Result.andThen_ok, Sem.run_pure]
   have hsz : szT P t = i.size := by simp [szT, hi]
   rw [hsz] at hc
   refine ⟨_, rfl, ?_⟩
   rw [c9]
   refine ⟨_, rfl, ?_⟩
   rw [Array.toList_extract]
   have := (aF3 hc hl).1
   rw [List.extract_eq_take_drop, Nat.add_sub_cancel_left]; exact this
  | false =>
   simp only [ha, cond_false] at h
   simp only [Bool.false_eq_true, if_false]
   cases hs : u4 cs o with
   | none => simp [hs] at h
   | some p =>
    obtain ⟨a, b⟩ := p
    cases b with
    | nil => simp [hs] at h
    | cons u us =>
     simp only [hs] at h
     cases hone : u.one with
     | false => simp [hone] at h
     | true =>
      simp only [hone, cond_true, Option.some.injEq] at h
      subst h
      obtain ⟨rfl, h3⟩ := u9 hs
      obtain ⟨la, lb, e, h5, h6⟩ := m4.1 hl
      obtain ⟨x, r, rfl, h7, h8⟩ := (v7 (V.cell_of_one hone)).1 h6
      have e1 := h5.len; rw [h3] at e1
      have : l[o]? = some x := by
       rw [← Array.getElem?_toList, e, List.getElem?_append_right (by omega)]; simp [e1]
      exact ⟨x, by simp [this], h7⟩
def J3 (P : Program) (t : TypeId) : Bool := match P.underlying t with | some (.int _) => Nat.beq (szT P t) 1 | _ => false
theorem J4 {t : TypeId} (h : J3 P t = true) : (∃ k, P.underlying t = some (.int k)) ∧ szT P t = 1 ∧ R9 P t = false := by
 unfold J3 at h
 cases hu : P.underlying t with
 | none => simp [hu] at h
 | some d =>
  cases d <;> simp only [hu, reduceCtorEq, Bool.false_eq_true] at h
  exact ⟨⟨_, rfl⟩, Nat.eq_of_beq_eq_true h, by simp [R9, hu]⟩
def ac1 (P : Program) (s : TypeId) (x : V) (f : Nat) : Option V :=
 match P.underlying s with
 | some (.struct fs) => match fs[f]? with
  | some fd => match P.info? fd.type with
   | some i => bif Nat.beq i.size 0 then none else match x with
    | .ptr n es k o j => some (.ptr n es k (o + fd.offset) j)
    | .rop cs o j => some (.rop cs (o + fd.offset) j)
    | _ => none
   | none => none
  | none => none
 | _ => none
theorem V4 (a : Addr) (n : Nat) (h : a.spot = none) : a.add n = ⟨a.block, a.off + n, none⟩ := by
 unfold Addr.add
 by_cases hn : n = 0
 ·subst hn; cases a; simp at h; simp [h]
 ·simp [hn]
theorem ay7 {s : TypeId} {v v' : V} {x : Value} {f : Nat} (h : ac1 P s v f = some v') (hx : c9 U ρ v x) (w : World) :
  ∃ y, (Instr.fieldAt s x f).run P w = .ok y w ∧ c9 U ρ v' y := by
 unfold ac1 at h
 cases hu : P.underlying s with
 | none => simp [hu] at h
 | some d =>
  cases d <;> simp only [hu, reduceCtorEq] at h
  rename_i fs
  cases hf : fs[f]? with
  | none => simp [hf] at h
  | some fd =>
   cases hi : P.info? fd.type with
   | none => simp [hf, hi] at h
   | some i =>
    simp only [hf, hi] at h
    cases hz : Nat.beq i.size 0 with
    | true => simp [hz] at h
    | false =>
     have hz' : ¬ i.size = 0 := fun h0 => by rw [h0] at hz; cases hz
     have run : ∀ a : Addr, a.spot = none → (Instr.fieldAt s (.pointer (some a)) f).run P w = .ok (.pointer (some ⟨a.block, a.off + fd.offset, none⟩)) w := by
      intro a ha
      simp only [Instr.fieldAt, Sem.run_bind, j2 hu, Result.andThen_ok, hf, Instr.sureAddr, Sem.run_pure, fieldPlace, z7 hi, hz', if_false, V4 a _ ha]
     simp only [hz, cond_false] at h
     cases v <;> simp only [reduceCtorEq, Option.some.injEq] at h <;> subst h
     case ptr n es k o j =>
      rw [c9] at hx
      obtain ⟨l, h1, hr, rfl⟩ := hx
      refine ⟨_, run _ rfl, ?_⟩
      rw [c9]; exact ⟨l, h1, hr, by simp only [Value.pointer.injEq, Option.some.injEq, Addr.mk.injEq, and_true, true_and]; omega⟩
     case rop cs o j =>
      rw [c9] at hx
      obtain ⟨b, base, c, h1, rfl, h2⟩ := hx
      refine ⟨_, run _ rfl, ?_⟩
      rw [c9]; exact ⟨b, base, c, h1, by simp only [Value.pointer.injEq, Option.some.injEq, Addr.mk.injEq, and_true, true_and]; omega, h2⟩
def ac2 (P : Program) (t : TypeId) (x ix : V) : Option (V × List Prop) :=
 match ix with
 | .int _ n => match P.underlying t with
  | some (.array len e) => match x with
   | .ptr m es i o j => bif J3 P e then some (.ptr m es i o (j + n.toNat), [0 ≤ n ∧ n < (len : Int)]) else some (.ptr m es i (o + n.toNat * szT P e) j, [0 ≤ n ∧ n < (len : Int)])
   | .rop cs o j => bif J3 P e then some (.rop cs o (j + n.toNat), [0 ≤ n ∧ n < (len : Int)]) else some (.rop cs (o + n.toNat * szT P e) j, [0 ≤ n ∧ n < (len : Int)])
   | _ => none
  | some (.slice e) => match x with
   | .ros es len f _ => bif Nat.beq es (szT P e) then some (.rop (f n.toNat) 0 0, [0 ≤ n ∧ n < (len : Int)]) else none
   | .sl m es i o j len _ => bif Nat.beq es 0 then (bif Nat.beq (szT P e) 1 then some (.ptr m 0 i o (j + n.toNat), [0 ≤ n ∧ n < (len : Int)]) else none)
     else bif Nat.beq es (szT P e) then some (.ptr m es (i + n.toNat) o j, [0 ≤ n ∧ n < (len : Int)]) else none
   | _ => none
  | _ => none
 | _ => none
theorem L5 {t : TypeId} {len : Nat} {e : TypeId} (hu : P.underlying t = some (.array len e)) {i : TypeInfo} (hi : P.info? e = some i) (a : Addr) (ha : a.spot = none) (k : IntKind) (n : Int) (h : 0 ≤ n ∧ n < (len : Int)) (w : World) :
  (Instr.indexAt t (.pointer (some a)) (.int k n)).run P w = .ok (.pointer (some ⟨a.block, a.off + n.toNat * i.size, none⟩)) w := by
 simp only [Instr.indexAt, Sem.run_bind, asIntOf, Sem.run_pure, Result.andThen_ok, j2 hu, Instr.sureAddr, h, and_self, if_true, z7 hi, V4 a _ ha]
theorem S5 {t : TypeId} {e : TypeId} (hu : P.underlying t = some (.slice e)) {i : TypeInfo} (hi : P.info? e = some i) (a : Addr) (ha : a.spot = none) (len cap : Nat) (k : IntKind) (n : Int) (h : 0 ≤ n ∧ n < (len : Int)) (w : World) :
  (Instr.indexAt t (.slice (some a) len cap) (.int k n)).run P w = .ok (.pointer (some ⟨a.block, a.off + n.toNat * i.size, none⟩)) w := by
 simp only [Instr.indexAt, Sem.run_bind, asIntOf, Sem.run_pure, Result.andThen_ok, j2 hu, h, and_self, if_true, z7 hi, V4 a _ ha]
def al5 (P : Program) : Prop := ∀ t i, J3 P t = true → P.info? t = some i → i.size = 1
theorem af2 (P : Program) : al5 P := fun t i h hi => by
 have := (J4 h).2.1
 simpa [szT, hi] using this
theorem ay8 (hI : al5 P) {t : TypeId} {v vi v' : V} {x xi : Value} {cs : List Prop} (h : ac2 P t v vi = some (v', cs)) (hc : All cs) (hx : c9 U ρ v x) (hxi : c9 U ρ vi xi)
  (he : ∀ e, (∃ len, P.underlying t = some (.array len e)) ∨ P.underlying t = some (.slice e) → (P.info? e).isSome = true) (w : World) :
  ∃ y, (Instr.indexAt t x xi).run P w = .ok y w ∧ c9 U ρ v' y := by
 unfold ac2 at h
 cases vi <;> simp only [reduceCtorEq] at h
 rename_i k n
 rw [c9] at hxi; subst hxi
 cases hu : P.underlying t with
 | none => simp [hu] at h
 | some d =>
  cases d <;> simp only [hu, reduceCtorEq] at h
  case array len e =>
   obtain ⟨i, hi⟩ := Option.isSome_iff_exists.1 (he e (.inl ⟨len, hu⟩))
   have hsz : szT P e = i.size := by simp [szT, hi]
   cases v <;> simp only [reduceCtorEq] at h
   case ptr m es i0 o j =>
    rw [c9] at hx; obtain ⟨l, h1, hr, rfl⟩ := hx
    cases hint : J3 P e <;> simp only [hint, cond_true, cond_false, Option.some.injEq, Prod.mk.injEq] at h <;> obtain ⟨rfl, rfl⟩ := h
    ·refine ⟨_, L5 hu hi _ rfl k n hc.1 w, ?_⟩
     rw [c9]; exact ⟨l, h1, hr, by simp only [Value.pointer.injEq, Option.some.injEq, Addr.mk.injEq, and_true, true_and, hsz]; omega⟩
    ·refine ⟨_, L5 hu hi _ rfl k n hc.1 w, ?_⟩
     rw [c9]; exact ⟨l, h1, hr, by simp only [Value.pointer.injEq, Option.some.injEq, Addr.mk.injEq, and_true, true_and, hI e i hint hi]; omega⟩
   case rop cs0 o j =>
    rw [c9] at hx; obtain ⟨b, base, c, h1, rfl, h2⟩ := hx
    cases hint : J3 P e <;> simp only [hint, cond_true, cond_false, Option.some.injEq, Prod.mk.injEq] at h <;> obtain ⟨rfl, rfl⟩ := h
    ·refine ⟨_, L5 hu hi _ rfl k n hc.1 w, ?_⟩
     rw [c9]; exact ⟨b, base, c, h1, by simp only [Value.pointer.injEq, Option.some.injEq, Addr.mk.injEq, and_true, true_and, hsz]; omega, h2⟩
    ·refine ⟨_, L5 hu hi _ rfl k n hc.1 w, ?_⟩
     rw [c9]; exact ⟨b, base, c, h1, by simp only [Value.pointer.injEq, Option.some.injEq, Addr.mk.injEq, and_true, true_and, hI e i hint hi]; omega, h2⟩
  case slice e =>
   obtain ⟨i, hi⟩ := Option.isSome_iff_exists.1 (he e (.inr hu))
   have hsz : szT P e = i.size := by simp [szT, hi]
   cases v <;> simp only [reduceCtorEq] at h
   case sl m es i0 o j len cap =>
    rw [c9] at hx; obtain ⟨l, cp, h1, _, _, hx⟩ := hx
    cases hes : Nat.beq es 0 <;> simp only [hes, cond_true, cond_false] at h
    ·cases hes2 : Nat.beq es (szT P e) <;> simp only [hes2, cond_true, cond_false, reduceCtorEq, Option.some.injEq, Prod.mk.injEq] at h
     obtain ⟨rfl, rfl⟩ := h
     obtain ⟨hr, rfl, _⟩ := hx.resolve_right (fun h => by have := hc.1; omega)
     have e2 : es = i.size := by simp at hes2; omega
     refine ⟨_, S5 hu hi _ rfl _ _ k n hc.1 w, ?_⟩
     rw [c9]; exact ⟨l, h1, hr, by simp only [Value.pointer.injEq, Option.some.injEq, Addr.mk.injEq, and_true, true_and, ← e2, Nat.add_mul]; omega⟩
    ·cases hes2 : Nat.beq (szT P e) 1 <;> simp only [hes2, cond_true, cond_false, reduceCtorEq, Option.some.injEq, Prod.mk.injEq] at h
     obtain ⟨rfl, rfl⟩ := h
     obtain ⟨hr, rfl, _⟩ := hx.resolve_right (fun h => by have := hc.1; omega)
     have e1 : es = 0 := by simpa using hes
     have e2 : i.size = 1 := by simp at hes2; omega
     subst e1
     refine ⟨_, S5 hu hi _ rfl _ _ k n hc.1 w, ?_⟩
     rw [c9]; exact ⟨l, h1, hr, by simp only [Value.pointer.injEq, Option.some.injEq, Addr.mk.injEq, and_true, true_and, e2]; omega⟩
   case ros es len f clip =>
    rw [c9] at hx; obtain ⟨a, cp, rfl, h2, h3, h4⟩ := hx
    cases hes2 : Nat.beq es (szT P e) <;> simp only [hes2, cond_true, cond_false, reduceCtorEq, Option.some.injEq, Prod.mk.injEq] at h
    obtain ⟨rfl, rfl⟩ := h
    have e2 : es = i.size := by simp at hes2; omega
    obtain ⟨b, base, c, rfl, h5, lst, h6, h7, h8⟩ := h4 n.toNat (by have := hc.1; omega)
    refine ⟨_, S5 hu hi _ rfl _ _ k n hc.1 w, ?_⟩
    rw [c9]
    refine ⟨b, base + n.toNat * es, c, h5, by simp only [Value.pointer.injEq, Option.some.injEq, Addr.mk.injEq, and_true, true_and, ← e2]; omega, lst, h6, h8⟩
def s9 (s : ByteArray) (n : Nat) : Int := ((s.data.toList.getD n 0).toNat : Int)
def aE6 (P : Program) (t : TypeId) (x ix : V) : Option (V × List Prop) :=
 match ix with
 | .int _ n => match P.underlying t with
  | some (.array len e) => match x with
   | .agg cs => match cs with
    | [.seg k m xs] => bif J3 P e then some (.int k (xs.getD n.toNat 0), [0 ≤ n ∧ n < (len : Int) ∧ n < (m : Int)]) else none
    | _ => match T5 P e cs (n.toNat * szT P e) with
     | some v => some (v, [0 ≤ n ∧ n < (len : Int)])
     | none => none
   | _ => none
  | some .string => match x with
   | .str s => some (.int .u8 (s9 s n.toNat), [0 ≤ n ∧ n < (s.size : Int)])
   | _ => none
  | _ => none
 | _ => none
theorem bb2 {t : TypeId} {v vi v' : V} {x xi : Value} {cs : List Prop} (h : aE6 P t v vi = some (v', cs)) (hc : All cs) (hx : c9 U ρ v x) (hxi : c9 U ρ vi xi)
  (he : ∀ e len, P.underlying t = some (.array len e) → (P.info? e).isSome = true ∧ (J3 P e = true → R9 P e = false ∧ szT P e = 1)) (w : World) :
  ∃ y, (Instr.index t x xi).run P w = .ok y w ∧ c9 U ρ v' y := by
 unfold aE6 at h
 cases vi <;> simp only [reduceCtorEq] at h
 rename_i k n
 rw [c9] at hxi; subst hxi
 cases hu : P.underlying t with
 | none => simp [hu] at h
 | some d =>
  cases d <;> simp only [hu, reduceCtorEq] at h
  case string =>
   cases v <;> simp only [reduceCtorEq, Option.some.injEq, Prod.mk.injEq] at h
   obtain ⟨rfl, rfl⟩ := h
   rename_i s
   rw [c9] at hx; subst hx
   obtain ⟨h1, h2⟩ := hc.1
   have hlt : n.toNat < s.size := by omega
   have hlt2 : n.toNat < s.data.toList.length := by rw [Array.length_toList]; exact hlt
   have hget : s[n.toNat]? = some (s.data.toList.getD n.toNat 0) := by
    rw [getElem?_pos s n.toNat hlt]
    simp only [List.getD, List.getElem?_eq_getElem hlt2, Option.getD_some]
    rfl
   refine ⟨.int .u8 (s9 s n.toNat), ?_, by rw [c9]⟩
   simp only [Instr.index, Sem.run_bind, asIntOf, Sem.run_pure, Result.andThen_ok, j2 hu, h1, if_true, hget, s9]
  case array len e =>
   obtain ⟨he1, he2⟩ := he e len hu
   obtain ⟨i, hi⟩ := Option.isSome_iff_exists.1 he1
   have hsz : szT P e = i.size := by simp [szT, hi]
   cases v <;> simp only [reduceCtorEq] at h
   rename_i cs0
   rw [c9] at hx; obtain ⟨l, rfl, hl⟩ := hx
   have run : 0 ≤ n ∧ n < (len : Int) → (Instr.index t (.agg l) (.int k n)).run P w = (part e l (n.toNat * i.size)).run P w := by
    intro h1
    simp only [Instr.index, Sem.run_bind, asIntOf, Sem.run_pure, Result.andThen_ok, j2 hu, h1, and_self, if_true, z7 hi]
   split at h
   ·rename_i k' m xs
    cases hint : J3 P e <;> simp only [hint, cond_true, cond_false, reduceCtorEq, Option.some.injEq, Prod.mk.injEq] at h
    obtain ⟨rfl, rfl⟩ := h
    obtain ⟨⟨h1, h2, h3⟩, _⟩ := hc
    obtain ⟨hag, hs1⟩ := he2 hint
    obtain ⟨hm, r, e1, h5⟩ := F1.1 hl
    rw [i6] at h5; subst h5
    rw [List.append_nil] at e1
    have hlt : n.toNat < xs.length := by omega
    refine ⟨.int k' (xs.getD n.toNat 0), ?_, by simp [c9]⟩
    rw [run ⟨h1, h2⟩, ← hsz, hs1, Nat.mul_one]
    unfold part
    have hsome : ∃ d, P.underlying e = some d := by
     obtain ⟨⟨k, hk⟩, _⟩ := J4 hint
     exact ⟨_, hk⟩
    obtain ⟨d, hd⟩ := hsome
    have hget : l[n.toNat]? = some (.int k' (xs.getD n.toNat 0)) := by
     rw [← Array.getElem?_toList, e1, List.getElem?_map, List.getElem?_eq_getElem hlt]; simp [List.getD, List.getElem?_eq_getElem hlt]
    simp only [Sem.run_bind, Y5 hd, hag, Result.andThen_ok, Bool.false_eq_true, if_false, hget, Sem.run_pure]
   ·cases hp : T5 P e cs0 (n.toNat * szT P e) with
    | none => simp [hp] at h
    | some v1 =>
     simp only [hp, Option.some.injEq, Prod.mk.injEq] at h
     obtain ⟨rfl, rfl⟩ := h
     obtain ⟨y, h5, h6⟩ := Y3 hp hl w
     exact ⟨y, by rw [run hc.1, ← hsz]; exact h5, h6⟩
def aD5 (P : Program) (t : TypeId) (x : V) (f : Nat) : Option V :=
 match P.underlying t, x with
 | some (.struct fs), .agg cs => match fs[f]? with
  | some fd => T5 P fd.type cs fd.offset
  | none => none
 | _, _ => none
theorem ba2 {t : TypeId} {v v' : V} {x : Value} {f : Nat} (h : aD5 P t v f = some v') (hx : c9 U ρ v x) (w : World) :
  ∃ y, (Instr.field t x f).run P w = .ok y w ∧ c9 U ρ v' y := by
 unfold aD5 at h
 cases hu : P.underlying t with
 | none => simp [hu] at h
 | some d =>
  cases d <;> simp only [hu, reduceCtorEq] at h
  rename_i fs
  cases v <;> simp only [reduceCtorEq] at h
  rename_i cs
  rw [c9] at hx; obtain ⟨l, rfl, hl⟩ := hx
  cases hf : fs[f]? with
  | none => simp [hf] at h
  | some fd =>
   simp only [hf] at h
   obtain ⟨y, h1, h2⟩ := Y3 h hl w
   exact ⟨y, by simp only [Instr.field, Sem.run_bind, j2 hu, Result.andThen_ok, hf, asAgg, Sem.run_pure]; exact h1, h2⟩
end Sy
namespace Sy
open Go
variable {P : Program} {U : Imm} {ρ : Env}
theorem R2 (b o n : Nat) : (⟨b, o, none⟩ : Addr).add n = ⟨b, o + n, none⟩ := V4 _ _ rfl
def bnd (n : Option Int) (top : Nat) : List Prop := match n with
 | none => []
 | some n => [0 ≤ n ∧ n ≤ (top : Int)]
def f2 (n : Option Int) (d : Nat) : Nat := match n with
 | none => d
 | some n => n.toNat
def Z6 : Option V → Option (Option Int)
 | none => some none
 | some (.int _ n) => some (some n)
 | _ => none
def D5 (v : Option Int) (x : Option Value) : Prop := match v with
 | none => x = none
 | some n => ∃ k, x = some (.int k n)
theorem bn7 {v : Option V} {x : Option Value} {n : Option Int} (h : Z6 v = some n) (hv : ∀ u, v = some u → ∃ y, x = some y ∧ c9 U ρ u y) (hn : v = none → x = none) : D5 n x := by
 cases v with
 | none => simp only [Z6, Option.some.injEq] at h; subst h; exact hn rfl
 | some u =>
  cases u <;> simp only [Z6, reduceCtorEq, Option.some.injEq] at h
  subst h
  obtain ⟨y, h1, h2⟩ := hv _ rfl
  rw [c9] at h2; subst h2
  exact ⟨_, h1⟩
theorem A5 {k : IntKind} {n : Int} {y : Nat} {code : BoundsCode} (h : 0 ≤ n ∧ n ≤ (y : Int)) (w : World) : (Instr.sliceBound (.int k n) y code).run P w = .ok n.toNat w := by
 simp only [Instr.sliceBound, asIntOf, Sem.run_bind, Sem.run_pure, Result.andThen_ok, h, and_self, if_true]
theorem D1 {isSlice : Bool} {len cap : Nat} {lo hi mx : Option Int} {xl xh xm : Option Value} (hl : D5 lo xl) (hh : D5 hi xh) (hm : D5 mx xm)
  (c1 : All (bnd mx cap)) (c2 : All (bnd hi (f2 mx cap))) (c3 : All (bnd lo (f2 hi len))) (hmh : mx ≠ none → hi ≠ none) (w : World) :
  (Instr.sliceBounds isSlice len cap xl xh xm).run P w = .ok (f2 lo 0, f2 hi len, f2 mx cap) w := by
 cases lo with
 | none =>
  simp only [D5] at hl; subst hl
  cases hi with
  | none =>
   simp only [D5] at hh; subst hh
   cases mx with
   | none => simp only [D5] at hm; subst hm; simp [Instr.sliceBounds, f2]
   | some m => exact (hmh (by simp) rfl).elim
  | some h =>
   obtain ⟨kh, rfl⟩ := hh
   cases mx with
   | none =>
    simp only [D5] at hm; subst hm
    simp only [bnd, f2, All, and_true] at c2
    simp [Instr.sliceBounds, f2, A5 c2]
   | some m =>
    obtain ⟨km, rfl⟩ := hm
    simp only [bnd, f2, All, and_true] at c1 c2
    simp [Instr.sliceBounds, f2, A5 c1, A5 c2]
 | some l =>
  obtain ⟨kl, rfl⟩ := hl
  simp only [bnd, All, and_true] at c3
  cases hi with
  | none =>
   simp only [D5] at hh; subst hh
   cases mx with
   | none => simp only [D5] at hm; subst hm; simp only [f2] at c3; simp [Instr.sliceBounds, f2, A5 c3]
   | some m => exact (hmh (by simp) rfl).elim
  | some h =>
   obtain ⟨kh, rfl⟩ := hh
   simp only [f2] at c3
   cases mx with
   | none =>
    simp only [D5] at hm; subst hm
    simp only [bnd, f2, All, and_true] at c2
    simp [Instr.sliceBounds, f2, A5 c2, A5 c3]
   | some m =>
    obtain ⟨km, rfl⟩ := hm
    simp only [bnd, f2, All, and_true] at c1 c2
    simp [Instr.sliceBounds, f2, A5 c1, A5 c2, A5 c3]
def ag5 (f : Nat → List V) : Option Int → Nat → List V
 | none => f
 | some l => fun k => f (l.toNat + k)
theorem aw7 (f : Nat → List V) (lo : Option Int) (k : Nat) : ag5 f lo k = f (f2 lo 0 + k) := by
 cases lo <;> simp [ag5, f2]
def K5 (i : Nat) : Option Int → Nat
 | none => i
 | some l => i + l.toNat
theorem U3 (i : Nat) (lo : Option Int) : K5 i lo = i + f2 lo 0 := by cases lo <;> simp [K5, f2]
def ah7 (lo : Option Int) (top : Nat) : List Prop := match lo with
 | none => []
 | some l => [l.toNat = 0 ∨ l.toNat < top]
theorem ap0 {lo : Option Int} {top : Nat} (h : All (ah7 lo top)) : f2 lo 0 = 0 ∨ f2 lo 0 < top := by
 cases lo with
 | none => exact .inl rfl
 | some l => exact h.1
def bx_ (a b : Option Int) : List Prop := match a, b with
 | some a, some b => [a = b]
 | _, _ => []
def aH2 (P : Program) (t : TypeId) (x : V) (lo hi mx : Option Int) : Option (V × List Prop) :=
 bif mx.isSome && hi.isNone then none else
 match P.underlying t with
 | some .string => match x with
  | .str s => bif mx.isSome then none else some (.str (s.extract (f2 lo 0) (f2 hi s.size)), bnd hi s.size ++ bnd lo (f2 hi s.size))
  | _ => none
 | some (.slice e) => match x with
  | .snil => some (.snil, bnd mx 0 ++ (bnd hi (f2 mx 0) ++ bnd lo (f2 hi 0)))
  | .ros es len f clip => match P.info? e with
   | none => none
   | some ie => bif Nat.beq es ie.size then some (.ros es (f2 hi len - f2 lo 0) (ag5 f lo) (bif mx.isSome then true else clip && hi.isNone),
    bnd mx len ++ (bnd hi (f2 mx len) ++ (bnd lo (f2 hi len) ++ bx_ mx hi))) else none
  | .sl n es i o j len cap => match P.info? e with
   | none => none
   | some ie =>
    match cap with
    | some c => bif Nat.beq es 0 then
       bif Nat.beq ie.size 1 then some (.sl n es i o (K5 j lo) (f2 hi len - f2 lo 0) (some (f2 mx c - f2 lo 0)), bnd mx c ++ (bnd hi (f2 mx c) ++ (bnd lo (f2 hi len) ++ ah7 lo (f2 mx c)))) else none
      else bif Nat.beq es ie.size then some (.sl n es (K5 i lo) o j (f2 hi len - f2 lo 0) (some (f2 mx c - f2 lo 0)), bnd mx c ++ (bnd hi (f2 mx c) ++ (bnd lo (f2 hi len) ++ ah7 lo (f2 mx c)))) else none
    | none => bif Nat.beq es 0 then none else bif Nat.beq es ie.size then
      some (.sl n es (K5 i lo) o j (f2 hi len - f2 lo 0) (mx.map fun m => m.toNat - f2 lo 0), bnd mx len ++ (bnd hi (f2 mx len) ++ (bnd lo (f2 hi len) ++ ah7 lo (f2 mx len)))) else none
  | _ => none
 | some (.array N e) => bif J3 P e then match x with
   | .ptr n es i o j => bif Nat.beq es 0 then some (.sl n 0 i o (K5 j lo) (f2 hi N - f2 lo 0) (some (f2 mx N - f2 lo 0)), bnd mx N ++ (bnd hi (f2 mx N) ++ (bnd lo (f2 hi N) ++ ah7 lo (f2 mx N)))) else none
   | .rop cs o j => bif Nat.beq j 0 then match u4 cs o with
     | some (_, .seg k m xs :: _) => bif Nat.beq m N then
       some (.ros 1 (f2 hi N - f2 lo 0) (fun q => [.int k (xs.getD (f2 lo 0 + q) 0)]) (mx.isNone && hi.isNone), bnd mx N ++ (bnd hi (f2 mx N) ++ bnd lo (f2 hi N))) else none
     | _ => none
    else none
   | _ => none
  else none
 | _ => none
theorem be8 (hI : al5 P) {t : TypeId} {v v' : V} {x : Value} {lo hi mx : Option Int} {xl xh xm : Option Value} {cs : List Prop}
  (h : aH2 P t v lo hi mx = some (v', cs)) (hc : All cs) (hx : c9 U ρ v x) (hl : D5 lo xl) (hh : D5 hi xh) (hm : D5 mx xm)
  (he : ∀ e, P.underlying t = some (.slice e) ∨ (∃ n, P.underlying t = some (.array n e)) → (P.info? e).isSome = true) (w : World) :
  ∃ y, (Instr.sliceAt t x xl xh xm).run P w = .ok y w ∧ c9 U ρ v' y := by
 unfold aH2 at h
 cases hmh0 : (mx.isSome && hi.isNone) with
 | true => simp [hmh0] at h
 | false =>
 have hmh : mx ≠ none → hi ≠ none := fun h1 h2 => by subst h2; cases mx <;> simp_all
 simp only [hmh0, cond_false] at h
 cases hu : P.underlying t with
 | none => simp [hu] at h
 | some d =>
  cases d <;> simp only [hu, reduceCtorEq] at h
  case string =>
   cases v <;> simp only [reduceCtorEq] at h
   rename_i s
   cases mx with
   | some m => simp at h
   | none =>
    simp only [Option.isSome_none, cond_false, Option.some.injEq, Prod.mk.injEq] at h
    obtain ⟨rfl, rfl⟩ := h
    rw [c9] at hx; subst hx
    obtain ⟨c2, c3⟩ := f6.1 hc
    have hb := D1 (P := P) (isSlice := false) (len := s.size) (cap := s.size) hl hh hm (by simp [bnd, All]) (by simpa [f2] using c2) c3 hmh w
    simp only [D5] at hm; subst hm
    refine ⟨_, ?_, by rw [c9]⟩
    simp only [Instr.sliceAt, Sem.run_bind, j2 hu, Result.andThen_ok, Instr.slice, Option.isSome_none, Bool.false_eq_true, if_false, hb, Sem.run_pure]
  case slice e =>
   obtain ⟨ie, hie⟩ := Option.isSome_iff_exists.1 (he e (.inl hu))
   have run : ∀ (a : Option Addr) (len cap l h m : Nat), (Instr.sliceBounds true len cap xl xh xm).run P w = .ok (l, h, m) w →
     (Instr.sliceAt t (.slice a len cap) xl xh xm).run P w = .ok (.slice (if m = l then a else a.map (·.add (l * ie.size))) (h - l) (m - l)) w := by
    intro a len cap l h m hb
    simp only [Instr.sliceAt, Sem.run_bind, j2 hu, Result.andThen_ok, Instr.slice, hb, z7 hie, Sem.run_pure]
   cases v <;> simp only [reduceCtorEq] at h
   case snil =>
    rw [c9] at hx; subst hx
    simp only [Option.some.injEq, Prod.mk.injEq] at h
    obtain ⟨rfl, rfl⟩ := h
    obtain ⟨c1, c2⟩ := f6.1 hc
    obtain ⟨c2, c3⟩ := f6.1 c2
    refine ⟨_, run _ _ _ _ _ _ (D1 hl hh hm c1 c2 c3 hmh w), ?_⟩
    have e1 : f2 mx 0 = 0 := by
     cases mx with
     | none => rfl
     | some m => simp only [bnd, All, and_true] at c1; simp only [f2]; omega
    have e2 : f2 hi 0 = 0 := by
     cases hi with
     | none => rfl
     | some m => rw [e1] at c2; simp only [bnd, All, and_true] at c2; simp only [f2]; omega
    rw [c9, e1, e2]; simp
   case ros es len f clip =>
    rw [c9] at hx; obtain ⟨a, cp, rfl, h2, h3, h4⟩ := hx
    simp only [hie] at h
    cases hes : Nat.beq es ie.size <;> simp only [hes, cond_true, cond_false, reduceCtorEq, Option.some.injEq, Prod.mk.injEq] at h
    obtain ⟨rfl, rfl⟩ := h
    have hes' : es = ie.size := Nat.eq_of_beq_eq_true hes
    obtain ⟨c1, c2⟩ := f6.1 hc
    obtain ⟨c2, c3⟩ := f6.1 c2
    obtain ⟨c3, c4⟩ := f6.1 c3
    have d1 : All (bnd mx cp) := by
     cases mx with
     | none => trivial
     | some m => simp only [bnd, All, and_true] at c1 ⊢; omega
    have d2 : All (bnd hi (f2 mx cp)) := by
     cases hi with
     | none => trivial
     | some m => cases mx with
      | none => simp only [bnd, All, and_true, f2] at c2 ⊢; omega
      | some m' => exact c2
    have hhl : f2 hi len ≤ f2 mx cp ∧ f2 hi len ≤ len := by
     cases hi with
     | none => cases mx with
      | none => exact ⟨h2, Nat.le_refl _⟩
      | some m => exact (hmh (by simp) rfl).elim
     | some h => cases mx with
      | none => simp only [bnd, All, and_true, f2] at c2 ⊢; omega
      | some m => simp only [bnd, All, and_true, f2] at c1 c2 ⊢; omega
    refine ⟨_, run _ _ _ _ _ _ (D1 hl hh hm d1 d2 c3 hmh w), ?_⟩
    rw [c9]
    refine ⟨_, _, rfl, by omega, fun hcl => ?_, fun q hq => ?_⟩
    ·cases mx with
     | some m => cases hi with
      | none => exact (hmh (by simp) rfl).elim
      | some h => simp only [bx_, All, and_true] at c4; subst c4; try rfl
     | none =>
      cases hi with
      | none => simp only [Option.isSome_none, cond_false, Option.isNone_none, Bool.and_true] at hcl; rw [h3 hcl]; try rfl
      | some h => simp at hcl
    ·obtain ⟨b, base, c, rfl, h5, lst, h6, h7, h8⟩ := h4 (f2 lo 0 + q) (by omega)
     have hne : ¬ f2 mx cp = f2 lo 0 := by omega
     rw [if_neg hne]
     refine ⟨b, base + f2 lo 0 * ie.size, c, ?_, h5, lst, ?_, h7, fun k hk => ?_⟩
     ·simp only [Option.map_some, R2]
     ·rw [aw7]; exact h6
     ·rw [← h8 k hk]; congr 1; rw [hes', Nat.add_mul]; omega
   case sl n es i o j len cap =>
    rw [c9] at hx; obtain ⟨l, cp, h1, h2, h3, hx⟩ := hx
    simp only [hie] at h
    have core : ∀ (C : Nat), C ≤ cp → len ≤ C → (f2 mx C = f2 mx cp ∨ C = len) → All (bnd mx C ++ (bnd hi (f2 mx C) ++ (bnd lo (f2 hi len) ++ ah7 lo (f2 mx C)))) →
      (Instr.sliceBounds true len cp xl xh xm).run P w = .ok (f2 lo 0, f2 hi len, f2 mx cp) w ∧ f2 hi len ≤ f2 mx cp ∧ f2 mx cp ≤ cp ∧ (f2 lo 0 = 0 ∨ f2 lo 0 < f2 mx cp) ∧ f2 lo 0 ≤ f2 hi len := by
     intro C hC hlC _ hc
     obtain ⟨c1, c2⟩ := f6.1 hc
     obtain ⟨c2, c3⟩ := f6.1 c2
     obtain ⟨c3, c4⟩ := f6.1 c3
     have hmm : f2 mx C ≤ f2 mx cp := by
      cases mx with
      | none => exact hC
      | some m => exact Nat.le_refl _
     have d1 : All (bnd mx cp) := by
      cases mx with
      | none => trivial
      | some m => simp only [bnd, All, and_true] at c1 ⊢; omega
     have d2 : All (bnd hi (f2 mx cp)) := by
      cases hi with
      | none => trivial
      | some m => simp only [bnd, All, and_true] at c2 ⊢; omega
     refine ⟨D1 hl hh hm d1 d2 c3 hmh w, ?_, ?_, ?_, ?_⟩
     ·cases hi with
      | none => cases mx with
       | none => exact h2
       | some m => exact (hmh (by simp) rfl).elim
      | some h => simp only [bnd, All, and_true, f2] at d2 ⊢; omega
     ·cases mx with
      | none => exact Nat.le_refl _
      | some m => simp only [bnd, All, and_true, f2] at d1 ⊢; omega
     ·rcases ap0 c4 with h | h
      ·exact .inl h
      ·exact .inr (by omega)
     ·cases lo with
      | none => exact Nat.zero_le _
      | some q => simp only [bnd, All, and_true] at c3; simp only [f2] at c3 ⊢; omega
    have addr : f2 lo 0 = 0 ∨ f2 lo 0 < f2 mx cp → (if f2 mx cp = f2 lo 0 then some (⟨l.blk, i * es + o + j, none⟩ : Addr) else Option.map (fun (x : Addr) => x.add (f2 lo 0 * ie.size)) (some ⟨l.blk, i * es + o + j, none⟩)) = some ⟨l.blk, i * es + o + j + f2 lo 0 * ie.size, none⟩ := by
     rintro (h0 | h0)
     ·simp only [h0, Nat.zero_mul, Nat.add_zero, Option.map_some, R2, ite_self]
     ·rw [if_neg (by omega), Option.map_some, R2]
    have fin : ∀ (i' j' : Nat) (cap' : Option Nat), f2 hi len ≤ f2 mx cp → f2 mx cp ≤ cp → (f2 lo 0 = 0 ∨ f2 lo 0 < f2 mx cp) → f2 lo 0 ≤ f2 hi len →
      (Instr.sliceBounds true len cp xl xh xm).run P w = .ok (f2 lo 0, f2 hi len, f2 mx cp) w →
      i' * es + o + j' = i * es + o + j + f2 lo 0 * ie.size → ((i + cp) * es ≤ l.sz → (i' + (f2 mx cp - f2 lo 0)) * es ≤ l.sz) → (∀ c, cap' = some c → f2 mx cp - f2 lo 0 = c) →
      ∃ y, (Instr.sliceAt t x xl xh xm).run P w = .ok y w ∧ c9 U ρ (.sl n es i' o j' (f2 hi len - f2 lo 0) cap') y := by
     intro i' j' cap' b1 b2 b3 b4 hb e1 e2 e3
     rcases hx with ⟨hr, rfl, hx⟩ | ⟨hr, rfl, rfl, rfl⟩
     ·refine ⟨_, run _ _ _ _ _ _ hb, ?_⟩
      rw [c9, addr b3, ← e1]
      exact ⟨l, _, h1, by omega, e3, .inl ⟨hr, rfl, e2 hx⟩⟩
     ·have z1 : f2 mx 0 = 0 := by omega
      have z2 : f2 hi 0 = 0 := by omega
      have z3 : f2 lo 0 = 0 := by omega
      refine ⟨_, run _ _ _ _ _ _ hb, ?_⟩
      rw [c9, z1, z2, z3]
      refine ⟨l, 0, h1, Nat.le_refl _, fun c hc => ?_, .inr ⟨hr, by simp, by simp, rfl⟩⟩
      have := e3 c hc; omega
    cases cap with
    | some c =>
     have hcp := h3 c rfl
     subst hcp
     cases hes0 : Nat.beq es 0 <;> simp only [hes0, cond_true, cond_false] at h
     ·cases hes : Nat.beq es ie.size <;> simp only [hes, cond_true, cond_false, reduceCtorEq, Option.some.injEq, Prod.mk.injEq] at h
      obtain ⟨rfl, rfl⟩ := h
      have hes' : es = ie.size := Nat.eq_of_beq_eq_true hes
      obtain ⟨hb, b1, b2, b3, b4⟩ := core cp (Nat.le_refl _) h2 (.inl rfl) hc
      refine fin _ _ _ b1 b2 b3 b4 hb ?_ (fun hx => Nat.le_trans (Nat.mul_le_mul_right _ ?_) hx) (fun c e => by cases e; rfl)
      ·rw [U3, ← hes', Nat.add_mul]; omega
      ·rw [U3]; omega
     ·cases hes : Nat.beq ie.size 1 <;> simp only [hes, cond_true, cond_false, reduceCtorEq, Option.some.injEq, Prod.mk.injEq] at h
      obtain ⟨rfl, rfl⟩ := h
      have hes' : ie.size = 1 := Nat.eq_of_beq_eq_true hes
      have hes0' : es = 0 := Nat.eq_of_beq_eq_true hes0
      obtain ⟨hb, b1, b2, b3, b4⟩ := core cp (Nat.le_refl _) h2 (.inl rfl) hc
      refine fin _ _ _ b1 b2 b3 b4 hb ?_ (fun _ => by rw [hes0']; omega) (fun c e => by cases e; rfl)
      rw [U3, hes']; omega
    | none =>
     cases hes0 : Nat.beq es 0 <;> simp only [hes0, cond_true, cond_false, reduceCtorEq] at h
     cases hes : Nat.beq es ie.size <;> simp only [hes, cond_true, cond_false, reduceCtorEq, Option.some.injEq, Prod.mk.injEq] at h
     obtain ⟨rfl, rfl⟩ := h
     have hes' : es = ie.size := Nat.eq_of_beq_eq_true hes
     obtain ⟨hb, b1, b2, b3, b4⟩ := core len h2 (Nat.le_refl _) (.inr rfl) hc
     refine fin _ _ _ b1 b2 b3 b4 hb ?_ (fun hx => Nat.le_trans (Nat.mul_le_mul_right _ ?_) hx) (fun c e => ?_)
     ·rw [U3, ← hes', Nat.add_mul]; omega
     ·rw [U3]; omega
     ·cases mx with
      | none => cases e
      | some m => simp only [Option.map_some, Option.some.injEq] at e; simp only [f2] at e ⊢; exact e
  case array N e =>
   obtain ⟨ie, hie⟩ := Option.isSome_iff_exists.1 (he e (.inr ⟨N, hu⟩))
   cases hint : J3 P e <;> simp only [hint, cond_true, cond_false, reduceCtorEq] at h
   have hsz := hI e ie hint hie
   have run : ∀ (a : Addr) (l h m : Nat), a.spot = none → (Instr.sliceBounds false N N xl xh xm).run P w = .ok (l, h, m) w →
     (Instr.sliceAt t (.pointer (some a)) xl xh xm).run P w = .ok (.slice (some (if m = l then a else ⟨a.block, a.off + l, none⟩)) (h - l) (m - l)) w := by
    intro a l h m ha hb
    simp only [Instr.sliceAt, Sem.run_bind, j2 hu, Result.andThen_ok, Instr.sureAddr, hb, z7 hie, hsz, Nat.mul_one, Sem.run_pure, V4 a _ ha]
   have bounds : All (bnd mx N) → All (bnd hi (f2 mx N)) → f2 mx N ≤ N ∧ f2 hi N ≤ f2 mx N := by
    intro c1 c2
    refine ⟨?_, ?_⟩
    ·cases mx with
     | none => exact Nat.le_refl _
     | some m => simp only [bnd, All, and_true, f2] at c1 ⊢; omega
    ·cases hi with
     | none => cases mx with
      | none => exact Nat.le_refl _
      | some m => exact (hmh (by simp) rfl).elim
     | some h => simp only [bnd, All, and_true, f2] at c2 ⊢; omega
   cases v <;> simp only [reduceCtorEq] at h
   case ptr n es i o j =>
    cases hes0 : Nat.beq es 0 <;> simp only [hes0, cond_true, cond_false, reduceCtorEq, Option.some.injEq, Prod.mk.injEq] at h
    obtain ⟨rfl, rfl⟩ := h
    have hes' : es = 0 := Nat.eq_of_beq_eq_true hes0
    subst hes'
    rw [c9] at hx; obtain ⟨l, h1, hr, rfl⟩ := hx
    obtain ⟨c1, c2⟩ := f6.1 hc
    obtain ⟨c2, c3⟩ := f6.1 c2
    obtain ⟨c3, c4⟩ := f6.1 c3
    obtain ⟨b1, b2⟩ := bounds c1 c2
    refine ⟨_, run _ _ _ _ rfl (D1 hl hh hm c1 c2 c3 hmh w), ?_⟩
    rw [c9]
    refine ⟨l, f2 mx N - f2 lo 0, h1, by omega, fun c e => by cases e; rfl, .inl ⟨hr, ?_, by omega⟩⟩
    rw [U3]
    rcases ap0 c4 with h0 | h0
    ·simp only [h0, Nat.add_zero, ite_self]
    ·rw [if_neg (by omega)]
     simp only [Value.slice.injEq, Option.some.injEq, Addr.mk.injEq, and_true, true_and]; omega
   case rop cs0 o j =>
    cases hj : Nat.beq j 0 <;> simp only [hj, cond_true, cond_false, reduceCtorEq] at h
    have hj' : j = 0 := Nat.eq_of_beq_eq_true hj
    subst hj'
    cases hs : u4 cs0 o with
    | none => simp [hs] at h
    | some p =>
     obtain ⟨pa, pb⟩ := p
     rw [hs] at h
     cases pb with
     | nil => simp at h
     | cons u us =>
      cases u <;> simp only [reduceCtorEq] at h
      rename_i k m xs
      cases hmN : Nat.beq m N <;> simp only [hmN, cond_true, cond_false, reduceCtorEq, Option.some.injEq, Prod.mk.injEq] at h
      obtain ⟨rfl, rfl⟩ := h
      have hmN' : m = N := Nat.eq_of_beq_eq_true hmN
      rw [c9] at hx; obtain ⟨b, base, c, h1, rfl, lst, h2, h3⟩ := hx
      obtain ⟨c1, c2⟩ := f6.1 hc
      obtain ⟨c2, c3⟩ := f6.1 c2
      obtain ⟨b1, b2⟩ := bounds c1 c2
      obtain ⟨rfl, hsz2⟩ := u9 hs
      obtain ⟨la, lb, rfl, h5, h6⟩ := m4.1 h2
      obtain ⟨hxs, r, rfl, h7⟩ := F1.1 h6
      have e1 := h5.len; rw [hsz2] at e1
      refine ⟨_, run _ _ _ _ rfl (D1 hl hh hm c1 c2 c3 hmh w), ?_⟩
      rw [c9]
      refine ⟨_, _, rfl, by omega, fun hcl => ?_, fun q hq => ?_⟩
      ·simp only [Bool.and_eq_true, Option.isNone_iff_eq_none] at hcl
       rw [hcl.1, hcl.2]; try rfl
      ·rw [if_neg (by omega)]
       refine ⟨b, base + o + f2 lo 0, c, by simp, h1, [.int k (xs.getD (f2 lo 0 + q) 0)], ?_, rfl, fun k' hk' => ?_⟩
       ·rw [v7 rfl]; exact ⟨_, [], rfl, by rw [c9], by rw [i6]⟩
       ·simp only [List.length_singleton, Nat.lt_one_iff] at hk'
        subst hk'
        have hlt : f2 lo 0 + q < xs.length := by omega
        have := h3 (o + (f2 lo 0 + q)) (by simp only [List.length_append, List.length_map, e1]; omega)
        rw [show base + o + f2 lo 0 + q * 1 + 0 = base + (o + (f2 lo 0 + q)) by omega, this]
        rw [List.getElem?_append_right (by omega), List.getElem?_append_left (by simp; omega)]
        simp [e1, List.getElem?_eq_getElem hlt, List.getD]
end Sy
namespace Sy
open Go
variable {P : Program} {U : Imm} {ρ : Env}
def H5 (c : Array Value) (k : Nat) : List Value → Array Value
 | [] => c
 | v :: vs => H5 (c.setIfInBounds k v) (k + 1) vs
theorem C8 (c : Array Value) : ∀ (vs : List Value) (k : Nat), (H5 c k vs).size = c.size := by
 intro vs
 induction vs generalizing c with
 | nil => intro k; rfl
 | cons v vs ih => intro k; rw [H5, ih]; simp
theorem Q2 (vs : List Value) : ∀ (c : Array Value) (k : Nat), k + vs.length ≤ c.size → ∀ i, (H5 c k vs)[i]? = if k ≤ i ∧ i < k + vs.length then vs[i - k]? else c[i]? := by
 induction vs with
 | nil => intro c k _ i; rw [H5, if_neg (by simp only [List.length_nil]; omega)]
 | cons v vs ih =>
  intro c k hk i
  simp only [List.length_cons] at hk ⊢
  rw [H5, ih _ _ (by simp; omega)]
  by_cases h1 : k + 1 ≤ i ∧ i < k + 1 + vs.length
  ·rw [if_pos h1, if_pos (by omega)]
   rw [show i - k = (i - (k + 1)) + 1 by omega, List.getElem?_cons_succ]
  ·rw [if_neg h1, Array.getElem?_setIfInBounds]
   by_cases h2 : k = i
   ·subst h2; rw [if_pos rfl, if_pos (by omega), if_pos (by omega)]; simp
   ·rw [if_neg h2, if_neg (by omega)]
theorem aK9 {w : World} {b off : Nat} {c : Array Value} {el : TypeId} {fr : Nat × Nat} (h : w.heap[b]? = some (.cells c el fr)) (v : Value) :
  w.setCell ⟨b, off, none⟩ v = { w with heap := w.heap.setIfInBounds b (.cells (c.setIfInBounds off v) el fr) } := by
 unfold World.setCell
 congr 1
 apply Array.ext_getElem?
 intro i
 rw [Array.getElem?_modify, Array.getElem?_setIfInBounds]
 by_cases hi : b = i
 ·subst hi
  have hlt := A2 h
  rw [if_pos rfl, if_pos rfl, h, if_pos hlt]; rfl
 ·rw [if_neg hi, if_neg hi]
theorem I1 {w : World} {b off : Nat} {c : Array Value} {el : TypeId} {fr : Nat × Nat} (h : w.heap[b]? = some (.cells c el fr)) : w.cell? ⟨b, off, none⟩ = c[off]? := by
 simp [World.cell?, h]
theorem ba6 {w : World} {b off lo hi : Nat} {c : Array Value} {el : TypeId} (h : w.heap[b]? = some (.cells c el (lo, hi))) (hf : hi = lo ∨ c.size ≤ lo) (ho : off < c.size) : w.frozen? ⟨b, off, none⟩ = false := by
 simp only [World.frozen?, h, Bool.and_eq_false_iff, decide_eq_false_iff_not]
 omega
theorem Q0 {b off : Nat} {el : TypeId} {lo hi : Nat} (vs : List Value) : ∀ (i : Nat) (w : World) (c : Array Value), w.heap[b]? = some (.cells c el (lo, hi)) → (hi = lo ∨ c.size ≤ lo) →
  off + i + vs.length ≤ c.size → (∀ v ∈ vs, v.oneCell' = true) →
  (storeCells ⟨b, off, none⟩ vs i).run P w = .ok () { w with heap := w.heap.setIfInBounds b (.cells (H5 c (off + i) vs) el (lo, hi)) } := by
 induction vs with
 | nil =>
  intro i w c h _ _ _
  have hlt := A2 h
  have : w.heap.setIfInBounds b (.cells (H5 c (off + i) []) el (lo, hi)) = w.heap := by
   apply Array.ext_getElem?
   intro k
   rw [Array.getElem?_setIfInBounds]
   by_cases hk : b = k
   ·subst hk; rw [if_pos rfl, if_pos hlt, h]; rfl
   ·simp [hk]
  rw [this]; rfl
 | cons v vs ih =>
  intro i w c h hf hs hv
  simp only [List.length_cons] at hs
  have hlt := A2 h
  have hv1 := hv v (by simp)
  rw [storeCells]
  simp only [Sem.run_bind, R2, run_store P w _ v _ hv1, I1 h, Array.getElem?_eq_getElem (show off + i < c.size by omega), ba6 h hf (show off + i < c.size by omega), Bool.false_eq_true, if_false, Result.andThen_ok]
  rw [aK9 h, ih (i + 1) _ (c.setIfInBounds (off + i) v) (by simp [hlt]) (by simpa using hf) (by simp; omega) (fun u hu => hv u (by simp [hu]))]
  congr 2
  rw [H5, show off + (i + 1) = off + i + 1 by omega]
  apply Array.ext_getElem?
  intro k
  simp only [Array.getElem?_setIfInBounds]
  by_cases hk : b = k
  ·subst hk; simp [hlt]
  ·simp [hk]
theorem am2 {v : V} {x : Value} (h : v.one = true) (hx : c9 U ρ v x) : x.oneCell' = true ∧ x.cells = #[x] := by
 cases v <;> simp only [V.one, reduceCtorEq, Bool.false_eq_true] at h <;> rw [c9] at hx
 case ptr => obtain ⟨l, _, _, rfl⟩ := hx; exact ⟨rfl, rfl⟩
 case rop => obtain ⟨_, _, _, _, rfl, _⟩ := hx; exact ⟨rfl, rfl⟩
 case sl => obtain ⟨_, _, _, _, _, ⟨_, rfl, _⟩ | ⟨_, rfl, _⟩⟩ := hx <;> exact ⟨rfl, rfl⟩
 case ros => obtain ⟨_, _, rfl, _⟩ := hx; exact ⟨rfl, rfl⟩
 case fn => obtain ⟨_, _, rfl, _⟩ := hx; exact ⟨rfl, rfl⟩
 case ifc => obtain ⟨_, rfl, _⟩ := hx; exact ⟨rfl, rfl⟩
 case mp => obtain ⟨_, _, _, rfl⟩ := hx; exact ⟨rfl, rfl⟩
 case yld => obtain ⟨_, _, _, rfl⟩ := hx; exact ⟨rfl, rfl⟩
 all_goals subst hx; exact ⟨rfl, rfl⟩
def V.part : V → Bool
 | .seg .. => true
 | v => v.one
def m8 : List V → Bool
 | [] => true
 | v :: vs => v.part && m8 vs
theorem aa0 : ∀ {cs : List V} {l : List Value}, m8 cs = true → i6 U ρ cs l → ∀ x ∈ l, x.oneCell' = true
 | [], l, _, h, x, hx => by rw [i6] at h; subst h; cases hx
 | v :: vs, l, hs, h, x, hx => by
  rw [m8, Bool.and_eq_true] at hs
  rw [i6] at h
  obtain ⟨l1, l2, rfl, h1, h2⟩ := h
  rcases List.mem_append.1 hx with hx | hx
  ·rcases h1 with ⟨k, m, xs, rfl, hm, rfl⟩ | ⟨hc, y, rfl, hy⟩
   ·obtain ⟨n, _, rfl⟩ := List.mem_map.1 hx; rfl
   ·simp only [List.mem_singleton] at hx; subst hx
    have : v.one = true := by cases v <;> simp_all [V.part, V.one, V.cell]
    exact (am2 this hy).1
  ·exact aa0 hs.2 h2 x hx
def V.cs : V → List V
 | .agg cs => cs
 | v => [v]
theorem aC8 {v : V} {x : Value} (hs : m8 v.cs = true) (hx : c9 U ρ v x) : i6 U ρ v.cs x.cells.toList ∧ x.cells.size = E9 v.cs := by
 cases v
 case agg cs => rw [c9] at hx; obtain ⟨l, rfl, h⟩ := hx; exact ⟨h, by have := h.len; simpa [Value.cells, V.cs] using this⟩
 case seg k m xs => rw [c9] at hx; exact hx.elim
 all_goals
  have h1 := hs
  simp only [V.cs, m8, V.part, Bool.and_true] at h1
  have h2 := (am2 h1 hx).2
  simp only [V.cs, h2]
  exact ⟨(v7 (V.cell_of_one h1)).2 ⟨x, [], rfl, hx, by rw [i6]⟩, by simp [E9, V.csz]⟩
def Y2 (P : Program) (t : TypeId) (cs : List V) (o j : Nat) : Option (V × List Prop) :=
 match P.underlying t with
 | none => none
 | some _ => bif R9 P t then (bif Nat.beq j 0 then match aF2 cs o (szT P t) with
   | some c => some (.agg c, [])
   | none => none
  else none)
  else match u4 cs o with
   | some (_, v :: _) => match v with
    | .seg k m xs => some (.int k (xs.getD j 0), [j < m])
    | _ => bif Nat.beq j 0 && v.one then some (v, []) else match u4 cs (o + j) with
      | some (_, u :: _) => bif u.one then some (u, []) else none
      | _ => none
   | _ => none
theorem al9 {t : TypeId} {cs : List V} {o j b base : Nat} {v : V} {conds : List Prop} {l : List Value} {w : World} (h : Y2 P t cs o j = some (v, conds)) (hc : All conds)
  (hl : i6 U ρ cs l) (hcell : ∀ k, k < l.length → w.cell? ⟨b, base + k, none⟩ = l[k]?) : ∃ x, (loadVar t ⟨b, base + o + j, none⟩).run P w = .ok x w ∧ c9 U ρ v x := by
 unfold Y2 at h
 cases hu : P.underlying t with
 | none => simp [hu] at h
 | some d =>
  obtain ⟨i, hi⟩ := L6 hu
  have hsz : szT P t = i.size := by simp [szT, hi]
  simp only [hu] at h
  unfold loadVar
  simp only [Sem.run_bind, Y5 hu, Result.andThen_ok]
  cases ha : R9 P t with
  | true =>
   simp only [ha, cond_true] at h
   cases hj : Nat.beq j 0 <;> simp only [hj, cond_true, cond_false, reduceCtorEq] at h
   have hj' : j = 0 := Nat.eq_of_beq_eq_true hj
   subst hj'
   cases hm : aF2 cs o (szT P t) with
   | none => simp [hm] at h
   | some c =>
    simp only [hm, Option.some.injEq, Prod.mk.injEq] at h
    obtain ⟨rfl, rfl⟩ := h
    rw [hsz] at hm
    obtain ⟨h1, h2⟩ := aF3 hm hl
    have hlen : ((l.drop o).take i.size).length = i.size := by simp; omega
    have hrun := run_loadCells_list (P := P) w ⟨b, base + o + 0, none⟩ ((l.drop o).take i.size) (fun q y hq => by
     rw [R2]
     have hql : q < i.size := by
      rcases Nat.lt_or_ge q i.size with h | h
      ·exact h
      ·rw [List.getElem?_eq_none (by omega)] at hq; cases hq
     rw [List.getElem?_take_of_lt hql, List.getElem?_drop] at hq
     rw [show base + o + 0 + q = base + (o + q) by omega, hcell (o + q) (by omega), hq])
    rw [hlen] at hrun
    simp only [if_true, Sem.run_bind, z7 hi, Result.andThen_ok, hrun, Sem.run_pure]
    exact ⟨_, rfl, by rw [c9]; exact ⟨_, rfl, h1⟩⟩
  | false =>
   simp only [ha, cond_false] at h
   simp only [Bool.false_eq_true, if_false]
   cases hs : u4 cs o with
   | none => simp [hs] at h
   | some p =>
    obtain ⟨pa, pb⟩ := p
    simp only [hs] at h
    cases pb with
    | nil => simp at h
    | cons u us =>
     obtain ⟨rfl, h3⟩ := u9 hs
     obtain ⟨la, lb, rfl, h5, h6⟩ := m4.1 hl
     have e1 := h5.len; rw [h3] at e1
     simp only at h
     split at h
     ·rename_i k m xs
      simp only [Option.some.injEq, Prod.mk.injEq] at h
      obtain ⟨rfl, rfl⟩ := h
      obtain ⟨hxs, r, rfl, h7⟩ := F1.1 h6
      have hj := hc.1
      have hlt : j < xs.length := by omega
      have := hcell (o + j) (by simp; omega)
      rw [show base + (o + j) = base + o + j by omega, List.getElem?_append_right (by omega), List.getElem?_append_left (by simp; omega)] at this
      refine ⟨.int k (xs.getD j 0), ?_, by rw [c9]⟩
      rw [run_load, this]
      simp [e1, List.getElem?_eq_getElem hlt, List.getD]
     ·cases hj : (Nat.beq j 0 && u.one) <;> simp only [hj, cond_true, cond_false, reduceCtorEq, Option.some.injEq, Prod.mk.injEq] at h
      ·split at h
       ·rename_i p1 u1 us1 hs1
        cases hu1 : u1.one <;> simp only [hu1, cond_true, cond_false, reduceCtorEq, Option.some.injEq, Prod.mk.injEq] at h
        obtain ⟨rfl, rfl⟩ := h
        obtain ⟨e2, h3b⟩ := u9 hs1
        rw [e2] at hl
        obtain ⟨la1, lb1, e3, h5b, h6b⟩ := m4.1 hl
        have e4 := h5b.len; rw [h3b] at e4
        obtain ⟨x, r, rfl, h7, h8⟩ := (v7 (V.cell_of_one hu1)).1 h6b
        have := hcell (o + j) (by rw [e3]; simp; omega)
        rw [e3, List.getElem?_append_right (by omega)] at this
        refine ⟨x, ?_, h7⟩
        rw [run_load, Nat.add_assoc, this]
        simp [e4]
       ·simp at h
      obtain ⟨rfl, rfl⟩ := h
      rw [Bool.and_eq_true] at hj
      have hj' : j = 0 := Nat.eq_of_beq_eq_true hj.1
      subst hj'
      obtain ⟨x, r, rfl, h7, h8⟩ := (v7 (V.cell_of_one hj.2)).1 h6
      have := hcell o (by simp; omega)
      rw [List.getElem?_append_right (by omega)] at this
      refine ⟨x, ?_, h7⟩
      rw [run_load, Nat.add_zero, this]
      simp [e1]
def ag8 (P : Program) (t : TypeId) (cs : List V) (o j : Nat) (v : V) : Option (List V × List Prop) :=
 match u4 cs o with
 | none => none
 | some (a, b) => bif R9 P t then (bif Nat.beq j 0 && (m8 v.cs && Nat.beq (E9 v.cs) (szT P t)) then match u4 b (szT P t) with
   | some (_, r) => some (a ++ (v.cs ++ r), [])
   | none => none
  else none)
  else bif Nat.beq (szT P t) 1 then match b with
   | u :: us => match u with
    | .seg k m xs => match v with
     | .int k' n => if k = k' then some (a ++ .seg k m (xs.set j n) :: us, [j < m]) else none
     | _ => none
    | _ => bif Nat.beq j 0 && (v.one && u.cell) then some (a ++ v :: us, []) else none
   | [] => none
  else none
def ad0 (l : List Value) (o : Nat) (vals : List Value) : List Value := l.take o ++ vals ++ l.drop (o + vals.length)
theorem aw9 {t : TypeId} {cs cs' : List V} {o j : Nat} {v : V} {x : Value} {conds : List Prop} {l : List Value} (h : ag8 P t cs o j v = some (cs', conds)) (hc : All conds)
  (hl : i6 U ρ cs l) (hx : c9 U ρ v x) : ∃ vals, x.cells.toList = vals ∧ vals.length = szT P t ∧ (∀ y ∈ vals, y.oneCell' = true) ∧ o + j + vals.length ≤ l.length ∧ i6 U ρ cs' (ad0 l (o + j) vals) := by
 unfold ag8 at h
 cases hs : u4 cs o with
 | none => simp [hs] at h
 | some p =>
  obtain ⟨a, b⟩ := p
  simp only [hs] at h
  obtain ⟨rfl, h3⟩ := u9 hs
  obtain ⟨la, lb, rfl, h5, h6⟩ := m4.1 hl
  have e1 := h5.len; rw [h3] at e1
  cases ha : R9 P t with
  | true =>
   simp only [ha, cond_true] at h
   cases hj : (Nat.beq j 0 && (m8 v.cs && Nat.beq (E9 v.cs) (szT P t))) <;> simp only [hj, cond_true, cond_false, reduceCtorEq] at h
   rw [Bool.and_eq_true, Bool.and_eq_true] at hj
   obtain ⟨hj1, hj2, hj3⟩ := hj
   have hj' : j = 0 := Nat.eq_of_beq_eq_true hj1
   subst hj'
   have hsz : E9 v.cs = szT P t := Nat.eq_of_beq_eq_true hj3
   cases hs2 : u4 b (szT P t) with
   | none => simp [hs2] at h
   | some q =>
    obtain ⟨b1, r⟩ := q
    simp only [hs2, Option.some.injEq, Prod.mk.injEq] at h
    obtain ⟨rfl, rfl⟩ := h
    obtain ⟨rfl, h4⟩ := u9 hs2
    obtain ⟨lb1, lr, rfl, h7, h8⟩ := m4.1 h6
    have e2 := h7.len; rw [h4] at e2
    obtain ⟨hv1, hv2⟩ := aC8 hj2 hx
    have e3 : x.cells.toList.length = szT P t := by simp; omega
    refine ⟨_, rfl, e3, aa0 hj2 hv1, by simp only [List.length_append]; omega, ?_⟩
    unfold ad0
    rw [Nat.add_zero, List.take_append_of_le_length (by omega), List.take_of_length_le (by omega), List.drop_append, List.drop_of_length_le (by omega), List.nil_append, List.drop_append, List.drop_of_length_le (by omega), List.nil_append]
    rw [show o + x.cells.toList.length - la.length - lb1.length = 0 by omega, List.drop_zero, List.append_assoc]
    exact m4.2 ⟨la, _, rfl, h5, m4.2 ⟨_, lr, rfl, hv1, h8⟩⟩
  | false =>
   simp only [ha, cond_false] at h
   cases hsz : Nat.beq (szT P t) 1 <;> simp only [hsz, cond_true, cond_false, reduceCtorEq] at h
   have hsz' : szT P t = 1 := Nat.eq_of_beq_eq_true hsz
   cases b with
   | nil => simp at h
   | cons u us =>
    simp only at h
    split at h
    ·rename_i k m xs
     split at h
     ·rename_i k' n
      split at h
      ·rename_i hk
       subst hk
       simp only [Option.some.injEq, Prod.mk.injEq] at h
       obtain ⟨rfl, rfl⟩ := h
       obtain ⟨hxs, r, rfl, h7⟩ := F1.1 h6
       have hj := hc.1
       rw [c9] at hx; subst hx
       refine ⟨[.int k n], rfl, by simp [hsz'], by simp [Value.oneCell'], by simp; omega, ?_⟩
       unfold ad0
       refine m4.2 ⟨la, (xs.set j n).map (Value.int k) ++ r, ?_, h5, F1.2 ⟨by simp [hxs], r, rfl, h7⟩⟩
       apply List.ext_getElem?
       intro q
       simp only [List.length_singleton, List.take_append, List.drop_append, List.map_set, e1]
       rw [List.take_of_length_le (by omega), List.drop_of_length_le (show la.length ≤ o + j + 1 by omega), List.nil_append]
       rw [show o + j - o = j by omega, show o + j + 1 - o = j + 1 by omega]
       simp only [List.append_assoc]
       congr 2
       have hjl : j < (xs.map (Value.int k)).length := by simp; omega
       rw [show j - (xs.map (Value.int k)).length = 0 by omega, List.take_zero, List.nil_append, show j + 1 - (xs.map (Value.int k)).length = 0 by omega, List.drop_zero]
       rw [List.set_eq_take_append_cons_drop, if_pos hjl]
       simp
      ·simp at h
     ·simp at h
    ·cases hj : (Nat.beq j 0 && (v.one && u.cell)) <;> simp only [hj, cond_true, cond_false, reduceCtorEq, Option.some.injEq, Prod.mk.injEq] at h
     obtain ⟨rfl, rfl⟩ := h
     rw [Bool.and_eq_true, Bool.and_eq_true] at hj
     obtain ⟨hj1, hj2, hj3⟩ := hj
     have hj' : j = 0 := Nat.eq_of_beq_eq_true hj1
     subst hj'
     obtain ⟨y, r, rfl, h7, h8⟩ := (v7 hj3).1 h6
     obtain ⟨hx1, hx2⟩ := am2 hj2 hx
     refine ⟨[x], by rw [hx2], by simp [hsz'], by simp [hx1], by simp; omega, ?_⟩
     unfold ad0
     rw [Nat.add_zero, List.take_append_of_le_length (by omega), List.take_of_length_le (by omega), List.drop_append, List.drop_of_length_le (by simp; omega), List.nil_append]
     rw [show o + [x].length - la.length = 1 by simp; omega, List.drop_one, List.tail_cons, List.append_assoc]
     exact m4.2 ⟨la, _, rfl, h5, (v7 (V.cell_of_one hj2)).2 ⟨x, r, rfl, hx, h8⟩⟩
end Sy
