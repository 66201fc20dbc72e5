/-
  The shapes of handed values, unfolded; what is known of their cells (own work of this seat).
-/
import Derived.Test.YthifjamdfpjilaaSyData
namespace Sy
open Go

variable {P : Program}
theorem sh_struct {d : Nat} {t : TypeId} {vs : List V} {fs : Array Field} (h : ShC P d t vs) (hu : P.underlying t = some (.struct fs)) : ∃ d', ShFs (ShC P d') fs.toList vs := by
  cases d with
  | zero => exact h.elim
  | succ d => rw [ShC, hu] at h; exact ⟨d, h⟩
theorem sh_slice {d : Nat} {t e : TypeId} {vs : List V} (h : ShC P d t vs) (hu : P.underlying t = some (.slice e)) : ∃ d' len f, vs = [.ros (P.cellsOf e) len f false] ∧ len ≤ maxLen ∧ ∀ i, i < len → ShC P d' e (f i) := by
  cases d with
  | zero => exact h.elim
  | succ d => rw [ShC, hu] at h; obtain ⟨len, f, h1, h2, h3⟩ := h; exact ⟨d, len, f, h1, h2, h3⟩
theorem sh_int {d : Nat} {t : TypeId} {vs : List V} {k : IntKind} (h : ShC P d t vs) (hu : P.underlying t = some (.int k)) : ∃ n, vs = [.int k n] ∧ InR k n := by
  cases d with
  | zero => exact h.elim
  | succ d => rw [ShC, hu] at h; exact h
theorem sh_bool {d : Nat} {t : TypeId} {vs : List V} (h : ShC P d t vs) (hu : P.underlying t = some .bool) : ∃ b, vs = [.bool b] := by
  cases d with
  | zero => exact h.elim
  | succ d => rw [ShC, hu] at h; exact h
theorem sh_str {d : Nat} {t : TypeId} {vs : List V} (h : ShC P d t vs) (hu : P.underlying t = some .string) : ∃ s : ByteArray, vs = [.str s] ∧ s.size ≤ maxLen := by
  cases d with
  | zero => exact h.elim
  | succ d => rw [ShC, hu] at h; exact h
theorem sh_arr {d : Nat} {t e : TypeId} {n : Nat} {k : IntKind} {vs : List V} (h : ShC P d t vs) (hu : P.underlying t = some (.array n e)) (he : P.underlying e = some (.int k)) : ∃ xs, vs = [.seg k n xs] ∧ xs.length = n ∧ ∀ x ∈ xs, InR k x := by
  cases d with
  | zero => exact h.elim
  | succ d =>
    rw [ShC, hu] at h
    obtain ⟨k', xs, h1, h2, h3, h4⟩ := h
    rw [he] at h1; cases h1
    exact ⟨xs, h2, h3, h4⟩

/-- What these cells are, those are too. -/
def CsLe (U : Imm) (a b : List V) : Prop := ∀ l, CsRel U Env.none a l → CsRel U Env.none b l
theorem CsLe.refl (U : Imm) (a : List V) : CsLe U a a := fun _ h => h
theorem CsLe.app {U : Imm} {a a' b b' : List V} (h1 : CsLe U a a') (h2 : CsLe U b b') : CsLe U (a ++ b) (a' ++ b') := fun l h => by
  obtain ⟨la, lb, rfl, h3, h4⟩ := CsRel_append.1 h
  exact CsRel_append.2 ⟨la, lb, rfl, h1 _ h3, h2 _ h4⟩
theorem VRel_ros {U : Imm} {ρ : Env} {es n : Nat} {f g : Nat → List V} {c : Bool} (h : ∀ i, i < n → CsLe U (f i) (g i)) {x : Value} (hx : VRel U ρ (.ros es n f c) x) : VRel U ρ (.ros es n g c) x := by
  rw [VRel] at hx ⊢
  obtain ⟨a, cp, h1, h2, h3, h4⟩ := hx
  refine ⟨a, cp, h1, h2, h3, fun i hi => ?_⟩
  obtain ⟨b, base, c0, g1, g2, l, g3, g4⟩ := h4 i hi
  exact ⟨b, base, c0, g1, g2, l, h i hi l g3, g4⟩
theorem CsLe.ros {U : Imm} {es n : Nat} {f g : Nat → List V} {c : Bool} (h : ∀ i, i < n → CsLe U (f i) (g i)) : CsLe U [.ros es n f c] [.ros es n g c] := fun l hl => by
  obtain ⟨x, r, rfl, h1, h2⟩ := (CsRel_one rfl).1 hl
  exact (CsRel_one rfl).2 ⟨x, r, rfl, VRel_ros h h1, h2⟩
/-- An argument that is one cell. -/
def oneT (P : Program) (t : TypeId) : Bool := match P.underlying t with
  | some .bool => true
  | some (.int _) => true
  | some .string => true
  | some (.slice _) => true
  | _ => false
theorem arg_one {W : World} {base : Nat} {t : TypeId} {v : Value} (h : Value.okWide P W .any base t v) (ho : oneT P t = true) : v.cells.toList = [v] := by
  unfold oneT at ho
  cases v <;> first | rfl | skip
  rename_i cs
  exfalso
  split at ho <;> first | (cases ho; done) | skip
  all_goals
    rename_i hu
    simp [Value.okWide, hu, Cell.okWide, Cell.ok] at h
theorem args_one {W : World} {base : Nat} {ps : Array TypeId} {args : Array Value} (hval : ∀ (j : Nat) t v, ps[j]? = some t → args[j]? = some v → Value.okWide P W .any base t v) {j : Nat} {t : TypeId} {v : Value} (h1 : ps[j]? = some t) (h2 : args[j]? = some v) (ho : oneT P t = true) : v.cells.toList = [v] :=
  arg_one (hval j t v h1 h2) ho
/-- An argument that is a struct. -/
theorem arg_struct {W : World} {base : Nat} {t : TypeId} {fs : Array Field} {v : Value} (h : Value.okWide P W .any base t v) (hu : P.underlying t = some (.struct fs)) : ∃ cs, v = .agg cs := by
  unfold Value.okWide at h
  rw [hu] at h
  obtain ⟨cs, h1, _⟩ := h
  exact ⟨cs, h1⟩
theorem args_struct {W : World} {base : Nat} {ps : Array TypeId} {args : Array Value} (hval : ∀ (j : Nat) t v, ps[j]? = some t → args[j]? = some v → Value.okWide P W .any base t v) {j : Nat} {t : TypeId} {fs : Array Field} {v : Value} (h1 : ps[j]? = some t) (h2 : args[j]? = some v) (hu : P.underlying t = some (.struct fs)) : ∃ cs, v = .agg cs :=
  arg_struct (hval j t v h1 h2) hu
theorem VRel_one {U : Imm} {u : V} {v : Value} (hu : u.cell = true) (hv : v.cells.toList = [v]) (h : CsRel U Env.none [u] v.cells.toList) : VRel U Env.none u v := by
  rw [hv] at h
  obtain ⟨x, l, h1, h2, h3⟩ := (CsRel_one hu).1 h
  cases h1
  exact h2
theorem VRel_agg {U : Imm} {vs : List V} {cs : Array Value} (h : CsRel U Env.none vs (Value.agg cs).cells.toList) : VRel U Env.none (.agg vs) (.agg cs) := by
  rw [VRel]; exact ⟨cs, rfl, h⟩
/-- Many at once. -/
theorem choose_fn {α : Type} [Inhabited α] {n : Nat} {p : Nat → α → Prop} (h : ∀ i, i < n → ∃ a, p i a) : ∃ f : Nat → α, ∀ i, i < n → p i (f i) := by
  classical
  refine ⟨fun i => if hi : i < n then Classical.choose (h i hi) else default, fun i hi => ?_⟩
  simp only [dif_pos hi]
  exact Classical.choose_spec (h i hi)
instance : Inhabited SSign := ⟨{}⟩
instance : Inhabited SReq := ⟨{}⟩
instance : Inhabited SRec := ⟨{}⟩
instance : Inhabited SHeld := ⟨{}⟩
instance : Inhabited SEnv := ⟨{}⟩
end Sy
