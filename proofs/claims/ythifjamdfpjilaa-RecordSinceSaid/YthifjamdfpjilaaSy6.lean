/-
  Slice expressions, conversions, equality of plain values, and other operations that look at no block (own work of this seat).
-/
import Derived.Test.YthifjamdfpjilaaSy5
namespace Sy
open Go

variable {P : Program} {U : Imm} {ρ : Env}

theorem addr_add' (b o n : Nat) : (⟨b, o, none⟩ : Addr).add n = ⟨b, o + n, none⟩ := addr_add _ _ rfl

/-! ### Slice expressions -/
def bnd (n : Option Int) (top : Nat) : List Prop := match n with
  | none => []
  | some n => [0 ≤ n ∧ n ≤ (top : Int)]
def natO (n : Option Int) (d : Nat) : Nat := match n with
  | none => d
  | some n => n.toNat
def intO : Option V → Option (Option Int)
  | none => some none
  | some (.int _ n) => some (some n)
  | _ => none
/-- Operands that are numbers, or none. -/
def OptRel (v : Option Int) (x : Option Value) : Prop := match v with
  | none => x = none
  | some n => ∃ k, x = some (.int k n)
theorem intO_rel {v : Option V} {x : Option Value} {n : Option Int} (h : intO v = some n) (hv : ∀ u, v = some u → ∃ y, x = some y ∧ VRel U ρ u y) (hn : v = none → x = none) : OptRel n x := by
  cases v with
  | none => simp only [intO, Option.some.injEq] at h; subst h; exact hn rfl
  | some u =>
    cases u <;> simp only [intO, reduceCtorEq, Option.some.injEq] at h
    subst h
    obtain ⟨y, h1, h2⟩ := hv _ rfl
    rw [VRel] at h2; subst h2
    exact ⟨_, h1⟩

theorem run_sliceBound {k : IntKind} {n : Int} {y : Nat} {code : BoundsCode} (h : 0 ≤ n ∧ n ≤ (y : Int)) (w : World) : (Instr.sliceBound (.int k n) y code).run P w = .ok n.toNat w := by
  simp only [Instr.sliceBound, asIntOf, Sem.run_bind, Sem.run_pure, Result.andThen_ok, h, and_self, if_true]

theorem run_sliceBounds {isSlice : Bool} {len cap : Nat} {lo hi mx : Option Int} {xl xh xm : Option Value} (hl : OptRel lo xl) (hh : OptRel hi xh) (hm : OptRel mx xm)
    (c1 : All (bnd mx cap)) (c2 : All (bnd hi (natO mx cap))) (c3 : All (bnd lo (natO hi len))) (hmh : mx ≠ none → hi ≠ none) (w : World) :
    (Instr.sliceBounds isSlice len cap xl xh xm).run P w = .ok (natO lo 0, natO hi len, natO mx cap) w := by
  cases lo with
  | none =>
    simp only [OptRel] at hl; subst hl
    cases hi with
    | none =>
      simp only [OptRel] at hh; subst hh
      cases mx with
      | none => simp only [OptRel] at hm; subst hm; simp [Instr.sliceBounds, natO]
      | some m => exact (hmh (by simp) rfl).elim
    | some h =>
      obtain ⟨kh, rfl⟩ := hh
      cases mx with
      | none =>
        simp only [OptRel] at hm; subst hm
        simp only [bnd, natO, All, and_true] at c2
        simp [Instr.sliceBounds, natO, run_sliceBound c2]
      | some m =>
        obtain ⟨km, rfl⟩ := hm
        simp only [bnd, natO, All, and_true] at c1 c2
        simp [Instr.sliceBounds, natO, run_sliceBound c1, run_sliceBound c2]
  | some l =>
    obtain ⟨kl, rfl⟩ := hl
    simp only [bnd, All, and_true] at c3
    cases hi with
    | none =>
      simp only [OptRel] at hh; subst hh
      cases mx with
      | none => simp only [OptRel] at hm; subst hm; simp only [natO] at c3; simp [Instr.sliceBounds, natO, run_sliceBound c3]
      | some m => exact (hmh (by simp) rfl).elim
    | some h =>
      obtain ⟨kh, rfl⟩ := hh
      simp only [natO] at c3
      cases mx with
      | none =>
        simp only [OptRel] at hm; subst hm
        simp only [bnd, natO, All, and_true] at c2
        simp [Instr.sliceBounds, natO, run_sliceBound c2, run_sliceBound c3]
      | some m =>
        obtain ⟨km, rfl⟩ := hm
        simp only [bnd, natO, All, and_true] at c1 c2
        simp [Instr.sliceBounds, natO, run_sliceBound c1, run_sliceBound c2, run_sliceBound c3]

def shiftF (f : Nat → List V) : Option Int → Nat → List V
  | none => f
  | some l => fun k => f (l.toNat + k)
theorem shiftF_eq (f : Nat → List V) (lo : Option Int) (k : Nat) : shiftF f lo k = f (natO lo 0 + k) := by
  cases lo <;> simp [shiftF, natO]
def addO (i : Nat) : Option Int → Nat
  | none => i
  | some l => i + l.toNat
theorem addO_eq (i : Nat) (lo : Option Int) : addO i lo = i + natO lo 0 := by cases lo <;> simp [addO, natO]
def below (lo : Option Int) (top : Nat) : List Prop := match lo with
  | none => []
  | some l => [l.toNat = 0 ∨ l.toNat < top]
theorem below_spec {lo : Option Int} {top : Nat} (h : All (below lo top)) : natO lo 0 = 0 ∨ natO lo 0 < top := by
  cases lo with
  | none => exact .inl rfl
  | some l => exact h.1
def sameO (a b : Option Int) : List Prop := match a, b with
  | some a, some b => [a = b]
  | _, _ => []

/-- A slice expression. -/
def sliceV (P : Program) (t : TypeId) (x : V) (lo hi mx : Option Int) : Option (V × List Prop) :=
  bif mx.isSome && hi.isNone then none else
  match P.underlying t with
  | some .string => match x with
    | .str s => bif mx.isSome then none else some (.str (s.extract (natO lo 0) (natO hi s.size)), bnd hi s.size ++ bnd lo (natO hi s.size))
    | _ => none
  | some (.slice e) => match x with
    | .snil => some (.snil, bnd mx 0 ++ (bnd hi (natO mx 0) ++ bnd lo (natO hi 0)))
    | .ros es len f clip => match P.info? e with
      | none => none
      | some ie => bif Nat.beq es ie.size then some (.ros es (natO hi len - natO lo 0) (shiftF f lo) (bif mx.isSome then true else clip && hi.isNone),
        bnd mx len ++ (bnd hi (natO mx len) ++ (bnd lo (natO hi len) ++ sameO mx hi))) else none
    | .sl n es i o j len cap => match P.info? e with
      | none => none
      | some ie =>
        match cap with
        | some c => bif Nat.beq es 0 then
              bif Nat.beq ie.size 1 then some (.sl n es i o (addO j lo) (natO hi len - natO lo 0) (some (natO mx c - natO lo 0)), bnd mx c ++ (bnd hi (natO mx c) ++ (bnd lo (natO hi len) ++ below lo (natO mx c)))) else none
            else bif Nat.beq es ie.size then some (.sl n es (addO i lo) o j (natO hi len - natO lo 0) (some (natO mx c - natO lo 0)), bnd mx c ++ (bnd hi (natO mx c) ++ (bnd lo (natO hi len) ++ below lo (natO mx c)))) else none
        | none => bif Nat.beq es 0 then none else bif Nat.beq es ie.size then
            some (.sl n es (addO i lo) o j (natO hi len - natO lo 0) (mx.map fun m => m.toNat - natO lo 0), bnd mx len ++ (bnd hi (natO mx len) ++ (bnd lo (natO hi len) ++ below lo (natO mx len)))) else none
    | _ => none
  | some (.array N e) => bif intT P e then match x with
      | .ptr n es i o j => bif Nat.beq es 0 then some (.sl n 0 i o (addO j lo) (natO hi N - natO lo 0) (some (natO mx N - natO lo 0)), bnd mx N ++ (bnd hi (natO mx N) ++ (bnd lo (natO hi N) ++ below lo (natO mx N)))) else none
      | .rop cs o j => bif Nat.beq j 0 then match splitC cs o with
          | some (_, .seg k m xs :: _) => bif Nat.beq m N then
              some (.ros 1 (natO hi N - natO lo 0) (fun q => [.int k (xs.getD (natO lo 0 + q) 0)]) (mx.isNone && hi.isNone), bnd mx N ++ (bnd hi (natO mx N) ++ bnd lo (natO hi N))) else none
          | _ => none
        else none
      | _ => none
    else none
  | _ => none

theorem sliceV_ok (hI : intSizes P) {t : TypeId} {v v' : V} {x : Value} {lo hi mx : Option Int} {xl xh xm : Option Value} {cs : List Prop}
    (h : sliceV P t v lo hi mx = some (v', cs)) (hc : All cs) (hx : VRel U ρ v x) (hl : OptRel lo xl) (hh : OptRel hi xh) (hm : OptRel mx xm)
    (he : ∀ e, P.underlying t = some (.slice e) ∨ (∃ n, P.underlying t = some (.array n e)) → (P.info? e).isSome = true) (w : World) :
    ∃ y, (Instr.sliceAt t x xl xh xm).run P w = .ok y w ∧ VRel U ρ v' y := by
  unfold sliceV at h
  cases hmh0 : (mx.isSome && hi.isNone) with
  | true => simp [hmh0] at h
  | false =>
  have hmh : mx ≠ none → hi ≠ none := fun h1 h2 => by subst h2; cases mx <;> simp_all
  simp only [hmh0, cond_false] at h
  cases hu : P.underlying t with
  | none => simp [hu] at h
  | some d =>
    cases d <;> simp only [hu, reduceCtorEq] at h
    case string =>
      cases v <;> simp only [reduceCtorEq] at h
      rename_i s
      cases mx with
      | some m => simp at h
      | none =>
        simp only [Option.isSome_none, cond_false, Option.some.injEq, Prod.mk.injEq] at h
        obtain ⟨rfl, rfl⟩ := h
        rw [VRel] at hx; subst hx
        obtain ⟨c2, c3⟩ := All_append.1 hc
        have hb := run_sliceBounds (P := P) (isSlice := false) (len := s.size) (cap := s.size) hl hh hm (by simp [bnd, All]) (by simpa [natO] using c2) c3 hmh w
        simp only [OptRel] at hm; subst hm
        refine ⟨_, ?_, by rw [VRel]⟩
        simp only [Instr.sliceAt, Sem.run_bind, run_under hu, Result.andThen_ok, Instr.slice, Option.isSome_none, Bool.false_eq_true, if_false, hb, Sem.run_pure]
    case slice e =>
      obtain ⟨ie, hie⟩ := Option.isSome_iff_exists.1 (he e (.inl hu))
      have run : ∀ (a : Option Addr) (len cap l h m : Nat), (Instr.sliceBounds true len cap xl xh xm).run P w = .ok (l, h, m) w →
          (Instr.sliceAt t (.slice a len cap) xl xh xm).run P w = .ok (.slice (if m = l then a else a.map (·.add (l * ie.size))) (h - l) (m - l)) w := by
        intro a len cap l h m hb
        simp only [Instr.sliceAt, Sem.run_bind, run_under hu, Result.andThen_ok, Instr.slice, hb, run_size hie, Sem.run_pure]
      cases v <;> simp only [reduceCtorEq] at h
      case snil =>
        rw [VRel] at hx; subst hx
        simp only [Option.some.injEq, Prod.mk.injEq] at h
        obtain ⟨rfl, rfl⟩ := h
        obtain ⟨c1, c2⟩ := All_append.1 hc
        obtain ⟨c2, c3⟩ := All_append.1 c2
        refine ⟨_, run _ _ _ _ _ _ (run_sliceBounds hl hh hm c1 c2 c3 hmh w), ?_⟩
        have e1 : natO mx 0 = 0 := by
          cases mx with
          | none => rfl
          | some m => simp only [bnd, All, and_true] at c1; simp only [natO]; omega
        have e2 : natO hi 0 = 0 := by
          cases hi with
          | none => rfl
          | some m => rw [e1] at c2; simp only [bnd, All, and_true] at c2; simp only [natO]; omega
        rw [VRel, e1, e2]; simp
      case ros es len f clip =>
        rw [VRel] at hx; obtain ⟨a, cp, rfl, h2, h3, h4⟩ := hx
        simp only [hie] at h
        cases hes : Nat.beq es ie.size <;> simp only [hes, cond_true, cond_false, reduceCtorEq, Option.some.injEq, Prod.mk.injEq] at h
        obtain ⟨rfl, rfl⟩ := h
        have hes' : es = ie.size := Nat.eq_of_beq_eq_true hes
        obtain ⟨c1, c2⟩ := All_append.1 hc
        obtain ⟨c2, c3⟩ := All_append.1 c2
        obtain ⟨c3, c4⟩ := All_append.1 c3
        have d1 : All (bnd mx cp) := by
          cases mx with
          | none => trivial
          | some m => simp only [bnd, All, and_true] at c1 ⊢; omega
        have d2 : All (bnd hi (natO mx cp)) := by
          cases hi with
          | none => trivial
          | some m => cases mx with
            | none => simp only [bnd, All, and_true, natO] at c2 ⊢; omega
            | some m' => exact c2
        have hhl : natO hi len ≤ natO mx cp ∧ natO hi len ≤ len := by
          cases hi with
          | none => cases mx with
            | none => exact ⟨h2, Nat.le_refl _⟩
            | some m => exact (hmh (by simp) rfl).elim
          | some h => cases mx with
            | none => simp only [bnd, All, and_true, natO] at c2 ⊢; omega
            | some m => simp only [bnd, All, and_true, natO] at c1 c2 ⊢; omega
        refine ⟨_, run _ _ _ _ _ _ (run_sliceBounds hl hh hm d1 d2 c3 hmh w), ?_⟩
        rw [VRel]
        refine ⟨_, _, rfl, by omega, fun hcl => ?_, fun q hq => ?_⟩
        · cases mx with
          | some m => cases hi with
            | none => exact (hmh (by simp) rfl).elim
            | some h => simp only [sameO, All, and_true] at c4; subst c4; try rfl
          | none =>
            cases hi with
            | none => simp only [Option.isSome_none, cond_false, Option.isNone_none, Bool.and_true] at hcl; rw [h3 hcl]; try rfl
            | some h => simp at hcl
        · obtain ⟨b, base, c, rfl, h5, lst, h6, h7, h8⟩ := h4 (natO lo 0 + q) (by omega)
          have hne : ¬ natO mx cp = natO lo 0 := by omega
          rw [if_neg hne]
          refine ⟨b, base + natO lo 0 * ie.size, c, ?_, h5, lst, ?_, h7, fun k hk => ?_⟩
          · simp only [Option.map_some, addr_add']
          · rw [shiftF_eq]; exact h6
          · rw [← h8 k hk]; congr 1; rw [hes', Nat.add_mul]; omega
      case sl n es i o j len cap =>
        rw [VRel] at hx; obtain ⟨l, cp, h1, h2, h3, hx⟩ := hx
        simp only [hie] at h
        -- what holds of the bounds, whatever the capacity
        have core : ∀ (C : Nat), C ≤ cp → len ≤ C → (natO mx C = natO mx cp ∨ C = len) → All (bnd mx C ++ (bnd hi (natO mx C) ++ (bnd lo (natO hi len) ++ below lo (natO mx C)))) →
            (Instr.sliceBounds true len cp xl xh xm).run P w = .ok (natO lo 0, natO hi len, natO mx cp) w ∧ natO hi len ≤ natO mx cp ∧ natO mx cp ≤ cp ∧ (natO lo 0 = 0 ∨ natO lo 0 < natO mx cp) ∧ natO lo 0 ≤ natO hi len := by
          intro C hC hlC _ hc
          obtain ⟨c1, c2⟩ := All_append.1 hc
          obtain ⟨c2, c3⟩ := All_append.1 c2
          obtain ⟨c3, c4⟩ := All_append.1 c3
          have hmm : natO mx C ≤ natO mx cp := by
            cases mx with
            | none => exact hC
            | some m => exact Nat.le_refl _
          have d1 : All (bnd mx cp) := by
            cases mx with
            | none => trivial
            | some m => simp only [bnd, All, and_true] at c1 ⊢; omega
          have d2 : All (bnd hi (natO mx cp)) := by
            cases hi with
            | none => trivial
            | some m => simp only [bnd, All, and_true] at c2 ⊢; omega
          refine ⟨run_sliceBounds hl hh hm d1 d2 c3 hmh w, ?_, ?_, ?_, ?_⟩
          · cases hi with
            | none => cases mx with
              | none => exact h2
              | some m => exact (hmh (by simp) rfl).elim
            | some h => simp only [bnd, All, and_true, natO] at d2 ⊢; omega
          · cases mx with
            | none => exact Nat.le_refl _
            | some m => simp only [bnd, All, and_true, natO] at d1 ⊢; omega
          · rcases below_spec c4 with h | h
            · exact .inl h
            · exact .inr (by omega)
          · cases lo with
            | none => exact Nat.zero_le _
            | some q => simp only [bnd, All, and_true] at c3; simp only [natO] at c3 ⊢; omega
        have addr : natO lo 0 = 0 ∨ natO lo 0 < natO mx cp → (if natO mx cp = natO lo 0 then some (⟨l.blk, i * es + o + j, none⟩ : Addr) else Option.map (fun (x : Addr) => x.add (natO lo 0 * ie.size)) (some ⟨l.blk, i * es + o + j, none⟩)) = some ⟨l.blk, i * es + o + j + natO lo 0 * ie.size, none⟩ := by
          rintro (h0 | h0)
          · simp only [h0, Nat.zero_mul, Nat.add_zero, Option.map_some, addr_add', ite_self]
          · rw [if_neg (by omega), Option.map_some, addr_add']
        -- the result, for rows and for numbers in a row
        have fin : ∀ (i' j' : Nat) (cap' : Option Nat), natO hi len ≤ natO mx cp → natO mx cp ≤ cp → (natO lo 0 = 0 ∨ natO lo 0 < natO mx cp) → natO lo 0 ≤ natO hi len →
            (Instr.sliceBounds true len cp xl xh xm).run P w = .ok (natO lo 0, natO hi len, natO mx cp) w →
            i' * es + o + j' = i * es + o + j + natO lo 0 * ie.size → ((i + cp) * es ≤ l.sz → (i' + (natO mx cp - natO lo 0)) * es ≤ l.sz) → (∀ c, cap' = some c → natO mx cp - natO lo 0 = c) →
            ∃ y, (Instr.sliceAt t x xl xh xm).run P w = .ok y w ∧ VRel U ρ (.sl n es i' o j' (natO hi len - natO lo 0) cap') y := by
          intro i' j' cap' b1 b2 b3 b4 hb e1 e2 e3
          rcases hx with ⟨hr, rfl, hx⟩ | ⟨hr, rfl, rfl, rfl⟩
          · refine ⟨_, run _ _ _ _ _ _ hb, ?_⟩
            rw [VRel, addr b3, ← e1]
            exact ⟨l, _, h1, by omega, e3, .inl ⟨hr, rfl, e2 hx⟩⟩
          · have z1 : natO mx 0 = 0 := by omega
            have z2 : natO hi 0 = 0 := by omega
            have z3 : natO lo 0 = 0 := by omega
            refine ⟨_, run _ _ _ _ _ _ hb, ?_⟩
            rw [VRel, z1, z2, z3]
            refine ⟨l, 0, h1, Nat.le_refl _, fun c hc => ?_, .inr ⟨hr, by simp, by simp, rfl⟩⟩
            have := e3 c hc; omega
        cases cap with
        | some c =>
          have hcp := h3 c rfl
          subst hcp
          cases hes0 : Nat.beq es 0 <;> simp only [hes0, cond_true, cond_false] at h
          · cases hes : Nat.beq es ie.size <;> simp only [hes, cond_true, cond_false, reduceCtorEq, Option.some.injEq, Prod.mk.injEq] at h
            obtain ⟨rfl, rfl⟩ := h
            have hes' : es = ie.size := Nat.eq_of_beq_eq_true hes
            obtain ⟨hb, b1, b2, b3, b4⟩ := core cp (Nat.le_refl _) h2 (.inl rfl) hc
            refine fin _ _ _ b1 b2 b3 b4 hb ?_ (fun hx => Nat.le_trans (Nat.mul_le_mul_right _ ?_) hx) (fun c e => by cases e; rfl)
            · rw [addO_eq, ← hes', Nat.add_mul]; omega
            · rw [addO_eq]; omega
          · cases hes : Nat.beq ie.size 1 <;> simp only [hes, cond_true, cond_false, reduceCtorEq, Option.some.injEq, Prod.mk.injEq] at h
            obtain ⟨rfl, rfl⟩ := h
            have hes' : ie.size = 1 := Nat.eq_of_beq_eq_true hes
            have hes0' : es = 0 := Nat.eq_of_beq_eq_true hes0
            obtain ⟨hb, b1, b2, b3, b4⟩ := core cp (Nat.le_refl _) h2 (.inl rfl) hc
            refine fin _ _ _ b1 b2 b3 b4 hb ?_ (fun _ => by rw [hes0']; omega) (fun c e => by cases e; rfl)
            rw [addO_eq, hes']; omega
        | none =>
          cases hes0 : Nat.beq es 0 <;> simp only [hes0, cond_true, cond_false, reduceCtorEq] at h
          cases hes : Nat.beq es ie.size <;> simp only [hes, cond_true, cond_false, reduceCtorEq, Option.some.injEq, Prod.mk.injEq] at h
          obtain ⟨rfl, rfl⟩ := h
          have hes' : es = ie.size := Nat.eq_of_beq_eq_true hes
          obtain ⟨hb, b1, b2, b3, b4⟩ := core len h2 (Nat.le_refl _) (.inr rfl) hc
          refine fin _ _ _ b1 b2 b3 b4 hb ?_ (fun hx => Nat.le_trans (Nat.mul_le_mul_right _ ?_) hx) (fun c e => ?_)
          · rw [addO_eq, ← hes', Nat.add_mul]; omega
          · rw [addO_eq]; omega
          · cases mx with
            | none => cases e
            | some m => simp only [Option.map_some, Option.some.injEq] at e; simp only [natO] at e ⊢; exact e
    case array N e =>
      obtain ⟨ie, hie⟩ := Option.isSome_iff_exists.1 (he e (.inr ⟨N, hu⟩))
      cases hint : intT P e <;> simp only [hint, cond_true, cond_false, reduceCtorEq] at h
      have hsz := hI e ie hint hie
      have run : ∀ (a : Addr) (l h m : Nat), a.spot = none → (Instr.sliceBounds false N N xl xh xm).run P w = .ok (l, h, m) w →
          (Instr.sliceAt t (.pointer (some a)) xl xh xm).run P w = .ok (.slice (some (if m = l then a else ⟨a.block, a.off + l, none⟩)) (h - l) (m - l)) w := by
        intro a l h m ha hb
        simp only [Instr.sliceAt, Sem.run_bind, run_under hu, Result.andThen_ok, Instr.sureAddr, hb, run_size hie, hsz, Nat.mul_one, Sem.run_pure, addr_add a _ ha]
      have bounds : All (bnd mx N) → All (bnd hi (natO mx N)) → natO mx N ≤ N ∧ natO hi N ≤ natO mx N := by
        intro c1 c2
        refine ⟨?_, ?_⟩
        · cases mx with
          | none => exact Nat.le_refl _
          | some m => simp only [bnd, All, and_true, natO] at c1 ⊢; omega
        · cases hi with
          | none => cases mx with
            | none => exact Nat.le_refl _
            | some m => exact (hmh (by simp) rfl).elim
          | some h => simp only [bnd, All, and_true, natO] at c2 ⊢; omega
      cases v <;> simp only [reduceCtorEq] at h
      case ptr n es i o j =>
        cases hes0 : Nat.beq es 0 <;> simp only [hes0, cond_true, cond_false, reduceCtorEq, Option.some.injEq, Prod.mk.injEq] at h
        obtain ⟨rfl, rfl⟩ := h
        have hes' : es = 0 := Nat.eq_of_beq_eq_true hes0
        subst hes'
        rw [VRel] at hx; obtain ⟨l, h1, hr, rfl⟩ := hx
        obtain ⟨c1, c2⟩ := All_append.1 hc
        obtain ⟨c2, c3⟩ := All_append.1 c2
        obtain ⟨c3, c4⟩ := All_append.1 c3
        obtain ⟨b1, b2⟩ := bounds c1 c2
        refine ⟨_, run _ _ _ _ rfl (run_sliceBounds hl hh hm c1 c2 c3 hmh w), ?_⟩
        rw [VRel]
        refine ⟨l, natO mx N - natO lo 0, h1, by omega, fun c e => by cases e; rfl, .inl ⟨hr, ?_, by omega⟩⟩
        rw [addO_eq]
        rcases below_spec c4 with h0 | h0
        · simp only [h0, Nat.add_zero, ite_self]
        · rw [if_neg (by omega)]
          simp only [Value.slice.injEq, Option.some.injEq, Addr.mk.injEq, and_true, true_and]; omega
      case rop cs0 o j =>
        cases hj : Nat.beq j 0 <;> simp only [hj, cond_true, cond_false, reduceCtorEq] at h
        have hj' : j = 0 := Nat.eq_of_beq_eq_true hj
        subst hj'
        cases hs : splitC cs0 o with
        | none => simp [hs] at h
        | some p =>
          obtain ⟨pa, pb⟩ := p
          rw [hs] at h
          cases pb with
          | nil => simp at h
          | cons u us =>
            cases u <;> simp only [reduceCtorEq] at h
            rename_i k m xs
            cases hmN : Nat.beq m N <;> simp only [hmN, cond_true, cond_false, reduceCtorEq, Option.some.injEq, Prod.mk.injEq] at h
            obtain ⟨rfl, rfl⟩ := h
            have hmN' : m = N := Nat.eq_of_beq_eq_true hmN
            rw [VRel] at hx; obtain ⟨b, base, c, h1, rfl, lst, h2, h3⟩ := hx
            obtain ⟨c1, c2⟩ := All_append.1 hc
            obtain ⟨c2, c3⟩ := All_append.1 c2
            obtain ⟨b1, b2⟩ := bounds c1 c2
            obtain ⟨rfl, hsz2⟩ := splitC_spec hs
            obtain ⟨la, lb, rfl, h5, h6⟩ := CsRel_append.1 h2
            obtain ⟨hxs, r, rfl, h7⟩ := CsRel_seg.1 h6
            have e1 := h5.len; rw [hsz2] at e1
            refine ⟨_, run _ _ _ _ rfl (run_sliceBounds hl hh hm c1 c2 c3 hmh w), ?_⟩
            rw [VRel]
            refine ⟨_, _, rfl, by omega, fun hcl => ?_, fun q hq => ?_⟩
            · simp only [Bool.and_eq_true, Option.isNone_iff_eq_none] at hcl
              rw [hcl.1, hcl.2]; try rfl
            · rw [if_neg (by omega)]
              refine ⟨b, base + o + natO lo 0, c, by simp, h1, [.int k (xs.getD (natO lo 0 + q) 0)], ?_, rfl, fun k' hk' => ?_⟩
              · rw [CsRel_one rfl]; exact ⟨_, [], rfl, by rw [VRel], by rw [CsRel]⟩
              · simp only [List.length_singleton, Nat.lt_one_iff] at hk'
                subst hk'
                have hlt : natO lo 0 + q < xs.length := by omega
                have := h3 (o + (natO lo 0 + q)) (by simp only [List.length_append, List.length_map, e1]; omega)
                rw [show base + o + natO lo 0 + q * 1 + 0 = base + (o + (natO lo 0 + q)) by omega, this]
                rw [List.getElem?_append_right (by omega), List.getElem?_append_left (by simp; omega)]
                simp [e1, List.getElem?_eq_getElem hlt, List.getD]

end Sy
