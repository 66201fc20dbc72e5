/-
  Contracts: what is looked at, continued (own work of this seat).
-/
import Derived.Test.YthifjamdfpjilaaRs3
namespace Go.Proofs.Ythifjamdfpjilaa
open Go Sy Go.Proofs
theorem bdLight_p1100 (b : SBatch) (m : Nat) :
    along Try.prog (bdLight b m) [true, true, false, false] = some (V.bool (decide (lightR (5 : Int) (SBatch.req b) m ≤ (4000 : Int))), [(Nm.o (0 : Nat), B.rows (2 : Nat) (1 : Nat) (getL [SBatch.c b]) false)], [true = true, true = true, T Try.prog (48 : Nat) [V.int IntKind.i64 (0 : Int), V.int IntKind.i64 (5 : Int), V.int IntKind.i64 (4000 : Int)] [] (V.int IntKind.i64 (5 : Int)) [], RLoop Try.prog none (nat_lit 1) (cB (cB (cR (cR (cB (cL (cR (cB (cB (cR (cL (cR (cR (bodyOf (Bd.f (bdLight b m)))))))))))))))) (m + (1 : Nat)) (St.mk [V.sl (Nm.o (0 : Nat)) (2 : Nat) (0 : Nat) (0 : Nat) (0 : Nat) (1 : Nat) (some (1 : Nat)), V.any, V.any, V.int IntKind.i64 (5 : Int), V.int IntKind.i64 (0 : Int), V.int IntKind.i64 (0 : Int), V.any, V.any, V.any, V.any, V.any, V.any, V.any, V.any, V.any, V.any, V.any, V.any, V.any, V.any, V.any, V.any, V.any, V.any, V.any, V.any, V.any, V.any, V.any, V.any, V.any, V.any, V.any, V.any, V.any, V.any, V.any, V.any, V.any, V.any, V.any, V.any, V.any, V.any, V.any, V.any, V.any] [(Nm.o (0 : Nat), B.rows (2 : Nat) (1 : Nat) (getL [SBatch.c b]) false)] (nat_lit 1) []) (Exit.exit (2 : Nat)) (St.mk [V.sl (Nm.o (0 : Nat)) (2 : Nat) (0 : Nat) (0 : Nat) (0 : Nat) (1 : Nat) (some (1 : Nat)), V.any, V.any, V.int IntKind.i64 (lightR (5 : Int) (SBatch.req b) m), V.int IntKind.i64 (0 : Int), V.int IntKind.i64 (↑m : Int), V.any, V.any, V.any, V.any, V.any, V.any, V.any, V.any, V.any, V.any, V.any, V.any, V.any, V.any, V.any, V.any, V.any, V.any, V.any, V.any, V.any, V.any, V.any, V.any, V.any, V.any, V.any, V.any, V.any, V.any, V.any, V.any, V.any, V.any, V.any, V.any, V.any, V.any, V.any, V.any, V.any] [(Nm.o (0 : Nat), B.rows (2 : Nat) (1 : Nat) (getL [SBatch.c b]) false)] (1 : Nat) []), (1 : Nat) = (1 : Nat), ∀ (k : Nat), k < (1 : Nat) → getL [SBatch.c b] k = getL [SBatch.c b] k, false = false → false = false, (0 : Nat) = (0 : Nat), (0 : Nat) = (0 : Nat), (0 : Nat) = (0 : Nat), (1 : Nat) = (1 : Nat), some (1 : Nat) = none ∨ some (1 : Nat) = some (1 : Nat), (5 : Int) = (5 : Int), (0 : Int) = (0 : Int), (0 : Int) = (0 : Int), InR IntKind.i64 (1 : Int), false = false, false = false]) := by kernel_rfl

theorem pcLi_p11 (b : SBatch) (n0 : Int) (m : Nat) (k : Nat) :
    alongPc Try.prog (pcLi b n0 m k) [true, true] = some (Exit.normal, St.mk [V.sl (Nm.o (0 : Nat)) (2 : Nat) (0 : Nat) (0 : Nat) (0 : Nat) (1 : Nat) (some (1 : Nat)), V.any, V.any, V.int IntKind.i64 (lightR n0 (SBatch.req b) (k + (1 : Nat))), V.int IntKind.i64 (0 : Int), V.int IntKind.i64 (↑(k + (1 : Nat)) : Int), V.any, V.any, V.any, V.any, V.any, V.any, V.any, V.any, V.any, V.any, V.any, V.any, V.any, V.any, V.any, V.any, V.any, V.any, V.any, V.any, V.any, V.any, V.any, V.any, V.any, V.any, V.any, V.any, V.any, V.any, V.any, V.any, V.any, V.any, V.any, V.any, V.any, V.any, V.any, V.any, V.any] [(Nm.o (0 : Nat), B.rows (2 : Nat) (1 : Nat) (getL [SBatch.c b]) false)] (nat_lit 1) [], [(0 : Int) ≤ (0 : Int) ∧ (0 : Int) < (1 : Int), nat_lit 0 < (1 : Nat), decide ((↑k : Int) < (↑(SBatch.n b) : Int)) = true, decide (lightR n0 (SBatch.req b) k ≤ (4000 : Int)) = true, T Try.prog (48 : Nat) [V.int IntKind.i64 (lightR n0 (SBatch.req b) k), V.int IntKind.i64 (20 : Int), V.int IntKind.i64 (4000 : Int)] [] (V.int IntKind.i64 (addS (lightR n0 (SBatch.req b) k) (20 : Int) (4000 : Int))) [], (0 : Int) ≤ (0 : Int) ∧ (0 : Int) < (1 : Int), nat_lit 0 < (1 : Nat), (0 : Int) ≤ (↑k : Int) ∧ (↑k : Int) < (↑(SBatch.n b) : Int), T Try.prog (48 : Nat) [V.int IntKind.i64 (addS (lightR n0 (SBatch.req b) k) (20 : Int) (4000 : Int)), V.int IntKind.i64 (↑(ByteArray.size (SReq.data (SBatch.req b (Int.toNat (↑k : Int))))) : Int), V.int IntKind.i64 (4000 : Int)] [] (V.int IntKind.i64 (addS (addS (lightR n0 (SBatch.req b) k) (20 : Int) (4000 : Int)) (↑(ByteArray.size (SReq.data (SBatch.req b (Int.toNat (↑k : Int))))) : Int) (4000 : Int))) [], InR IntKind.i64 ((↑k : Int) + (1 : Int)), (1 : Nat) = (1 : Nat), ∀ (k : Nat), k < (1 : Nat) → getL [SBatch.c b] k = getL [SBatch.c b] k, false = false → false = false, (0 : Nat) = (0 : Nat), (0 : Nat) = (0 : Nat), (0 : Nat) = (0 : Nat), (1 : Nat) = (1 : Nat), some (1 : Nat) = none ∨ some (1 : Nat) = some (1 : Nat), addS (addS (lightR n0 (SBatch.req b) k) (20 : Int) (4000 : Int)) (↑(ByteArray.size (SReq.data (SBatch.req b (Int.toNat (↑k : Int))))) : Int) (4000 : Int) = lightR n0 (SBatch.req b) (k + (1 : Nat)), (0 : Int) = (0 : Int), (↑k : Int) + (1 : Int) = (↑(k + (1 : Nat)) : Int)]) := by kernel_rfl
theorem pcLi_p10 (b : SBatch) (n0 : Int) (m : Nat) (k : Nat) :
    alongPc Try.prog (pcLi b n0 m k) [true, false] = some (Exit.exit (2 : Nat), St.mk [V.sl (Nm.o (0 : Nat)) (2 : Nat) (0 : Nat) (0 : Nat) (0 : Nat) (1 : Nat) (some (1 : Nat)), V.any, V.any, V.int IntKind.i64 (lightR n0 (SBatch.req b) m), V.int IntKind.i64 (0 : Int), V.int IntKind.i64 (↑m : Int), V.any, V.any, V.any, V.any, V.any, V.any, V.any, V.any, V.any, V.any, V.any, V.any, V.any, V.any, V.any, V.any, V.any, V.any, V.any, V.any, V.any, V.any, V.any, V.any, V.any, V.any, V.any, V.any, V.any, V.any, V.any, V.any, V.any, V.any, V.any, V.any, V.any, V.any, V.any, V.any, V.any] [(Nm.o (0 : Nat), B.rows (2 : Nat) (1 : Nat) (getL [SBatch.c b]) false)] (nat_lit 1) [], [(0 : Int) ≤ (0 : Int) ∧ (0 : Int) < (1 : Int), nat_lit 0 < (1 : Nat), decide ((↑k : Int) < (↑(SBatch.n b) : Int)) = true, decide (lightR n0 (SBatch.req b) k ≤ (4000 : Int)) = false, (1 : Nat) = (1 : Nat), ∀ (k : Nat), k < (1 : Nat) → getL [SBatch.c b] k = getL [SBatch.c b] k, false = false → false = false, (0 : Nat) = (0 : Nat), (0 : Nat) = (0 : Nat), (0 : Nat) = (0 : Nat), (1 : Nat) = (1 : Nat), some (1 : Nat) = none ∨ some (1 : Nat) = some (1 : Nat), lightR n0 (SBatch.req b) k = lightR n0 (SBatch.req b) m, (0 : Int) = (0 : Int), (↑k : Int) = (↑m : Int)]) := by kernel_rfl
theorem pcLi_p00 (b : SBatch) (n0 : Int) (m : Nat) (k : Nat) :
    alongPc Try.prog (pcLi b n0 m k) [false, false] = some (Exit.exit (2 : Nat), St.mk [V.sl (Nm.o (0 : Nat)) (2 : Nat) (0 : Nat) (0 : Nat) (0 : Nat) (1 : Nat) (some (1 : Nat)), V.any, V.any, V.int IntKind.i64 (lightR n0 (SBatch.req b) m), V.int IntKind.i64 (0 : Int), V.int IntKind.i64 (↑m : Int), V.any, V.any, V.any, V.any, V.any, V.any, V.any, V.any, V.any, V.any, V.any, V.any, V.any, V.any, V.any, V.any, V.any, V.any, V.any, V.any, V.any, V.any, V.any, V.any, V.any, V.any, V.any, V.any, V.any, V.any, V.any, V.any, V.any, V.any, V.any, V.any, V.any, V.any, V.any, V.any, V.any] [(Nm.o (0 : Nat), B.rows (2 : Nat) (1 : Nat) (getL [SBatch.c b]) false)] (nat_lit 1) [], [(0 : Int) ≤ (0 : Int) ∧ (0 : Int) < (1 : Int), nat_lit 0 < (1 : Nat), decide ((↑k : Int) < (↑(SBatch.n b) : Int)) = false, false = false, (1 : Nat) = (1 : Nat), ∀ (k : Nat), k < (1 : Nat) → getL [SBatch.c b] k = getL [SBatch.c b] k, false = false → false = false, (0 : Nat) = (0 : Nat), (0 : Nat) = (0 : Nat), (0 : Nat) = (0 : Nat), (1 : Nat) = (1 : Nat), some (1 : Nat) = none ∨ some (1 : Nat) = some (1 : Nat), lightR n0 (SBatch.req b) k = lightR n0 (SBatch.req b) m, (0 : Int) = (0 : Int), (↑k : Int) = (↑m : Int)]) := by kernel_rfl

theorem exists_stop (p : Nat → Prop) : ∀ n, ∃ m, m ≤ n ∧ (∀ k, k < m → p k) ∧ (m = n ∨ ¬ p m)
  | 0 => ⟨0, Nat.le_refl _, fun k h => absurd h (Nat.not_lt_zero k), .inl rfl⟩
  | n + 1 => by
    obtain ⟨m, h1, h2, h3⟩ := exists_stop p n
    rcases h3 with rfl | h3
    · by_cases h : p m
      · refine ⟨m + 1, Nat.le_refl _, fun k hk => ?_, .inl rfl⟩
        rcases Nat.lt_or_ge k m with h4 | h4
        · exact h2 k h4
        · have : k = m := by omega
          subst this; exact h
      · exact ⟨m, Nat.le_succ _, h2, .inr h⟩
    · exact ⟨m, Nat.le_succ_of_le h1, h2, .inr h3⟩

theorem addS_range {n more : Int} (h1 : 0 ≤ n) (h2 : 0 ≤ more) : 0 ≤ addS n more 4000 ∧ addS n more 4000 ≤ 4001 := by
  unfold addS; split <;> omega
theorem addS_le {n more : Int} (h : addS n more 4000 ≤ 4000) : n ≤ 4000 ∧ more ≤ 4000 ∧ addS n more 4000 = n + more := by
  unfold addS at h ⊢; split at h
  · omega
  · rename_i h'; simp only [not_or, Int.not_lt] at h'; rw [if_neg (by omega)]; omega
theorem lightR_range {n0 : Int} (h : 0 ≤ n0 ∧ n0 ≤ 4001) (r : Nat → SReq) : ∀ k, 0 ≤ lightR n0 r k ∧ lightR n0 r k ≤ 4001
  | 0 => h
  | k + 1 => by
    rw [lightR]
    exact addS_range (addS_range (lightR_range h r k).1 (by decide)).1 (by omega)
theorem lightR_up {n0 : Int} (r : Nat → SReq) : ∀ k, lightR n0 r k ≤ 4000 → n0 + 20 * k ≤ lightR n0 r k
  | 0, _ => by simp [lightR]
  | k + 1, h => by
    rw [lightR] at h ⊢
    have h1 := addS_le h
    have h2 := addS_le h1.1
    have := lightR_up r k h2.1
    rw [h1.2.2, h2.2.2]; omega
theorem lightR_over {n0 : Int} (r : Nat → SReq) {m : Nat} : ∀ k, m ≤ k → lightR n0 r k ≤ 4000 → lightR n0 r m ≤ 4000
  | 0, h, h1 => by have : m = 0 := by omega
                   subst this; exact h1
  | k + 1, h, h1 => by
    rcases Nat.lt_or_ge m (k + 1) with h2 | h2
    · rw [lightR] at h1
      exact lightR_over r k (by omega) (addS_le (addS_le h1).1).1
    · have : m = k + 1 := by omega
      subst this; exact h1
/-- Is a batch not too much? -/
def lightB (b : SBatch) : Bool := decide (lightR 5 b.req b.n ≤ 4000)
theorem lightB_n {b : SBatch} (h : lightB b = true) : b.n ≤ 200 := by
  have := of_decide_eq_true h
  have := lightR_up b.req b.n this
  omega

theorem L_li (b : SBatch) {m : Nat} (hm : m ≤ b.n) (hd : ∀ k, k < b.n → (b.req k).data.size ≤ 9223372036854775807) (h1 : ∀ k, k < m → lightR 5 b.req k ≤ 4000) (h2 : m = b.n ∨ ¬ lightR 5 b.req m ≤ 4000) (hn : b.n ≤ 9223372036854775807) :
    RLoop Try.prog none 1 (cB (cB (cR (cR (cB (cL (cR (cB (cB (cR (cL (cR (cR (bodyOf Try.f47)))))))))))))) (m + 1) (light1I b 5 0) (.exit 2) (light1I b 5 m) :=
  RLoop.inv (light1I b 5) m (fun k hk => by
    have h3 := h1 k hk
    have hkn : k < b.n := by omega
    have h4 := lightR_range (n0 := 5) (by decide) b.req k
    have h5 := addS_range h4.1 (more := 20) (by decide)
    have hdk : (((b.req (Int.toNat (k : Int))).data.size : Nat) : Int) ≤ 9223372036854775807 := by
      have := hd k hkn
      rw [Int.toNat_natCast]; omega
    refine R_alongPc NG MO _ (pcLi_p11 b 5 m k) ?_ (Nat.le_refl _)
    simp only [All]
    and_intros
    all_goals first
      | exact T_add h4.1 (by decide) (by decide)
      | exact T_add h5.1 (by omega) hdk
      | (simp [h3, hkn, lightR, IntKind.min, IntKind.max, IntKind.signed, IntKind.bits] <;> omega))
    (by
      rcases h2 with h2 | h2
      · refine R_alongPc NG MO _ (pcLi_p00 b 5 m m) ?_ (Nat.le_refl _)
        simp [All, h2]
      · by_cases h3 : m < b.n
        · refine R_alongPc NG MO _ (pcLi_p10 b 5 m m) ?_ (Nat.le_refl _)
          simp [All, h2, h3]
        · refine R_alongPc NG MO _ (pcLi_p00 b 5 m m) ?_ (Nat.le_refl _)
          simp [All, h3]) (by simp)
theorem T_light0 (b : SBatch) (hd : ∀ k, k < b.n → (b.req k).data.size ≤ 9223372036854775807) (hn : b.n ≤ 9223372036854775807) :
    T Try.prog 47 [.sl (.o 0) 2 0 0 0 1 (some 1)] [(.o 0, .rows 2 1 (getL [b.c]) false)] (.bool (lightB b)) [(.o 0, .rows 2 1 (getL [b.c]) false)] := by
  obtain ⟨m, h1, h2, h3⟩ := exists_stop (fun k => lightR 5 b.req k ≤ 4000) b.n
  refine T.bool (T_along NG MO _ (bdLight_p1100 b m) Try.func47 (by kernel_rfl) ?_ (pinH_ok (by kernel_rfl)) (by kernel_rfl)) ?_
  · simp only [All]
    and_intros
    all_goals first
      | exact T_add (n := 0) (more := 5) (by decide) (by decide) (by decide)
      | exact L_li b h1 hd h2 h3 hn
      | simp [IntKind.min, IntKind.max, IntKind.signed, IntKind.bits]
  · unfold lightB
    rw [decide_eq_decide]
    rcases h3 with rfl | h3
    · exact Iff.rfl
    · exact ⟨fun h => absurd h h3, fun h => lightR_over b.req b.n h1 h⟩
theorem T_light (b : SBatch) (hd : ∀ k, k < b.n → (b.req k).data.size ≤ 9223372036854775807) (hn : b.n ≤ 9223372036854775807) (a : Nat) :
    T Try.prog 47 [.sl (.o a) 2 0 0 0 1 (some 1)] [(.o a, .rows 2 1 (getL [b.c]) false)] (.bool (lightB b)) [(.o a, .rows 2 1 (getL [b.c]) false)] :=
  T.conv (T.swap (.o 0) (.o a) (T_light0 b hd hn)) (by simp [V.rens, V.ren, Nm.swap]) (by simp [Heap.ren, B.ren, Nm.swap]) (by simp [V.ren]) (by simp [Heap.ren, B.ren, Nm.swap])
end Go.Proofs.Ythifjamdfpjilaa
