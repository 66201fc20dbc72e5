/-
  Contracts and laws that the claim's theorem leans on, joined out of the texts Rs1 Rs3 Rs4 Td0D Td0 Td1D Td1 Tf0D Tf0 Tg0 (own work of this seat): Contracts of small functions; Contracts: what is looked at; Contracts: what is looked at, continued; Contracts: is a message not more than is looked at; Contracts: is a message not more than is looked at; The chapter's example of messages; The chapter's example of messages; The laws of messages that come back, and of beginnings: the walk; The laws of messages that come back, and of beginnings: the walk; The shapes of messages and records that are handed in.
-/
import Derived.Test.YthifjamdfpjilaaC03
import Derived.Test.YthifjamdfpjilaaC07
import Derived.Test.YthifjamdfpjilaaC09
import Derived.Test.YthifjamdfpjilaaC10
namespace Go.Proofs.Ythifjamdfpjilaa
open Go Sy Go.Proofs
theorem bdAdd_p111 (n : Int) (more : Int) (most : Int) :
  along Try.prog (bdAdd n more most) [true, true, true] = some (V.int IntKind.i64 (most + 1), [], [decide (most < n) = true, true = true, true = true, InR IntKind.i64 (most + 1)]) := by kernel_rfl
theorem bdAdd_p011 (n : Int) (more : Int) (most : Int) :
  along Try.prog (bdAdd n more most) [false, true, true] = some (V.int IntKind.i64 (most + 1), [], [decide (most < n) = false, decide (most < more) = true, true = true, InR IntKind.i64 (most + 1)]) := by kernel_rfl
theorem bdAdd_p001 (n : Int) (more : Int) (most : Int) :
  along Try.prog (bdAdd n more most) [false, false, true] = some (V.int IntKind.i64 (most + 1), [], [decide (most < n) = false, decide (most < more) = false, InR IntKind.i64 (most - more), decide (most - more < n) = true, InR IntKind.i64 (most + 1)]) := by kernel_rfl
theorem bdAdd_p000 (n : Int) (more : Int) (most : Int) :
  along Try.prog (bdAdd n more most) [false, false, false] = some (V.int IntKind.i64 (n + more), [], [decide (most < n) = false, decide (most < more) = false, InR IntKind.i64 (most - more), decide (most - more < n) = false, InR IntKind.i64 (n + more)]) := by kernel_rfl

def addS (n more most : Int) : Int := if most < n ∨ most < more ∨ most - more < n then most + 1 else n + more
theorem T_add {n more : Int} (h1 : 0 ≤ n) (h2 : 0 ≤ more) (h3 : more ≤ 9223372036854775807) : T Try.prog 48 [.int .i64 n, .int .i64 more, .int .i64 4000] [] (.int .i64 (addS n more 4000)) [] := by
 by_cases a : (4000 : Int) < n
 ·exact T.val (T_along NG MO _ (bdAdd_p111 n more 4000) Try.func48 (by kernel_rfl) (by simp [All, InR64, a]) (pinH_ok (by kernel_rfl)) (by kernel_rfl)) (by simp [addS, a])
 by_cases b : (4000 : Int) < more
 ·exact T.val (T_along NG MO _ (bdAdd_p011 n more 4000) Try.func48 (by kernel_rfl) (by simp [All, InR64, a, b] <;> omega) (pinH_ok (by kernel_rfl)) (by kernel_rfl)) (by simp [addS, b])
 by_cases c : (4000 : Int) - more < n
 ·exact T.val (T_along NG MO _ (bdAdd_p001 n more 4000) Try.func48 (by kernel_rfl) (by simp [All, InR64, a, b, c] <;> omega) (pinH_ok (by kernel_rfl)) (by kernel_rfl)) (by simp [addS, c])
 ·exact T.val (T_along NG MO _ (bdAdd_p000 n more 4000) Try.func48 (by kernel_rfl) (by simp [All, InR64, a, b, c] <;> omega) (pinH_ok (by kernel_rfl)) (by kernel_rfl)) (by simp [addS, a, b, c])

/-- The last state's place among the first ones. -/
def fromS (r : Nat → SRec) : Nat → Nat
 | 0 => 0
 | k + 1 => if (r k).kind = 5 then k else fromS r k
def sinceI (n : Nat) (r : Nat → SRec) (k : Nat) : St := ⟨mkT 23 [(0, rc n r), (3, .int .i64 (fromS r k)), (6, .int .i64 n), (7, .int .i64 k)], [], 0, []⟩
def rsinceI (n : Nat) (r : Nat → SRec) (k : Nat) : St := ⟨mkT 21 [(0, rc n r), (3, .int .i64 (fromS r k)), (4, .int .i64 k)], [], 0, []⟩
/-- A new slice as the result: its block's name is 63. -/
def kNew (t : Nat) (val : Nm → V) (b : B) : Exit → St → Option W := fun _ st => match getV st.tmps t with
 | .sl n _ _ _ _ _ _ => some ⟨[(.o 63, n)], [(t, .set (val (.o 63)))], [(.o 63, .set b)], none, st.next⟩
 | _ => none
noncomputable def bdSince (n : Nat) (r : Nat → SRec) : Bd := { f := Try.f30, args := [rc n r], kb := { db := fun _ _ _ _ => [], lp := fun _ _ => [(True, .loop (n + 1) (wTo (sinceI n r 0)) (.exit 0) (sinceI n r n))] }, k := kNew 2 (fun m => .sl m 45 0 0 0 (n - fromS r n) none) (.rows 45 (n - fromS r n) (fun i => (r (fromS r n + i)).c) true), names := fun _ => [.o 63] }
noncomputable def pcSince (n : Nat) (r : Nat → SRec) (k : Nat) : Pc := { c := cB (cB (cR (cL (cR (cR (bodyOf Try.f30)))))), st := sinceI n r k, kb := kb0, k := fun e _ => match e with
 | .normal => some (wTo (sinceI n r (k + 1)))
 | _ => some (wTo (sinceI n r n)) }

noncomputable def bdRSince (n : Nat) (r : Nat → SRec) : Bd := { f := Try.f31, args := [rc n r], kb := { db := fun _ _ _ _ => [], lp := fun _ _ => [(True, .loop (n + 1) (wTo (rsinceI n r 0)) (.exit 0) (rsinceI n r n))] }, k := kRes [(2, rc (n - fromS r n) (fun i => r (fromS r n + i)))] }
noncomputable def pcRSince (n : Nat) (r : Nat → SRec) (k : Nat) : Pc := { c := cB (cB (cR (cL (cR (cR (bodyOf Try.f31)))))), st := rsinceI n r k, kb := kb0, k := fun e _ => match e with
 | .normal => some (wTo (rsinceI n r (k + 1)))
 | _ => some (wTo (rsinceI n r n)) }

def ssI (n : Nat) (s : Nat → SSign) (k : Nat) : St := ⟨mkT 26 [(0, sg n s), (1, sg n s), (5, .int .i64 k)], [], 0, []⟩
noncomputable def bdSS (n : Nat) (s : Nat → SSign) : Bd := { f := Try.f70, args := [sg n s, sg n s], kb := { db := fun _ _ _ _ => [], lp := fun _ _ => [(True, .loop (n + 1) (wTo (ssI n s 0)) (.exit 0) (ssI n s n))] } }
noncomputable def pcSS (n : Nat) (s : Nat → SSign) (k : Nat) : Pc := { c := cB (cB (cR (cL (cR (cR (bodyOf Try.f70)))))), st := ssI n s k, kb := kb0, k := fun e _ => match e with
 | .normal => some (wTo (ssI n s (k + 1)))
 | _ => some (wTo (ssI n s n)) }

def sbI (b : SBatch) (k : Nat) : St := ⟨mkT 38 [(2, .ptr (.o 0) 0 0 0 0), (3, .ptr (.o 1) 0 0 0 0), (5, .int .i64 k)], [(.o 0, .flat b.c), (.o 1, .flat b.c)], 256, []⟩
noncomputable def bdSB (b : SBatch) : Bd := { f := Try.f67, args := [.agg b.c, .agg b.c], kb := { db := fun _ _ _ _ => [], lp := fun _ _ => [(True, .loop (b.n + 1) (wToS [(.o 1, .o 64)] (sbI b 0)) (.exit 0) (sbI b b.n))] } }
noncomputable def pcSB (b : SBatch) (k : Nat) : Pc := { c := cB (cB (cR (cL (cR (cR (bodyOf Try.f67)))))), st := sbI b k, kb := kb0, k := fun e _ => match e with
 | .normal => some (wTo (sbI b (k + 1)))
 | _ => some (wTo (sbI b b.n)) }
noncomputable def bdSC (c : SCert) : Bd := { f := Try.f69, args := [.agg c.c, .agg c.c], kb := { db := fun k _ _ _ => match k with
 | 70 => [{ val := .bool true }]
 | _ => [] } }
noncomputable def bdSR (r : SRec) : Bd := { f := Try.f29, args := [.agg r.c, .agg r.c], kb := { db := fun k _ _ _ => match k with
 | 70 => [{ val := .bool true }]
 | 69 => [{ val := .bool true }]
 | 67 => [{ val := .bool true }]
 | _ => [] } }
end Go.Proofs.Ythifjamdfpjilaa
namespace Go.Proofs.Ythifjamdfpjilaa
open Go Sy Go.Proofs
def bt (n : Nat) (b : Nat → SBatch) : V := .ros 2 n (fun i => (b i).c) false
/-- How much is counted of requests, of batches. -/
def lightR (n0 : Int) (r : Nat → SReq) : Nat → Int
 | 0 => n0
 | k + 1 => addS (addS (lightR n0 r k) 20 4000) (r k).data.size 4000
/-- One batch: as long as it isn't too much. -/
def light1I (b : SBatch) (n0 : Int) (k : Nat) : St := ⟨mkT 47 [(0, .sl (.o 0) 2 0 0 0 1 (some 1)), (3, .int .i64 (lightR n0 b.req k)), (4, .int .i64 0), (5, .int .i64 k)], [(.o 0, .rows 2 1 (getL [b.c]) false)], 1, []⟩
def dbAdd : Nat → List V → Heap → Nat → List Cl
 | 48, [.int _ a, .int _ c, _], _, _ => [{ val := .int .i64 (addS a c 4000) }]
 | _, _, _, _ => []
def lpLight (b : SBatch) (m : Nat) : Nat → St → List (Prop × Hint)
 | 0, _ => [(True, .rounds 2)]
 | _, _ => [(True, .loop (m + 1) (wTo (light1I b 5 0)) (.exit 2) (light1I b 5 m))]
noncomputable def pcLi (b : SBatch) (n0 : Int) (m k : Nat) : Pc := { c := cB (cB (cR (cR (cB (cL (cR (cB (cB (cR (cL (cR (cR (bodyOf Try.f47))))))))))))), st := light1I b n0 k, p := 1, kb := { db := dbAdd }, k := fun e _ => match e with
 | .normal => some (wTo (light1I b n0 (k + 1)))
 | _ => some (wTo (light1I b n0 m)) }
noncomputable def bdLight (b : SBatch) (m : Nat) : Bd := { f := Try.f47, args := [.sl (.o 0) 2 0 0 0 1 (some 1)], pre := [(.o 0, .rows 2 1 (getL [b.c]) false)], base := 1, kb := { db := dbAdd, lp := lpLight b m }, names := fun _ => [.o 0] }
end Go.Proofs.Ythifjamdfpjilaa
namespace Go.Proofs.Ythifjamdfpjilaa
open Go Sy Go.Proofs
theorem bdLight_p1100 (b : SBatch) (m : Nat) :
  along Try.prog (bdLight b m) [true, true, false, false] = some (V.bool (decide (lightR (5 : Int) (SBatch.req b) m ≤ (4000 : Int))), [(Nm.o (0 : Nat), B.rows (2 : Nat) (1 : Nat) (getL [SBatch.c b]) false)], [true = true, true = true, T Try.prog (48 : Nat) [V.int IntKind.i64 (0 : Int), V.int IntKind.i64 (5 : Int), V.int IntKind.i64 (4000 : Int)] [] (V.int IntKind.i64 (5 : Int)) [], RLoop Try.prog none (nat_lit 1) (cB (cB (cR (cR (cB (cL (cR (cB (cB (cR (cL (cR (cR (bodyOf (Bd.f (bdLight b m)))))))))))))))) (m + (1 : Nat)) (St.mk [V.sl (Nm.o (0 : Nat)) (2 : Nat) (0 : Nat) (0 : Nat) (0 : Nat) (1 : Nat) (some (1 : Nat)), V.any, V.any, V.int IntKind.i64 (5 : Int), V.int IntKind.i64 (0 : Int), V.int IntKind.i64 (0 : Int), V.any, V.any, V.any, V.any, V.any, V.any, V.any, V.any, V.any, V.any, V.any, V.any, V.any, V.any, V.any, V.any, V.any, V.any, V.any, V.any, V.any, V.any, V.any, V.any, V.any, V.any, V.any, V.any, V.any, V.any, V.any, V.any, V.any, V.any, V.any, V.any, V.any, V.any, V.any, V.any, V.any] [(Nm.o (0 : Nat), B.rows (2 : Nat) (1 : Nat) (getL [SBatch.c b]) false)] (nat_lit 1) []) (Exit.exit (2 : Nat)) (St.mk [V.sl (Nm.o (0 : Nat)) (2 : Nat) (0 : Nat) (0 : Nat) (0 : Nat) (1 : Nat) (some (1 : Nat)), V.any, V.any, V.int IntKind.i64 (lightR (5 : Int) (SBatch.req b) m), V.int IntKind.i64 (0 : Int), V.int IntKind.i64 (↑m : Int), V.any, V.any, V.any, V.any, V.any, V.any, V.any, V.any, V.any, V.any, V.any, V.any, V.any, V.any, V.any, V.any, V.any, V.any, V.any, V.any, V.any, V.any, V.any, V.any, V.any, V.any, V.any, V.any, V.any, V.any, V.any, V.any, V.any, V.any, V.any, V.any, V.any, V.any, V.any, V.any, V.any] [(Nm.o (0 : Nat), B.rows (2 : Nat) (1 : Nat) (getL [SBatch.c b]) false)] (1 : Nat) []), (1 : Nat) = (1 : Nat), ∀ (k : Nat), k < (1 : Nat) → getL [SBatch.c b] k = getL [SBatch.c b] k, false = false → false = false, (0 : Nat) = (0 : Nat), (0 : Nat) = (0 : Nat), (0 : Nat) = (0 : Nat), (1 : Nat) = (1 : Nat), some (1 : Nat) = none ∨ some (1 : Nat) = some (1 : Nat), (5 : Int) = (5 : Int), (0 : Int) = (0 : Int), (0 : Int) = (0 : Int), InR IntKind.i64 (1 : Int), false = false, false = false]) := by kernel_rfl

theorem pcLi_p11 (b : SBatch) (n0 : Int) (m : Nat) (k : Nat) :
  alongPc Try.prog (pcLi b n0 m k) [true, true] = some (Exit.normal, St.mk [V.sl (Nm.o (0 : Nat)) (2 : Nat) (0 : Nat) (0 : Nat) (0 : Nat) (1 : Nat) (some (1 : Nat)), V.any, V.any, V.int IntKind.i64 (lightR n0 (SBatch.req b) (k + (1 : Nat))), V.int IntKind.i64 (0 : Int), V.int IntKind.i64 (↑(k + (1 : Nat)) : Int), V.any, V.any, V.any, V.any, V.any, V.any, V.any, V.any, V.any, V.any, V.any, V.any, V.any, V.any, V.any, V.any, V.any, V.any, V.any, V.any, V.any, V.any, V.any, V.any, V.any, V.any, V.any, V.any, V.any, V.any, V.any, V.any, V.any, V.any, V.any, V.any, V.any, V.any, V.any, V.any, V.any] [(Nm.o (0 : Nat), B.rows (2 : Nat) (1 : Nat) (getL [SBatch.c b]) false)] (nat_lit 1) [], [(0 : Int) ≤ (0 : Int) ∧ (0 : Int) < (1 : Int), nat_lit 0 < (1 : Nat), decide ((↑k : Int) < (↑(SBatch.n b) : Int)) = true, decide (lightR n0 (SBatch.req b) k ≤ (4000 : Int)) = true, T Try.prog (48 : Nat) [V.int IntKind.i64 (lightR n0 (SBatch.req b) k), V.int IntKind.i64 (20 : Int), V.int IntKind.i64 (4000 : Int)] [] (V.int IntKind.i64 (addS (lightR n0 (SBatch.req b) k) (20 : Int) (4000 : Int))) [], (0 : Int) ≤ (0 : Int) ∧ (0 : Int) < (1 : Int), nat_lit 0 < (1 : Nat), (0 : Int) ≤ (↑k : Int) ∧ (↑k : Int) < (↑(SBatch.n b) : Int), T Try.prog (48 : Nat) [V.int IntKind.i64 (addS (lightR n0 (SBatch.req b) k) (20 : Int) (4000 : Int)), V.int IntKind.i64 (↑(ByteArray.size (SReq.data (SBatch.req b (Int.toNat (↑k : Int))))) : Int), V.int IntKind.i64 (4000 : Int)] [] (V.int IntKind.i64 (addS (addS (lightR n0 (SBatch.req b) k) (20 : Int) (4000 : Int)) (↑(ByteArray.size (SReq.data (SBatch.req b (Int.toNat (↑k : Int))))) : Int) (4000 : Int))) [], InR IntKind.i64 ((↑k : Int) + (1 : Int)), (1 : Nat) = (1 : Nat), ∀ (k : Nat), k < (1 : Nat) → getL [SBatch.c b] k = getL [SBatch.c b] k, false = false → false = false, (0 : Nat) = (0 : Nat), (0 : Nat) = (0 : Nat), (0 : Nat) = (0 : Nat), (1 : Nat) = (1 : Nat), some (1 : Nat) = none ∨ some (1 : Nat) = some (1 : Nat), addS (addS (lightR n0 (SBatch.req b) k) (20 : Int) (4000 : Int)) (↑(ByteArray.size (SReq.data (SBatch.req b (Int.toNat (↑k : Int))))) : Int) (4000 : Int) = lightR n0 (SBatch.req b) (k + (1 : Nat)), (0 : Int) = (0 : Int), (↑k : Int) + (1 : Int) = (↑(k + (1 : Nat)) : Int)]) := by kernel_rfl
theorem pcLi_p10 (b : SBatch) (n0 : Int) (m : Nat) (k : Nat) :
  alongPc Try.prog (pcLi b n0 m k) [true, false] = some (Exit.exit (2 : Nat), St.mk [V.sl (Nm.o (0 : Nat)) (2 : Nat) (0 : Nat) (0 : Nat) (0 : Nat) (1 : Nat) (some (1 : Nat)), V.any, V.any, V.int IntKind.i64 (lightR n0 (SBatch.req b) m), V.int IntKind.i64 (0 : Int), V.int IntKind.i64 (↑m : Int), V.any, V.any, V.any, V.any, V.any, V.any, V.any, V.any, V.any, V.any, V.any, V.any, V.any, V.any, V.any, V.any, V.any, V.any, V.any, V.any, V.any, V.any, V.any, V.any, V.any, V.any, V.any, V.any, V.any, V.any, V.any, V.any, V.any, V.any, V.any, V.any, V.any, V.any, V.any, V.any, V.any] [(Nm.o (0 : Nat), B.rows (2 : Nat) (1 : Nat) (getL [SBatch.c b]) false)] (nat_lit 1) [], [(0 : Int) ≤ (0 : Int) ∧ (0 : Int) < (1 : Int), nat_lit 0 < (1 : Nat), decide ((↑k : Int) < (↑(SBatch.n b) : Int)) = true, decide (lightR n0 (SBatch.req b) k ≤ (4000 : Int)) = false, (1 : Nat) = (1 : Nat), ∀ (k : Nat), k < (1 : Nat) → getL [SBatch.c b] k = getL [SBatch.c b] k, false = false → false = false, (0 : Nat) = (0 : Nat), (0 : Nat) = (0 : Nat), (0 : Nat) = (0 : Nat), (1 : Nat) = (1 : Nat), some (1 : Nat) = none ∨ some (1 : Nat) = some (1 : Nat), lightR n0 (SBatch.req b) k = lightR n0 (SBatch.req b) m, (0 : Int) = (0 : Int), (↑k : Int) = (↑m : Int)]) := by kernel_rfl
theorem pcLi_p00 (b : SBatch) (n0 : Int) (m : Nat) (k : Nat) :
  alongPc Try.prog (pcLi b n0 m k) [false, false] = some (Exit.exit (2 : Nat), St.mk [V.sl (Nm.o (0 : Nat)) (2 : Nat) (0 : Nat) (0 : Nat) (0 : Nat) (1 : Nat) (some (1 : Nat)), V.any, V.any, V.int IntKind.i64 (lightR n0 (SBatch.req b) m), V.int IntKind.i64 (0 : Int), V.int IntKind.i64 (↑m : Int), V.any, V.any, V.any, V.any, V.any, V.any, V.any, V.any, V.any, V.any, V.any, V.any, V.any, V.any, V.any, V.any, V.any, V.any, V.any, V.any, V.any, V.any, V.any, V.any, V.any, V.any, V.any, V.any, V.any, V.any, V.any, V.any, V.any, V.any, V.any, V.any, V.any, V.any, V.any, V.any, V.any] [(Nm.o (0 : Nat), B.rows (2 : Nat) (1 : Nat) (getL [SBatch.c b]) false)] (nat_lit 1) [], [(0 : Int) ≤ (0 : Int) ∧ (0 : Int) < (1 : Int), nat_lit 0 < (1 : Nat), decide ((↑k : Int) < (↑(SBatch.n b) : Int)) = false, false = false, (1 : Nat) = (1 : Nat), ∀ (k : Nat), k < (1 : Nat) → getL [SBatch.c b] k = getL [SBatch.c b] k, false = false → false = false, (0 : Nat) = (0 : Nat), (0 : Nat) = (0 : Nat), (0 : Nat) = (0 : Nat), (1 : Nat) = (1 : Nat), some (1 : Nat) = none ∨ some (1 : Nat) = some (1 : Nat), lightR n0 (SBatch.req b) k = lightR n0 (SBatch.req b) m, (0 : Int) = (0 : Int), (↑k : Int) = (↑m : Int)]) := by kernel_rfl

theorem exists_stop (p : Nat → Prop) : ∀ n, ∃ m, m ≤ n ∧ (∀ k, k < m → p k) ∧ (m = n ∨ ¬ p m)
 | 0 => ⟨0, Nat.le_refl _, fun k h => absurd h (Nat.not_lt_zero k), .inl rfl⟩
 | n + 1 => by
  obtain ⟨m, h1, h2, h3⟩ := exists_stop p n
  rcases h3 with rfl | h3
  ·by_cases h : p m
   ·refine ⟨m + 1, Nat.le_refl _, fun k hk => ?_, .inl rfl⟩
    rcases Nat.lt_or_ge k m with h4 | h4
    ·exact h2 k h4
    ·have : k = m := by omega
     subst this; exact h
   ·exact ⟨m, Nat.le_succ _, h2, .inr h⟩
  ·exact ⟨m, Nat.le_succ_of_le h1, h2, .inr h3⟩

theorem addS_range {n more : Int} (h1 : 0 ≤ n) (h2 : 0 ≤ more) : 0 ≤ addS n more 4000 ∧ addS n more 4000 ≤ 4001 := by
 unfold addS; split <;> omega
theorem addS_le {n more : Int} (h : addS n more 4000 ≤ 4000) : n ≤ 4000 ∧ more ≤ 4000 ∧ addS n more 4000 = n + more := by
 unfold addS at h ⊢; split at h
 ·omega
 ·rename_i h'; simp only [not_or, Int.not_lt] at h'; rw [if_neg (by omega)]; omega
theorem lightR_range {n0 : Int} (h : 0 ≤ n0 ∧ n0 ≤ 4001) (r : Nat → SReq) : ∀ k, 0 ≤ lightR n0 r k ∧ lightR n0 r k ≤ 4001
 | 0 => h
 | k + 1 => by
  rw [lightR]
  exact addS_range (addS_range (lightR_range h r k).1 (by decide)).1 (by omega)
theorem lightR_up {n0 : Int} (r : Nat → SReq) : ∀ k, lightR n0 r k ≤ 4000 → n0 + 20 * k ≤ lightR n0 r k
 | 0, _ => by simp [lightR]
 | k + 1, h => by
  rw [lightR] at h ⊢
  have h1 := addS_le h
  have h2 := addS_le h1.1
  have := lightR_up r k h2.1
  rw [h1.2.2, h2.2.2]; omega
theorem lightR_over {n0 : Int} (r : Nat → SReq) {m : Nat} : ∀ k, m ≤ k → lightR n0 r k ≤ 4000 → lightR n0 r m ≤ 4000
 | 0, h, h1 => by have : m = 0 := by omega
                  subst this; exact h1
 | k + 1, h, h1 => by
  rcases Nat.lt_or_ge m (k + 1) with h2 | h2
  ·rw [lightR] at h1
   exact lightR_over r k (by omega) (addS_le (addS_le h1).1).1
  ·have : m = k + 1 := by omega
   subst this; exact h1
/-- Is a batch not too much? -/
def lightB (b : SBatch) : Bool := decide (lightR 5 b.req b.n ≤ 4000)
theorem lightB_n {b : SBatch} (h : lightB b = true) : b.n ≤ 200 := by
 have := of_decide_eq_true h
 have := lightR_up b.req b.n this
 omega

theorem L_li (b : SBatch) {m : Nat} (hm : m ≤ b.n) (hd : ∀ k, k < b.n → (b.req k).data.size ≤ 9223372036854775807) (h1 : ∀ k, k < m → lightR 5 b.req k ≤ 4000) (h2 : m = b.n ∨ ¬ lightR 5 b.req m ≤ 4000) (hn : b.n ≤ 9223372036854775807) :
  RLoop Try.prog none 1 (cB (cB (cR (cR (cB (cL (cR (cB (cB (cR (cL (cR (cR (bodyOf Try.f47)))))))))))))) (m + 1) (light1I b 5 0) (.exit 2) (light1I b 5 m) :=
 RLoop.inv (light1I b 5) m (fun k hk => by
  have h3 := h1 k hk
  have hkn : k < b.n := by omega
  have h4 := lightR_range (n0 := 5) (by decide) b.req k
  have h5 := addS_range h4.1 (more := 20) (by decide)
  have hdk : (((b.req (Int.toNat (k : Int))).data.size : Nat) : Int) ≤ 9223372036854775807 := by
   have := hd k hkn
   rw [Int.toNat_natCast]; omega
  refine R_alongPc NG MO _ (pcLi_p11 b 5 m k) ?_ (Nat.le_refl _)
  simp only [All]
  and_intros
  all_goals first
   | exact T_add h4.1 (by decide) (by decide)
   | exact T_add h5.1 (by omega) hdk
   | (simp [h3, hkn, lightR, IntKind.min, IntKind.max, IntKind.signed, IntKind.bits] <;> omega))
  (by
   rcases h2 with h2 | h2
   ·refine R_alongPc NG MO _ (pcLi_p00 b 5 m m) ?_ (Nat.le_refl _)
    simp [All, h2]
   ·by_cases h3 : m < b.n
    ·refine R_alongPc NG MO _ (pcLi_p10 b 5 m m) ?_ (Nat.le_refl _)
     simp [All, h2, h3]
    ·refine R_alongPc NG MO _ (pcLi_p00 b 5 m m) ?_ (Nat.le_refl _)
     simp [All, h3]) (by simp)
theorem T_light0 (b : SBatch) (hd : ∀ k, k < b.n → (b.req k).data.size ≤ 9223372036854775807) (hn : b.n ≤ 9223372036854775807) :
  T Try.prog 47 [.sl (.o 0) 2 0 0 0 1 (some 1)] [(.o 0, .rows 2 1 (getL [b.c]) false)] (.bool (lightB b)) [(.o 0, .rows 2 1 (getL [b.c]) false)] := by
 obtain ⟨m, h1, h2, h3⟩ := exists_stop (fun k => lightR 5 b.req k ≤ 4000) b.n
 refine T.bool (T_along NG MO _ (bdLight_p1100 b m) Try.func47 (by kernel_rfl) ?_ (pinH_ok (by kernel_rfl)) (by kernel_rfl)) ?_
 ·simp only [All]
  and_intros
  all_goals first
   | exact T_add (n := 0) (more := 5) (by decide) (by decide) (by decide)
   | exact L_li b h1 hd h2 h3 hn
   | simp [IntKind.min, IntKind.max, IntKind.signed, IntKind.bits]
 ·unfold lightB
  rw [decide_eq_decide]
  rcases h3 with rfl | h3
  ·exact Iff.rfl
  ·exact ⟨fun h => absurd h h3, fun h => lightR_over b.req b.n h1 h⟩
theorem T_light (b : SBatch) (hd : ∀ k, k < b.n → (b.req k).data.size ≤ 9223372036854775807) (hn : b.n ≤ 9223372036854775807) (a : Nat) :
  T Try.prog 47 [.sl (.o a) 2 0 0 0 1 (some 1)] [(.o a, .rows 2 1 (getL [b.c]) false)] (.bool (lightB b)) [(.o a, .rows 2 1 (getL [b.c]) false)] :=
 T.conv (T.swap (.o 0) (.o a) (T_light0 b hd hn)) (by simp [V.rens, V.ren, Nm.swap]) (by simp [Heap.ren, B.ren, Nm.swap]) (by simp [V.ren]) (by simp [Heap.ren, B.ren, Nm.swap])
end Go.Proofs.Ythifjamdfpjilaa
namespace Go.Proofs.Ythifjamdfpjilaa
open Go Sy Go.Proofs
/-- The bodies' bytes, counted. -/
def sumN (e : Nat → SEnv) : Nat → Int
 | 0 => 0
 | k + 1 => addS (sumN e k) (e k).body.size 6000
def okHd (h : SHeld) : Bool := lightB h.batch && decide (h.cert.n ≤ 100)
def lightMS (m : SMsg) : Bool := lightB m.batch && (decide (m.state.size ≤ 6000) && (decide (m.n ≤ 100) && (decide (m.cert.n ≤ 100) && (decide (m.nheld ≤ 20) && (decide (m.nnews ≤ 100) && (decide (∀ i, i < m.nheld → okHd (m.held i) = true) && decide (∀ i, i < m.nnews → sumN m.news (i + 1) ≤ 6000)))))))
def lg1I (m : SMsg) (k : Nat) : St := ⟨mkT 81 [(1, .ptr (.o 0) 0 0 0 0), (3, .int .i64 0), (47, hl m.nheld m.held), (48, .int .i64 m.nheld), (49, .int .i64 k)], [(.o 0, .flat m.c)], 1, []⟩
def lg2I (m : SMsg) (k : Nat) : St := ⟨mkT 81 [(1, .ptr (.o 0) 0 0 0 0), (3, .int .i64 (sumN m.news k)), (67, nw m.nnews m.news), (68, .int .i64 m.nnews), (69, .int .i64 k)], [(.o 0, .flat m.c)], 1, []⟩
def cLight (b : SBatch) : List V → Heap → Nat → List Cl := fun args _ _ => match args with
 | .sl a _ _ _ _ _ _ :: _ => [{ rd := [a], val := .bool (lightB b) }]
 | _ => []
noncomputable def bdLg (m : SMsg) (j : Nat) : Bd := { f := Try.f19, args := [.agg m.c], kb := { db := dbF [(47, cLight m.batch)], lp := fun id _ => match id with
 | 0 => [(True, .loop (m.nheld + 1) (wTo (lg1I m 0)) (.exit 0) (lg1I m m.nheld)), (True, .loop (j + 1) (wTo (lg1I m 0)) .ret (smF 2 81))]
 | _ => [(True, .loop (m.nnews + 1) (wTo (lg2I m 0)) (.exit 2) (lg2I m m.nnews)), (True, .loop (j + 1) (wTo (lg2I m 0)) .ret (smF 2 81))] } }
noncomputable def pcLg1 (m : SMsg) (k : Nat) : Pc := { c := cB (cB (cR (cL (cR (cR (cR (bodyOf Try.f19))))))), st := lg1I m k, kb := { db := dbF [(47, cLight (m.held k).batch)] }, k := fun e _ => match e with
 | .normal => some (wTo (lg1I m (k + 1)))
 | .ret => some (wTo (smF 2 81))
 | _ => some (wTo (lg1I m m.nheld)) }
noncomputable def pcLg2 (m : SMsg) (k : Nat) : Pc := { c := cB (cB (cR (cL (cR (cR (cR (cR (bodyOf Try.f19)))))))), st := lg2I m k, kb := { db := dbF [(48, fun _ _ _ => [{ val := .int .i64 (sumN m.news (k + 1)) }])] }, k := fun e _ => match e with
 | .normal => some (wTo (lg2I m (k + 1)))
 | .ret => some (wTo (smF 2 81))
 | _ => some (wTo (lg2I m m.nnews)) }
end Go.Proofs.Ythifjamdfpjilaa
namespace Go.Proofs.Ythifjamdfpjilaa
open Go Sy Go.Proofs
theorem bdLg_p111111 (m : SMsg) (j : Nat) :
  along Try.prog (bdLg m j) [true, true, true, true, true, true] = (some (.bool false, [], [T Try.prog 47 [.sl (.o 256) 2 0 0 0 1 (some 1)] [(.o 256, .rows 2 1 (getL [(SBatch.c (SMsg.batch m))]) false)] (.bool (lightB (SMsg.batch m))) [(.o 256, .rows 2 1 (getL [(SBatch.c (SMsg.batch m))]) false)], (!lightB (SMsg.batch m)) = true, q2, q2, q2, q2, q2]) : Option (V × Heap × List Prop)) := by kernel_rfl
theorem bdLg_p011111 (m : SMsg) (j : Nat) :
  along Try.prog (bdLg m j) [false, true, true, true, true, true] = (some (.bool false, [], [T Try.prog 47 [.sl (.o 256) 2 0 0 0 1 (some 1)] [(.o 256, .rows 2 1 (getL [(SBatch.c (SMsg.batch m))]) false)] (.bool (lightB (SMsg.batch m))) [(.o 256, .rows 2 1 (getL [(SBatch.c (SMsg.batch m))]) false)], (!lightB (SMsg.batch m)) = false, decide ((6000 : Int) < (↑(ByteArray.size (SMsg.state m)) : Int)) = true, q2, q2, q2, q2]) : Option (V × Heap × List Prop)) := by kernel_rfl
theorem bdLg_p001111 (m : SMsg) (j : Nat) :
  along Try.prog (bdLg m j) [false, false, true, true, true, true] = (some (.bool false, [], [T Try.prog 47 [.sl (.o 256) 2 0 0 0 1 (some 1)] [(.o 256, .rows 2 1 (getL [(SBatch.c (SMsg.batch m))]) false)] (.bool (lightB (SMsg.batch m))) [(.o 256, .rows 2 1 (getL [(SBatch.c (SMsg.batch m))]) false)], (!lightB (SMsg.batch m)) = false, decide ((6000 : Int) < (↑(ByteArray.size (SMsg.state m)) : Int)) = false, decide ((100 : Int) < (↑(SMsg.n m) : Int)) = true, q2, q2, q2]) : Option (V × Heap × List Prop)) := by kernel_rfl
theorem bdLg_p000111 (m : SMsg) (j : Nat) :
  along Try.prog (bdLg m j) [false, false, false, true, true, true] = (some (.bool false, [], [T Try.prog 47 [.sl (.o 256) 2 0 0 0 1 (some 1)] [(.o 256, .rows 2 1 (getL [(SBatch.c (SMsg.batch m))]) false)] (.bool (lightB (SMsg.batch m))) [(.o 256, .rows 2 1 (getL [(SBatch.c (SMsg.batch m))]) false)], (!lightB (SMsg.batch m)) = false, decide ((6000 : Int) < (↑(ByteArray.size (SMsg.state m)) : Int)) = false, decide ((100 : Int) < (↑(SMsg.n m) : Int)) = false, decide ((100 : Int) < (↑(SCert.n (SMsg.cert m)) : Int)) = true, q2, q2]) : Option (V × Heap × List Prop)) := by kernel_rfl
theorem bdLg_p000011 (m : SMsg) (j : Nat) :
  along Try.prog (bdLg m j) [false, false, false, false, true, true] = (some (.bool false, [], [T Try.prog 47 [.sl (.o 256) 2 0 0 0 1 (some 1)] [(.o 256, .rows 2 1 (getL [(SBatch.c (SMsg.batch m))]) false)] (.bool (lightB (SMsg.batch m))) [(.o 256, .rows 2 1 (getL [(SBatch.c (SMsg.batch m))]) false)], (!lightB (SMsg.batch m)) = false, decide ((6000 : Int) < (↑(ByteArray.size (SMsg.state m)) : Int)) = false, decide ((100 : Int) < (↑(SMsg.n m) : Int)) = false, decide ((100 : Int) < (↑(SCert.n (SMsg.cert m)) : Int)) = false, decide ((20 : Int) < (↑(SMsg.nheld m) : Int)) = true, q2]) : Option (V × Heap × List Prop)) := by kernel_rfl
theorem bdLg_p000001 (m : SMsg) (j : Nat) :
  along Try.prog (bdLg m j) [false, false, false, false, false, true] = (some (.bool false, [], [T Try.prog 47 [.sl (.o 256) 2 0 0 0 1 (some 1)] [(.o 256, .rows 2 1 (getL [(SBatch.c (SMsg.batch m))]) false)] (.bool (lightB (SMsg.batch m))) [(.o 256, .rows 2 1 (getL [(SBatch.c (SMsg.batch m))]) false)], (!lightB (SMsg.batch m)) = false, decide ((6000 : Int) < (↑(ByteArray.size (SMsg.state m)) : Int)) = false, decide ((100 : Int) < (↑(SMsg.n m) : Int)) = false, decide ((100 : Int) < (↑(SCert.n (SMsg.cert m)) : Int)) = false, decide ((20 : Int) < (↑(SMsg.nheld m) : Int)) = false, decide ((100 : Int) < (↑(SMsg.nnews m) : Int)) = true]) : Option (V × Heap × List Prop)) := by kernel_rfl
theorem bdLg_p00000011 (m : SMsg) (j : Nat) :
  along Try.prog (bdLg m j) [false, false, false, false, false, false, true, true] = (some (.bool true, [], [T Try.prog 47 [.sl (.o 256) 2 0 0 0 1 (some 1)] [(.o 256, .rows 2 1 (getL [(SBatch.c (SMsg.batch m))]) false)] (.bool (lightB (SMsg.batch m))) [(.o 256, .rows 2 1 (getL [(SBatch.c (SMsg.batch m))]) false)], (!lightB (SMsg.batch m)) = false, decide ((6000 : Int) < (↑(ByteArray.size (SMsg.state m)) : Int)) = false, decide ((100 : Int) < (↑(SMsg.n m) : Int)) = false, decide ((100 : Int) < (↑(SCert.n (SMsg.cert m)) : Int)) = false, decide ((20 : Int) < (↑(SMsg.nheld m) : Int)) = false, decide ((100 : Int) < (↑(SMsg.nnews m) : Int)) = false, RLoop Try.prog none 0 (cB (cB (cR (cL (cR (cR (cR (bodyOf (Bd.f (bdLg m j)))))))))) (SMsg.nheld m + 1) (St.mk [.any, .ptr (.o 0) 0 0 0 0, .any, .int .i64 0, .any, .any, .any, .any, .any, .any, .any, .any, .any, .any, .any, .any, .any, .any, .any, .any, .any, .any, .any, .any, .any, .any, .any, .any, .any, .any, .any, .any, .any, .any, .any, .any, .any, .any, .any, .any, .any, .any, .any, .any, .any, .any, .any, .ros 39 (SMsg.nheld m) (fun i => SHeld.c (SMsg.held m i)) false, .int .i64 (↑(SMsg.nheld m) : Int), .int .i64 0, .any, .any, .any, .any, .any, .any, .any, .any, .any, .any, .any, .any, .any, .any, .any, .any, .any, .any, .any, .any, .any, .any, .any, .any, .any, .any, .any, .any, .any, .any, .any] [(.o 0, .flat (SMsg.c m))] 1 []) (.exit 0) (St.mk [.any, .ptr (.o 0) 0 0 0 0, .any, .int .i64 0, .any, .any, .any, .any, .any, .any, .any, .any, .any, .any, .any, .any, .any, .any, .any, .any, .any, .any, .any, .any, .any, .any, .any, .any, .any, .any, .any, .any, .any, .any, .any, .any, .any, .any, .any, .any, .any, .any, .any, .any, .any, .any, .any, .ros 39 (SMsg.nheld m) (fun i => SHeld.c (SMsg.held m i)) false, .int .i64 (↑(SMsg.nheld m) : Int), .int .i64 (↑(SMsg.nheld m) : Int), .any, .any, .any, .any, .any, .any, .any, .any, .any, .any, .any, .any, .any, .any, .any, .any, .any, .any, .any, .any, .any, .any, .any, .any, .any, .any, .any, .any, .any, .any, .any] [(.o 0, .flat (SMsg.c m))] 1 []), q (SMsg.kind m), q (SMsg.epoch m), q (SMsg.leader m), q (SMsg.view m), q (SMsg.slot m), q (SBatch.noop (SMsg.batch m)), q (SBatch.n (SMsg.batch m)), ∀ (k : Nat), k < SBatch.n (SMsg.batch m) → SReq.c (SBatch.req (SMsg.batch m) k) = SReq.c (SBatch.req (SMsg.batch m) k), false = true → false = true, q (SVote.kind (SMsg.vote m)), q (SVote.epoch (SMsg.vote m)), q (SVote.view (SMsg.vote m)), q (SVote.slot (SMsg.vote m)), q (32 : Nat), q (SVote.digest (SMsg.vote m)), q (SMsg.cepoch m), q (SMsg.cleader m), q (SMsg.cview m), q (SMsg.nheld m), ∀ (k : Nat), k < SMsg.nheld m → SHeld.c (SMsg.held m k) = SHeld.c (SMsg.held m k), false = true → false = true, q (SMsg.nnews m), ∀ (k : Nat), k < SMsg.nnews m → SEnv.c (SMsg.news m k) = SEnv.c (SMsg.news m k), false = true → false = true, q (32 : Nat), q (SMsg.digest m), q (SVote.kind (SCert.vote (SMsg.cert m))), q (SVote.epoch (SCert.vote (SMsg.cert m))), q (SVote.view (SCert.vote (SMsg.cert m))), q (SVote.slot (SCert.vote (SMsg.cert m))), q (32 : Nat), q (SVote.digest (SCert.vote (SMsg.cert m))), q (SCert.n (SMsg.cert m)), ∀ (k : Nat), k < SCert.n (SMsg.cert m) → SSign.c (SCert.sig (SMsg.cert m) k) = SSign.c (SCert.sig (SMsg.cert m) k), false = true → false = true, q (SMsg.state m), q (SMsg.n m), ∀ (k : Nat), k < SMsg.n m → SSign.c (SMsg.sig m k) = SSign.c (SMsg.sig m k), false = true → false = true, q0, q0, q0, q1, q (SMsg.nheld m), ∀ (k : Nat), k < SMsg.nheld m → SHeld.c (SMsg.held m k) = SHeld.c (SMsg.held m k), false = true → false = true, q (↑(SMsg.nheld m) : Int), q1, RLoop Try.prog none 0 (cB (cB (cR (cL (cR (cR (cR (cR (bodyOf (Bd.f (bdLg m j))))))))))) (SMsg.nnews m + 1) (St.mk [.any, .ptr (.o 0) 0 0 0 0, .any, .int .i64 0, .any, .any, .any, .any, .any, .any, .any, .any, .any, .any, .any, .any, .any, .any, .any, .any, .any, .any, .any, .any, .any, .any, .any, .any, .any, .any, .any, .any, .any, .any, .any, .any, .any, .any, .any, .any, .any, .any, .any, .any, .any, .any, .any, .any, .any, .any, .any, .any, .any, .any, .any, .any, .any, .any, .any, .any, .any, .any, .any, .any, .any, .any, .any, .ros 18 (SMsg.nnews m) (fun i => SEnv.c (SMsg.news m i)) false, .int .i64 (↑(SMsg.nnews m) : Int), .int .i64 0, .any, .any, .any, .any, .any, .any, .any, .any, .any, .any, .any] [(.o 0, .flat (SMsg.c m))] 1 []) (.exit 2) (St.mk [.any, .ptr (.o 0) 0 0 0 0, .any, .int .i64 (sumN (SMsg.news m) (SMsg.nnews m)), .any, .any, .any, .any, .any, .any, .any, .any, .any, .any, .any, .any, .any, .any, .any, .any, .any, .any, .any, .any, .any, .any, .any, .any, .any, .any, .any, .any, .any, .any, .any, .any, .any, .any, .any, .any, .any, .any, .any, .any, .any, .any, .any, .any, .any, .any, .any, .any, .any, .any, .any, .any, .any, .any, .any, .any, .any, .any, .any, .any, .any, .any, .any, .ros 18 (SMsg.nnews m) (fun i => SEnv.c (SMsg.news m i)) false, .int .i64 (↑(SMsg.nnews m) : Int), .int .i64 (↑(SMsg.nnews m) : Int), .any, .any, .any, .any, .any, .any, .any, .any, .any, .any, .any] [(.o 0, .flat (SMsg.c m))] 1 []), q (SMsg.kind m), q (SMsg.epoch m), q (SMsg.leader m), q (SMsg.view m), q (SMsg.slot m), q (SBatch.noop (SMsg.batch m)), q (SBatch.n (SMsg.batch m)), ∀ (k : Nat), k < SBatch.n (SMsg.batch m) → SReq.c (SBatch.req (SMsg.batch m) k) = SReq.c (SBatch.req (SMsg.batch m) k), false = true → false = true, q (SVote.kind (SMsg.vote m)), q (SVote.epoch (SMsg.vote m)), q (SVote.view (SMsg.vote m)), q (SVote.slot (SMsg.vote m)), q (32 : Nat), q (SVote.digest (SMsg.vote m)), q (SMsg.cepoch m), q (SMsg.cleader m), q (SMsg.cview m), q (SMsg.nheld m), ∀ (k : Nat), k < SMsg.nheld m → SHeld.c (SMsg.held m k) = SHeld.c (SMsg.held m k), false = true → false = true, q (SMsg.nnews m), ∀ (k : Nat), k < SMsg.nnews m → SEnv.c (SMsg.news m k) = SEnv.c (SMsg.news m k), false = true → false = true, q (32 : Nat), q (SMsg.digest m), q (SVote.kind (SCert.vote (SMsg.cert m))), q (SVote.epoch (SCert.vote (SMsg.cert m))), q (SVote.view (SCert.vote (SMsg.cert m))), q (SVote.slot (SCert.vote (SMsg.cert m))), q (32 : Nat), q (SVote.digest (SCert.vote (SMsg.cert m))), q (SCert.n (SMsg.cert m)), ∀ (k : Nat), k < SCert.n (SMsg.cert m) → SSign.c (SCert.sig (SMsg.cert m) k) = SSign.c (SCert.sig (SMsg.cert m) k), false = true → false = true, q (SMsg.state m), q (SMsg.n m), ∀ (k : Nat), k < SMsg.n m → SSign.c (SMsg.sig m k) = SSign.c (SMsg.sig m k), false = true → false = true, q0, q0, q0, q1, q (SMsg.nnews m), ∀ (k : Nat), k < SMsg.nnews m → SEnv.c (SMsg.news m k) = SEnv.c (SMsg.news m k), false = true → false = true, q (↑(SMsg.nnews m) : Int), q1]) : Option (V × Heap × List Prop)) := by kernel_rfl
theorem bdLg_p00000010 (m : SMsg) (j : Nat) :
  along Try.prog (bdLg m j) [false, false, false, false, false, false, true, false] = (some (.bool false, [], [T Try.prog 47 [.sl (.o 256) 2 0 0 0 1 (some 1)] [(.o 256, .rows 2 1 (getL [(SBatch.c (SMsg.batch m))]) false)] (.bool (lightB (SMsg.batch m))) [(.o 256, .rows 2 1 (getL [(SBatch.c (SMsg.batch m))]) false)], (!lightB (SMsg.batch m)) = false, decide ((6000 : Int) < (↑(ByteArray.size (SMsg.state m)) : Int)) = false, decide ((100 : Int) < (↑(SMsg.n m) : Int)) = false, decide ((100 : Int) < (↑(SCert.n (SMsg.cert m)) : Int)) = false, decide ((20 : Int) < (↑(SMsg.nheld m) : Int)) = false, decide ((100 : Int) < (↑(SMsg.nnews m) : Int)) = false, RLoop Try.prog none 0 (cB (cB (cR (cL (cR (cR (cR (bodyOf (Bd.f (bdLg m j)))))))))) (SMsg.nheld m + 1) (St.mk [.any, .ptr (.o 0) 0 0 0 0, .any, .int .i64 0, .any, .any, .any, .any, .any, .any, .any, .any, .any, .any, .any, .any, .any, .any, .any, .any, .any, .any, .any, .any, .any, .any, .any, .any, .any, .any, .any, .any, .any, .any, .any, .any, .any, .any, .any, .any, .any, .any, .any, .any, .any, .any, .any, .ros 39 (SMsg.nheld m) (fun i => SHeld.c (SMsg.held m i)) false, .int .i64 (↑(SMsg.nheld m) : Int), .int .i64 0, .any, .any, .any, .any, .any, .any, .any, .any, .any, .any, .any, .any, .any, .any, .any, .any, .any, .any, .any, .any, .any, .any, .any, .any, .any, .any, .any, .any, .any, .any, .any] [(.o 0, .flat (SMsg.c m))] 1 []) (.exit 0) (St.mk [.any, .ptr (.o 0) 0 0 0 0, .any, .int .i64 0, .any, .any, .any, .any, .any, .any, .any, .any, .any, .any, .any, .any, .any, .any, .any, .any, .any, .any, .any, .any, .any, .any, .any, .any, .any, .any, .any, .any, .any, .any, .any, .any, .any, .any, .any, .any, .any, .any, .any, .any, .any, .any, .any, .ros 39 (SMsg.nheld m) (fun i => SHeld.c (SMsg.held m i)) false, .int .i64 (↑(SMsg.nheld m) : Int), .int .i64 (↑(SMsg.nheld m) : Int), .any, .any, .any, .any, .any, .any, .any, .any, .any, .any, .any, .any, .any, .any, .any, .any, .any, .any, .any, .any, .any, .any, .any, .any, .any, .any, .any, .any, .any, .any, .any] [(.o 0, .flat (SMsg.c m))] 1 []), q (SMsg.kind m), q (SMsg.epoch m), q (SMsg.leader m), q (SMsg.view m), q (SMsg.slot m), q (SBatch.noop (SMsg.batch m)), q (SBatch.n (SMsg.batch m)), ∀ (k : Nat), k < SBatch.n (SMsg.batch m) → SReq.c (SBatch.req (SMsg.batch m) k) = SReq.c (SBatch.req (SMsg.batch m) k), false = true → false = true, q (SVote.kind (SMsg.vote m)), q (SVote.epoch (SMsg.vote m)), q (SVote.view (SMsg.vote m)), q (SVote.slot (SMsg.vote m)), q (32 : Nat), q (SVote.digest (SMsg.vote m)), q (SMsg.cepoch m), q (SMsg.cleader m), q (SMsg.cview m), q (SMsg.nheld m), ∀ (k : Nat), k < SMsg.nheld m → SHeld.c (SMsg.held m k) = SHeld.c (SMsg.held m k), false = true → false = true, q (SMsg.nnews m), ∀ (k : Nat), k < SMsg.nnews m → SEnv.c (SMsg.news m k) = SEnv.c (SMsg.news m k), false = true → false = true, q (32 : Nat), q (SMsg.digest m), q (SVote.kind (SCert.vote (SMsg.cert m))), q (SVote.epoch (SCert.vote (SMsg.cert m))), q (SVote.view (SCert.vote (SMsg.cert m))), q (SVote.slot (SCert.vote (SMsg.cert m))), q (32 : Nat), q (SVote.digest (SCert.vote (SMsg.cert m))), q (SCert.n (SMsg.cert m)), ∀ (k : Nat), k < SCert.n (SMsg.cert m) → SSign.c (SCert.sig (SMsg.cert m) k) = SSign.c (SCert.sig (SMsg.cert m) k), false = true → false = true, q (SMsg.state m), q (SMsg.n m), ∀ (k : Nat), k < SMsg.n m → SSign.c (SMsg.sig m k) = SSign.c (SMsg.sig m k), false = true → false = true, q0, q0, q0, q1, q (SMsg.nheld m), ∀ (k : Nat), k < SMsg.nheld m → SHeld.c (SMsg.held m k) = SHeld.c (SMsg.held m k), false = true → false = true, q (↑(SMsg.nheld m) : Int), q1, RLoop Try.prog none 0 (cB (cB (cR (cL (cR (cR (cR (cR (bodyOf (Bd.f (bdLg m j))))))))))) (j + 1) (St.mk [.any, .ptr (.o 0) 0 0 0 0, .any, .int .i64 0, .any, .any, .any, .any, .any, .any, .any, .any, .any, .any, .any, .any, .any, .any, .any, .any, .any, .any, .any, .any, .any, .any, .any, .any, .any, .any, .any, .any, .any, .any, .any, .any, .any, .any, .any, .any, .any, .any, .any, .any, .any, .any, .any, .any, .any, .any, .any, .any, .any, .any, .any, .any, .any, .any, .any, .any, .any, .any, .any, .any, .any, .any, .any, .ros 18 (SMsg.nnews m) (fun i => SEnv.c (SMsg.news m i)) false, .int .i64 (↑(SMsg.nnews m) : Int), .int .i64 0, .any, .any, .any, .any, .any, .any, .any, .any, .any, .any, .any] [(.o 0, .flat (SMsg.c m))] 1 []) .ret (St.mk [.any, .any, .bool false, .any, .any, .any, .any, .any, .any, .any, .any, .any, .any, .any, .any, .any, .any, .any, .any, .any, .any, .any, .any, .any, .any, .any, .any, .any, .any, .any, .any, .any, .any, .any, .any, .any, .any, .any, .any, .any, .any, .any, .any, .any, .any, .any, .any, .any, .any, .any, .any, .any, .any, .any, .any, .any, .any, .any, .any, .any, .any, .any, .any, .any, .any, .any, .any, .any, .any, .any, .any, .any, .any, .any, .any, .any, .any, .any, .any, .any, .any] [] 0 []), q (SMsg.kind m), q (SMsg.epoch m), q (SMsg.leader m), q (SMsg.view m), q (SMsg.slot m), q (SBatch.noop (SMsg.batch m)), q (SBatch.n (SMsg.batch m)), ∀ (k : Nat), k < SBatch.n (SMsg.batch m) → SReq.c (SBatch.req (SMsg.batch m) k) = SReq.c (SBatch.req (SMsg.batch m) k), false = true → false = true, q (SVote.kind (SMsg.vote m)), q (SVote.epoch (SMsg.vote m)), q (SVote.view (SMsg.vote m)), q (SVote.slot (SMsg.vote m)), q (32 : Nat), q (SVote.digest (SMsg.vote m)), q (SMsg.cepoch m), q (SMsg.cleader m), q (SMsg.cview m), q (SMsg.nheld m), ∀ (k : Nat), k < SMsg.nheld m → SHeld.c (SMsg.held m k) = SHeld.c (SMsg.held m k), false = true → false = true, q (SMsg.nnews m), ∀ (k : Nat), k < SMsg.nnews m → SEnv.c (SMsg.news m k) = SEnv.c (SMsg.news m k), false = true → false = true, q (32 : Nat), q (SMsg.digest m), q (SVote.kind (SCert.vote (SMsg.cert m))), q (SVote.epoch (SCert.vote (SMsg.cert m))), q (SVote.view (SCert.vote (SMsg.cert m))), q (SVote.slot (SCert.vote (SMsg.cert m))), q (32 : Nat), q (SVote.digest (SCert.vote (SMsg.cert m))), q (SCert.n (SMsg.cert m)), ∀ (k : Nat), k < SCert.n (SMsg.cert m) → SSign.c (SCert.sig (SMsg.cert m) k) = SSign.c (SCert.sig (SMsg.cert m) k), false = true → false = true, q (SMsg.state m), q (SMsg.n m), ∀ (k : Nat), k < SMsg.n m → SSign.c (SMsg.sig m k) = SSign.c (SMsg.sig m k), false = true → false = true, q0, q0, q0, q1, q (SMsg.nnews m), ∀ (k : Nat), k < SMsg.nnews m → SEnv.c (SMsg.news m k) = SEnv.c (SMsg.news m k), false = true → false = true, q (↑(SMsg.nnews m) : Int), q1]) : Option (V × Heap × List Prop)) := by kernel_rfl
theorem bdLg_p0000000 (m : SMsg) (j : Nat) :
  along Try.prog (bdLg m j) [false, false, false, false, false, false, false] = (some (.bool false, [], [T Try.prog 47 [.sl (.o 256) 2 0 0 0 1 (some 1)] [(.o 256, .rows 2 1 (getL [(SBatch.c (SMsg.batch m))]) false)] (.bool (lightB (SMsg.batch m))) [(.o 256, .rows 2 1 (getL [(SBatch.c (SMsg.batch m))]) false)], (!lightB (SMsg.batch m)) = false, decide ((6000 : Int) < (↑(ByteArray.size (SMsg.state m)) : Int)) = false, decide ((100 : Int) < (↑(SMsg.n m) : Int)) = false, decide ((100 : Int) < (↑(SCert.n (SMsg.cert m)) : Int)) = false, decide ((20 : Int) < (↑(SMsg.nheld m) : Int)) = false, decide ((100 : Int) < (↑(SMsg.nnews m) : Int)) = false, RLoop Try.prog none 0 (cB (cB (cR (cL (cR (cR (cR (bodyOf (Bd.f (bdLg m j)))))))))) (j + 1) (St.mk [.any, .ptr (.o 0) 0 0 0 0, .any, .int .i64 0, .any, .any, .any, .any, .any, .any, .any, .any, .any, .any, .any, .any, .any, .any, .any, .any, .any, .any, .any, .any, .any, .any, .any, .any, .any, .any, .any, .any, .any, .any, .any, .any, .any, .any, .any, .any, .any, .any, .any, .any, .any, .any, .any, .ros 39 (SMsg.nheld m) (fun i => SHeld.c (SMsg.held m i)) false, .int .i64 (↑(SMsg.nheld m) : Int), .int .i64 0, .any, .any, .any, .any, .any, .any, .any, .any, .any, .any, .any, .any, .any, .any, .any, .any, .any, .any, .any, .any, .any, .any, .any, .any, .any, .any, .any, .any, .any, .any, .any] [(.o 0, .flat (SMsg.c m))] 1 []) .ret (St.mk [.any, .any, .bool false, .any, .any, .any, .any, .any, .any, .any, .any, .any, .any, .any, .any, .any, .any, .any, .any, .any, .any, .any, .any, .any, .any, .any, .any, .any, .any, .any, .any, .any, .any, .any, .any, .any, .any, .any, .any, .any, .any, .any, .any, .any, .any, .any, .any, .any, .any, .any, .any, .any, .any, .any, .any, .any, .any, .any, .any, .any, .any, .any, .any, .any, .any, .any, .any, .any, .any, .any, .any, .any, .any, .any, .any, .any, .any, .any, .any, .any, .any] [] 0 []), q (SMsg.kind m), q (SMsg.epoch m), q (SMsg.leader m), q (SMsg.view m), q (SMsg.slot m), q (SBatch.noop (SMsg.batch m)), q (SBatch.n (SMsg.batch m)), ∀ (k : Nat), k < SBatch.n (SMsg.batch m) → SReq.c (SBatch.req (SMsg.batch m) k) = SReq.c (SBatch.req (SMsg.batch m) k), false = true → false = true, q (SVote.kind (SMsg.vote m)), q (SVote.epoch (SMsg.vote m)), q (SVote.view (SMsg.vote m)), q (SVote.slot (SMsg.vote m)), q (32 : Nat), q (SVote.digest (SMsg.vote m)), q (SMsg.cepoch m), q (SMsg.cleader m), q (SMsg.cview m), q (SMsg.nheld m), ∀ (k : Nat), k < SMsg.nheld m → SHeld.c (SMsg.held m k) = SHeld.c (SMsg.held m k), false = true → false = true, q (SMsg.nnews m), ∀ (k : Nat), k < SMsg.nnews m → SEnv.c (SMsg.news m k) = SEnv.c (SMsg.news m k), false = true → false = true, q (32 : Nat), q (SMsg.digest m), q (SVote.kind (SCert.vote (SMsg.cert m))), q (SVote.epoch (SCert.vote (SMsg.cert m))), q (SVote.view (SCert.vote (SMsg.cert m))), q (SVote.slot (SCert.vote (SMsg.cert m))), q (32 : Nat), q (SVote.digest (SCert.vote (SMsg.cert m))), q (SCert.n (SMsg.cert m)), ∀ (k : Nat), k < SCert.n (SMsg.cert m) → SSign.c (SCert.sig (SMsg.cert m) k) = SSign.c (SCert.sig (SMsg.cert m) k), false = true → false = true, q (SMsg.state m), q (SMsg.n m), ∀ (k : Nat), k < SMsg.n m → SSign.c (SMsg.sig m k) = SSign.c (SMsg.sig m k), false = true → false = true, q0, q0, q0, q1, q (SMsg.nheld m), ∀ (k : Nat), k < SMsg.nheld m → SHeld.c (SMsg.held m k) = SHeld.c (SMsg.held m k), false = true → false = true, q (↑(SMsg.nheld m) : Int), q1]) : Option (V × Heap × List Prop)) := by kernel_rfl

theorem pcLg1_p111 (m : SMsg) (k : Nat) :
  alongPc Try.prog (pcLg1 m k) [true, true, true] = (some (.ret, St.mk [.any, .any, .bool false, .any, .any, .any, .any, .any, .any, .any, .any, .any, .any, .any, .any, .any, .any, .any, .any, .any, .any, .any, .any, .any, .any, .any, .any, .any, .any, .any, .any, .any, .any, .any, .any, .any, .any, .any, .any, .any, .any, .any, .any, .any, .any, .any, .any, .any, .any, .any, .any, .any, .any, .any, .any, .any, .any, .any, .any, .any, .any, .any, .any, .any, .any, .any, .any, .any, .any, .any, .any, .any, .any, .any, .any, .any, .any, .any, .any, .any, .any] [] 0 [], [decide ((↑k : Int) < (↑(SMsg.nheld m) : Int)) = true, (0 : Int) ≤ (↑k : Int) ∧ (↑k : Int) < (↑(SMsg.nheld m) : Int), T Try.prog 47 [.sl (.o 449) 2 0 0 0 1 (some 1)] [(.o 449, .rows 2 1 (getL [[.bool (SBatch.noop (SHeld.batch (SMsg.held m (Int.toNat (↑k : Int))))), rq (SBatch.n (SHeld.batch (SMsg.held m (Int.toNat (↑k : Int))))) (SBatch.req (SHeld.batch (SMsg.held m (Int.toNat (↑k : Int)))))]]) false)] (.bool (lightB (SHeld.batch (SMsg.held m k)))) [(.o 449, .rows 2 1 (getL [[.bool (SBatch.noop (SHeld.batch (SMsg.held m (Int.toNat (↑k : Int))))), rq (SBatch.n (SHeld.batch (SMsg.held m (Int.toNat (↑k : Int))))) (SBatch.req (SHeld.batch (SMsg.held m (Int.toNat (↑k : Int)))))]]) false)], (!lightB (SHeld.batch (SMsg.held m k))) = true, q2, q false]) : Option (Exit × St × List Prop)) := by kernel_rfl
theorem pcLg1_p101 (m : SMsg) (k : Nat) :
  alongPc Try.prog (pcLg1 m k) [true, false, true] = (some (.ret, St.mk [.any, .any, .bool false, .any, .any, .any, .any, .any, .any, .any, .any, .any, .any, .any, .any, .any, .any, .any, .any, .any, .any, .any, .any, .any, .any, .any, .any, .any, .any, .any, .any, .any, .any, .any, .any, .any, .any, .any, .any, .any, .any, .any, .any, .any, .any, .any, .any, .any, .any, .any, .any, .any, .any, .any, .any, .any, .any, .any, .any, .any, .any, .any, .any, .any, .any, .any, .any, .any, .any, .any, .any, .any, .any, .any, .any, .any, .any, .any, .any, .any, .any] [] 0 [], [decide ((↑k : Int) < (↑(SMsg.nheld m) : Int)) = true, (0 : Int) ≤ (↑k : Int) ∧ (↑k : Int) < (↑(SMsg.nheld m) : Int), T Try.prog 47 [.sl (.o 449) 2 0 0 0 1 (some 1)] [(.o 449, .rows 2 1 (getL [[.bool (SBatch.noop (SHeld.batch (SMsg.held m (Int.toNat (↑k : Int))))), rq (SBatch.n (SHeld.batch (SMsg.held m (Int.toNat (↑k : Int))))) (SBatch.req (SHeld.batch (SMsg.held m (Int.toNat (↑k : Int)))))]]) false)] (.bool (lightB (SHeld.batch (SMsg.held m k)))) [(.o 449, .rows 2 1 (getL [[.bool (SBatch.noop (SHeld.batch (SMsg.held m (Int.toNat (↑k : Int))))), rq (SBatch.n (SHeld.batch (SMsg.held m (Int.toNat (↑k : Int))))) (SBatch.req (SHeld.batch (SMsg.held m (Int.toNat (↑k : Int)))))]]) false)], (!lightB (SHeld.batch (SMsg.held m k))) = false, decide ((100 : Int) < (↑(SCert.n (SHeld.cert (SMsg.held m (Int.toNat (↑k : Int))))) : Int)) = true, q false]) : Option (Exit × St × List Prop)) := by kernel_rfl
theorem pcLg1_p100 (m : SMsg) (k : Nat) :
  alongPc Try.prog (pcLg1 m k) [true, false, false] = (some (.normal, St.mk [.any, .ptr (.o 0) 0 0 0 0, .any, .int .i64 0, .any, .any, .any, .any, .any, .any, .any, .any, .any, .any, .any, .any, .any, .any, .any, .any, .any, .any, .any, .any, .any, .any, .any, .any, .any, .any, .any, .any, .any, .any, .any, .any, .any, .any, .any, .any, .any, .any, .any, .any, .any, .any, .any, .ros 39 (SMsg.nheld m) (fun i => SHeld.c (SMsg.held m i)) false, .int .i64 (↑(SMsg.nheld m) : Int), .int .i64 (↑(k + 1) : Int), .any, .any, .any, .any, .any, .any, .any, .any, .any, .any, .any, .any, .any, .any, .any, .any, .any, .any, .any, .any, .any, .any, .any, .any, .any, .any, .any, .any, .any, .any, .any] [(.o 0, .flat (SMsg.c m))] 1 [], [decide ((↑k : Int) < (↑(SMsg.nheld m) : Int)) = true, (0 : Int) ≤ (↑k : Int) ∧ (↑k : Int) < (↑(SMsg.nheld m) : Int), T Try.prog 47 [.sl (.o 449) 2 0 0 0 1 (some 1)] [(.o 449, .rows 2 1 (getL [[.bool (SBatch.noop (SHeld.batch (SMsg.held m (Int.toNat (↑k : Int))))), rq (SBatch.n (SHeld.batch (SMsg.held m (Int.toNat (↑k : Int))))) (SBatch.req (SHeld.batch (SMsg.held m (Int.toNat (↑k : Int)))))]]) false)] (.bool (lightB (SHeld.batch (SMsg.held m k)))) [(.o 449, .rows 2 1 (getL [[.bool (SBatch.noop (SHeld.batch (SMsg.held m (Int.toNat (↑k : Int))))), rq (SBatch.n (SHeld.batch (SMsg.held m (Int.toNat (↑k : Int))))) (SBatch.req (SHeld.batch (SMsg.held m (Int.toNat (↑k : Int)))))]]) false)], (!lightB (SHeld.batch (SMsg.held m k))) = false, decide ((100 : Int) < (↑(SCert.n (SHeld.cert (SMsg.held m (Int.toNat (↑k : Int))))) : Int)) = false, InR IntKind.i64 ((↑k : Int) + (1 : Int)), q (SMsg.kind m), q (SMsg.epoch m), q (SMsg.leader m), q (SMsg.view m), q (SMsg.slot m), q (SBatch.noop (SMsg.batch m)), q (SBatch.n (SMsg.batch m)), ∀ (k : Nat), k < SBatch.n (SMsg.batch m) → SReq.c (SBatch.req (SMsg.batch m) k) = SReq.c (SBatch.req (SMsg.batch m) k), false = true → false = true, q (SVote.kind (SMsg.vote m)), q (SVote.epoch (SMsg.vote m)), q (SVote.view (SMsg.vote m)), q (SVote.slot (SMsg.vote m)), q (32 : Nat), q (SVote.digest (SMsg.vote m)), q (SMsg.cepoch m), q (SMsg.cleader m), q (SMsg.cview m), q (SMsg.nheld m), ∀ (k : Nat), k < SMsg.nheld m → SHeld.c (SMsg.held m k) = SHeld.c (SMsg.held m k), false = true → false = true, q (SMsg.nnews m), ∀ (k : Nat), k < SMsg.nnews m → SEnv.c (SMsg.news m k) = SEnv.c (SMsg.news m k), false = true → false = true, q (32 : Nat), q (SMsg.digest m), q (SVote.kind (SCert.vote (SMsg.cert m))), q (SVote.epoch (SCert.vote (SMsg.cert m))), q (SVote.view (SCert.vote (SMsg.cert m))), q (SVote.slot (SCert.vote (SMsg.cert m))), q (32 : Nat), q (SVote.digest (SCert.vote (SMsg.cert m))), q (SCert.n (SMsg.cert m)), ∀ (k : Nat), k < SCert.n (SMsg.cert m) → SSign.c (SCert.sig (SMsg.cert m) k) = SSign.c (SCert.sig (SMsg.cert m) k), false = true → false = true, q (SMsg.state m), q (SMsg.n m), ∀ (k : Nat), k < SMsg.n m → SSign.c (SMsg.sig m k) = SSign.c (SMsg.sig m k), false = true → false = true, q0, q0, q0, q1, q (SMsg.nheld m), ∀ (k : Nat), k < SMsg.nheld m → SHeld.c (SMsg.held m k) = SHeld.c (SMsg.held m k), false = true → false = true, q (↑(SMsg.nheld m) : Int), (↑k : Int) + (1 : Int) = (↑(k + (1 : Nat)) : Int)]) : Option (Exit × St × List Prop)) := by kernel_rfl
theorem pcLg1_p0 (m : SMsg) (k : Nat) :
  alongPc Try.prog (pcLg1 m k) [false] = (some (.exit 0, St.mk [.any, .ptr (.o 0) 0 0 0 0, .any, .int .i64 0, .any, .any, .any, .any, .any, .any, .any, .any, .any, .any, .any, .any, .any, .any, .any, .any, .any, .any, .any, .any, .any, .any, .any, .any, .any, .any, .any, .any, .any, .any, .any, .any, .any, .any, .any, .any, .any, .any, .any, .any, .any, .any, .any, .ros 39 (SMsg.nheld m) (fun i => SHeld.c (SMsg.held m i)) false, .int .i64 (↑(SMsg.nheld m) : Int), .int .i64 (↑(SMsg.nheld m) : Int), .any, .any, .any, .any, .any, .any, .any, .any, .any, .any, .any, .any, .any, .any, .any, .any, .any, .any, .any, .any, .any, .any, .any, .any, .any, .any, .any, .any, .any, .any, .any] [(.o 0, .flat (SMsg.c m))] 1 [], [decide ((↑k : Int) < (↑(SMsg.nheld m) : Int)) = false, q (SMsg.kind m), q (SMsg.epoch m), q (SMsg.leader m), q (SMsg.view m), q (SMsg.slot m), q (SBatch.noop (SMsg.batch m)), q (SBatch.n (SMsg.batch m)), ∀ (k : Nat), k < SBatch.n (SMsg.batch m) → SReq.c (SBatch.req (SMsg.batch m) k) = SReq.c (SBatch.req (SMsg.batch m) k), false = true → false = true, q (SVote.kind (SMsg.vote m)), q (SVote.epoch (SMsg.vote m)), q (SVote.view (SMsg.vote m)), q (SVote.slot (SMsg.vote m)), q (32 : Nat), q (SVote.digest (SMsg.vote m)), q (SMsg.cepoch m), q (SMsg.cleader m), q (SMsg.cview m), q (SMsg.nheld m), ∀ (k : Nat), k < SMsg.nheld m → SHeld.c (SMsg.held m k) = SHeld.c (SMsg.held m k), false = true → false = true, q (SMsg.nnews m), ∀ (k : Nat), k < SMsg.nnews m → SEnv.c (SMsg.news m k) = SEnv.c (SMsg.news m k), false = true → false = true, q (32 : Nat), q (SMsg.digest m), q (SVote.kind (SCert.vote (SMsg.cert m))), q (SVote.epoch (SCert.vote (SMsg.cert m))), q (SVote.view (SCert.vote (SMsg.cert m))), q (SVote.slot (SCert.vote (SMsg.cert m))), q (32 : Nat), q (SVote.digest (SCert.vote (SMsg.cert m))), q (SCert.n (SMsg.cert m)), ∀ (k : Nat), k < SCert.n (SMsg.cert m) → SSign.c (SCert.sig (SMsg.cert m) k) = SSign.c (SCert.sig (SMsg.cert m) k), false = true → false = true, q (SMsg.state m), q (SMsg.n m), ∀ (k : Nat), k < SMsg.n m → SSign.c (SMsg.sig m k) = SSign.c (SMsg.sig m k), false = true → false = true, q0, q0, q0, q1, q (SMsg.nheld m), ∀ (k : Nat), k < SMsg.nheld m → SHeld.c (SMsg.held m k) = SHeld.c (SMsg.held m k), false = true → false = true, q (↑(SMsg.nheld m) : Int), (↑k : Int) = (↑(SMsg.nheld m) : Int)]) : Option (Exit × St × List Prop)) := by kernel_rfl

theorem pcLg2_p11 (m : SMsg) (k : Nat) :
  alongPc Try.prog (pcLg2 m k) [true, true] = (some (.ret, St.mk [.any, .any, .bool false, .any, .any, .any, .any, .any, .any, .any, .any, .any, .any, .any, .any, .any, .any, .any, .any, .any, .any, .any, .any, .any, .any, .any, .any, .any, .any, .any, .any, .any, .any, .any, .any, .any, .any, .any, .any, .any, .any, .any, .any, .any, .any, .any, .any, .any, .any, .any, .any, .any, .any, .any, .any, .any, .any, .any, .any, .any, .any, .any, .any, .any, .any, .any, .any, .any, .any, .any, .any, .any, .any, .any, .any, .any, .any, .any, .any, .any, .any] [] 0 [], [decide ((↑k : Int) < (↑(SMsg.nnews m) : Int)) = true, (0 : Int) ≤ (↑k : Int) ∧ (↑k : Int) < (↑(SMsg.nnews m) : Int), T Try.prog 48 [.int .i64 (sumN (SMsg.news m) k), .int .i64 (↑(ByteArray.size (SEnv.body (SMsg.news m (Int.toNat (↑k : Int))))) : Int), .int .i64 6000] [] (.int .i64 (sumN (SMsg.news m) (k + 1))) [], decide ((6000 : Int) < sumN (SMsg.news m) (k + (1 : Nat))) = true, q false]) : Option (Exit × St × List Prop)) := by kernel_rfl
theorem pcLg2_p10 (m : SMsg) (k : Nat) :
  alongPc Try.prog (pcLg2 m k) [true, false] = (some (.normal, St.mk [.any, .ptr (.o 0) 0 0 0 0, .any, .int .i64 (sumN (SMsg.news m) (k + 1)), .any, .any, .any, .any, .any, .any, .any, .any, .any, .any, .any, .any, .any, .any, .any, .any, .any, .any, .any, .any, .any, .any, .any, .any, .any, .any, .any, .any, .any, .any, .any, .any, .any, .any, .any, .any, .any, .any, .any, .any, .any, .any, .any, .any, .any, .any, .any, .any, .any, .any, .any, .any, .any, .any, .any, .any, .any, .any, .any, .any, .any, .any, .any, .ros 18 (SMsg.nnews m) (fun i => SEnv.c (SMsg.news m i)) false, .int .i64 (↑(SMsg.nnews m) : Int), .int .i64 (↑(k + 1) : Int), .any, .any, .any, .any, .any, .any, .any, .any, .any, .any, .any] [(.o 0, .flat (SMsg.c m))] 1 [], [decide ((↑k : Int) < (↑(SMsg.nnews m) : Int)) = true, (0 : Int) ≤ (↑k : Int) ∧ (↑k : Int) < (↑(SMsg.nnews m) : Int), T Try.prog 48 [.int .i64 (sumN (SMsg.news m) k), .int .i64 (↑(ByteArray.size (SEnv.body (SMsg.news m (Int.toNat (↑k : Int))))) : Int), .int .i64 6000] [] (.int .i64 (sumN (SMsg.news m) (k + 1))) [], decide ((6000 : Int) < sumN (SMsg.news m) (k + (1 : Nat))) = false, InR IntKind.i64 ((↑k : Int) + (1 : Int)), q (SMsg.kind m), q (SMsg.epoch m), q (SMsg.leader m), q (SMsg.view m), q (SMsg.slot m), q (SBatch.noop (SMsg.batch m)), q (SBatch.n (SMsg.batch m)), ∀ (k : Nat), k < SBatch.n (SMsg.batch m) → SReq.c (SBatch.req (SMsg.batch m) k) = SReq.c (SBatch.req (SMsg.batch m) k), false = true → false = true, q (SVote.kind (SMsg.vote m)), q (SVote.epoch (SMsg.vote m)), q (SVote.view (SMsg.vote m)), q (SVote.slot (SMsg.vote m)), q (32 : Nat), q (SVote.digest (SMsg.vote m)), q (SMsg.cepoch m), q (SMsg.cleader m), q (SMsg.cview m), q (SMsg.nheld m), ∀ (k : Nat), k < SMsg.nheld m → SHeld.c (SMsg.held m k) = SHeld.c (SMsg.held m k), false = true → false = true, q (SMsg.nnews m), ∀ (k : Nat), k < SMsg.nnews m → SEnv.c (SMsg.news m k) = SEnv.c (SMsg.news m k), false = true → false = true, q (32 : Nat), q (SMsg.digest m), q (SVote.kind (SCert.vote (SMsg.cert m))), q (SVote.epoch (SCert.vote (SMsg.cert m))), q (SVote.view (SCert.vote (SMsg.cert m))), q (SVote.slot (SCert.vote (SMsg.cert m))), q (32 : Nat), q (SVote.digest (SCert.vote (SMsg.cert m))), q (SCert.n (SMsg.cert m)), ∀ (k : Nat), k < SCert.n (SMsg.cert m) → SSign.c (SCert.sig (SMsg.cert m) k) = SSign.c (SCert.sig (SMsg.cert m) k), false = true → false = true, q (SMsg.state m), q (SMsg.n m), ∀ (k : Nat), k < SMsg.n m → SSign.c (SMsg.sig m k) = SSign.c (SMsg.sig m k), false = true → false = true, q0, q0, q0, q (sumN (SMsg.news m) (k + (1 : Nat))), q (SMsg.nnews m), ∀ (k : Nat), k < SMsg.nnews m → SEnv.c (SMsg.news m k) = SEnv.c (SMsg.news m k), false = true → false = true, q (↑(SMsg.nnews m) : Int), (↑k : Int) + (1 : Int) = (↑(k + (1 : Nat)) : Int)]) : Option (Exit × St × List Prop)) := by kernel_rfl
theorem pcLg2_p0 (m : SMsg) (k : Nat) :
  alongPc Try.prog (pcLg2 m k) [false] = (some (.exit 2, St.mk [.any, .ptr (.o 0) 0 0 0 0, .any, .int .i64 (sumN (SMsg.news m) (SMsg.nnews m)), .any, .any, .any, .any, .any, .any, .any, .any, .any, .any, .any, .any, .any, .any, .any, .any, .any, .any, .any, .any, .any, .any, .any, .any, .any, .any, .any, .any, .any, .any, .any, .any, .any, .any, .any, .any, .any, .any, .any, .any, .any, .any, .any, .any, .any, .any, .any, .any, .any, .any, .any, .any, .any, .any, .any, .any, .any, .any, .any, .any, .any, .any, .any, .ros 18 (SMsg.nnews m) (fun i => SEnv.c (SMsg.news m i)) false, .int .i64 (↑(SMsg.nnews m) : Int), .int .i64 (↑(SMsg.nnews m) : Int), .any, .any, .any, .any, .any, .any, .any, .any, .any, .any, .any] [(.o 0, .flat (SMsg.c m))] 1 [], [decide ((↑k : Int) < (↑(SMsg.nnews m) : Int)) = false, q (SMsg.kind m), q (SMsg.epoch m), q (SMsg.leader m), q (SMsg.view m), q (SMsg.slot m), q (SBatch.noop (SMsg.batch m)), q (SBatch.n (SMsg.batch m)), ∀ (k : Nat), k < SBatch.n (SMsg.batch m) → SReq.c (SBatch.req (SMsg.batch m) k) = SReq.c (SBatch.req (SMsg.batch m) k), false = true → false = true, q (SVote.kind (SMsg.vote m)), q (SVote.epoch (SMsg.vote m)), q (SVote.view (SMsg.vote m)), q (SVote.slot (SMsg.vote m)), q (32 : Nat), q (SVote.digest (SMsg.vote m)), q (SMsg.cepoch m), q (SMsg.cleader m), q (SMsg.cview m), q (SMsg.nheld m), ∀ (k : Nat), k < SMsg.nheld m → SHeld.c (SMsg.held m k) = SHeld.c (SMsg.held m k), false = true → false = true, q (SMsg.nnews m), ∀ (k : Nat), k < SMsg.nnews m → SEnv.c (SMsg.news m k) = SEnv.c (SMsg.news m k), false = true → false = true, q (32 : Nat), q (SMsg.digest m), q (SVote.kind (SCert.vote (SMsg.cert m))), q (SVote.epoch (SCert.vote (SMsg.cert m))), q (SVote.view (SCert.vote (SMsg.cert m))), q (SVote.slot (SCert.vote (SMsg.cert m))), q (32 : Nat), q (SVote.digest (SCert.vote (SMsg.cert m))), q (SCert.n (SMsg.cert m)), ∀ (k : Nat), k < SCert.n (SMsg.cert m) → SSign.c (SCert.sig (SMsg.cert m) k) = SSign.c (SCert.sig (SMsg.cert m) k), false = true → false = true, q (SMsg.state m), q (SMsg.n m), ∀ (k : Nat), k < SMsg.n m → SSign.c (SMsg.sig m k) = SSign.c (SMsg.sig m k), false = true → false = true, q0, q0, q0, sumN (SMsg.news m) k = sumN (SMsg.news m) (SMsg.nnews m), q (SMsg.nnews m), ∀ (k : Nat), k < SMsg.nnews m → SEnv.c (SMsg.news m k) = SEnv.c (SMsg.news m k), false = true → false = true, q (↑(SMsg.nnews m) : Int), (↑k : Int) = (↑(SMsg.nnews m) : Int)]) : Option (Exit × St × List Prop)) := by kernel_rfl

theorem T_addG {n more most : Int} (h1 : 0 ≤ n) (h2 : 0 ≤ more) (h3 : more ≤ 9223372036854775807) (h4 : 0 ≤ most) (h5 : most ≤ 1000000000000) : T Try.prog 48 [.int .i64 n, .int .i64 more, .int .i64 most] [] (.int .i64 (addS n more most)) [] := by
 by_cases a : most < n
 ·exact T.val (T_along NG MO _ (bdAdd_p111 n more most) Try.func48 (by kernel_rfl) (by simp [All, InR64, a] <;> omega) (pinH_ok (by kernel_rfl)) (by kernel_rfl)) (by simp [addS, a])
 by_cases b : most < more
 ·exact T.val (T_along NG MO _ (bdAdd_p011 n more most) Try.func48 (by kernel_rfl) (by simp [All, InR64, a, b] <;> omega) (pinH_ok (by kernel_rfl)) (by kernel_rfl)) (by simp [addS, b])
 by_cases c : most - more < n
 ·exact T.val (T_along NG MO _ (bdAdd_p001 n more most) Try.func48 (by kernel_rfl) (by simp [All, InR64, a, b, c] <;> omega) (pinH_ok (by kernel_rfl)) (by kernel_rfl)) (by simp [addS, c])
 ·exact T.val (T_along NG MO _ (bdAdd_p000 n more most) Try.func48 (by kernel_rfl) (by simp [All, InR64, a, b, c] <;> omega) (pinH_ok (by kernel_rfl)) (by kernel_rfl)) (by simp [addS, a, b, c])
theorem addS_nonneg {n more most : Int} (h1 : 0 ≤ n) (h2 : 0 ≤ more) (h3 : 0 ≤ most) : 0 ≤ addS n more most := by
 unfold addS; split <;> omega
theorem sumN_nonneg (e : Nat → SEnv) : ∀ k, 0 ≤ sumN e k
 | 0 => by simp [sumN]
 | k + 1 => addS_nonneg (sumN_nonneg e k) (by omega) (by omega)
/-- What a machine can have. -/
structure FitB (b : SBatch) : Prop where
 n : b.n ≤ 9223372036854775807
 data : ∀ k, k < b.n → (b.req k).data.size ≤ 9223372036854775807
structure FitMsg (m : SMsg) : Prop where
 batch : FitB m.batch
 held : ∀ k, k < m.nheld → FitB (m.held k).batch
 news : ∀ k, k < m.nnews → (m.news k).body.size ≤ 9223372036854775807
 nheld : m.nheld ≤ 9223372036854775807
 nnews : m.nnews ≤ 9223372036854775807
theorem okHd1 {h : SHeld} (h1 : okHd h = true) : lightB h.batch = true ∧ h.cert.n ≤ 100 := by simpa [okHd] using h1
def HL1 (m : SMsg) : Prop := ((∀ k, k < m.nheld → okHd (m.held k) = true) ∧ RLoop Try.prog none 0 (cB (cB (cR (cL (cR (cR (cR (bodyOf Try.f19)))))))) (m.nheld + 1) (lg1I m 0) (.exit 0) (lg1I m m.nheld)) ∨ ∃ j, j < m.nheld ∧ (∀ k, k < j → okHd (m.held k) = true) ∧ ¬ okHd (m.held j) = true ∧ RLoop Try.prog none 0 (cB (cB (cR (cL (cR (cR (cR (bodyOf Try.f19)))))))) (j + 1) (lg1I m 0) .ret (smF 2 81)
def HL2 (m : SMsg) : Prop := ((∀ k, k < m.nnews → sumN m.news (k + 1) ≤ 6000) ∧ RLoop Try.prog none 0 (cB (cB (cR (cL (cR (cR (cR (cR (bodyOf Try.f19))))))))) (m.nnews + 1) (lg2I m 0) (.exit 2) (lg2I m m.nnews)) ∨ ∃ j, j < m.nnews ∧ (∀ k, k < j → sumN m.news (k + 1) ≤ 6000) ∧ ¬ sumN m.news (j + 1) ≤ 6000 ∧ RLoop Try.prog none 0 (cB (cB (cR (cL (cR (cR (cR (cR (bodyOf Try.f19))))))))) (j + 1) (lg2I m 0) .ret (smF 2 81)
theorem T_lightM1 (m : SMsg) (hf : FitMsg m) (hL1 : HL1 m) (hL2 : HL2 m) : T Try.prog 19 [.agg m.c] [] (.bool (lightMS m)) [] := by
 rcases Bool.eq_false_or_eq_true ((!lightB (SMsg.batch m))) with h1 | h1
 ·
  refine T.conv (T_along NG MO _ (bdLg_p111111 m 0) Try.func19 (by kernel_rfl) ?_ (pinH_ok (by kernel_rfl)) (by kernel_rfl)) rfl rfl ?_ ?_
  ·simp only [All]; and_intros
   all_goals first
    | assumption
    | exact T_light m.batch hf.batch.data hf.batch.n _
    | exact gL
    | exact gL2
    | trivial
    | rfl
    | (intro _ _; trivial)
    | (intro _ _; rfl)
    | (simp; done)
    | omega
  ·(try simp only [Bool.not_eq_true', Bool.not_eq_false', decide_eq_true_eq, decide_eq_false_iff_not, Int.not_lt] at *); (congr 1; first
    | (have : ¬ ∀ i, i < m.nheld → okHd (m.held i) = true := fun h => gq (h j hj)
       simp only [lightMS, this, decide_false, Bool.false_and, Bool.and_false]; done)
    | (have : ¬ ∀ i, i < m.nnews → sumN m.news (i + 1) ≤ 6000 := fun h => gq2 (h j hj)
       simp only [lightMS, this, decide_false, Bool.false_and, Bool.and_false]; done)
    | (simp only [lightMS, h1, Bool.false_and]; done)
    | (have a2 : m.state.size ≤ 6000 := by omega
       have a3 : m.n ≤ 100 := by omega
       have a4 : m.cert.n ≤ 100 := by omega
       have a5 : m.nheld ≤ 20 := by omega
       have a6 : m.nnews ≤ 100 := by omega
       have b1 : decide (∀ i, i < m.nheld → okHd (m.held i) = true) = true := decide_eq_true g
       have b2 : decide (∀ i, i < m.nnews → sumN m.news (i + 1) ≤ 6000) = true := decide_eq_true g2
       simp only [lightMS, h1, a2, a3, a4, a5, a6, b1, b2, decide_true, Bool.and_self]; done)
    | (rw [eq_comm, Bool.eq_false_iff]; intro hh; simp only [lightMS, Bool.and_eq_true, decide_eq_true_eq] at hh; omega))
  ·rfl
 ·
  rcases Bool.eq_false_or_eq_true (decide ((6000 : Int) < (↑(ByteArray.size (SMsg.state m)) : Int))) with h2 | h2
  ·
   refine T.conv (T_along NG MO _ (bdLg_p011111 m 0) Try.func19 (by kernel_rfl) ?_ (pinH_ok (by kernel_rfl)) (by kernel_rfl)) rfl rfl ?_ ?_
   ·simp only [All]; and_intros
    all_goals first
     | assumption
     | exact T_light m.batch hf.batch.data hf.batch.n _
     | exact gL
     | exact gL2
     | trivial
     | rfl
     | (intro _ _; trivial)
     | (intro _ _; rfl)
     | (simp; done)
     | omega
   ·(try simp only [Bool.not_eq_true', Bool.not_eq_false', decide_eq_true_eq, decide_eq_false_iff_not, Int.not_lt] at *); (congr 1; first
     | (have : ¬ ∀ i, i < m.nheld → okHd (m.held i) = true := fun h => gq (h j hj)
        simp only [lightMS, this, decide_false, Bool.false_and, Bool.and_false]; done)
     | (have : ¬ ∀ i, i < m.nnews → sumN m.news (i + 1) ≤ 6000 := fun h => gq2 (h j hj)
        simp only [lightMS, this, decide_false, Bool.false_and, Bool.and_false]; done)
     | (simp only [lightMS, h1, Bool.false_and]; done)
     | (have a2 : m.state.size ≤ 6000 := by omega
        have a3 : m.n ≤ 100 := by omega
        have a4 : m.cert.n ≤ 100 := by omega
        have a5 : m.nheld ≤ 20 := by omega
        have a6 : m.nnews ≤ 100 := by omega
        have b1 : decide (∀ i, i < m.nheld → okHd (m.held i) = true) = true := decide_eq_true g
        have b2 : decide (∀ i, i < m.nnews → sumN m.news (i + 1) ≤ 6000) = true := decide_eq_true g2
        simp only [lightMS, h1, a2, a3, a4, a5, a6, b1, b2, decide_true, Bool.and_self]; done)
     | (rw [eq_comm, Bool.eq_false_iff]; intro hh; simp only [lightMS, Bool.and_eq_true, decide_eq_true_eq] at hh; omega))
   ·rfl
  ·
   rcases Bool.eq_false_or_eq_true (decide ((100 : Int) < (↑(SMsg.n m) : Int))) with h3 | h3
   ·
    refine T.conv (T_along NG MO _ (bdLg_p001111 m 0) Try.func19 (by kernel_rfl) ?_ (pinH_ok (by kernel_rfl)) (by kernel_rfl)) rfl rfl ?_ ?_
    ·simp only [All]; and_intros
     all_goals first
      | assumption
      | exact T_light m.batch hf.batch.data hf.batch.n _
      | exact gL
      | exact gL2
      | trivial
      | rfl
      | (intro _ _; trivial)
      | (intro _ _; rfl)
      | (simp; done)
      | omega
    ·(try simp only [Bool.not_eq_true', Bool.not_eq_false', decide_eq_true_eq, decide_eq_false_iff_not, Int.not_lt] at *); (congr 1; first
      | (have : ¬ ∀ i, i < m.nheld → okHd (m.held i) = true := fun h => gq (h j hj)
         simp only [lightMS, this, decide_false, Bool.false_and, Bool.and_false]; done)
      | (have : ¬ ∀ i, i < m.nnews → sumN m.news (i + 1) ≤ 6000 := fun h => gq2 (h j hj)
         simp only [lightMS, this, decide_false, Bool.false_and, Bool.and_false]; done)
      | (simp only [lightMS, h1, Bool.false_and]; done)
      | (have a2 : m.state.size ≤ 6000 := by omega
         have a3 : m.n ≤ 100 := by omega
         have a4 : m.cert.n ≤ 100 := by omega
         have a5 : m.nheld ≤ 20 := by omega
         have a6 : m.nnews ≤ 100 := by omega
         have b1 : decide (∀ i, i < m.nheld → okHd (m.held i) = true) = true := decide_eq_true g
         have b2 : decide (∀ i, i < m.nnews → sumN m.news (i + 1) ≤ 6000) = true := decide_eq_true g2
         simp only [lightMS, h1, a2, a3, a4, a5, a6, b1, b2, decide_true, Bool.and_self]; done)
      | (rw [eq_comm, Bool.eq_false_iff]; intro hh; simp only [lightMS, Bool.and_eq_true, decide_eq_true_eq] at hh; omega))
    ·rfl
   ·
    rcases Bool.eq_false_or_eq_true (decide ((100 : Int) < (↑(SCert.n (SMsg.cert m)) : Int))) with h4 | h4
    ·
     refine T.conv (T_along NG MO _ (bdLg_p000111 m 0) Try.func19 (by kernel_rfl) ?_ (pinH_ok (by kernel_rfl)) (by kernel_rfl)) rfl rfl ?_ ?_
     ·simp only [All]; and_intros
      all_goals first
       | assumption
       | exact T_light m.batch hf.batch.data hf.batch.n _
       | exact gL
       | exact gL2
       | trivial
       | rfl
       | (intro _ _; trivial)
       | (intro _ _; rfl)
       | (simp; done)
       | omega
     ·(try simp only [Bool.not_eq_true', Bool.not_eq_false', decide_eq_true_eq, decide_eq_false_iff_not, Int.not_lt] at *); (congr 1; first
       | (have : ¬ ∀ i, i < m.nheld → okHd (m.held i) = true := fun h => gq (h j hj)
          simp only [lightMS, this, decide_false, Bool.false_and, Bool.and_false]; done)
       | (have : ¬ ∀ i, i < m.nnews → sumN m.news (i + 1) ≤ 6000 := fun h => gq2 (h j hj)
          simp only [lightMS, this, decide_false, Bool.false_and, Bool.and_false]; done)
       | (simp only [lightMS, h1, Bool.false_and]; done)
       | (have a2 : m.state.size ≤ 6000 := by omega
          have a3 : m.n ≤ 100 := by omega
          have a4 : m.cert.n ≤ 100 := by omega
          have a5 : m.nheld ≤ 20 := by omega
          have a6 : m.nnews ≤ 100 := by omega
          have b1 : decide (∀ i, i < m.nheld → okHd (m.held i) = true) = true := decide_eq_true g
          have b2 : decide (∀ i, i < m.nnews → sumN m.news (i + 1) ≤ 6000) = true := decide_eq_true g2
          simp only [lightMS, h1, a2, a3, a4, a5, a6, b1, b2, decide_true, Bool.and_self]; done)
       | (rw [eq_comm, Bool.eq_false_iff]; intro hh; simp only [lightMS, Bool.and_eq_true, decide_eq_true_eq] at hh; omega))
     ·rfl
    ·
     rcases Bool.eq_false_or_eq_true (decide ((20 : Int) < (↑(SMsg.nheld m) : Int))) with h5 | h5
     ·
      refine T.conv (T_along NG MO _ (bdLg_p000011 m 0) Try.func19 (by kernel_rfl) ?_ (pinH_ok (by kernel_rfl)) (by kernel_rfl)) rfl rfl ?_ ?_
      ·simp only [All]; and_intros
       all_goals first
        | assumption
        | exact T_light m.batch hf.batch.data hf.batch.n _
        | exact gL
        | exact gL2
        | trivial
        | rfl
        | (intro _ _; trivial)
        | (intro _ _; rfl)
        | (simp; done)
        | omega
      ·(try simp only [Bool.not_eq_true', Bool.not_eq_false', decide_eq_true_eq, decide_eq_false_iff_not, Int.not_lt] at *); (congr 1; first
        | (have : ¬ ∀ i, i < m.nheld → okHd (m.held i) = true := fun h => gq (h j hj)
           simp only [lightMS, this, decide_false, Bool.false_and, Bool.and_false]; done)
        | (have : ¬ ∀ i, i < m.nnews → sumN m.news (i + 1) ≤ 6000 := fun h => gq2 (h j hj)
           simp only [lightMS, this, decide_false, Bool.false_and, Bool.and_false]; done)
        | (simp only [lightMS, h1, Bool.false_and]; done)
        | (have a2 : m.state.size ≤ 6000 := by omega
           have a3 : m.n ≤ 100 := by omega
           have a4 : m.cert.n ≤ 100 := by omega
           have a5 : m.nheld ≤ 20 := by omega
           have a6 : m.nnews ≤ 100 := by omega
           have b1 : decide (∀ i, i < m.nheld → okHd (m.held i) = true) = true := decide_eq_true g
           have b2 : decide (∀ i, i < m.nnews → sumN m.news (i + 1) ≤ 6000) = true := decide_eq_true g2
           simp only [lightMS, h1, a2, a3, a4, a5, a6, b1, b2, decide_true, Bool.and_self]; done)
        | (rw [eq_comm, Bool.eq_false_iff]; intro hh; simp only [lightMS, Bool.and_eq_true, decide_eq_true_eq] at hh; omega))
      ·rfl
     ·
      rcases Bool.eq_false_or_eq_true (decide ((100 : Int) < (↑(SMsg.nnews m) : Int))) with h6 | h6
      ·
       refine T.conv (T_along NG MO _ (bdLg_p000001 m 0) Try.func19 (by kernel_rfl) ?_ (pinH_ok (by kernel_rfl)) (by kernel_rfl)) rfl rfl ?_ ?_
       ·simp only [All]; and_intros
        all_goals first
         | assumption
         | exact T_light m.batch hf.batch.data hf.batch.n _
         | exact gL
         | exact gL2
         | trivial
         | rfl
         | (intro _ _; trivial)
         | (intro _ _; rfl)
         | (simp; done)
         | omega
       ·(try simp only [Bool.not_eq_true', Bool.not_eq_false', decide_eq_true_eq, decide_eq_false_iff_not, Int.not_lt] at *); (congr 1; first
         | (have : ¬ ∀ i, i < m.nheld → okHd (m.held i) = true := fun h => gq (h j hj)
            simp only [lightMS, this, decide_false, Bool.false_and, Bool.and_false]; done)
         | (have : ¬ ∀ i, i < m.nnews → sumN m.news (i + 1) ≤ 6000 := fun h => gq2 (h j hj)
            simp only [lightMS, this, decide_false, Bool.false_and, Bool.and_false]; done)
         | (simp only [lightMS, h1, Bool.false_and]; done)
         | (have a2 : m.state.size ≤ 6000 := by omega
            have a3 : m.n ≤ 100 := by omega
            have a4 : m.cert.n ≤ 100 := by omega
            have a5 : m.nheld ≤ 20 := by omega
            have a6 : m.nnews ≤ 100 := by omega
            have b1 : decide (∀ i, i < m.nheld → okHd (m.held i) = true) = true := decide_eq_true g
            have b2 : decide (∀ i, i < m.nnews → sumN m.news (i + 1) ≤ 6000) = true := decide_eq_true g2
            simp only [lightMS, h1, a2, a3, a4, a5, a6, b1, b2, decide_true, Bool.and_self]; done)
         | (rw [eq_comm, Bool.eq_false_iff]; intro hh; simp only [lightMS, Bool.and_eq_true, decide_eq_true_eq] at hh; omega))
       ·rfl
      ·
       rcases hL1 with ⟨g, gL⟩ | ⟨j, hj, _, gq, gL⟩
       ·
        rcases hL2 with ⟨g2, gL2⟩ | ⟨j, hj, _, gq2, gL2⟩
        ·
         refine T.conv (T_along NG MO _ (bdLg_p00000011 m 0) Try.func19 (by kernel_rfl) ?_ (pinH_ok (by kernel_rfl)) (by kernel_rfl)) rfl rfl ?_ ?_
         ·simp only [All]; and_intros
          all_goals first
           | assumption
           | exact T_light m.batch hf.batch.data hf.batch.n _
           | exact gL
           | exact gL2
           | trivial
           | rfl
           | (intro _ _; trivial)
           | (intro _ _; rfl)
           | (simp; done)
           | omega
         ·(try simp only [Bool.not_eq_true', Bool.not_eq_false', decide_eq_true_eq, decide_eq_false_iff_not, Int.not_lt] at *); (congr 1; first
           | (have : ¬ ∀ i, i < m.nheld → okHd (m.held i) = true := fun h => gq (h j hj)
              simp only [lightMS, this, decide_false, Bool.false_and, Bool.and_false]; done)
           | (have : ¬ ∀ i, i < m.nnews → sumN m.news (i + 1) ≤ 6000 := fun h => gq2 (h j hj)
              simp only [lightMS, this, decide_false, Bool.false_and, Bool.and_false]; done)
           | (simp only [lightMS, h1, Bool.false_and]; done)
           | (have a2 : m.state.size ≤ 6000 := by omega
              have a3 : m.n ≤ 100 := by omega
              have a4 : m.cert.n ≤ 100 := by omega
              have a5 : m.nheld ≤ 20 := by omega
              have a6 : m.nnews ≤ 100 := by omega
              have b1 : decide (∀ i, i < m.nheld → okHd (m.held i) = true) = true := decide_eq_true g
              have b2 : decide (∀ i, i < m.nnews → sumN m.news (i + 1) ≤ 6000) = true := decide_eq_true g2
              simp only [lightMS, h1, a2, a3, a4, a5, a6, b1, b2, decide_true, Bool.and_self]; done)
           | (rw [eq_comm, Bool.eq_false_iff]; intro hh; simp only [lightMS, Bool.and_eq_true, decide_eq_true_eq] at hh; omega))
         ·rfl
        ·
         refine T.conv (T_along NG MO _ (bdLg_p00000010 m j) Try.func19 (by kernel_rfl) ?_ (pinH_ok (by kernel_rfl)) (by kernel_rfl)) rfl rfl ?_ ?_
         ·simp only [All]; and_intros
          all_goals first
           | assumption
           | exact T_light m.batch hf.batch.data hf.batch.n _
           | exact gL
           | exact gL2
           | trivial
           | rfl
           | (intro _ _; trivial)
           | (intro _ _; rfl)
           | (simp; done)
           | omega
         ·(try simp only [Bool.not_eq_true', Bool.not_eq_false', decide_eq_true_eq, decide_eq_false_iff_not, Int.not_lt] at *); (congr 1; first
           | (have : ¬ ∀ i, i < m.nheld → okHd (m.held i) = true := fun h => gq (h j hj)
              simp only [lightMS, this, decide_false, Bool.false_and, Bool.and_false]; done)
           | (have : ¬ ∀ i, i < m.nnews → sumN m.news (i + 1) ≤ 6000 := fun h => gq2 (h j hj)
              simp only [lightMS, this, decide_false, Bool.false_and, Bool.and_false]; done)
           | (simp only [lightMS, h1, Bool.false_and]; done)
           | (have a2 : m.state.size ≤ 6000 := by omega
              have a3 : m.n ≤ 100 := by omega
              have a4 : m.cert.n ≤ 100 := by omega
              have a5 : m.nheld ≤ 20 := by omega
              have a6 : m.nnews ≤ 100 := by omega
              have b1 : decide (∀ i, i < m.nheld → okHd (m.held i) = true) = true := decide_eq_true g
              have b2 : decide (∀ i, i < m.nnews → sumN m.news (i + 1) ≤ 6000) = true := decide_eq_true g2
              simp only [lightMS, h1, a2, a3, a4, a5, a6, b1, b2, decide_true, Bool.and_self]; done)
           | (rw [eq_comm, Bool.eq_false_iff]; intro hh; simp only [lightMS, Bool.and_eq_true, decide_eq_true_eq] at hh; omega))
         ·rfl
       ·
        refine T.conv (T_along NG MO _ (bdLg_p0000000 m j) Try.func19 (by kernel_rfl) ?_ (pinH_ok (by kernel_rfl)) (by kernel_rfl)) rfl rfl ?_ ?_
        ·simp only [All]; and_intros
         all_goals first
          | assumption
          | exact T_light m.batch hf.batch.data hf.batch.n _
          | exact gL
          | exact gL2
          | trivial
          | rfl
          | (intro _ _; trivial)
          | (intro _ _; rfl)
          | (simp; done)
          | omega
        ·(try simp only [Bool.not_eq_true', Bool.not_eq_false', decide_eq_true_eq, decide_eq_false_iff_not, Int.not_lt] at *); (congr 1; first
          | (have : ¬ ∀ i, i < m.nheld → okHd (m.held i) = true := fun h => gq (h j hj)
             simp only [lightMS, this, decide_false, Bool.false_and, Bool.and_false]; done)
          | (have : ¬ ∀ i, i < m.nnews → sumN m.news (i + 1) ≤ 6000 := fun h => gq2 (h j hj)
             simp only [lightMS, this, decide_false, Bool.false_and, Bool.and_false]; done)
          | (simp only [lightMS, h1, Bool.false_and]; done)
          | (have a2 : m.state.size ≤ 6000 := by omega
             have a3 : m.n ≤ 100 := by omega
             have a4 : m.cert.n ≤ 100 := by omega
             have a5 : m.nheld ≤ 20 := by omega
             have a6 : m.nnews ≤ 100 := by omega
             have b1 : decide (∀ i, i < m.nheld → okHd (m.held i) = true) = true := decide_eq_true g
             have b2 : decide (∀ i, i < m.nnews → sumN m.news (i + 1) ≤ 6000) = true := decide_eq_true g2
             simp only [lightMS, h1, a2, a3, a4, a5, a6, b1, b2, decide_true, Bool.and_self]; done)
          | (rw [eq_comm, Bool.eq_false_iff]; intro hh; simp only [lightMS, Bool.and_eq_true, decide_eq_true_eq] at hh; omega))
        ·rfl
theorem T_lightM (m : SMsg) (hf : FitMsg m) : T Try.prog 19 [.agg m.c] [] (.bool (lightMS m)) [] := by
 have hL1 := loop_all (P := Try.prog) (ro := none) (p := 0) (c := cB (cB (cR (cL (cR (cR (cR (bodyOf Try.f19)))))))) (I := lg1I m) (F := fun _ => smF 2 81) (e := fun _ => .ret) (q := fun k => okHd (m.held k) = true) (n := m.nheld)
   (fun k hk hq => by
    have hT := T_light (m.held k).batch (hf.held k hk).data (hf.held k hk).n 449
    obtain ⟨g1, g2⟩ := okHd1 hq
    have hn := hf.nheld
    refine R_alongPc NG MO _ (pcLg1_p100 m k) ?_ (Nat.zero_le _)
    simp only [All, Int.toNat_natCast]; and_intros
    all_goals first
     | exact hT
     | exact neg_t g1
     | (rw [decide_eq_false_iff_not]; omega)
     | (simp [hk, IntKind.min, IntKind.max, IntKind.signed, IntKind.bits] <;> omega))
   (fun k hk hq => by
    have hT := T_light (m.held k).batch (hf.held k hk).data (hf.held k hk).n 449
    by_cases g1 : lightB (m.held k).batch = true
    ·have g2 : ¬ (m.held k).cert.n ≤ 100 := fun g2 => hq (by simp [okHd, g1, g2])
     refine R_alongPc NG MO _ (pcLg1_p101 m k) ?_ (Nat.zero_le _)
     simp only [All, Int.toNat_natCast]; and_intros
     all_goals first
      | exact hT
      | exact neg_t g1
      | (rw [decide_eq_true_eq]; omega)
      | (simp [hk, IntKind.min, IntKind.max, IntKind.signed, IntKind.bits] <;> omega)
    ·refine R_alongPc NG MO _ (pcLg1_p111 m k) ?_ (Nat.zero_le _)
     simp only [All, Int.toNat_natCast]; and_intros
     all_goals first
      | exact hT
      | exact neg_f g1
      | (simp [hk, IntKind.min, IntKind.max, IntKind.signed, IntKind.bits] <;> omega))
   (by simp) (R_alongPc NG MO _ (pcLg1_p0 m m.nheld) (by simp [All]) (Nat.zero_le _)) (by simp)
 have hL2 := loop_all (P := Try.prog) (ro := none) (p := 0) (c := cB (cB (cR (cL (cR (cR (cR (cR (bodyOf Try.f19))))))))) (I := lg2I m) (F := fun _ => smF 2 81) (e := fun _ => .ret) (q := fun k => sumN m.news (k + 1) ≤ 6000) (n := m.nnews)
   (fun k hk hq => by
    have hT := T_addG (n := sumN m.news k) (more := (m.news k).body.size) (most := 6000) (sumN_nonneg _ _) (by omega) (by have := hf.news k hk; omega) (by decide) (by decide)
    have hn := hf.nnews
    refine R_alongPc NG MO _ (pcLg2_p10 m k) ?_ (Nat.zero_le _)
    simp only [All, Int.toNat_natCast]; and_intros
    all_goals first
     | exact hT
     | (rw [decide_eq_false_iff_not]; omega)
     | (simp [hk, IntKind.min, IntKind.max, IntKind.signed, IntKind.bits] <;> omega))
   (fun k hk hq => by
    have hT := T_addG (n := sumN m.news k) (more := (m.news k).body.size) (most := 6000) (sumN_nonneg _ _) (by omega) (by have := hf.news k hk; omega) (by decide) (by decide)
    refine R_alongPc NG MO _ (pcLg2_p11 m k) ?_ (Nat.zero_le _)
    simp only [All, Int.toNat_natCast]; and_intros
    all_goals first
     | exact hT
     | (rw [decide_eq_true_eq]; omega)
     | (simp [hk, IntKind.min, IntKind.max, IntKind.signed, IntKind.bits] <;> omega))
   (by simp) (R_alongPc NG MO _ (pcLg2_p0 m m.nnews) (by simp [All]) (Nat.zero_le _)) (by simp)
 exact T_lightM1 m hf hL1 hL2
end Go.Proofs.Ythifjamdfpjilaa
namespace Go.Proofs.Ythifjamdfpjilaa
open Go Sy Go.Proofs
def livB : ByteArray := baL [1, 6, 1, 2, 1, 9]
def livM : SMsg := { msg0 6 with epoch := 2, slot := 9 }
noncomputable def bdLiv : Bd := { f := Try.f20, args := [], kb := kbT [(128, { val := .tup [.str livB, .int .i64 0] }), (576, { val := .tup [.agg livM.c, .int .i64 0] })] }
end Go.Proofs.Ythifjamdfpjilaa
namespace Go.Proofs.Ythifjamdfpjilaa
open Go Sy Go.Proofs
theorem bdLiv_p :
  along Try.prog (bdLiv) [] = (some (.bool true, [], [T Try.prog 21 [.agg [.int .i64 6, .int .i64 2, .int .i64 0, .int .i64 0, .int .i64 9, .bool false, .snil, .int .i64 0, .int .i64 0, .int .i64 0, .int .i64 0, .seg .u8 32 z32, .int .i64 0, .int .i64 0, .int .i64 0, .snil, .snil, .seg .u8 32 z32, .int .i64 0, .int .i64 0, .int .i64 0, .int .i64 0, .seg .u8 32 z32, .snil, .str ByteArray.empty, .snil]] [] (.tup [.str livB, .int .i64 0]) [], T Try.prog 22 [.str livB] [] (.tup [.agg (SMsg.c (SMsg.mk (6 : Int) (2 : Int) (0 : Int) (0 : Int) (9 : Int) (SBatch.mk false 0 fun x => SReq.mk (0 : Int) (0 : Int) ByteArray.empty []) vote0 (0 : Int) (0 : Int) (0 : Int) 0 (fun x => SHeld.mk (SBatch.mk false 0 fun x => SReq.mk (0 : Int) (0 : Int) ByteArray.empty []) (SCert.mk (SVote.mk (0 : Int) (0 : Int) (0 : Int) (0 : Int) []) 0 fun x => SSign.mk (0 : Int) [])) 0 (fun x => SEnv.mk (0 : Int) ByteArray.empty []) z32 (SCert.mk vote0 0 fun x => SSign.mk (0 : Int) []) ByteArray.empty 0 fun x => SSign.mk (0 : Int) [])), .int .i64 0]) [], q2, q2, q2]) : Option (V × Heap × List Prop)) := by kernel_rfl

theorem livDec : decR (strB livB) = (livM, 0) := by kernel_rfl
theorem T_livesE (hE : T Try.prog 21 [.agg livM.c] [] (.tup [.str livB, .int .i64 0]) []) : T Try.prog 20 [] [] (.bool true) [] := by
 have hD := T_dec livB
 rw [livDec] at hD
 refine T_along NG MO _ bdLiv_p Try.func20 (by kernel_rfl) ?_ (pinH_ok (by kernel_rfl)) (by kernel_rfl)
 refine ⟨T.args hE rfl ?_, hD, rfl, rfl, rfl, trivial⟩
 simp [All, livM, msg0, vote0]
end Go.Proofs.Ythifjamdfpjilaa
namespace Go.Proofs.Ythifjamdfpjilaa
open Go Sy Go.Proofs
def encE (m : SMsg) : Int := if goodS m = true then (if 4194304 < (encB m).length then 3 else 0) else 130
def encT (m : SMsg) : ByteArray := if encE m = 0 then baL (encB m) else ByteArray.mk (Array.mk [])
noncomputable def bdBk (m : SMsg) (s : ByteArray) (l : Bool) (db : List (Nat × Nat × (List V → Heap → Nat → List Cl))) : Bd := { f := Try.f7, args := [.agg m.c, .str s], kb := { db := fun k a h lo => match dbF [(19, cVal (.bool l)), (20, cVal (.bool true)), (23, cVal (.bool true)), (24, cVal (.bool true))] k a h lo with
 | [] => dbSeqF 0 db k a h lo
 | r => r } }
noncomputable def bdBkL (m : SMsg) (s : ByteArray) (l : Bool) : Bd := bdBk m s l []
noncomputable def bdBkA (m : SMsg) (s t : ByteArray) (x y : SMsg) (d : Int) : Bd := bdBk m s true [(21, 11, cVal (.tup [.str t, .int .i64 0])), (22, 20, cVal (.tup [.agg x.c, .int .i64 0])), (22, 36, cVal (.tup [.agg y.c, .int .i64 d])), (21, 46, cVal (.tup [.str s, .int .i64 0]))]
noncomputable def bdBkB (m : SMsg) (s t : ByteArray) (e : Int) (y : SMsg) (d : Int) : Bd := bdBk m s true [(21, 11, cVal (.tup [.str t, .int .i64 e])), (22, 20, cVal (.tup [.agg y.c, .int .i64 d])), (21, 30, cVal (.tup [.str s, .int .i64 0]))]
noncomputable def bdBg (m : SMsg) (cut : Int) (more : ByteArray) (l : Bool) (db : List (Nat × Nat × (List V → Heap → Nat → List Cl))) : Bd := { f := Try.f8, args := [.agg m.c, .int .i64 cut, .str more], kb := { db := fun k a h lo => match dbF [(19, cVal (.bool l)), (20, cVal (.bool true))] k a h lo with
 | [] => dbSeqF 0 db k a h lo
 | r => r } }
noncomputable def bdBgL (m : SMsg) (cut : Int) (more : ByteArray) (l : Bool) : Bd := bdBg m cut more l []
noncomputable def bdBgA (m : SMsg) (cut : Int) (more t : ByteArray) (e : Int) (x y : SMsg) (f g : Int) : Bd := bdBg m cut more true [(21, 11, cVal (.tup [.str t, .int .i64 e])), (22, 32, cVal (.tup [.agg x.c, .int .i64 f])), (22, 42, cVal (.tup [.agg y.c, .int .i64 g]))]
end Go.Proofs.Ythifjamdfpjilaa
namespace Go.Proofs.Ythifjamdfpjilaa
open Go Sy Go.Proofs
theorem bdBkL_p11 (m : SMsg) (s : ByteArray) (l : Bool) :
  along Try.prog (bdBkL m s l) [true, true] = (some (.bool true, [], [T Try.prog 19 [.agg (SMsg.c m)] [] (.bool l) [], (!l) = true, q2, T Try.prog 20 [] [] (.bool true) []]) : Option (V × Heap × List Prop)) := by kernel_rfl

theorem bdBkA_p01 (m : SMsg) (s : ByteArray) (t : ByteArray) (x : SMsg) (y : SMsg) (d : Int) :
  along Try.prog (bdBkA m s t x y d) [false, true] = (some (.bool true, [], [T Try.prog 19 [.agg (SMsg.c m)] [] (.bool true) [], q false, decide ((20000 : Int) < (↑(ByteArray.size s) : Int)) = true, T Try.prog 20 [] [] (.bool true) []]) : Option (V × Heap × List Prop)) := by kernel_rfl

theorem bdBkA_p001001000 (m : SMsg) (s : ByteArray) (t : ByteArray) (x : SMsg) (y : SMsg) (d : Int) :
  along Try.prog (bdBkA m s t x y d) [false, false, true, false, false, true, false, false, false] = (some (.bool true, [], [T Try.prog 19 [.agg (SMsg.c m)] [] (.bool true) [], q false, decide ((20000 : Int) < (↑(ByteArray.size s) : Int)) = false, T Try.prog 21 [.agg (SMsg.c m)] [] (.tup [.str t, .int .i64 0]) [], q2, T Try.prog 22 [.str t] [] (.tup [.agg (SMsg.c x), .int .i64 0]) [], q false, T Try.prog 23 [.agg (SMsg.c x), .agg (SMsg.c m)] [] (.bool true) [], q false, T Try.prog 22 [.str s] [] (.tup [.agg (SMsg.c y), .int .i64 d]) [], decide (d = (0 : Int)) = true, T Try.prog 21 [.agg (SMsg.c y)] [] (.tup [.str s, .int .i64 0]) [], q false, (!decide (s = s)) = false, T Try.prog 24 [.agg (SMsg.c y)] [] (.bool true) [], q false, T Try.prog 20 [] [] (.bool true) []]) : Option (V × Heap × List Prop)) := by kernel_rfl

theorem bdBkA_p001000 (m : SMsg) (s : ByteArray) (t : ByteArray) (x : SMsg) (y : SMsg) (d : Int) :
  along Try.prog (bdBkA m s t x y d) [false, false, true, false, false, false] = (some (.bool true, [], [T Try.prog 19 [.agg (SMsg.c m)] [] (.bool true) [], q false, decide ((20000 : Int) < (↑(ByteArray.size s) : Int)) = false, T Try.prog 21 [.agg (SMsg.c m)] [] (.tup [.str t, .int .i64 0]) [], q2, T Try.prog 22 [.str t] [] (.tup [.agg (SMsg.c x), .int .i64 0]) [], q false, T Try.prog 23 [.agg (SMsg.c x), .agg (SMsg.c m)] [] (.bool true) [], q false, T Try.prog 22 [.str s] [] (.tup [.agg (SMsg.c y), .int .i64 d]) [], decide (d = (0 : Int)) = false, T Try.prog 20 [] [] (.bool true) []]) : Option (V × Heap × List Prop)) := by kernel_rfl

theorem bdBkB_p0001000 (m : SMsg) (s : ByteArray) (t : ByteArray) (e : Int) (y : SMsg) (d : Int) :
  along Try.prog (bdBkB m s t e y d) [false, false, false, true, false, false, false] = (some (.bool true, [], [T Try.prog 19 [.agg (SMsg.c m)] [] (.bool true) [], q false, decide ((20000 : Int) < (↑(ByteArray.size s) : Int)) = false, T Try.prog 21 [.agg (SMsg.c m)] [] (.tup [.str t, .int .i64 e]) [], decide (e = (0 : Int)) = false, T Try.prog 22 [.str s] [] (.tup [.agg (SMsg.c y), .int .i64 d]) [], decide (d = (0 : Int)) = true, T Try.prog 21 [.agg (SMsg.c y)] [] (.tup [.str s, .int .i64 0]) [], q false, (!decide (s = s)) = false, T Try.prog 24 [.agg (SMsg.c y)] [] (.bool true) [], q false, T Try.prog 20 [] [] (.bool true) []]) : Option (V × Heap × List Prop)) := by kernel_rfl

theorem bdBkB_p0000 (m : SMsg) (s : ByteArray) (t : ByteArray) (e : Int) (y : SMsg) (d : Int) :
  along Try.prog (bdBkB m s t e y d) [false, false, false, false] = (some (.bool true, [], [T Try.prog 19 [.agg (SMsg.c m)] [] (.bool true) [], q false, decide ((20000 : Int) < (↑(ByteArray.size s) : Int)) = false, T Try.prog 21 [.agg (SMsg.c m)] [] (.tup [.str t, .int .i64 e]) [], decide (e = (0 : Int)) = false, T Try.prog 22 [.str s] [] (.tup [.agg (SMsg.c y), .int .i64 d]) [], decide (d = (0 : Int)) = false, T Try.prog 20 [] [] (.bool true) []]) : Option (V × Heap × List Prop)) := by kernel_rfl

theorem bdBgL_p11 (m : SMsg) (cut : Int) (more : ByteArray) (l : Bool) :
  along Try.prog (bdBgL m cut more l) [true, true] = (some (.bool true, [], [T Try.prog 19 [.agg (SMsg.c m)] [] (.bool l) [], (!l) = true, q2, T Try.prog 20 [] [] (.bool true) []]) : Option (V × Heap × List Prop)) := by kernel_rfl

theorem bdBgL_p01 (m : SMsg) (cut : Int) (more : ByteArray) (l : Bool) :
  along Try.prog (bdBgL m cut more l) [false, true] = (some (.bool true, [], [T Try.prog 19 [.agg (SMsg.c m)] [] (.bool l) [], (!l) = false, decide ((2000 : Int) < (↑(ByteArray.size more) : Int)) = true, T Try.prog 20 [] [] (.bool true) []]) : Option (V × Heap × List Prop)) := by kernel_rfl

theorem bdBgA_p001111 (m : SMsg) (cut : Int) (more : ByteArray) (t : ByteArray) (e : Int) (x : SMsg) (y : SMsg) (f : Int) (g : Int) :
  along Try.prog (bdBgA m cut more t e x y f g) [false, false, true, true, true, true] = (some (.bool true, [], [T Try.prog 19 [.agg (SMsg.c m)] [] (.bool true) [], q false, decide ((2000 : Int) < (↑(ByteArray.size more) : Int)) = false, T Try.prog 21 [.agg (SMsg.c m)] [] (.tup [.str t, .int .i64 e]) [], (!decide (e = (0 : Int))) = true, q2, (!decide (e = (0 : Int))) = true, decide (t = ByteArray.mk (Array.mk [])) = true, T Try.prog 20 [] [] (.bool true) []]) : Option (V × Heap × List Prop)) := by kernel_rfl

theorem bdBgA_p000011 (m : SMsg) (cut : Int) (more : ByteArray) (t : ByteArray) (e : Int) (x : SMsg) (y : SMsg) (f : Int) (g : Int) :
  along Try.prog (bdBgA m cut more t e x y f g) [false, false, false, false, true, true] = (some (.bool true, [], [T Try.prog 19 [.agg (SMsg.c m)] [] (.bool true) [], q false, decide ((2000 : Int) < (↑(ByteArray.size more) : Int)) = false, T Try.prog 21 [.agg (SMsg.c m)] [] (.tup [.str t, .int .i64 e]) [], (!decide (e = (0 : Int))) = false, decide (t = ByteArray.mk (Array.mk [])) = false, (0 : Int) ≤ IntKind.wrap IntKind.u64 cut ∧ (0 : Int) < IntKind.wrap IntKind.u64 (↑(ByteArray.size t) : Int), InR IntKind.i64 (IntKind.wrap IntKind.u64 cut % IntKind.wrap IntKind.u64 (↑(ByteArray.size t) : Int)), (0 : Int) ≤ IntKind.wrap IntKind.u64 cut % IntKind.wrap IntKind.u64 (↑(ByteArray.size t) : Int) ∧ IntKind.wrap IntKind.u64 cut % IntKind.wrap IntKind.u64 (↑(ByteArray.size t) : Int) ≤ (↑(ByteArray.size t) : Int), T Try.prog 22 [.str (ByteArray.extract t (natO none 0) (natO (some (IntKind.wrap .u64 cut % IntKind.wrap .u64 (↑(ByteArray.size t) : Int))) (ByteArray.size t)))] [] (.tup [.agg (SMsg.c x), .int .i64 f]) [], ByteArray.size t + ByteArray.size more ≤ (9223372036854775807 : Nat), T Try.prog 22 [.str (t ++ more)] [] (.tup [.agg (SMsg.c y), .int .i64 g]) [], (!decide (f = (0 : Int))) = true, (decide (g = (0 : Int)) == decide (more = ByteArray.mk (Array.mk []))) = true, T Try.prog 20 [] [] (.bool true) []]) : Option (V × Heap × List Prop)) := by kernel_rfl

theorem num63_of {n : Int} {k : Int} (h : 0 ≤ n ∧ n ≤ k) (hk : k < 9223372036854775808) : num63 n := ⟨h.1, by omega⟩
theorem reqOk_of {r : SReq} (h : mayReqS r = true) (ht : SegOk 16 r.tag) : ReqOk r ∧ r.data.size ≤ 10000 := by
 simp only [mayReqS, Bool.and_eq_true, decide_eq_true_eq, upto_iff] at h
 exact ⟨⟨num63_of h.1 (by decide), num63_of h.2.1 (by decide), by omega, ht⟩, by omega⟩
theorem batchOk_of {b : SBatch} (h : mayBatchS b = true) (ht : segBatch b) : BatchOk b := by
 simp only [mayBatchS, Bool.and_eq_true, Bool.not_eq_true', Bool.and_eq_false_iff, decide_eq_false_iff_not, allS_iff] at h
 obtain ⟨h1, h2, h3⟩ := h
 refine ⟨by omega, fun hn => ?_, fun k hk => (reqOk_of (h3 k hk) (ht k hk)).1, fun k hk => (reqOk_of (h3 k hk) (ht k hk)).2⟩
 rcases h1 with h1 | h1
 ·rw [hn] at h1; cases h1
 ·omega
theorem voteOk_of {v : SVote} (h : mayVoteS v = true) (ht : SegOk 32 v.digest) : VoteOk v := by
 simp only [mayVoteS, Bool.and_eq_true, Bool.or_eq_true, decide_eq_true_eq, upto_iff] at h
 obtain ⟨h1, h2, h3, h4⟩ := h
 exact ⟨⟨by omega, by omega⟩, num63_of h2 (by decide), num63_of h3 (by decide), num63_of h4 (by decide), ht⟩
theorem signOk_of {s : SSign} (h : maySignS s = true) (ht : SegOk 16 s.tag) : SignOk s := ⟨num63_of (upto_iff.1 h) (by decide), ht⟩
theorem certOk_of {c : SCert} (h : mayCertS c = true) (ht : segCert c) : CertOk c := by
 simp only [mayCertS, Bool.and_eq_true, allS_iff] at h
 exact ⟨voteOk_of h.1 ht.vote, by have := h.2.1; omega, fun k hk => signOk_of (h.2.2 k hk) (ht.sig k hk)⟩
theorem heldOk_of {x : SHeld} (h : mayHeldS x = true) (ht : segHeld x) : HeldOk x := by
 simp only [mayHeldS, Bool.and_eq_true] at h
 exact ⟨batchOk_of h.1 ht.batch, certOk_of h.2 ht.cert⟩
theorem envOk_of {x : SEnv} (h : mayEnvS x = true) (ht : SegOk 16 x.tag) : EnvOk x := by
 simp only [mayEnvS, Bool.and_eq_true, decide_eq_true_eq, upto_iff] at h
 exact ⟨num63_of h.1 (by decide), by have := h.2; omega, ht⟩
theorem encOk_of {m : SMsg} (h : goodS m = true) (ht : segMsg m) : EncOk m := by
 have g := good_iff.1 h
 exact ⟨g.kind, num63_of g.epoch (by decide), num63_of g.leader (by decide), num63_of g.view (by decide), num63_of g.slot (by decide), num63_of g.cepoch (by decide), num63_of g.cleader (by decide), num63_of g.cview (by decide),
  batchOk_of g.batch ht.batch, fun hk => voteOk_of (g.vote hk) ht.vote, by have := g.held.1; omega, fun k hk => heldOk_of (g.held.2 k hk) (ht.held k hk), by have := g.news.1; omega, fun k hk => envOk_of (g.news.2 k hk) (ht.news k hk),
  ht.digest, fun hk => certOk_of (g.cert hk) ht.cert, by have := g.state; omega, by have := g.sig.1; omega, fun k hk => signOk_of (g.sig.2 k hk) (ht.sig k hk)⟩
theorem fitM_good {m : SMsg} (h : goodS m = true) : FitM m := by
 have g := good_iff.1 h
 have hb : ∀ {b : SBatch}, mayBatchS b = true → b.n ≤ 1000000 := fun h => by
  simp only [mayBatchS, Bool.and_eq_true, allS_iff] at h
  have := h.2.1; omega
 have hc : ∀ {c : SCert}, mayCertS c = true → c.n ≤ 1000000 := fun h => by
  simp only [mayCertS, Bool.and_eq_true, allS_iff] at h
  have := h.2.1; omega
 refine ⟨hb g.batch, by have := g.held.1; omega, fun k hk => ?_, by have := g.news.1; omega, ?_, by have := g.sig.1; omega⟩
 ·have := g.held.2 k hk
  simp only [mayHeldS, Bool.and_eq_true] at this
  exact ⟨hb this.1, hc this.2⟩
 ·by_cases h7 : m.kind = 7
  ·exact hc (g.cert h7)
  ·have ho := g.only.cert
   have : (onlyS m).cert = { vote := vote0 } := by
    unfold onlyS
    repeat' split
    all_goals first | rfl | contradiction
   rw [this] at ho
   have := (sameCert_iff.1 ho).2.1
   rw [this]; exact Nat.zero_le _
theorem fitM_light {m : SMsg} (h : lightMS m = true) : FitM m := by
 simp only [lightMS, Bool.and_eq_true, decide_eq_true_eq] at h
 obtain ⟨h1, h2, h3, h4, h5, h6, h7, h8⟩ := h
 refine ⟨by have := lightB_n h1; omega, by omega, fun k hk => ?_, by omega, by omega, by omega⟩
 have := okHd1 (h7 k hk)
 have hb := lightB_n this.1
 omega
theorem T_encG {m : SMsg} (hf : FitM m) (ht : segMsg m) : T Try.prog 21 [.agg m.c] [] (.tup [.str (encT m), .int .i64 (encE m)]) [] := by
 have h := T_enc (m := m) (T_good hf) fun h => encOk_of h ht
 have e : encV m (goodS m) = .tup [.str (encT m), .int .i64 (encE m)] := by
  unfold encV encT encE
  cases goodS m with
  | false => rfl
  | true =>
   simp only [if_true]
   by_cases hl : 4194304 < (encB m).length
   ·simp only [if_pos hl]; rfl
   ·simp only [if_neg hl]; rfl
 rw [e] at h; exact h
theorem T_livesM : T Try.prog 20 [] [] (.bool true) [] := by
 refine T_livesE ?_
 have hg : goodS livM = true := by kernel_rfl
 have ht : segMsg livM := ⟨fun i hi => absurd hi (Nat.not_lt_zero i), seg32, fun i hi => absurd hi (Nat.not_lt_zero i), fun i hi => absurd hi (Nat.not_lt_zero i), seg32, ⟨seg32, fun i hi => absurd hi (Nat.not_lt_zero i)⟩, fun i hi => absurd hi (Nat.not_lt_zero i)⟩
 have h := T_encG (fitM_good hg) ht
 have e1 : encE livM = 0 := by kernel_rfl
 have e2 : encT livM = livB := by kernel_rfl
 rw [e1, e2] at h; exact h
theorem encE_zero {m : SMsg} (h : encE m = 0) : goodS m = true ∧ (encB m).length ≤ 4194304 ∧ encT m = baL (encB m) := by
 have h' := h
 unfold encE at h
 split at h
 ·rename_i h1
  split at h
  ·cases h
  ·rename_i h2
   exact ⟨h1, by omega, by rw [encT, if_pos h']⟩
 ·cases h
theorem T_back {m : SMsg} {s : ByteArray} (hf : FitMsg m) (ht : segMsg m) : T Try.prog 7 [.agg m.c, .str s] [] (.bool true) [] := by
 have hL := T_lightM m hf
 have hlv := T_livesM
 by_cases h0 : lightMS m = true
 ·have hM := fitM_light h0
  rw [h0] at hL
  have hE := T_encG hM ht
  have hD := T_dec s
  by_cases h1 : 20000 < s.size
  ·refine T_along NG MO _ (bdBkA_p01 m s s m m 0) Try.func7 (by kernel_rfl) ?_ (pinH_ok (by kernel_rfl)) (by kernel_rfl)
   simp only [All]; and_intros
   all_goals first
    | exact hL
    | exact hlv
    | (rw [decide_eq_true_eq]; omega)
    | trivial
    | rfl
  have h1' : decide ((20000 : Int) < (s.size : Nat)) = false := by rw [decide_eq_false_iff_not]; omega
  by_cases h2 : encE m = 0
  ·obtain ⟨g1, g2, g3⟩ := encE_zero h2
   rw [h2, g3] at hE
   have hD2 := T_dec (baL (encB m))
   rw [strB_baL] at hD2
   obtain ⟨d1, d2⟩ := dec_enc g1 ht g2
   rw [d1] at hD2
   have hx := enc_dec (l := encB m) (x := (decR (encB m)).1) (by rw [← d1])
   have hS := T_rm (decR (encB m)).1 m (fitM_good hx.1)
   rw [d2] at hS
   by_cases h3 : (decR (strB s)).2 = 0
   ·have hy := enc_dec (l := strB s) (x := (decR (strB s)).1) (by rw [← h3])
    have hE2 := T_encG (fitM_good hy.1) hy.2.1
    have hG2 := T_good (fitM_good hy.1)
    rw [hy.1] at hG2
    have e2 : encE (decR (strB s)).1 = 0 := by
     unfold encE; rw [if_pos hy.1, if_neg (by rw [hy.2.2.1]; have := hy.2.2.2; omega)]
    rw [e2, (encE_zero e2).2.2, hy.2.2.1, baL_strB] at hE2
    rw [h3] at hD
    refine T_along NG MO _ (bdBkA_p001001000 m s (baL (encB m)) (decR (encB m)).1 (decR (strB s)).1 0) Try.func7 (by kernel_rfl) ?_ (pinH_ok (by kernel_rfl)) (by kernel_rfl)
    simp only [All]; and_intros
    all_goals first
     | exact hL
     | exact hlv
     | exact hE
     | exact hD2
     | exact hS
     | exact hD
     | exact hE2
     | exact hG2
     | exact h1'
     | trivial
     | rfl
     | (simp; done)
   ·refine T_along NG MO _ (bdBkA_p001000 m s (baL (encB m)) (decR (encB m)).1 (decR (strB s)).1 (decR (strB s)).2) Try.func7 (by kernel_rfl) ?_ (pinH_ok (by kernel_rfl)) (by kernel_rfl)
    simp only [All]; and_intros
    all_goals first
     | exact hL
     | exact hlv
     | exact hE
     | exact hD2
     | exact hS
     | exact hD
     | exact h1'
     | (rw [decide_eq_false_iff_not]; exact h3)
     | trivial
     | rfl
     | (simp; done)
  ·by_cases h3 : (decR (strB s)).2 = 0
   ·have hy := enc_dec (l := strB s) (x := (decR (strB s)).1) (by rw [← h3])
    have hE2 := T_encG (fitM_good hy.1) hy.2.1
    have hG2 := T_good (fitM_good hy.1)
    rw [hy.1] at hG2
    have e2 : encE (decR (strB s)).1 = 0 := by
     unfold encE; rw [if_pos hy.1, if_neg (by rw [hy.2.2.1]; have := hy.2.2.2; omega)]
    rw [e2, (encE_zero e2).2.2, hy.2.2.1, baL_strB] at hE2
    rw [h3] at hD
    refine T_along NG MO _ (bdBkB_p0001000 m s (encT m) (encE m) (decR (strB s)).1 0) Try.func7 (by kernel_rfl) ?_ (pinH_ok (by kernel_rfl)) (by kernel_rfl)
    simp only [All]; and_intros
    all_goals first
     | exact hL
     | exact hlv
     | exact hE
     | exact hD
     | exact hE2
     | exact hG2
     | exact h1'
     | (rw [decide_eq_false_iff_not]; exact h2)
     | trivial
     | rfl
     | (simp; done)
   ·refine T_along NG MO _ (bdBkB_p0000 m s (encT m) (encE m) (decR (strB s)).1 (decR (strB s)).2) Try.func7 (by kernel_rfl) ?_ (pinH_ok (by kernel_rfl)) (by kernel_rfl)
    simp only [All]; and_intros
    all_goals first
     | exact hL
     | exact hlv
     | exact hE
     | exact hD
     | exact h1'
     | (rw [decide_eq_false_iff_not]; exact h2)
     | (rw [decide_eq_false_iff_not]; exact h3)
     | trivial
     | rfl
     | (simp; done)
 ·have h0 : lightMS m = false := Bool.eq_false_iff.mpr h0
  rw [h0] at hL
  refine T_along NG MO _ (bdBkL_p11 m s false) Try.func7 (by kernel_rfl) ?_ (pinH_ok (by kernel_rfl)) (by kernel_rfl)
  simp only [All]; and_intros
  all_goals first
   | exact hL
   | exact hlv
   | trivial
   | rfl
theorem strB_append (a b : ByteArray) : strB (a ++ b) = strB a ++ strB b := by
 simp [strB]
theorem strB_extract (t : ByteArray) (k : Nat) : strB (t.extract 0 k) = (strB t).take k := by
 simp [strB]
theorem baL_ext {a b : ByteArray} (h : strB a = strB b) : a = b := by
 rw [← baL_strB a, h, baL_strB]
theorem strB_nil {a : ByteArray} : a = ByteArray.mk (Array.mk []) ↔ strB a = [] := by
 constructor
 ·rintro rfl; rfl
 ·intro h; exact baL_ext h
theorem T_begins {m : SMsg} {cut : Int} {more : ByteArray} (hf : FitMsg m) (ht : segMsg m) : T Try.prog 8 [.agg m.c, .int .i64 cut, .str more] [] (.bool true) [] := by
 have hL := T_lightM m hf
 have hlv := T_livesM
 by_cases h0 : lightMS m = true
 ·have hM := fitM_light h0
  rw [h0] at hL
  have hE := T_encG hM ht
  by_cases h1 : 2000 < more.size
  ·refine T_along NG MO _ (bdBgL_p01 m cut more true) Try.func8 (by kernel_rfl) ?_ (pinH_ok (by kernel_rfl)) (by kernel_rfl)
   simp only [All]; and_intros
   all_goals first
    | exact hL
    | exact hlv
    | (rw [decide_eq_true_eq]; omega)
    | trivial
    | rfl
  have h1' : decide ((2000 : Int) < (more.size : Nat)) = false := by rw [decide_eq_false_iff_not]; omega
  by_cases h2 : encE m = 0
  ·obtain ⟨g1, g2, g3⟩ := encE_zero h2
   rw [h2, g3] at hE
   have hpos : 0 < (encB m).length := by
    rw [encB, List.length_append]; simp [putZ, putN]; omega
   have hsz : (baL (encB m)).size = (encB m).length := by rw [← strB_len, strB_baL]
   have hmod : 0 ≤ IntKind.wrap IntKind.u64 cut % ((encB m).length : Int) ∧ IntKind.wrap IntKind.u64 cut % ((encB m).length : Int) < ((encB m).length : Int) := ⟨Int.emod_nonneg _ (by omega), Int.emod_lt_of_pos _ (by omega)⟩
   have hw : IntKind.wrap IntKind.u64 ((encB m).length : Int) = ((encB m).length : Int) := by
    show ((encB m).length : Int) % 18446744073709551616 = _
    omega
   have hw0 : 0 ≤ IntKind.wrap IntKind.u64 cut := by
    show 0 ≤ cut % 18446744073709551616
    omega
   have hD1 := T_dec (ByteArray.extract (baL (encB m)) (natO none 0) (natO (some (IntKind.wrap IntKind.u64 cut % IntKind.wrap IntKind.u64 ((baL (encB m)).size : Int))) (baL (encB m)).size))
   have hD2 := T_dec (baL (encB m) ++ more)
   have e1 : strB (ByteArray.extract (baL (encB m)) (natO none 0) (natO (some (IntKind.wrap IntKind.u64 cut % IntKind.wrap IntKind.u64 ((baL (encB m)).size : Int))) (baL (encB m)).size)) = (encB m).take (IntKind.wrap IntKind.u64 cut % ((encB m).length : Int)).toNat := by
    show strB (ByteArray.extract (baL (encB m)) 0 _) = _
    rw [strB_extract, strB_baL, hsz, hw]; rfl
   rw [e1] at hD1
   rw [strB_append, strB_baL] at hD2
   have hb := dec_begin g1 ht (k := (IntKind.wrap IntKind.u64 cut % ((encB m).length : Int)).toNat) (by omega)
   have hm : (decide ((decR (encB m ++ strB more)).2 = 0) == decide (more = ByteArray.mk (Array.mk []))) = true := by
    by_cases hmo : strB more = []
    ·rw [hmo, List.append_nil, (dec_enc g1 ht g2).1, strB_nil.2 hmo]
     simp
    ·have h5 := dec_more g1 ht hmo
     have h6 : ¬ more = ByteArray.mk (Array.mk []) := fun h => hmo (strB_nil.1 h)
     simp only [h5, h6, decide_false]; rfl
   have hne : ¬ baL (encB m) = ByteArray.mk (Array.mk []) := fun h => by
    have := strB_nil.1 h
    rw [strB_baL] at this
    rw [this] at hpos; exact absurd hpos (by simp)
   refine T_along NG MO _ (bdBgA_p000011 m cut more (baL (encB m)) 0 (decR ((encB m).take (IntKind.wrap IntKind.u64 cut % ((encB m).length : Int)).toNat)).1 (decR (encB m ++ strB more)).1 (decR ((encB m).take (IntKind.wrap IntKind.u64 cut % ((encB m).length : Int)).toNat)).2 (decR (encB m ++ strB more)).2) Try.func8 (by kernel_rfl) ?_ (pinH_ok (by kernel_rfl)) (by kernel_rfl)
   simp only [All]; and_intros
   all_goals first
    | exact hL
    | exact hlv
    | exact hE
    | exact hD1
    | exact hD2
    | exact h1'
    | exact hm
    | exact decide_eq_false hne
    | exact neg_f' (decide_eq_false hb)
    | exact hw0
    | (rw [hsz, hw]; first | omega | exact inR1 (by omega) (by omega) | exact inR2 (by omega) (by omega))
    | (rw [hsz]; omega)
    | trivial
    | rfl
    | (simp; done)
  ·have hemp : encT m = ByteArray.mk (Array.mk []) := by rw [encT, if_neg h2]
   refine T_along NG MO _ (bdBgA_p001111 m cut more (encT m) (encE m) m m 0 0) Try.func8 (by kernel_rfl) ?_ (pinH_ok (by kernel_rfl)) (by kernel_rfl)
   simp only [All]; and_intros
   all_goals first
    | exact hL
    | exact hlv
    | exact hE
    | exact h1'
    | exact neg_f' (decide_eq_false h2)
    | exact decide_eq_true hemp
    | trivial
    | rfl
 ·have h0 : lightMS m = false := Bool.eq_false_iff.mpr h0
  rw [h0] at hL
  refine T_along NG MO _ (bdBgL_p11 m cut more false) Try.func8 (by kernel_rfl) ?_ (pinH_ok (by kernel_rfl)) (by kernel_rfl)
  simp only [All]; and_intros
  all_goals first
   | exact hL
   | exact hlv
   | trivial
   | rfl
end Go.Proofs.Ythifjamdfpjilaa
namespace Go.Proofs.Ythifjamdfpjilaa
open Go Sy Go.Proofs
theorem cellsSign : Try.prog.cellsOf 114 = 17 := by kernel_rfl
theorem cellsReq : Try.prog.cellsOf 158 = 19 := by kernel_rfl
theorem cellsHeld : Try.prog.cellsOf 93 = 39 := by kernel_rfl
theorem cellsEnv : Try.prog.cellsOf 97 = 18 := by kernel_rfl
theorem seg_of {n : Nat} {xs : List Int} (h : xs.length = n) (h2 : ∀ x ∈ xs, InR .u8 x) : SegOk n xs := ⟨h, fun x hx => InR8.1 (h2 x hx)⟩
theorem sg_sign {d : Nat} {cs : List V} (h : ShC Try.prog d 114 cs) : ∃ s : SSign, cs = s.c ∧ SegOk 16 s.tag := by
 obtain ⟨d, a, _, rfl, ha, b, _, rfl, hb, rfl⟩ := sh_struct h Try.underlying114
 obtain ⟨n, rfl, _⟩ := sh_int ha Try.underlying3
 obtain ⟨xs, rfl, h1, h2⟩ := sh_arr hb Try.underlying95 Try.underlying5
 exact ⟨⟨n, xs⟩, rfl, seg_of h1 h2⟩
theorem sg_req {d : Nat} {cs : List V} (h : ShC Try.prog d 158 cs) : ∃ s : SReq, cs = s.c ∧ s.data.size ≤ 9223372036854775807 ∧ SegOk 16 s.tag := by
 obtain ⟨d, a, _, rfl, ha, b, _, rfl, hb, c, _, rfl, hc, e, _, rfl, he, rfl⟩ := sh_struct h Try.underlying158
 obtain ⟨n, rfl, _⟩ := sh_int ha Try.underlying3
 obtain ⟨m, rfl, _⟩ := sh_int hb Try.underlying3
 obtain ⟨s, rfl, hs⟩ := sh_str hc Try.underlying9
 obtain ⟨xs, rfl, h1, h2⟩ := sh_arr he Try.underlying95 Try.underlying5
 exact ⟨⟨n, m, s, xs⟩, rfl, hs, seg_of h1 h2⟩
theorem sg_env {d : Nat} {cs : List V} (h : ShC Try.prog d 97 cs) : ∃ s : SEnv, cs = s.c ∧ s.body.size ≤ 9223372036854775807 ∧ SegOk 16 s.tag := by
 obtain ⟨d, a, _, rfl, ha, c, _, rfl, hc, e, _, rfl, he, rfl⟩ := sh_struct h Try.underlying97
 obtain ⟨n, rfl, _⟩ := sh_int ha Try.underlying3
 obtain ⟨s, rfl, hs⟩ := sh_str hc Try.underlying9
 obtain ⟨xs, rfl, h1, h2⟩ := sh_arr he Try.underlying95 Try.underlying5
 exact ⟨⟨n, s, xs⟩, rfl, hs, seg_of h1 h2⟩
theorem sg_dig {d : Nat} {cs : List V} (h : ShC Try.prog d 43 cs) : ∃ xs : List Int, cs = [.seg .u8 32 xs] ∧ SegOk 32 xs := by
 obtain ⟨xs, rfl, h1, h2⟩ := sh_arr h Try.underlying43 Try.underlying5
 exact ⟨xs, rfl, seg_of h1 h2⟩
theorem sg_vote {d : Nat} {cs : List V} (h : ShC Try.prog d 45 cs) : ∃ s : SVote, cs = s.c ∧ SegOk 32 s.digest := by
 obtain ⟨d, a, _, rfl, ha, b, _, rfl, hb, c, _, rfl, hc, e, _, rfl, he, f, _, rfl, hf, rfl⟩ := sh_struct h Try.underlying45
 obtain ⟨n, rfl, _⟩ := sh_int ha Try.underlying3
 obtain ⟨m, rfl, _⟩ := sh_int hb Try.underlying3
 obtain ⟨o, rfl, _⟩ := sh_int hc Try.underlying3
 obtain ⟨p, rfl, _⟩ := sh_int he Try.underlying3
 obtain ⟨xs, rfl, h1⟩ := sg_dig hf
 exact ⟨⟨n, m, o, p, xs⟩, rfl, h1⟩
theorem sg_signs (U : Imm) {d : Nat} {cs : List V} (h : ShC Try.prog d 50 cs) : ∃ n s, CsLe U cs [sg n s] ∧ n ≤ 9223372036854775807 ∧ ∀ i, i < n → SegOk 16 (s i).tag := by
 obtain ⟨d, len, f, rfl, hl, hf⟩ := sh_slice h Try.underlying50
 obtain ⟨s, hs⟩ := choose_fn fun i hi => sg_sign (hf i hi)
 refine ⟨len, s, ?_, hl, fun i hi => (hs i hi).2⟩
 rw [cellsSign]
 exact CsLe.ros fun i hi => by rw [(hs i hi).1]; exact CsLe.refl _ _
theorem sg_batch (U : Imm) {d : Nat} {cs : List V} (h : ShC Try.prog d 41 cs) : ∃ b : SBatch, CsLe U cs b.c ∧ FitB b ∧ segBatch b := by
 obtain ⟨d, a, _, rfl, ha, b, _, rfl, hb, rfl⟩ := sh_struct h Try.underlying41
 obtain ⟨n, rfl⟩ := sh_bool ha Try.underlying4
 obtain ⟨d, len, f, rfl, hl, hf⟩ := sh_slice hb Try.underlying39
 obtain ⟨s, hs⟩ := choose_fn fun i hi => sg_req (hf i hi)
 refine ⟨⟨n, len, s⟩, ?_, ⟨hl, fun k hk => (hs k hk).2.1⟩, fun k hk => (hs k hk).2.2⟩
 rw [cellsReq]
 refine CsLe.app (CsLe.refl U [.bool n]) ?_
 exact CsLe.ros fun i hi => by rw [(hs i hi).1]; exact CsLe.refl _ _
theorem sg_cert (U : Imm) {d : Nat} {cs : List V} (h : ShC Try.prog d 52 cs) : ∃ c : SCert, CsLe U cs c.c ∧ c.n ≤ 9223372036854775807 ∧ segCert c := by
 obtain ⟨d, a, _, rfl, ha, b, _, rfl, hb, rfl⟩ := sh_struct h Try.underlying52
 obtain ⟨v, rfl, hv⟩ := sg_vote ha
 obtain ⟨n, s, hs, hn, ht⟩ := sg_signs U hb
 refine ⟨⟨v, n, s⟩, ?_, hn, ⟨hv, ht⟩⟩
 refine CsLe.app (CsLe.refl U v.c) ?_
 rw [List.append_nil]; exact hs
theorem sg_held (U : Imm) {d : Nat} {cs : List V} (h : ShC Try.prog d 93 cs) : ∃ c : SHeld, CsLe U cs c.c ∧ FitB c.batch ∧ segHeld c := by
 obtain ⟨d, a, _, rfl, ha, b, _, rfl, hb, rfl⟩ := sh_struct h Try.underlying93
 obtain ⟨b, hb1, hb2, hb3⟩ := sg_batch U ha
 obtain ⟨c, hc1, hc2, hc3⟩ := sg_cert U hb
 refine ⟨⟨b, c⟩, ?_, hb2, ⟨hb3, hc3⟩⟩
 refine CsLe.app hb1 ?_
 rw [List.append_nil]; exact hc1
instance : Inhabited SHeld := ⟨{}⟩
theorem sg_helds (U : Imm) {d : Nat} {cs : List V} (h : ShC Try.prog d 46 cs) : ∃ n s, CsLe U cs [Sy.hl n s] ∧ n ≤ 9223372036854775807 ∧ ∀ i, i < n → FitB (s i).batch ∧ segHeld (s i) := by
 obtain ⟨d, len, f, rfl, hl, hf⟩ := sh_slice h Try.underlying46
 obtain ⟨s, hs⟩ := choose_fn fun i hi => sg_held U (hf i hi)
 refine ⟨len, s, ?_, hl, fun i hi => (hs i hi).2⟩
 rw [cellsHeld]
 exact CsLe.ros fun i hi => (hs i hi).1
theorem sg_envs (U : Imm) {d : Nat} {cs : List V} (h : ShC Try.prog d 49 cs) : ∃ n s, CsLe U cs [nw n s] ∧ n ≤ 9223372036854775807 ∧ ∀ i, i < n → (s i).body.size ≤ 9223372036854775807 ∧ SegOk 16 (s i).tag := by
 obtain ⟨d, len, f, rfl, hl, hf⟩ := sh_slice h Try.underlying49
 obtain ⟨s, hs⟩ := choose_fn fun i hi => sg_env (hf i hi)
 refine ⟨len, s, ?_, hl, fun i hi => (hs i hi).2⟩
 rw [cellsEnv]
 exact CsLe.ros fun i hi => by rw [(hs i hi).1]; exact CsLe.refl _ _
theorem sg_msg (U : Imm) {d : Nat} {cs : List V} (h : ShC Try.prog d 54 cs) : ∃ m : SMsg, CsLe U cs m.c ∧ FitMsg m ∧ segMsg m := by
 obtain ⟨d, a1, _, rfl, h1, a2, _, rfl, h2, a3, _, rfl, h3, a4, _, rfl, h4, a5, _, rfl, h5, a6, _, rfl, h6, a7, _, rfl, h7, a8, _, rfl, h8, a9, _, rfl, h9, a10, _, rfl, h10, a11, _, rfl, h11, a12, _, rfl, h12, a13, _, rfl, h13, rfl⟩ := sh_struct h Try.underlying54
 obtain ⟨n1, rfl, _⟩ := sh_int h1 Try.underlying3
 obtain ⟨n2, rfl, _⟩ := sh_int h2 Try.underlying3
 obtain ⟨n3, rfl, _⟩ := sh_int h3 Try.underlying3
 obtain ⟨n4, rfl, _⟩ := sh_int h4 Try.underlying3
 obtain ⟨n5, rfl, _⟩ := sh_int h5 Try.underlying3
 obtain ⟨b, hb1, hb2, hb3⟩ := sg_batch U h6
 obtain ⟨v, rfl, hv⟩ := sg_vote h7
 obtain ⟨d', c1, _, rfl, k1, c2, _, rfl, k2, c3, _, rfl, k3, c4, _, rfl, k4, rfl⟩ := sh_struct h8 Try.underlying48
 obtain ⟨e1, rfl, _⟩ := sh_int k1 Try.underlying3
 obtain ⟨e2, rfl, _⟩ := sh_int k2 Try.underlying3
 obtain ⟨e3, rfl, _⟩ := sh_int k3 Try.underlying3
 obtain ⟨nh, hd, hh1, hh2, hh3⟩ := sg_helds U k4
 obtain ⟨nn, nws, hn1, hn2, hn3⟩ := sg_envs U h9
 obtain ⟨dg, rfl, hdg⟩ := sg_dig h10
 obtain ⟨c, hc1, hc2, hc3⟩ := sg_cert U h11
 obtain ⟨s, rfl, _⟩ := sh_str h12 Try.underlying9
 obtain ⟨n, sgs, hs1, hs2, hs3⟩ := sg_signs U h13
 refine ⟨{ kind := n1, epoch := n2, leader := n3, view := n4, slot := n5, batch := b, vote := v, cepoch := e1, cleader := e2, cview := e3, nheld := nh, held := hd, nnews := nn, news := nws, digest := dg, cert := c, state := s, n := n, sig := sgs }, ?_, ⟨hb2, fun k hk => (hh3 k hk).1, fun k hk => (hn3 k hk).1, hh2, hn2⟩, ⟨hb3, hv, fun k hk => (hh3 k hk).2, fun k hk => (hn3 k hk).2, hdg, hc3, hs3⟩⟩
 show CsLe U _ ([V.int .i64 n1] ++ ([V.int .i64 n2] ++ ([V.int .i64 n3] ++ ([V.int .i64 n4] ++ ([V.int .i64 n5] ++ (b.c ++ (v.c ++ (([V.int .i64 e1] ++ ([V.int .i64 e2] ++ ([V.int .i64 e3] ++ ([Sy.hl nh hd] ++ [])))) ++ ([nw nn nws] ++ ([V.seg .u8 32 dg] ++ (c.c ++ ([V.str s] ++ [Sy.sg n sgs]))))))))))))
 refine CsLe.app (CsLe.refl U [_]) (CsLe.app (CsLe.refl U [_]) (CsLe.app (CsLe.refl U [_]) (CsLe.app (CsLe.refl U [_]) (CsLe.app (CsLe.refl U [_]) (CsLe.app hb1 (CsLe.app (CsLe.refl U v.c) (CsLe.app (CsLe.app (CsLe.refl U [_]) (CsLe.app (CsLe.refl U [_]) (CsLe.app (CsLe.refl U [_]) (CsLe.app hh1 (CsLe.refl U []))))) (CsLe.app hn1 (CsLe.app (CsLe.refl U [_]) (CsLe.app hc1 (CsLe.app (CsLe.refl U [_]) ?_)))))))))))
 rw [List.append_nil]; exact hs1
end Go.Proofs.Ythifjamdfpjilaa
