/-
  Contracts of small functions (own work of this seat).
-/
import Derived.Test.YthifjamdfpjilaaRs0
import Derived.Test.YthifjamdfpjilaaSyData
namespace Go.Proofs.Ythifjamdfpjilaa
open Go Sy Go.Proofs
theorem bdAdd_p111 (n : Int) (more : Int) (most : Int) :
    along Try.prog (bdAdd n more most) [true, true, true] = some (V.int IntKind.i64 (most + 1), [], [decide (most < n) = true, true = true, true = true, InR IntKind.i64 (most + 1)]) := by kernel_rfl
theorem bdAdd_p011 (n : Int) (more : Int) (most : Int) :
    along Try.prog (bdAdd n more most) [false, true, true] = some (V.int IntKind.i64 (most + 1), [], [decide (most < n) = false, decide (most < more) = true, true = true, InR IntKind.i64 (most + 1)]) := by kernel_rfl
theorem bdAdd_p001 (n : Int) (more : Int) (most : Int) :
    along Try.prog (bdAdd n more most) [false, false, true] = some (V.int IntKind.i64 (most + 1), [], [decide (most < n) = false, decide (most < more) = false, InR IntKind.i64 (most - more), decide (most - more < n) = true, InR IntKind.i64 (most + 1)]) := by kernel_rfl
theorem bdAdd_p000 (n : Int) (more : Int) (most : Int) :
    along Try.prog (bdAdd n more most) [false, false, false] = some (V.int IntKind.i64 (n + more), [], [decide (most < n) = false, decide (most < more) = false, InR IntKind.i64 (most - more), decide (most - more < n) = false, InR IntKind.i64 (n + more)]) := by kernel_rfl

def addS (n more most : Int) : Int := if most < n ∨ most < more ∨ most - more < n then most + 1 else n + more
theorem T_add {n more : Int} (h1 : 0 ≤ n) (h2 : 0 ≤ more) (h3 : more ≤ 9223372036854775807) : T Try.prog 48 [.int .i64 n, .int .i64 more, .int .i64 4000] [] (.int .i64 (addS n more 4000)) [] := by
  by_cases a : (4000 : Int) < n
  · exact T.val (T_along NG MO _ (bdAdd_p111 n more 4000) Try.func48 (by kernel_rfl) (by simp [All, InR64, a]) (pinH_ok (by kernel_rfl)) (by kernel_rfl)) (by simp [addS, a])
  by_cases b : (4000 : Int) < more
  · exact T.val (T_along NG MO _ (bdAdd_p011 n more 4000) Try.func48 (by kernel_rfl) (by simp [All, InR64, a, b] <;> omega) (pinH_ok (by kernel_rfl)) (by kernel_rfl)) (by simp [addS, b])
  by_cases c : (4000 : Int) - more < n
  · exact T.val (T_along NG MO _ (bdAdd_p001 n more 4000) Try.func48 (by kernel_rfl) (by simp [All, InR64, a, b, c] <;> omega) (pinH_ok (by kernel_rfl)) (by kernel_rfl)) (by simp [addS, c])
  · exact T.val (T_along NG MO _ (bdAdd_p000 n more 4000) Try.func48 (by kernel_rfl) (by simp [All, InR64, a, b, c] <;> omega) (pinH_ok (by kernel_rfl)) (by kernel_rfl)) (by simp [addS, a, b, c])

/-- The last state's place among the first ones. -/
def fromS (r : Nat → SRec) : Nat → Nat
  | 0 => 0
  | k + 1 => if (r k).kind = 5 then k else fromS r k
def sinceI (n : Nat) (r : Nat → SRec) (k : Nat) : St := ⟨mkT 23 [(0, rc n r), (3, .int .i64 (fromS r k)), (6, .int .i64 n), (7, .int .i64 k)], [], 0, []⟩
def rsinceI (n : Nat) (r : Nat → SRec) (k : Nat) : St := ⟨mkT 21 [(0, rc n r), (3, .int .i64 (fromS r k)), (4, .int .i64 k)], [], 0, []⟩
/-- A new slice as the result: its block's name is 63. -/
def kNew (t : Nat) (val : Nm → V) (b : B) : Exit → St → Option W := fun _ st => match getV st.tmps t with
  | .sl n _ _ _ _ _ _ => some ⟨[(.o 63, n)], [(t, .set (val (.o 63)))], [(.o 63, .set b)], none, st.next⟩
  | _ => none
noncomputable def bdSince (n : Nat) (r : Nat → SRec) : Bd := { f := Try.f30, args := [rc n r], kb := { db := fun _ _ _ _ => [], lp := fun _ _ => [(True, .loop (n + 1) (wTo (sinceI n r 0)) (.exit 0) (sinceI n r n))] }, k := kNew 2 (fun m => .sl m 45 0 0 0 (n - fromS r n) none) (.rows 45 (n - fromS r n) (fun i => (r (fromS r n + i)).c) true), names := fun _ => [.o 63] }
noncomputable def pcSince (n : Nat) (r : Nat → SRec) (k : Nat) : Pc := { c := cB (cB (cR (cL (cR (cR (bodyOf Try.f30)))))), st := sinceI n r k, kb := kb0, k := fun e _ => match e with
  | .normal => some (wTo (sinceI n r (k + 1)))
  | _ => some (wTo (sinceI n r n)) }

noncomputable def bdRSince (n : Nat) (r : Nat → SRec) : Bd := { f := Try.f31, args := [rc n r], kb := { db := fun _ _ _ _ => [], lp := fun _ _ => [(True, .loop (n + 1) (wTo (rsinceI n r 0)) (.exit 0) (rsinceI n r n))] }, k := kRes [(2, rc (n - fromS r n) (fun i => r (fromS r n + i)))] }
noncomputable def pcRSince (n : Nat) (r : Nat → SRec) (k : Nat) : Pc := { c := cB (cB (cR (cL (cR (cR (bodyOf Try.f31)))))), st := rsinceI n r k, kb := kb0, k := fun e _ => match e with
  | .normal => some (wTo (rsinceI n r (k + 1)))
  | _ => some (wTo (rsinceI n r n)) }

def ssI (n : Nat) (s : Nat → SSign) (k : Nat) : St := ⟨mkT 26 [(0, sg n s), (1, sg n s), (5, .int .i64 k)], [], 0, []⟩
noncomputable def bdSS (n : Nat) (s : Nat → SSign) : Bd := { f := Try.f70, args := [sg n s, sg n s], kb := { db := fun _ _ _ _ => [], lp := fun _ _ => [(True, .loop (n + 1) (wTo (ssI n s 0)) (.exit 0) (ssI n s n))] } }
noncomputable def pcSS (n : Nat) (s : Nat → SSign) (k : Nat) : Pc := { c := cB (cB (cR (cL (cR (cR (bodyOf Try.f70)))))), st := ssI n s k, kb := kb0, k := fun e _ => match e with
  | .normal => some (wTo (ssI n s (k + 1)))
  | _ => some (wTo (ssI n s n)) }

def sbI (b : SBatch) (k : Nat) : St := ⟨mkT 38 [(2, .ptr (.o 0) 0 0 0 0), (3, .ptr (.o 1) 0 0 0 0), (5, .int .i64 k)], [(.o 0, .flat b.c), (.o 1, .flat b.c)], 256, []⟩
noncomputable def bdSB (b : SBatch) : Bd := { f := Try.f67, args := [.agg b.c, .agg b.c], kb := { db := fun _ _ _ _ => [], lp := fun _ _ => [(True, .loop (b.n + 1) (wToS [(.o 1, .o 64)] (sbI b 0)) (.exit 0) (sbI b b.n))] } }
noncomputable def pcSB (b : SBatch) (k : Nat) : Pc := { c := cB (cB (cR (cL (cR (cR (bodyOf Try.f67)))))), st := sbI b k, kb := kb0, k := fun e _ => match e with
  | .normal => some (wTo (sbI b (k + 1)))
  | _ => some (wTo (sbI b b.n)) }
noncomputable def bdSC (c : SCert) : Bd := { f := Try.f69, args := [.agg c.c, .agg c.c], kb := { db := fun k _ _ _ => match k with
  | 70 => [{ val := .bool true }]
  | _ => [] } }
noncomputable def bdSR (r : SRec) : Bd := { f := Try.f29, args := [.agg r.c, .agg r.c], kb := { db := fun k _ _ _ => match k with
  | 70 => [{ val := .bool true }]
  | 69 => [{ val := .bool true }]
  | 67 => [{ val := .bool true }]
  | _ => [] } }
end Go.Proofs.Ythifjamdfpjilaa
