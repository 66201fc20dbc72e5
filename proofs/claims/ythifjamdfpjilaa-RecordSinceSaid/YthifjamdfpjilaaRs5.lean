/-
  Contracts: records that are looked at; the law's own function (own work of this seat).
-/
import Derived.Test.YthifjamdfpjilaaRs4
namespace Go.Proofs.Ythifjamdfpjilaa
open Go Sy Go.Proofs
/-- Is a record not too much? -/
def okR (r : SRec) : Bool := lightB r.batch && (decide (r.cert.n ≤ 100) && (decide (r.n ≤ 100) && decide (r.state.size ≤ 4000)))
def lrI (n : Nat) (r : Nat → SRec) (k : Nat) : St := ⟨mkT 39 [(8, rc n r), (9, .int .i64 n), (10, .int .i64 k)], [], 0, []⟩
def lrF : St := ⟨mkT 39 [(2, .bool false)], [], 0, []⟩
noncomputable def dbLight (x : SRec) : Nat → List V → Heap → Nat → List Cl
  | 47, [.sl a _ _ _ _ _ _], _, _ => [{ val := .bool (lightB x.batch), pre := [a], post := [(a, .rows 2 1 (getL [x.batch.c]) false)] }]
  | _, _, _, _ => []
noncomputable def pcLr (n : Nat) (r : Nat → SRec) (k : Nat) : Pc := { c := cB (cB (cR (cL (cR (cR (bodyOf Try.f25)))))), st := lrI n r k, kb := { db := dbLight (r k) }, k := fun e _ => match e with
  | .normal => some (wTo (lrI n r (k + 1)))
  | .ret => some (wTo lrF)
  | _ => some (wTo (lrI n r n)) }
noncomputable def bdLr (n : Nat) (r : Nat → SRec) (m : Nat) : Bd := { f := Try.f25, args := [rc n r], kb := { db := fun _ _ _ _ => [], lp := fun _ _ => [(True, .loop (n + 1) (wTo (lrI n r 0)) (.exit 0) (lrI n r n)), (True, .loop (m + 1) (wTo (lrI n r 0)) .ret lrF)] } }
end Go.Proofs.Ythifjamdfpjilaa
