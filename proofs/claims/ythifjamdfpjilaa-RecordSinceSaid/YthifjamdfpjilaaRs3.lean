/-
  Contracts: what is looked at (own work of this seat).
-/
import Derived.Test.YthifjamdfpjilaaRs2
namespace Go.Proofs.Ythifjamdfpjilaa
open Go Sy Go.Proofs
def bt (n : Nat) (b : Nat → SBatch) : V := .ros 2 n (fun i => (b i).c) false
/-- How much is counted of requests, of batches. -/
def lightR (n0 : Int) (r : Nat → SReq) : Nat → Int
  | 0 => n0
  | k + 1 => addS (addS (lightR n0 r k) 20 4000) (r k).data.size 4000
/-- One batch: as long as it isn't too much. -/
def light1I (b : SBatch) (n0 : Int) (k : Nat) : St := ⟨mkT 47 [(0, .sl (.o 0) 2 0 0 0 1 (some 1)), (3, .int .i64 (lightR n0 b.req k)), (4, .int .i64 0), (5, .int .i64 k)], [(.o 0, .rows 2 1 (getL [b.c]) false)], 1, []⟩
def dbAdd : Nat → List V → Heap → Nat → List Cl
  | 48, [.int _ a, .int _ c, _], _, _ => [{ val := .int .i64 (addS a c 4000) }]
  | _, _, _, _ => []
def lpLight (b : SBatch) (m : Nat) : Nat → St → List (Prop × Hint)
  | 0, _ => [(True, .rounds 2)]
  | _, _ => [(True, .loop (m + 1) (wTo (light1I b 5 0)) (.exit 2) (light1I b 5 m))]
noncomputable def pcLi (b : SBatch) (n0 : Int) (m k : Nat) : Pc := { c := cB (cB (cR (cR (cB (cL (cR (cB (cB (cR (cL (cR (cR (bodyOf Try.f47))))))))))))), st := light1I b n0 k, p := 1, kb := { db := dbAdd }, k := fun e _ => match e with
  | .normal => some (wTo (light1I b n0 (k + 1)))
  | _ => some (wTo (light1I b n0 m)) }
noncomputable def bdLight (b : SBatch) (m : Nat) : Bd := { f := Try.f47, args := [.sl (.o 0) 2 0 0 0 1 (some 1)], pre := [(.o 0, .rows 2 1 (getL [b.c]) false)], base := 1, kb := { db := dbAdd, lp := lpLight b m }, names := fun _ => [.o 0] }
end Go.Proofs.Ythifjamdfpjilaa
