/-
  Contracts: the law of the last state (own work of this seat).
-/
import Derived.Test.YthifjamdfpjilaaRs6
namespace Go.Proofs.Ythifjamdfpjilaa
open Go Sy Go.Proofs
def own (n : Nat) (r : Nat → SRec) : B := .rows 45 n (fun i => (r i).c) true
def sinceOI (n : Nat) (r : Nat → SRec) (k : Nat) : St := ⟨mkT 23 [(0, .sl (.o 0) 45 0 0 0 n none), (3, .int .i64 (fromS r k)), (6, .int .i64 n), (7, .int .i64 k)], [(.o 0, own n r)], 1, []⟩
def kSinceO (n : Nat) (r : Nat → SRec) : Exit → St → Option W := fun _ st => match getV st.tmps 2 with
  | .sl m _ _ _ _ _ _ => some ⟨[(.o 63, m)], [(2, .set (.sl (.o 63) 45 0 0 0 (n - fromS r n) none))], [(.o 63, .set (own (n - fromS r n) (fun i => r (fromS r n + i)))), (.o 0, .set (own n r))], none, st.next⟩
  | _ => none
noncomputable def bdSinceO (n : Nat) (r : Nat → SRec) : Bd := { f := Try.f30, args := [.sl (.o 0) 45 0 0 0 n none], pre := [(.o 0, own n r)], base := 1, kb := { db := fun _ _ _ _ => [], lp := fun _ _ => [(True, .loop (n + 1) (wTo (sinceOI n r 0)) (.exit 0) (sinceOI n r n))] }, k := kSinceO n r, names := fun _ => [.o 63, .o 0] }
noncomputable def pcSinceO (n : Nat) (r : Nat → SRec) (k : Nat) : Pc := { c := cB (cB (cR (cL (cR (cR (bodyOf Try.f30)))))), st := sinceOI n r k, p := 1, kb := kb0, k := fun e _ => match e with
  | .normal => some (wTo (sinceOI n r (k + 1)))
  | _ => some (wTo (sinceOI n r n)) }

noncomputable def dbRec (n : Nat) (r : Nat → SRec) : Nat → List V → Heap → Nat → List Cl
  | 25, _, _, _ => [{ val := .bool (lightAll n r) }]
  | 26, _, _, _ => [{ val := .bool true }]
  | 29, _, _, _ => [{ val := .bool true }]
  | 30, [.sl a _ _ _ _ _ _], _, lo => [{ rd := [a], val := .sl (.o lo) 45 0 0 0 (n - fromS r n) none, post := [(.o lo, own (n - fromS r n) (fun i => r (fromS r n + i)))] }]
  | 31, _, _, _ => [{ val := rc (n - fromS r n) (fun i => r (fromS r n + i)) }]
  | _, _, _, _ => []
def rec1I (n : Nat) (r : Nat → SRec) (k : Nat) : St := ⟨mkT 69 [(0, rc n r), (3, .sl (.o 0) 45 0 0 0 n none), (4, .sl (.o 1) 45 0 0 0 (n - fromS r n) none), (5, rc (n - fromS r n) (fun i => r (fromS r n + i))), (25, .int .i64 ((n - fromS r n : Nat) : Int)), (26, .int .i64 k)],
  [(.o 0, own n r), (.o 1, own (n - fromS r n) (fun i => r (fromS r n + i)))], 2, []⟩
def rec2I (n : Nat) (r : Nat → SRec) (k : Nat) : St := ⟨mkT 69 [(0, rc n r), (3, .sl (.o 0) 45 0 0 0 n none), (53, .int .i64 n), (54, .int .i64 k)], [(.o 0, own n r)], 2, []⟩
noncomputable def lpRec (n : Nat) (r : Nat → SRec) : Nat → St → List (Prop × Hint)
  | 0, st => match getV st.tmps 3 with
    | .sl a _ _ _ _ _ _ => match getV st.tmps 4 with
      | .sl b _ _ _ _ _ _ => [(True, .loop (n - fromS r n + 1) (wToS [(.o 0, a), (.o 1, b)] (rec1I n r 0)) (.exit 0) (rec1I n r (n - fromS r n)))]
      | _ => []
    | _ => []
  | _, _ => [(True, .loop (n + 1) (wTo (rec2I n r 0)) (.exit 2) (rec2I n r n))]
noncomputable def bdRec (n : Nat) (r : Nat → SRec) : Bd := { f := Try.f10, args := [rc n r], kb := { db := dbRec n r, lp := lpRec n r } }
noncomputable def pcRec1 (n : Nat) (r : Nat → SRec) (k : Nat) : Pc := { c := cB (cB (cR (cL (cR (cR (cR (cR (cR (bodyOf Try.f10))))))))), st := rec1I n r k, kb := { db := dbRec n r }, k := fun e _ => match e with
  | .normal => some (wTo (rec1I n r (k + 1)))
  | _ => some (wTo (rec1I n r (n - fromS r n))) }
noncomputable def pcRec2 (n : Nat) (r : Nat → SRec) (k : Nat) : Pc := { c := cB (cB (cR (cL (cR (cR (cR (cR (cR (cR (bodyOf Try.f10)))))))))), st := rec2I n r k, kb := { db := dbRec n r }, k := fun e _ => match e with
  | .normal => some (wTo (rec2I n r (k + 1)))
  | _ => some (wTo (rec2I n r n)) }
end Go.Proofs.Ythifjamdfpjilaa
