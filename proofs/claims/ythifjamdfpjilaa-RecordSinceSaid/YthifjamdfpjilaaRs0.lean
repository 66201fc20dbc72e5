/-
  Small contracts (own work of this seat).
-/
import Derived.Test.YthifjamdfpjilaaSyPlan
import Derived.Test.YthifjamdfpjilaaSyOpen
import Derived.Test.YthifjamdfpjilaaProg
namespace Go.Proofs.Ythifjamdfpjilaa
open Go Sy Go.Proofs
theorem MO : Try.prog.follows .mixedOrders = true := by kernel_rfl
def ngB (P : Program) : Bool := P.funcs.toList.all fun fn => !fn.body.isSome || !(fn.name == "runtime.NumGoroutine")
theorem NG_of {P : Program} (h : ngB P = true) : NoNG P := by
  intro f fn hf hb
  have := List.all_eq_true.1 h fn (by
    rw [← Array.getElem?_toList] at hf
    exact List.mem_of_getElem? hf)
  rw [hb] at this; simpa using this
theorem NG : NoNG Try.prog := NG_of (by kernel_rfl)

def kb0 : Kb := ⟨fun _ _ _ _ => [], fun _ _ => [], fun _ _ => [], false⟩
/-- Just the results' temporaries, with these values; no block. -/
def kRes (l : List (Nat × V)) : Exit → St → Option W := fun _ st => some ⟨[], setsOf l, [], none, st.next⟩

noncomputable def bdAdd (n more most : Int) : Bd := { f := Try.f48, args := [.int .i64 n, .int .i64 more, .int .i64 most], kb := kb0 }
end Go.Proofs.Ythifjamdfpjilaa
