/-
  No cell of these rows narrows 'for every input' (looked for: loops, veiled, ifaces, maps, wideKeys, modest, calm, conditions, laid).
  DERIVED. THE GIVEN ROWS OF THIS SEAT. 4 by the template 'for every input the law returns true; each argument reads behind the call as it read before'; 0 by the template 'total and deterministic' (their statements: YtnmccoincblecaaGreatTotals.lean).
  GIVEN WITH THE SEED: the statements are not yours to turn. If you find one false, say at which input.
  Laid BY PROGRAM, IN A SANDBOX (cutbox-rows.mjs): the forced cells as the released guide's own fill.sh prints them over the translation b3f3adaf46c263bc… (all of the seat's roots in one cut). By AI agents, Wed Nov 11 2026. No macro, syntax, notation, axiom, sorry.
-/
import Derived.Test.YtnmccoincblecaaGreatChecked
import GoSem.Claim
import GoSem.ClaimJoined
import GoSem.ClaimMapViews
import Derived.JoinedTies
import Derived.KernelRfl
namespace Go.Proofs.YtnmccoincblecaaGreat
/- THE CELL 'sum', in the pinned program and in every row, IS THE sha256 OF THE DUMP (.gsa) THAT YtnmccoincblecaaGreatProg.lean LOADS. Nothing in Lean hashes anything: it is a label: what it is worth is what the hold of that sum in a sandbox is worth. -/
noncomputable def Tryz.pinned : Pinned := { name := "ytnmccoincblecaagreat", sum := "b3f3adaf46c263bc15727831c2fe103b207b05c51d3a4d92dfc1d9e9fd54f97a", checked := Tryz.checked }
namespace Rows
def none {H : Type} : Left H := { results := [], args := [] }

/-- 'raddlelaw14.EnvelopeReads': WHATEVER THE INPUT: true; the input reads as it did. -/
def envelopeReadsSpec : ChangeSpec := { name := "envelopeReads", fn := fun _ => fun
  | [d1, d2, d3] => { results := [.lit (.bool true)], args := [d1, d2, d3] }
  | _ => none }
def envelopeReadsRow : OpenClaim := { program := "ytnmccoincblecaagreat", sum := "b3f3adaf46c263bc15727831c2fe103b207b05c51d3a4d92dfc1d9e9fd54f97a", func := "raddle/raddlelaw14.EnvelopeReads", spec := "envelopeReads", unfollowed := true, recurses := true, apart := false }
def EnvelopeReadsSaid : Prop := envelopeReadsRow.holds Tryz.pinned (OpenSpec.ofChange envelopeReadsSpec)

/-- ITS FALSE NEIGHBOUR: 'it returns false'. Refute it at one input. -/
def envelopeReadsWrong : ChangeSpec := { name := "envelopeReads", fn := fun _ => fun
  | [d1, d2, d3] => { results := [.lit (.bool false)], args := [d1, d2, d3] }
  | _ => none }
def EnvelopeReadsWrongFalsely : Prop := envelopeReadsRow.holds Tryz.pinned (OpenSpec.ofChange envelopeReadsWrong)

/-- 'raddlelaw14.EnvelopeBack': WHATEVER THE INPUT: true; the input reads as it did. -/
def envelopeBackSpec : ChangeSpec := { name := "envelopeBack", fn := fun _ => fun
  | [d1, d2] => { results := [.lit (.bool true)], args := [d1, d2] }
  | _ => none }
def envelopeBackRow : OpenClaim := { program := "ytnmccoincblecaagreat", sum := "b3f3adaf46c263bc15727831c2fe103b207b05c51d3a4d92dfc1d9e9fd54f97a", func := "raddle/raddlelaw14.EnvelopeBack", spec := "envelopeBack", unfollowed := true, recurses := true, apart := false }
def EnvelopeBackSaid : Prop := envelopeBackRow.holds Tryz.pinned (OpenSpec.ofChange envelopeBackSpec)

/-- ITS FALSE NEIGHBOUR: 'it returns false'. Refute it at one input. -/
def envelopeBackWrong : ChangeSpec := { name := "envelopeBack", fn := fun _ => fun
  | [d1, d2] => { results := [.lit (.bool false)], args := [d1, d2] }
  | _ => none }
def EnvelopeBackWrongFalsely : Prop := envelopeBackRow.holds Tryz.pinned (OpenSpec.ofChange envelopeBackWrong)

/-- 'raddlelaw14.EnvelopeSeals': WHATEVER THE INPUT: true; the input reads as it did. -/
def envelopeSealsSpec : ChangeSpec := { name := "envelopeSeals", fn := fun _ => fun
  | [d1, d2, d3, d4] => { results := [.lit (.bool true)], args := [d1, d2, d3, d4] }
  | _ => none }
def envelopeSealsRow : OpenClaim := { program := "ytnmccoincblecaagreat", sum := "b3f3adaf46c263bc15727831c2fe103b207b05c51d3a4d92dfc1d9e9fd54f97a", func := "raddle/raddlelaw14.EnvelopeSeals", spec := "envelopeSeals", unfollowed := true, recurses := true, apart := false }
def EnvelopeSealsSaid : Prop := envelopeSealsRow.holds Tryz.pinned (OpenSpec.ofChange envelopeSealsSpec)

/-- ITS FALSE NEIGHBOUR: 'it returns false'. Refute it at one input. -/
def envelopeSealsWrong : ChangeSpec := { name := "envelopeSeals", fn := fun _ => fun
  | [d1, d2, d3, d4] => { results := [.lit (.bool false)], args := [d1, d2, d3, d4] }
  | _ => none }
def EnvelopeSealsWrongFalsely : Prop := envelopeSealsRow.holds Tryz.pinned (OpenSpec.ofChange envelopeSealsWrong)

/-- 'raddlelaw14.EnvelopeSealed': WHATEVER THE INPUT: true; the input reads as it did. -/
def envelopeSealedSpec : ChangeSpec := { name := "envelopeSealed", fn := fun _ => fun
  | [d1, d2, d3, d4] => { results := [.lit (.bool true)], args := [d1, d2, d3, d4] }
  | _ => none }
def envelopeSealedRow : OpenClaim := { program := "ytnmccoincblecaagreat", sum := "b3f3adaf46c263bc15727831c2fe103b207b05c51d3a4d92dfc1d9e9fd54f97a", func := "raddle/raddlelaw14.EnvelopeSealed", spec := "envelopeSealed", unfollowed := true, recurses := true, apart := false }
def EnvelopeSealedSaid : Prop := envelopeSealedRow.holds Tryz.pinned (OpenSpec.ofChange envelopeSealedSpec)

/-- ITS FALSE NEIGHBOUR: 'it returns false'. Refute it at one input. -/
def envelopeSealedWrong : ChangeSpec := { name := "envelopeSealed", fn := fun _ => fun
  | [d1, d2, d3, d4] => { results := [.lit (.bool false)], args := [d1, d2, d3, d4] }
  | _ => none }
def EnvelopeSealedWrongFalsely : Prop := envelopeSealedRow.holds Tryz.pinned (OpenSpec.ofChange envelopeSealedWrong)

/- THE SECOND FORM. 'bulk': how many values and letters a reading holds, each counted each time it is reached (what is shared counts as often as it is met; a slice's spare places count too). A statement '..UptoSaid' is the law's where the arguments, and the package variables that the reading takes, are together of bulk at most 1048576: NARROWER than '..Said'. Prove '..Said' where nothing that the law and all that it calls make is longer than what came in: it says more and counts as full. Else prove '..UptoSaid'. A law counts once. -/
mutual
def uptoBulk {H : Type} : DataW H → Nat
  | .lit (.string bytes) => bytes.length + 1
  | .lit _ => 1
  | .nil => 1
  | .ptr d => uptoBulk d + 1
  | .slice elems spare => uptoBulkAll elems + uptoBulkAll spare + 1
  | .agg parts => uptoBulkAll parts + 1
  | .iface _ d => uptoBulk d + 1
  | .map entries => uptoBulkEntries entries + 1
  | .held _ => 1
def uptoBulkAll {H : Type} : List (DataW H) → Nat
  | [] => 0
  | d :: r => uptoBulk d + uptoBulkAll r
def uptoBulkEntries {H : Type} : List (Lit × DataW H) → Nat
  | [] => 0
  | x :: r => uptoBulkEntry x + uptoBulkEntries r
def uptoBulkEntry {H : Type} : Lit × DataW H → Nat
  | (.string bytes, d) => bytes.length + uptoBulk d + 1
  | (_, d) => uptoBulk d + 1
 end
def uptoSmall : (H : Type) → List (DataW H) → Bool := fun _ ds => decide (uptoBulkAll ds ≤ 1048576)
def OpenSpec.upto (s : _root_.Go.ChangeSpec) : _root_.Go.OpenSpec := { _root_.Go.OpenSpec.ofChange s with cond := some uptoSmall }

/-- 'raddlelaw14.EnvelopeReads', WHERE WHAT IT READS IS OF BULK AT MOST 1048576: true; the input reads as it did. -/
def envelopeReadsUptoRow : OpenClaim := { program := "ytnmccoincblecaagreat", sum := "b3f3adaf46c263bc15727831c2fe103b207b05c51d3a4d92dfc1d9e9fd54f97a", func := "raddle/raddlelaw14.EnvelopeReads", spec := "envelopeReads", unfollowed := true, recurses := true, apart := false, narrowed := true }
def EnvelopeReadsUptoSaid : Prop := envelopeReadsUptoRow.holds Tryz.pinned (OpenSpec.upto envelopeReadsSpec)

/-- 'raddlelaw14.EnvelopeBack', WHERE WHAT IT READS IS OF BULK AT MOST 1048576: true; the input reads as it did. -/
def envelopeBackUptoRow : OpenClaim := { program := "ytnmccoincblecaagreat", sum := "b3f3adaf46c263bc15727831c2fe103b207b05c51d3a4d92dfc1d9e9fd54f97a", func := "raddle/raddlelaw14.EnvelopeBack", spec := "envelopeBack", unfollowed := true, recurses := true, apart := false, narrowed := true }
def EnvelopeBackUptoSaid : Prop := envelopeBackUptoRow.holds Tryz.pinned (OpenSpec.upto envelopeBackSpec)

/-- 'raddlelaw14.EnvelopeSeals', WHERE WHAT IT READS IS OF BULK AT MOST 1048576: true; the input reads as it did. -/
def envelopeSealsUptoRow : OpenClaim := { program := "ytnmccoincblecaagreat", sum := "b3f3adaf46c263bc15727831c2fe103b207b05c51d3a4d92dfc1d9e9fd54f97a", func := "raddle/raddlelaw14.EnvelopeSeals", spec := "envelopeSeals", unfollowed := true, recurses := true, apart := false, narrowed := true }
def EnvelopeSealsUptoSaid : Prop := envelopeSealsUptoRow.holds Tryz.pinned (OpenSpec.upto envelopeSealsSpec)

/-- 'raddlelaw14.EnvelopeSealed', WHERE WHAT IT READS IS OF BULK AT MOST 1048576: true; the input reads as it did. -/
def envelopeSealedUptoRow : OpenClaim := { program := "ytnmccoincblecaagreat", sum := "b3f3adaf46c263bc15727831c2fe103b207b05c51d3a4d92dfc1d9e9fd54f97a", func := "raddle/raddlelaw14.EnvelopeSealed", spec := "envelopeSealed", unfollowed := true, recurses := true, apart := false, narrowed := true }
def EnvelopeSealedUptoSaid : Prop := envelopeSealedUptoRow.holds Tryz.pinned (OpenSpec.upto envelopeSealedSpec)

end Rows
end Go.Proofs.YtnmccoincblecaaGreat
