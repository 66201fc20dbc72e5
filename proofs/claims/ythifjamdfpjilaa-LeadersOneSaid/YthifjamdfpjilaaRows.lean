/-
  No cell of these rows narrows 'for every input' (looked for: loops, veiled, ifaces, maps, wideKeys, modest, calm, conditions, laid).
  DERIVED. THE GIVEN ROWS OF THIS SEAT. 8 by the template 'for every input the law returns true; each argument reads behind the call as it read before'; 0 by the template 'total and deterministic' (their statements: YthifjamdfpjilaaTotals.lean).
  GIVEN WITH THE SEED: the statements are not yours to turn. If you find one false, say at which input.
  Laid BY PROGRAM, IN A SANDBOX (cutbox-rows.mjs): the forced cells as the released guide's own fill.sh prints them over the translation 78d469e2e91f1c13… (all of the seat's roots in one cut). By AI agents, Wed Nov 11 2026. No macro, syntax, notation, axiom, sorry.
-/
import Derived.Test.YthifjamdfpjilaaChecked
import GoSem.Claim
import GoSem.ClaimJoined
import GoSem.ClaimMapViews
import Derived.JoinedTies
import Derived.KernelRfl
namespace Go.Proofs.Ythifjamdfpjilaa
/- THE CELL 'sum', in the pinned program and in every row, IS THE sha256 OF THE DUMP (.gsa) THAT YthifjamdfpjilaaProg.lean LOADS. Nothing in Lean hashes anything: it is a label: what it is worth is what the hold of that sum in a sandbox is worth. -/
noncomputable def Try.pinned : Pinned := { name := "ythifjamdfpjilaa", sum := "78d469e2e91f1c1377097ae3a0b79303a60afbf5917c8c575ad785122b4e8b5c", checked := Try.checked }
namespace Rows
def none {H : Type} : Left H := { results := [], args := [] }

/-- 'raddlelaw11.LeadersOne': WHATEVER THE INPUT: true; the input reads as it did. -/
def leadersOneSpec : ChangeSpec := { name := "leadersOne", fn := fun _ => fun
  | [d1, d2, d3] => { results := [.lit (.bool true)], args := [d1, d2, d3] }
  | _ => none }
def leadersOneRow : OpenClaim := { program := "ythifjamdfpjilaa", sum := "78d469e2e91f1c1377097ae3a0b79303a60afbf5917c8c575ad785122b4e8b5c", func := "raddle/raddlelaw11.LeadersOne", spec := "leadersOne", inPlace := ["internal/reflectlite.ValueOf", "internal/reflectlite.Swapper", "(internal/reflectlite.Value).Len"], unfollowed := true, recurses := true, apart := false }
def LeadersOneSaid : Prop := leadersOneRow.holds Try.pinned (OpenSpec.ofChange leadersOneSpec)

/-- ITS FALSE NEIGHBOUR: 'it returns false'. Refute it at one input. -/
def leadersOneWrong : ChangeSpec := { name := "leadersOne", fn := fun _ => fun
  | [d1, d2, d3] => { results := [.lit (.bool false)], args := [d1, d2, d3] }
  | _ => none }
def LeadersOneWrongFalsely : Prop := leadersOneRow.holds Try.pinned (OpenSpec.ofChange leadersOneWrong)

/-- 'raddlelaw11.LeadersRound': WHATEVER THE INPUT: true; the input reads as it did. -/
def leadersRoundSpec : ChangeSpec := { name := "leadersRound", fn := fun _ => fun
  | [d1, d2, d3, d4, d5] => { results := [.lit (.bool true)], args := [d1, d2, d3, d4, d5] }
  | _ => none }
def leadersRoundRow : OpenClaim := { program := "ythifjamdfpjilaa", sum := "78d469e2e91f1c1377097ae3a0b79303a60afbf5917c8c575ad785122b4e8b5c", func := "raddle/raddlelaw11.LeadersRound", spec := "leadersRound", inPlace := ["internal/reflectlite.ValueOf", "internal/reflectlite.Swapper", "(internal/reflectlite.Value).Len"], unfollowed := true, recurses := true, apart := false }
def LeadersRoundSaid : Prop := leadersRoundRow.holds Try.pinned (OpenSpec.ofChange leadersRoundSpec)

/-- ITS FALSE NEIGHBOUR: 'it returns false'. Refute it at one input. -/
def leadersRoundWrong : ChangeSpec := { name := "leadersRound", fn := fun _ => fun
  | [d1, d2, d3, d4, d5] => { results := [.lit (.bool false)], args := [d1, d2, d3, d4, d5] }
  | _ => none }
def LeadersRoundWrongFalsely : Prop := leadersRoundRow.holds Try.pinned (OpenSpec.ofChange leadersRoundWrong)

/-- 'raddlelaw11.LeadersFew': WHATEVER THE INPUT: true; the input reads as it did. -/
def leadersFewSpec : ChangeSpec := { name := "leadersFew", fn := fun _ => fun
  | [d1, d2, d3] => { results := [.lit (.bool true)], args := [d1, d2, d3] }
  | _ => none }
def leadersFewRow : OpenClaim := { program := "ythifjamdfpjilaa", sum := "78d469e2e91f1c1377097ae3a0b79303a60afbf5917c8c575ad785122b4e8b5c", func := "raddle/raddlelaw11.LeadersFew", spec := "leadersFew", inPlace := ["internal/reflectlite.ValueOf", "internal/reflectlite.Swapper", "(internal/reflectlite.Value).Len"], unfollowed := true, recurses := true, apart := false }
def LeadersFewSaid : Prop := leadersFewRow.holds Try.pinned (OpenSpec.ofChange leadersFewSpec)

/-- ITS FALSE NEIGHBOUR: 'it returns false'. Refute it at one input. -/
def leadersFewWrong : ChangeSpec := { name := "leadersFew", fn := fun _ => fun
  | [d1, d2, d3] => { results := [.lit (.bool false)], args := [d1, d2, d3] }
  | _ => none }
def LeadersFewWrongFalsely : Prop := leadersFewRow.holds Try.pinned (OpenSpec.ofChange leadersFewWrong)

/-- 'raddlelaw11.LeadersBack': WHATEVER THE INPUT: true; the input reads as it did. -/
def leadersBackSpec : ChangeSpec := { name := "leadersBack", fn := fun _ => fun
  | [d1, d2, d3, d4, d5] => { results := [.lit (.bool true)], args := [d1, d2, d3, d4, d5] }
  | _ => none }
def leadersBackRow : OpenClaim := { program := "ythifjamdfpjilaa", sum := "78d469e2e91f1c1377097ae3a0b79303a60afbf5917c8c575ad785122b4e8b5c", func := "raddle/raddlelaw11.LeadersBack", spec := "leadersBack", inPlace := ["internal/reflectlite.ValueOf", "internal/reflectlite.Swapper", "(internal/reflectlite.Value).Len"], unfollowed := true, recurses := true, apart := false }
def LeadersBackSaid : Prop := leadersBackRow.holds Try.pinned (OpenSpec.ofChange leadersBackSpec)

/-- ITS FALSE NEIGHBOUR: 'it returns false'. Refute it at one input. -/
def leadersBackWrong : ChangeSpec := { name := "leadersBack", fn := fun _ => fun
  | [d1, d2, d3, d4, d5] => { results := [.lit (.bool false)], args := [d1, d2, d3, d4, d5] }
  | _ => none }
def LeadersBackWrongFalsely : Prop := leadersBackRow.holds Try.pinned (OpenSpec.ofChange leadersBackWrong)

/-- 'raddlelaw13.MessageBack': WHATEVER THE INPUT: true; the input reads as it did. -/
def messageBackSpec : ChangeSpec := { name := "messageBack", fn := fun _ => fun
  | [d1, d2] => { results := [.lit (.bool true)], args := [d1, d2] }
  | _ => none }
def messageBackRow : OpenClaim := { program := "ythifjamdfpjilaa", sum := "78d469e2e91f1c1377097ae3a0b79303a60afbf5917c8c575ad785122b4e8b5c", func := "raddle/raddlelaw13.MessageBack", spec := "messageBack", unfollowed := true, recurses := true, apart := false }
def MessageBackSaid : Prop := messageBackRow.holds Try.pinned (OpenSpec.ofChange messageBackSpec)

/-- ITS FALSE NEIGHBOUR: 'it returns false'. Refute it at one input. -/
def messageBackWrong : ChangeSpec := { name := "messageBack", fn := fun _ => fun
  | [d1, d2] => { results := [.lit (.bool false)], args := [d1, d2] }
  | _ => none }
def MessageBackWrongFalsely : Prop := messageBackRow.holds Try.pinned (OpenSpec.ofChange messageBackWrong)

/-- 'raddlelaw13.MessageBegins': WHATEVER THE INPUT: true; the input reads as it did. -/
def messageBeginsSpec : ChangeSpec := { name := "messageBegins", fn := fun _ => fun
  | [d1, d2, d3] => { results := [.lit (.bool true)], args := [d1, d2, d3] }
  | _ => none }
def messageBeginsRow : OpenClaim := { program := "ythifjamdfpjilaa", sum := "78d469e2e91f1c1377097ae3a0b79303a60afbf5917c8c575ad785122b4e8b5c", func := "raddle/raddlelaw13.MessageBegins", spec := "messageBegins", unfollowed := true, recurses := true, apart := false }
def MessageBeginsSaid : Prop := messageBeginsRow.holds Try.pinned (OpenSpec.ofChange messageBeginsSpec)

/-- ITS FALSE NEIGHBOUR: 'it returns false'. Refute it at one input. -/
def messageBeginsWrong : ChangeSpec := { name := "messageBegins", fn := fun _ => fun
  | [d1, d2, d3] => { results := [.lit (.bool false)], args := [d1, d2, d3] }
  | _ => none }
def MessageBeginsWrongFalsely : Prop := messageBeginsRow.holds Try.pinned (OpenSpec.ofChange messageBeginsWrong)

/-- 'raddlelaw24.RecordBack': WHATEVER THE INPUT: true; the input reads as it did. -/
def recordBackSpec : ChangeSpec := { name := "recordBack", fn := fun _ => fun
  | [d1, d2] => { results := [.lit (.bool true)], args := [d1, d2] }
  | _ => none }
def recordBackRow : OpenClaim := { program := "ythifjamdfpjilaa", sum := "78d469e2e91f1c1377097ae3a0b79303a60afbf5917c8c575ad785122b4e8b5c", func := "raddle/raddlelaw24.RecordBack", spec := "recordBack", unfollowed := true, recurses := true, apart := false }
def RecordBackSaid : Prop := recordBackRow.holds Try.pinned (OpenSpec.ofChange recordBackSpec)

/-- ITS FALSE NEIGHBOUR: 'it returns false'. Refute it at one input. -/
def recordBackWrong : ChangeSpec := { name := "recordBack", fn := fun _ => fun
  | [d1, d2] => { results := [.lit (.bool false)], args := [d1, d2] }
  | _ => none }
def RecordBackWrongFalsely : Prop := recordBackRow.holds Try.pinned (OpenSpec.ofChange recordBackWrong)

/-- 'raddlelaw24.RecordSince': WHATEVER THE INPUT: true; the input reads as it did. -/
def recordSinceSpec : ChangeSpec := { name := "recordSince", fn := fun _ => fun
  | [d] => { results := [.lit (.bool true)], args := [d] }
  | _ => none }
def recordSinceRow : OpenClaim := { program := "ythifjamdfpjilaa", sum := "78d469e2e91f1c1377097ae3a0b79303a60afbf5917c8c575ad785122b4e8b5c", func := "raddle/raddlelaw24.RecordSince", spec := "recordSince", unfollowed := true, recurses := true, apart := false }
def RecordSinceSaid : Prop := recordSinceRow.holds Try.pinned (OpenSpec.ofChange recordSinceSpec)

/-- ITS FALSE NEIGHBOUR: 'it returns false'. Refute it at one input. -/
def recordSinceWrong : ChangeSpec := { name := "recordSince", fn := fun _ => fun
  | [d] => { results := [.lit (.bool false)], args := [d] }
  | _ => none }
def RecordSinceWrongFalsely : Prop := recordSinceRow.holds Try.pinned (OpenSpec.ofChange recordSinceWrong)

/- THE SECOND FORM. 'bulk': how many values and letters a reading holds, each counted each time it is reached (what is shared counts as often as it is met; a slice's spare places count too). A statement '..UptoSaid' is the law's where the arguments, and the package variables that the reading takes, are together of bulk at most 1048576: NARROWER than '..Said'. Prove '..Said' where nothing that the law and all that it calls make is longer than what came in: it says more and counts as full. Else prove '..UptoSaid'. A law counts once. -/
mutual
def uptoBulk {H : Type} : DataW H → Nat
  | .lit (.string bytes) => bytes.length + 1
  | .lit _ => 1
  | .nil => 1
  | .ptr d => uptoBulk d + 1
  | .slice elems spare => uptoBulkAll elems + uptoBulkAll spare + 1
  | .agg parts => uptoBulkAll parts + 1
  | .iface _ d => uptoBulk d + 1
  | .map entries => uptoBulkEntries entries + 1
  | .held _ => 1
def uptoBulkAll {H : Type} : List (DataW H) → Nat
  | [] => 0
  | d :: r => uptoBulk d + uptoBulkAll r
def uptoBulkEntries {H : Type} : List (Lit × DataW H) → Nat
  | [] => 0
  | x :: r => uptoBulkEntry x + uptoBulkEntries r
def uptoBulkEntry {H : Type} : Lit × DataW H → Nat
  | (.string bytes, d) => bytes.length + uptoBulk d + 1
  | (_, d) => uptoBulk d + 1
 end
def uptoSmall : (H : Type) → List (DataW H) → Bool := fun _ ds => decide (uptoBulkAll ds ≤ 1048576)
def OpenSpec.upto (s : _root_.Go.ChangeSpec) : _root_.Go.OpenSpec := { _root_.Go.OpenSpec.ofChange s with cond := some uptoSmall }

/-- 'raddlelaw11.LeadersOne', WHERE WHAT IT READS IS OF BULK AT MOST 1048576: true; the input reads as it did. -/
def leadersOneUptoRow : OpenClaim := { program := "ythifjamdfpjilaa", sum := "78d469e2e91f1c1377097ae3a0b79303a60afbf5917c8c575ad785122b4e8b5c", func := "raddle/raddlelaw11.LeadersOne", spec := "leadersOne", inPlace := ["internal/reflectlite.ValueOf", "internal/reflectlite.Swapper", "(internal/reflectlite.Value).Len"], unfollowed := true, recurses := true, apart := false, narrowed := true }
def LeadersOneUptoSaid : Prop := leadersOneUptoRow.holds Try.pinned (OpenSpec.upto leadersOneSpec)

/-- 'raddlelaw11.LeadersRound', WHERE WHAT IT READS IS OF BULK AT MOST 1048576: true; the input reads as it did. -/
def leadersRoundUptoRow : OpenClaim := { program := "ythifjamdfpjilaa", sum := "78d469e2e91f1c1377097ae3a0b79303a60afbf5917c8c575ad785122b4e8b5c", func := "raddle/raddlelaw11.LeadersRound", spec := "leadersRound", inPlace := ["internal/reflectlite.ValueOf", "internal/reflectlite.Swapper", "(internal/reflectlite.Value).Len"], unfollowed := true, recurses := true, apart := false, narrowed := true }
def LeadersRoundUptoSaid : Prop := leadersRoundUptoRow.holds Try.pinned (OpenSpec.upto leadersRoundSpec)

/-- 'raddlelaw11.LeadersFew', WHERE WHAT IT READS IS OF BULK AT MOST 1048576: true; the input reads as it did. -/
def leadersFewUptoRow : OpenClaim := { program := "ythifjamdfpjilaa", sum := "78d469e2e91f1c1377097ae3a0b79303a60afbf5917c8c575ad785122b4e8b5c", func := "raddle/raddlelaw11.LeadersFew", spec := "leadersFew", inPlace := ["internal/reflectlite.ValueOf", "internal/reflectlite.Swapper", "(internal/reflectlite.Value).Len"], unfollowed := true, recurses := true, apart := false, narrowed := true }
def LeadersFewUptoSaid : Prop := leadersFewUptoRow.holds Try.pinned (OpenSpec.upto leadersFewSpec)

/-- 'raddlelaw11.LeadersBack', WHERE WHAT IT READS IS OF BULK AT MOST 1048576: true; the input reads as it did. -/
def leadersBackUptoRow : OpenClaim := { program := "ythifjamdfpjilaa", sum := "78d469e2e91f1c1377097ae3a0b79303a60afbf5917c8c575ad785122b4e8b5c", func := "raddle/raddlelaw11.LeadersBack", spec := "leadersBack", inPlace := ["internal/reflectlite.ValueOf", "internal/reflectlite.Swapper", "(internal/reflectlite.Value).Len"], unfollowed := true, recurses := true, apart := false, narrowed := true }
def LeadersBackUptoSaid : Prop := leadersBackUptoRow.holds Try.pinned (OpenSpec.upto leadersBackSpec)

/-- 'raddlelaw13.MessageBack', WHERE WHAT IT READS IS OF BULK AT MOST 1048576: true; the input reads as it did. -/
def messageBackUptoRow : OpenClaim := { program := "ythifjamdfpjilaa", sum := "78d469e2e91f1c1377097ae3a0b79303a60afbf5917c8c575ad785122b4e8b5c", func := "raddle/raddlelaw13.MessageBack", spec := "messageBack", unfollowed := true, recurses := true, apart := false, narrowed := true }
def MessageBackUptoSaid : Prop := messageBackUptoRow.holds Try.pinned (OpenSpec.upto messageBackSpec)

/-- 'raddlelaw13.MessageBegins', WHERE WHAT IT READS IS OF BULK AT MOST 1048576: true; the input reads as it did. -/
def messageBeginsUptoRow : OpenClaim := { program := "ythifjamdfpjilaa", sum := "78d469e2e91f1c1377097ae3a0b79303a60afbf5917c8c575ad785122b4e8b5c", func := "raddle/raddlelaw13.MessageBegins", spec := "messageBegins", unfollowed := true, recurses := true, apart := false, narrowed := true }
def MessageBeginsUptoSaid : Prop := messageBeginsUptoRow.holds Try.pinned (OpenSpec.upto messageBeginsSpec)

/-- 'raddlelaw24.RecordBack', WHERE WHAT IT READS IS OF BULK AT MOST 1048576: true; the input reads as it did. -/
def recordBackUptoRow : OpenClaim := { program := "ythifjamdfpjilaa", sum := "78d469e2e91f1c1377097ae3a0b79303a60afbf5917c8c575ad785122b4e8b5c", func := "raddle/raddlelaw24.RecordBack", spec := "recordBack", unfollowed := true, recurses := true, apart := false, narrowed := true }
def RecordBackUptoSaid : Prop := recordBackUptoRow.holds Try.pinned (OpenSpec.upto recordBackSpec)

/-- 'raddlelaw24.RecordSince', WHERE WHAT IT READS IS OF BULK AT MOST 1048576: true; the input reads as it did. -/
def recordSinceUptoRow : OpenClaim := { program := "ythifjamdfpjilaa", sum := "78d469e2e91f1c1377097ae3a0b79303a60afbf5917c8c575ad785122b4e8b5c", func := "raddle/raddlelaw24.RecordSince", spec := "recordSince", unfollowed := true, recurses := true, apart := false, narrowed := true }
def RecordSinceUptoSaid : Prop := recordSinceUptoRow.holds Try.pinned (OpenSpec.upto recordSinceSpec)

end Rows
end Go.Proofs.Ythifjamdfpjilaa
