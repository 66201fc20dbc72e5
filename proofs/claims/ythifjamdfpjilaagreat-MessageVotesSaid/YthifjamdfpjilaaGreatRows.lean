/-
  No cell of these rows narrows 'for every input' (looked for: loops, veiled, ifaces, maps, wideKeys, modest, calm, conditions, laid).
  DERIVED. THE GIVEN ROWS OF THIS SEAT. 3 by the template 'for every input the law returns true; each argument reads behind the call as it read before'; 0 by the template 'total and deterministic' (their statements: YthifjamdfpjilaaGreatTotals.lean).
  GIVEN WITH THE SEED: the statements are not yours to turn. If you find one false, say at which input.
  Laid BY PROGRAM, IN A SANDBOX (cutbox-rows.mjs): the forced cells as the released guide's own fill.sh prints them over the translation bae5f6a954d80e08… (all of the seat's roots in one cut). By AI agents, Wed Nov 11 2026. No macro, syntax, notation, axiom, sorry.
-/
import Derived.Test.YthifjamdfpjilaaGreatChecked
import GoSem.Claim
import GoSem.ClaimJoined
import GoSem.ClaimMapViews
import Derived.JoinedTies
import Derived.KernelRfl
namespace Go.Proofs.YthifjamdfpjilaaGreat
/- THE CELL 'sum', in the pinned program and in every row, IS THE sha256 OF THE DUMP (.gsa) THAT YthifjamdfpjilaaGreatProg.lean LOADS. Nothing in Lean hashes anything: it is a label: what it is worth is what the hold of that sum in a sandbox is worth. -/
noncomputable def Tryz.pinned : Pinned := { name := "ythifjamdfpjilaagreat", sum := "bae5f6a954d80e08d93e498a3bbb5f96c0e13b5af7079d4fc945dc31b55319e7", checked := Tryz.checked }
namespace Rows
def none {H : Type} : Left H := { results := [], args := [] }

/-- 'raddlelaw13.MessageEncodes': WHATEVER THE INPUT: true; the input reads as it did. -/
def messageEncodesSpec : ChangeSpec := { name := "messageEncodes", fn := fun _ => fun
  | [d1, d2] => { results := [.lit (.bool true)], args := [d1, d2] }
  | _ => none }
def messageEncodesRow : OpenClaim := { program := "ythifjamdfpjilaagreat", sum := "bae5f6a954d80e08d93e498a3bbb5f96c0e13b5af7079d4fc945dc31b55319e7", func := "raddle/raddlelaw13.MessageEncodes", spec := "messageEncodes", unfollowed := true, recurses := true, apart := false }
def MessageEncodesSaid : Prop := messageEncodesRow.holds Tryz.pinned (OpenSpec.ofChange messageEncodesSpec)

/-- ITS FALSE NEIGHBOUR: 'it returns false'. Refute it at one input. -/
def messageEncodesWrong : ChangeSpec := { name := "messageEncodes", fn := fun _ => fun
  | [d1, d2] => { results := [.lit (.bool false)], args := [d1, d2] }
  | _ => none }
def MessageEncodesWrongFalsely : Prop := messageEncodesRow.holds Tryz.pinned (OpenSpec.ofChange messageEncodesWrong)

/-- 'raddlelaw13.MessageVotes': WHATEVER THE INPUT: true; the input reads as it did. -/
def messageVotesSpec : ChangeSpec := { name := "messageVotes", fn := fun _ => fun
  | [d1, d2] => { results := [.lit (.bool true)], args := [d1, d2] }
  | _ => none }
def messageVotesRow : OpenClaim := { program := "ythifjamdfpjilaagreat", sum := "bae5f6a954d80e08d93e498a3bbb5f96c0e13b5af7079d4fc945dc31b55319e7", func := "raddle/raddlelaw13.MessageVotes", spec := "messageVotes", unfollowed := true, recurses := true, apart := false }
def MessageVotesSaid : Prop := messageVotesRow.holds Tryz.pinned (OpenSpec.ofChange messageVotesSpec)

/-- ITS FALSE NEIGHBOUR: 'it returns false'. Refute it at one input. -/
def messageVotesWrong : ChangeSpec := { name := "messageVotes", fn := fun _ => fun
  | [d1, d2] => { results := [.lit (.bool false)], args := [d1, d2] }
  | _ => none }
def MessageVotesWrongFalsely : Prop := messageVotesRow.holds Tryz.pinned (OpenSpec.ofChange messageVotesWrong)

/-- 'raddlelaw24.RecordEncodes': WHATEVER THE INPUT: true; the input reads as it did. -/
def recordEncodesSpec : ChangeSpec := { name := "recordEncodes", fn := fun _ => fun
  | [d1, d2] => { results := [.lit (.bool true)], args := [d1, d2] }
  | _ => none }
def recordEncodesRow : OpenClaim := { program := "ythifjamdfpjilaagreat", sum := "bae5f6a954d80e08d93e498a3bbb5f96c0e13b5af7079d4fc945dc31b55319e7", func := "raddle/raddlelaw24.RecordEncodes", spec := "recordEncodes", unfollowed := true, recurses := true, apart := false }
def RecordEncodesSaid : Prop := recordEncodesRow.holds Tryz.pinned (OpenSpec.ofChange recordEncodesSpec)

/-- ITS FALSE NEIGHBOUR: 'it returns false'. Refute it at one input. -/
def recordEncodesWrong : ChangeSpec := { name := "recordEncodes", fn := fun _ => fun
  | [d1, d2] => { results := [.lit (.bool false)], args := [d1, d2] }
  | _ => none }
def RecordEncodesWrongFalsely : Prop := recordEncodesRow.holds Tryz.pinned (OpenSpec.ofChange recordEncodesWrong)

/- THE SECOND FORM. 'bulk': how many values and letters a reading holds, each counted each time it is reached (what is shared counts as often as it is met; a slice's spare places count too). A statement '..UptoSaid' is the law's where the arguments, and the package variables that the reading takes, are together of bulk at most 1048576: NARROWER than '..Said'. Prove '..Said' where nothing that the law and all that it calls make is longer than what came in: it says more and counts as full. Else prove '..UptoSaid'. A law counts once. -/
mutual
def uptoBulk {H : Type} : DataW H → Nat
  | .lit (.string bytes) => bytes.length + 1
  | .lit _ => 1
  | .nil => 1
  | .ptr d => uptoBulk d + 1
  | .slice elems spare => uptoBulkAll elems + uptoBulkAll spare + 1
  | .agg parts => uptoBulkAll parts + 1
  | .iface _ d => uptoBulk d + 1
  | .map entries => uptoBulkEntries entries + 1
  | .held _ => 1
def uptoBulkAll {H : Type} : List (DataW H) → Nat
  | [] => 0
  | d :: r => uptoBulk d + uptoBulkAll r
def uptoBulkEntries {H : Type} : List (Lit × DataW H) → Nat
  | [] => 0
  | x :: r => uptoBulkEntry x + uptoBulkEntries r
def uptoBulkEntry {H : Type} : Lit × DataW H → Nat
  | (.string bytes, d) => bytes.length + uptoBulk d + 1
  | (_, d) => uptoBulk d + 1
 end
def uptoSmall : (H : Type) → List (DataW H) → Bool := fun _ ds => decide (uptoBulkAll ds ≤ 1048576)
def OpenSpec.upto (s : _root_.Go.ChangeSpec) : _root_.Go.OpenSpec := { _root_.Go.OpenSpec.ofChange s with cond := some uptoSmall }

/-- 'raddlelaw13.MessageEncodes', WHERE WHAT IT READS IS OF BULK AT MOST 1048576: true; the input reads as it did. -/
def messageEncodesUptoRow : OpenClaim := { program := "ythifjamdfpjilaagreat", sum := "bae5f6a954d80e08d93e498a3bbb5f96c0e13b5af7079d4fc945dc31b55319e7", func := "raddle/raddlelaw13.MessageEncodes", spec := "messageEncodes", unfollowed := true, recurses := true, apart := false, narrowed := true }
def MessageEncodesUptoSaid : Prop := messageEncodesUptoRow.holds Tryz.pinned (OpenSpec.upto messageEncodesSpec)

/-- 'raddlelaw13.MessageVotes', WHERE WHAT IT READS IS OF BULK AT MOST 1048576: true; the input reads as it did. -/
def messageVotesUptoRow : OpenClaim := { program := "ythifjamdfpjilaagreat", sum := "bae5f6a954d80e08d93e498a3bbb5f96c0e13b5af7079d4fc945dc31b55319e7", func := "raddle/raddlelaw13.MessageVotes", spec := "messageVotes", unfollowed := true, recurses := true, apart := false, narrowed := true }
def MessageVotesUptoSaid : Prop := messageVotesUptoRow.holds Tryz.pinned (OpenSpec.upto messageVotesSpec)

/-- 'raddlelaw24.RecordEncodes', WHERE WHAT IT READS IS OF BULK AT MOST 1048576: true; the input reads as it did. -/
def recordEncodesUptoRow : OpenClaim := { program := "ythifjamdfpjilaagreat", sum := "bae5f6a954d80e08d93e498a3bbb5f96c0e13b5af7079d4fc945dc31b55319e7", func := "raddle/raddlelaw24.RecordEncodes", spec := "recordEncodes", unfollowed := true, recurses := true, apart := false, narrowed := true }
def RecordEncodesUptoSaid : Prop := recordEncodesUptoRow.holds Tryz.pinned (OpenSpec.upto recordEncodesSpec)

end Rows
end Go.Proofs.YthifjamdfpjilaaGreat
