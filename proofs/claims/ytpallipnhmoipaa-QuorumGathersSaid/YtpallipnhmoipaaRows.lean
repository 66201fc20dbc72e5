/-
  No cell of these rows narrows 'for every input' (looked for: loops, veiled, ifaces, maps, wideKeys, modest, calm, conditions, laid).
  DERIVED. THE GIVEN ROWS OF THIS SEAT. 9 by the template 'for every input the law returns true; each argument reads behind the call as it read before'; 0 by the template 'total and deterministic' (their statements: YtpallipnhmoipaaTotals.lean).
  GIVEN WITH THE SEED: the statements are not yours to turn. If you find one false, say at which input.
  Laid BY PROGRAM, IN A SANDBOX (cutbox-rows.mjs): the forced cells as the released guide's own fill.sh prints them over the translation 3a93ffd6217f0121… (all of the seat's roots in one cut). By AI agents, Wed Nov 11 2026. No macro, syntax, notation, axiom, sorry.
-/
import Derived.Test.YtpallipnhmoipaaChecked
import GoSem.Claim
import GoSem.ClaimJoined
import GoSem.ClaimMapViews
import Derived.JoinedTies
import Derived.KernelRfl
namespace Go.Proofs.Ytpallipnhmoipaa
/- THE CELL 'sum', in the pinned program and in every row, IS THE sha256 OF THE DUMP (.gsa) THAT YtpallipnhmoipaaProg.lean LOADS. Nothing in Lean hashes anything: it is a label: what it is worth is what the hold of that sum in a sandbox is worth. -/
noncomputable def Try.pinned : Pinned := { name := "ytpallipnhmoipaa", sum := "3a93ffd6217f0121ffde6022362e4e2aaef809c8cb81a07c6da557b5d558788d", checked := Try.checked }
namespace Rows
def none {H : Type} : Left H := { results := [], args := [] }

/-- 'raddlelaw05.QuorumCounts': WHATEVER THE INPUT: true; the input reads as it did. -/
def quorumCountsSpec : ChangeSpec := { name := "quorumCounts", fn := fun _ => fun
  | [d] => { results := [.lit (.bool true)], args := [d] }
  | _ => none }
def quorumCountsRow : OpenClaim := { program := "ytpallipnhmoipaa", sum := "3a93ffd6217f0121ffde6022362e4e2aaef809c8cb81a07c6da557b5d558788d", func := "raddle/raddlelaw05.QuorumCounts", spec := "quorumCounts", inPlace := ["internal/reflectlite.ValueOf", "internal/reflectlite.Swapper", "(internal/reflectlite.Value).Len"], unfollowed := true, recurses := true, apart := false }
def QuorumCountsSaid : Prop := quorumCountsRow.holds Try.pinned (OpenSpec.ofChange quorumCountsSpec)

/-- ITS FALSE NEIGHBOUR: 'it returns false'. Refute it at one input. -/
def quorumCountsWrong : ChangeSpec := { name := "quorumCounts", fn := fun _ => fun
  | [d] => { results := [.lit (.bool false)], args := [d] }
  | _ => none }
def QuorumCountsWrongFalsely : Prop := quorumCountsRow.holds Try.pinned (OpenSpec.ofChange quorumCountsWrong)

/-- 'raddlelaw05.QuorumNths': WHATEVER THE INPUT: true; the input reads as it did. -/
def quorumNthsSpec : ChangeSpec := { name := "quorumNths", fn := fun _ => fun
  | [d1, d2] => { results := [.lit (.bool true)], args := [d1, d2] }
  | _ => none }
def quorumNthsRow : OpenClaim := { program := "ytpallipnhmoipaa", sum := "3a93ffd6217f0121ffde6022362e4e2aaef809c8cb81a07c6da557b5d558788d", func := "raddle/raddlelaw05.QuorumNths", spec := "quorumNths", inPlace := ["internal/reflectlite.ValueOf", "internal/reflectlite.Swapper", "(internal/reflectlite.Value).Len"], unfollowed := true, recurses := true, apart := false }
def QuorumNthsSaid : Prop := quorumNthsRow.holds Try.pinned (OpenSpec.ofChange quorumNthsSpec)

/-- ITS FALSE NEIGHBOUR: 'it returns false'. Refute it at one input. -/
def quorumNthsWrong : ChangeSpec := { name := "quorumNths", fn := fun _ => fun
  | [d1, d2] => { results := [.lit (.bool false)], args := [d1, d2] }
  | _ => none }
def QuorumNthsWrongFalsely : Prop := quorumNthsRow.holds Try.pinned (OpenSpec.ofChange quorumNthsWrong)

/-- 'raddlelaw05.QuorumMeets': WHATEVER THE INPUT: true; the input reads as it did. -/
def quorumMeetsSpec : ChangeSpec := { name := "quorumMeets", fn := fun _ => fun
  | [d1, d2, d3] => { results := [.lit (.bool true)], args := [d1, d2, d3] }
  | _ => none }
def quorumMeetsRow : OpenClaim := { program := "ytpallipnhmoipaa", sum := "3a93ffd6217f0121ffde6022362e4e2aaef809c8cb81a07c6da557b5d558788d", func := "raddle/raddlelaw05.QuorumMeets", spec := "quorumMeets", inPlace := ["internal/reflectlite.ValueOf", "internal/reflectlite.Swapper", "(internal/reflectlite.Value).Len"], unfollowed := true, recurses := true, apart := false }
def QuorumMeetsSaid : Prop := quorumMeetsRow.holds Try.pinned (OpenSpec.ofChange quorumMeetsSpec)

/-- ITS FALSE NEIGHBOUR: 'it returns false'. Refute it at one input. -/
def quorumMeetsWrong : ChangeSpec := { name := "quorumMeets", fn := fun _ => fun
  | [d1, d2, d3] => { results := [.lit (.bool false)], args := [d1, d2, d3] }
  | _ => none }
def QuorumMeetsWrongFalsely : Prop := quorumMeetsRow.holds Try.pinned (OpenSpec.ofChange quorumMeetsWrong)

/-- 'raddlelaw05.QuorumAdds': WHATEVER THE INPUT: true; the input reads as it did. -/
def quorumAddsSpec : ChangeSpec := { name := "quorumAdds", fn := fun _ => fun
  | [d1, d2] => { results := [.lit (.bool true)], args := [d1, d2] }
  | _ => none }
def quorumAddsRow : OpenClaim := { program := "ytpallipnhmoipaa", sum := "3a93ffd6217f0121ffde6022362e4e2aaef809c8cb81a07c6da557b5d558788d", func := "raddle/raddlelaw05.QuorumAdds", spec := "quorumAdds", inPlace := ["internal/reflectlite.ValueOf", "internal/reflectlite.Swapper", "(internal/reflectlite.Value).Len"], unfollowed := true, recurses := true, apart := false }
def QuorumAddsSaid : Prop := quorumAddsRow.holds Try.pinned (OpenSpec.ofChange quorumAddsSpec)

/-- ITS FALSE NEIGHBOUR: 'it returns false'. Refute it at one input. -/
def quorumAddsWrong : ChangeSpec := { name := "quorumAdds", fn := fun _ => fun
  | [d1, d2] => { results := [.lit (.bool false)], args := [d1, d2] }
  | _ => none }
def QuorumAddsWrongFalsely : Prop := quorumAddsRow.holds Try.pinned (OpenSpec.ofChange quorumAddsWrong)

/-- 'raddlelaw23.MarksOne': WHATEVER THE INPUT: true; the input reads as it did. -/
def marksOneSpec : ChangeSpec := { name := "marksOne", fn := fun _ => fun
  | [d1, d2, d3] => { results := [.lit (.bool true)], args := [d1, d2, d3] }
  | _ => none }
def marksOneRow : OpenClaim := { program := "ytpallipnhmoipaa", sum := "3a93ffd6217f0121ffde6022362e4e2aaef809c8cb81a07c6da557b5d558788d", func := "raddle/raddlelaw23.MarksOne", spec := "marksOne", inPlace := ["internal/reflectlite.ValueOf", "internal/reflectlite.Swapper", "(internal/reflectlite.Value).Len"], unfollowed := true, recurses := true, apart := false }
def MarksOneSaid : Prop := marksOneRow.holds Try.pinned (OpenSpec.ofChange marksOneSpec)

/-- ITS FALSE NEIGHBOUR: 'it returns false'. Refute it at one input. -/
def marksOneWrong : ChangeSpec := { name := "marksOne", fn := fun _ => fun
  | [d1, d2, d3] => { results := [.lit (.bool false)], args := [d1, d2, d3] }
  | _ => none }
def MarksOneWrongFalsely : Prop := marksOneRow.holds Try.pinned (OpenSpec.ofChange marksOneWrong)

/-- 'raddlelaw23.MarksPlay': WHATEVER THE INPUT: true; the input reads as it did. -/
def marksPlaySpec : ChangeSpec := { name := "marksPlay", fn := fun _ => fun
  | [d1, d2, d3] => { results := [.lit (.bool true)], args := [d1, d2, d3] }
  | _ => none }
def marksPlayRow : OpenClaim := { program := "ytpallipnhmoipaa", sum := "3a93ffd6217f0121ffde6022362e4e2aaef809c8cb81a07c6da557b5d558788d", func := "raddle/raddlelaw23.MarksPlay", spec := "marksPlay", inPlace := ["internal/reflectlite.ValueOf", "internal/reflectlite.Swapper", "(internal/reflectlite.Value).Len"], unfollowed := true, recurses := true, apart := false }
def MarksPlaySaid : Prop := marksPlayRow.holds Try.pinned (OpenSpec.ofChange marksPlaySpec)

/-- ITS FALSE NEIGHBOUR: 'it returns false'. Refute it at one input. -/
def marksPlayWrong : ChangeSpec := { name := "marksPlay", fn := fun _ => fun
  | [d1, d2, d3] => { results := [.lit (.bool false)], args := [d1, d2, d3] }
  | _ => none }
def MarksPlayWrongFalsely : Prop := marksPlayRow.holds Try.pinned (OpenSpec.ofChange marksPlayWrong)

/-- 'raddlelaw23.MarksNobody': WHATEVER THE INPUT: true; the input reads as it did. -/
def marksNobodySpec : ChangeSpec := { name := "marksNobody", fn := fun _ => fun
  | [d] => { results := [.lit (.bool true)], args := [d] }
  | _ => none }
def marksNobodyRow : OpenClaim := { program := "ytpallipnhmoipaa", sum := "3a93ffd6217f0121ffde6022362e4e2aaef809c8cb81a07c6da557b5d558788d", func := "raddle/raddlelaw23.MarksNobody", spec := "marksNobody", inPlace := ["internal/reflectlite.ValueOf", "internal/reflectlite.Swapper", "(internal/reflectlite.Value).Len"], unfollowed := true, recurses := true, apart := false }
def MarksNobodySaid : Prop := marksNobodyRow.holds Try.pinned (OpenSpec.ofChange marksNobodySpec)

/-- ITS FALSE NEIGHBOUR: 'it returns false'. Refute it at one input. -/
def marksNobodyWrong : ChangeSpec := { name := "marksNobody", fn := fun _ => fun
  | [d] => { results := [.lit (.bool false)], args := [d] }
  | _ => none }
def MarksNobodyWrongFalsely : Prop := marksNobodyRow.holds Try.pinned (OpenSpec.ofChange marksNobodyWrong)

/-- 'raddlelaw05.QuorumChecks': WHATEVER THE INPUT: true; the input reads as it did. -/
def quorumChecksSpec : ChangeSpec := { name := "quorumChecks", fn := fun _ => fun
  | [d1, d2, d3, d4] => { results := [.lit (.bool true)], args := [d1, d2, d3, d4] }
  | _ => none }
def quorumChecksRow : OpenClaim := { program := "ytpallipnhmoipaa", sum := "3a93ffd6217f0121ffde6022362e4e2aaef809c8cb81a07c6da557b5d558788d", func := "raddle/raddlelaw05.QuorumChecks", spec := "quorumChecks", inPlace := ["internal/reflectlite.ValueOf", "internal/reflectlite.Swapper", "(internal/reflectlite.Value).Len"], unfollowed := true, recurses := true, apart := false }
def QuorumChecksSaid : Prop := quorumChecksRow.holds Try.pinned (OpenSpec.ofChange quorumChecksSpec)

/-- ITS FALSE NEIGHBOUR: 'it returns false'. Refute it at one input. -/
def quorumChecksWrong : ChangeSpec := { name := "quorumChecks", fn := fun _ => fun
  | [d1, d2, d3, d4] => { results := [.lit (.bool false)], args := [d1, d2, d3, d4] }
  | _ => none }
def QuorumChecksWrongFalsely : Prop := quorumChecksRow.holds Try.pinned (OpenSpec.ofChange quorumChecksWrong)

/-- 'raddlelaw05.QuorumGathers': WHATEVER THE INPUT: true; the input reads as it did. -/
def quorumGathersSpec : ChangeSpec := { name := "quorumGathers", fn := fun _ => fun
  | [d1, d2, d3, d4] => { results := [.lit (.bool true)], args := [d1, d2, d3, d4] }
  | _ => none }
def quorumGathersRow : OpenClaim := { program := "ytpallipnhmoipaa", sum := "3a93ffd6217f0121ffde6022362e4e2aaef809c8cb81a07c6da557b5d558788d", func := "raddle/raddlelaw05.QuorumGathers", spec := "quorumGathers", inPlace := ["internal/reflectlite.ValueOf", "internal/reflectlite.Swapper", "(internal/reflectlite.Value).Len"], unfollowed := true, recurses := true, apart := false }
def QuorumGathersSaid : Prop := quorumGathersRow.holds Try.pinned (OpenSpec.ofChange quorumGathersSpec)

/-- ITS FALSE NEIGHBOUR: 'it returns false'. Refute it at one input. -/
def quorumGathersWrong : ChangeSpec := { name := "quorumGathers", fn := fun _ => fun
  | [d1, d2, d3, d4] => { results := [.lit (.bool false)], args := [d1, d2, d3, d4] }
  | _ => none }
def QuorumGathersWrongFalsely : Prop := quorumGathersRow.holds Try.pinned (OpenSpec.ofChange quorumGathersWrong)

/- THE SECOND FORM. 'bulk': how many values and letters a reading holds, each counted each time it is reached (what is shared counts as often as it is met; a slice's spare places count too). A statement '..UptoSaid' is the law's where the arguments, and the package variables that the reading takes, are together of bulk at most 1048576: NARROWER than '..Said'. Prove '..Said' where nothing that the law and all that it calls make is longer than what came in: it says more and counts as full. Else prove '..UptoSaid'. A law counts once. -/
mutual
def uptoBulk {H : Type} : DataW H → Nat
  | .lit (.string bytes) => bytes.length + 1
  | .lit _ => 1
  | .nil => 1
  | .ptr d => uptoBulk d + 1
  | .slice elems spare => uptoBulkAll elems + uptoBulkAll spare + 1
  | .agg parts => uptoBulkAll parts + 1
  | .iface _ d => uptoBulk d + 1
  | .map entries => uptoBulkEntries entries + 1
  | .held _ => 1
def uptoBulkAll {H : Type} : List (DataW H) → Nat
  | [] => 0
  | d :: r => uptoBulk d + uptoBulkAll r
def uptoBulkEntries {H : Type} : List (Lit × DataW H) → Nat
  | [] => 0
  | x :: r => uptoBulkEntry x + uptoBulkEntries r
def uptoBulkEntry {H : Type} : Lit × DataW H → Nat
  | (.string bytes, d) => bytes.length + uptoBulk d + 1
  | (_, d) => uptoBulk d + 1
 end
def uptoSmall : (H : Type) → List (DataW H) → Bool := fun _ ds => decide (uptoBulkAll ds ≤ 1048576)
def OpenSpec.upto (s : _root_.Go.ChangeSpec) : _root_.Go.OpenSpec := { _root_.Go.OpenSpec.ofChange s with cond := some uptoSmall }

/-- 'raddlelaw05.QuorumCounts', WHERE WHAT IT READS IS OF BULK AT MOST 1048576: true; the input reads as it did. -/
def quorumCountsUptoRow : OpenClaim := { program := "ytpallipnhmoipaa", sum := "3a93ffd6217f0121ffde6022362e4e2aaef809c8cb81a07c6da557b5d558788d", func := "raddle/raddlelaw05.QuorumCounts", spec := "quorumCounts", inPlace := ["internal/reflectlite.ValueOf", "internal/reflectlite.Swapper", "(internal/reflectlite.Value).Len"], unfollowed := true, recurses := true, apart := false, narrowed := true }
def QuorumCountsUptoSaid : Prop := quorumCountsUptoRow.holds Try.pinned (OpenSpec.upto quorumCountsSpec)

/-- 'raddlelaw05.QuorumNths', WHERE WHAT IT READS IS OF BULK AT MOST 1048576: true; the input reads as it did. -/
def quorumNthsUptoRow : OpenClaim := { program := "ytpallipnhmoipaa", sum := "3a93ffd6217f0121ffde6022362e4e2aaef809c8cb81a07c6da557b5d558788d", func := "raddle/raddlelaw05.QuorumNths", spec := "quorumNths", inPlace := ["internal/reflectlite.ValueOf", "internal/reflectlite.Swapper", "(internal/reflectlite.Value).Len"], unfollowed := true, recurses := true, apart := false, narrowed := true }
def QuorumNthsUptoSaid : Prop := quorumNthsUptoRow.holds Try.pinned (OpenSpec.upto quorumNthsSpec)

/-- 'raddlelaw05.QuorumMeets', WHERE WHAT IT READS IS OF BULK AT MOST 1048576: true; the input reads as it did. -/
def quorumMeetsUptoRow : OpenClaim := { program := "ytpallipnhmoipaa", sum := "3a93ffd6217f0121ffde6022362e4e2aaef809c8cb81a07c6da557b5d558788d", func := "raddle/raddlelaw05.QuorumMeets", spec := "quorumMeets", inPlace := ["internal/reflectlite.ValueOf", "internal/reflectlite.Swapper", "(internal/reflectlite.Value).Len"], unfollowed := true, recurses := true, apart := false, narrowed := true }
def QuorumMeetsUptoSaid : Prop := quorumMeetsUptoRow.holds Try.pinned (OpenSpec.upto quorumMeetsSpec)

/-- 'raddlelaw05.QuorumAdds', WHERE WHAT IT READS IS OF BULK AT MOST 1048576: true; the input reads as it did. -/
def quorumAddsUptoRow : OpenClaim := { program := "ytpallipnhmoipaa", sum := "3a93ffd6217f0121ffde6022362e4e2aaef809c8cb81a07c6da557b5d558788d", func := "raddle/raddlelaw05.QuorumAdds", spec := "quorumAdds", inPlace := ["internal/reflectlite.ValueOf", "internal/reflectlite.Swapper", "(internal/reflectlite.Value).Len"], unfollowed := true, recurses := true, apart := false, narrowed := true }
def QuorumAddsUptoSaid : Prop := quorumAddsUptoRow.holds Try.pinned (OpenSpec.upto quorumAddsSpec)

/-- 'raddlelaw23.MarksOne', WHERE WHAT IT READS IS OF BULK AT MOST 1048576: true; the input reads as it did. -/
def marksOneUptoRow : OpenClaim := { program := "ytpallipnhmoipaa", sum := "3a93ffd6217f0121ffde6022362e4e2aaef809c8cb81a07c6da557b5d558788d", func := "raddle/raddlelaw23.MarksOne", spec := "marksOne", inPlace := ["internal/reflectlite.ValueOf", "internal/reflectlite.Swapper", "(internal/reflectlite.Value).Len"], unfollowed := true, recurses := true, apart := false, narrowed := true }
def MarksOneUptoSaid : Prop := marksOneUptoRow.holds Try.pinned (OpenSpec.upto marksOneSpec)

/-- 'raddlelaw23.MarksPlay', WHERE WHAT IT READS IS OF BULK AT MOST 1048576: true; the input reads as it did. -/
def marksPlayUptoRow : OpenClaim := { program := "ytpallipnhmoipaa", sum := "3a93ffd6217f0121ffde6022362e4e2aaef809c8cb81a07c6da557b5d558788d", func := "raddle/raddlelaw23.MarksPlay", spec := "marksPlay", inPlace := ["internal/reflectlite.ValueOf", "internal/reflectlite.Swapper", "(internal/reflectlite.Value).Len"], unfollowed := true, recurses := true, apart := false, narrowed := true }
def MarksPlayUptoSaid : Prop := marksPlayUptoRow.holds Try.pinned (OpenSpec.upto marksPlaySpec)

/-- 'raddlelaw23.MarksNobody', WHERE WHAT IT READS IS OF BULK AT MOST 1048576: true; the input reads as it did. -/
def marksNobodyUptoRow : OpenClaim := { program := "ytpallipnhmoipaa", sum := "3a93ffd6217f0121ffde6022362e4e2aaef809c8cb81a07c6da557b5d558788d", func := "raddle/raddlelaw23.MarksNobody", spec := "marksNobody", inPlace := ["internal/reflectlite.ValueOf", "internal/reflectlite.Swapper", "(internal/reflectlite.Value).Len"], unfollowed := true, recurses := true, apart := false, narrowed := true }
def MarksNobodyUptoSaid : Prop := marksNobodyUptoRow.holds Try.pinned (OpenSpec.upto marksNobodySpec)

/-- 'raddlelaw05.QuorumChecks', WHERE WHAT IT READS IS OF BULK AT MOST 1048576: true; the input reads as it did. -/
def quorumChecksUptoRow : OpenClaim := { program := "ytpallipnhmoipaa", sum := "3a93ffd6217f0121ffde6022362e4e2aaef809c8cb81a07c6da557b5d558788d", func := "raddle/raddlelaw05.QuorumChecks", spec := "quorumChecks", inPlace := ["internal/reflectlite.ValueOf", "internal/reflectlite.Swapper", "(internal/reflectlite.Value).Len"], unfollowed := true, recurses := true, apart := false, narrowed := true }
def QuorumChecksUptoSaid : Prop := quorumChecksUptoRow.holds Try.pinned (OpenSpec.upto quorumChecksSpec)

/-- 'raddlelaw05.QuorumGathers', WHERE WHAT IT READS IS OF BULK AT MOST 1048576: true; the input reads as it did. -/
def quorumGathersUptoRow : OpenClaim := { program := "ytpallipnhmoipaa", sum := "3a93ffd6217f0121ffde6022362e4e2aaef809c8cb81a07c6da557b5d558788d", func := "raddle/raddlelaw05.QuorumGathers", spec := "quorumGathers", inPlace := ["internal/reflectlite.ValueOf", "internal/reflectlite.Swapper", "(internal/reflectlite.Value).Len"], unfollowed := true, recurses := true, apart := false, narrowed := true }
def QuorumGathersUptoSaid : Prop := quorumGathersUptoRow.holds Try.pinned (OpenSpec.upto quorumGathersSpec)

end Rows
end Go.Proofs.Ytpallipnhmoipaa
