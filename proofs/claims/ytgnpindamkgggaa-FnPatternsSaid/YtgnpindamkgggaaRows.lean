/-
  No cell of these rows narrows 'for every input' (looked for: loops, veiled, ifaces, maps, wideKeys, modest, calm, conditions, laid).
  DERIVED. THE GIVEN ROWS OF THIS SEAT. 11 by the template 'for every input the law returns true; each argument reads behind the call as it read before'; 0 by the template 'total and deterministic' (their statements: YtgnpindamkgggaaTotals.lean).
  GIVEN WITH THE SEED: the statements are not yours to turn. If you find one false, say at which input.
  Laid BY PROGRAM, IN A SANDBOX (cutbox-rows.mjs): the forced cells as the released guide's own fill.sh prints them over the translation 22591a194a87c5e9… (all of the seat's roots in one cut). By AI agents, Wed Nov 11 2026. No macro, syntax, notation, axiom, sorry.
-/
import Derived.Test.YtgnpindamkgggaaChecked
import GoSem.Claim
import GoSem.ClaimJoined
import GoSem.ClaimMapViews
import Derived.JoinedTies
import Derived.KernelRfl
namespace Go.Proofs.Ytgnpindamkgggaa
/- THE CELL 'sum', in the pinned program and in every row, IS THE sha256 OF THE DUMP (.gsa) THAT YtgnpindamkgggaaProg.lean LOADS. Nothing in Lean hashes anything: it is a label: what it is worth is what the hold of that sum in a sandbox is worth. -/
noncomputable def Try.pinned : Pinned := { name := "ytgnpindamkgggaa", sum := "22591a194a87c5e98b438011c9e2fdba18f95675e9472abe405ea5595eaffac3", checked := Try.checked }
namespace Rows
def none {H : Type} : Left H := { results := [], args := [] }

/-- 'laws.FnExactBackwards': WHATEVER THE INPUT: true; the input reads as it did. -/
def fnExactBackwardsSpec : ChangeSpec := { name := "fnExactBackwards", fn := fun _ => fun
  | [d] => { results := [.lit (.bool true)], args := [d] }
  | _ => none }
def fnExactBackwardsRow : OpenClaim := { program := "ytgnpindamkgggaa", sum := "22591a194a87c5e98b438011c9e2fdba18f95675e9472abe405ea5595eaffac3", func := "loop.example/g03003/laws.FnExactBackwards", spec := "fnExactBackwards", apart := false }
def FnExactBackwardsSaid : Prop := fnExactBackwardsRow.holds Try.pinned (OpenSpec.ofChange fnExactBackwardsSpec)

/-- ITS FALSE NEIGHBOUR: 'it returns false'. Refute it at one input. -/
def fnExactBackwardsWrong : ChangeSpec := { name := "fnExactBackwards", fn := fun _ => fun
  | [d] => { results := [.lit (.bool false)], args := [d] }
  | _ => none }
def FnExactBackwardsWrongFalsely : Prop := fnExactBackwardsRow.holds Try.pinned (OpenSpec.ofChange fnExactBackwardsWrong)

/-- 'laws.FnExactLettersAt': WHATEVER THE INPUT: true; the input reads as it did. -/
def fnExactLettersAtSpec : ChangeSpec := { name := "fnExactLettersAt", fn := fun _ => fun
  | [d1, d2] => { results := [.lit (.bool true)], args := [d1, d2] }
  | _ => none }
def fnExactLettersAtRow : OpenClaim := { program := "ytgnpindamkgggaa", sum := "22591a194a87c5e98b438011c9e2fdba18f95675e9472abe405ea5595eaffac3", func := "loop.example/g03003/laws.FnExactLettersAt", spec := "fnExactLettersAt", recurses := true, apart := false }
def FnExactLettersAtSaid : Prop := fnExactLettersAtRow.holds Try.pinned (OpenSpec.ofChange fnExactLettersAtSpec)

/-- ITS FALSE NEIGHBOUR: 'it returns false'. Refute it at one input. -/
def fnExactLettersAtWrong : ChangeSpec := { name := "fnExactLettersAt", fn := fun _ => fun
  | [d1, d2] => { results := [.lit (.bool false)], args := [d1, d2] }
  | _ => none }
def FnExactLettersAtWrongFalsely : Prop := fnExactLettersAtRow.holds Try.pinned (OpenSpec.ofChange fnExactLettersAtWrong)

/-- 'laws.FnWords': WHATEVER THE INPUT: true; the input reads as it did. -/
def fnWordsSpec : ChangeSpec := { name := "fnWords", fn := fun _ => fun
  | [d] => { results := [.lit (.bool true)], args := [d] }
  | _ => none }
def fnWordsRow : OpenClaim := { program := "ytgnpindamkgggaa", sum := "22591a194a87c5e98b438011c9e2fdba18f95675e9472abe405ea5595eaffac3", func := "loop.example/g03003/laws.FnWords", spec := "fnWords", recurses := true, apart := false }
def FnWordsSaid : Prop := fnWordsRow.holds Try.pinned (OpenSpec.ofChange fnWordsSpec)

/-- ITS FALSE NEIGHBOUR: 'it returns false'. Refute it at one input. -/
def fnWordsWrong : ChangeSpec := { name := "fnWords", fn := fun _ => fun
  | [d] => { results := [.lit (.bool false)], args := [d] }
  | _ => none }
def FnWordsWrongFalsely : Prop := fnWordsRow.holds Try.pinned (OpenSpec.ofChange fnWordsWrong)

/-- 'laws.FnPatterns': WHATEVER THE INPUT: true; the input reads as it did. -/
def fnPatternsSpec : ChangeSpec := { name := "fnPatterns", fn := fun _ => fun
  | [d] => { results := [.lit (.bool true)], args := [d] }
  | _ => none }
def fnPatternsRow : OpenClaim := { program := "ytgnpindamkgggaa", sum := "22591a194a87c5e98b438011c9e2fdba18f95675e9472abe405ea5595eaffac3", func := "loop.example/g03003/laws.FnPatterns", spec := "fnPatterns", unfollowed := true, recurses := true, apart := false }
def FnPatternsSaid : Prop := fnPatternsRow.holds Try.pinned (OpenSpec.ofChange fnPatternsSpec)

/-- ITS FALSE NEIGHBOUR: 'it returns false'. Refute it at one input. -/
def fnPatternsWrong : ChangeSpec := { name := "fnPatterns", fn := fun _ => fun
  | [d] => { results := [.lit (.bool false)], args := [d] }
  | _ => none }
def FnPatternsWrongFalsely : Prop := fnPatternsRow.holds Try.pinned (OpenSpec.ofChange fnPatternsWrong)

/-- 'laws.FnExactMeetPatterns': WHATEVER THE INPUT: true; the input reads as it did. -/
def fnExactMeetPatternsSpec : ChangeSpec := { name := "fnExactMeetPatterns", fn := fun _ => fun
  | [d1, d2] => { results := [.lit (.bool true)], args := [d1, d2] }
  | _ => none }
def fnExactMeetPatternsRow : OpenClaim := { program := "ytgnpindamkgggaa", sum := "22591a194a87c5e98b438011c9e2fdba18f95675e9472abe405ea5595eaffac3", func := "loop.example/g03003/laws.FnExactMeetPatterns", spec := "fnExactMeetPatterns", apart := false }
def FnExactMeetPatternsSaid : Prop := fnExactMeetPatternsRow.holds Try.pinned (OpenSpec.ofChange fnExactMeetPatternsSpec)

/-- ITS FALSE NEIGHBOUR: 'it returns false'. Refute it at one input. -/
def fnExactMeetPatternsWrong : ChangeSpec := { name := "fnExactMeetPatterns", fn := fun _ => fun
  | [d1, d2] => { results := [.lit (.bool false)], args := [d1, d2] }
  | _ => none }
def FnExactMeetPatternsWrongFalsely : Prop := fnExactMeetPatternsRow.holds Try.pinned (OpenSpec.ofChange fnExactMeetPatternsWrong)

/-- 'laws.FnExactDeriveFromString': WHATEVER THE INPUT: true; the input reads as it did. -/
def fnExactDeriveFromStringSpec : ChangeSpec := { name := "fnExactDeriveFromString", fn := fun _ => fun
  | [d1, d2] => { results := [.lit (.bool true)], args := [d1, d2] }
  | _ => none }
def fnExactDeriveFromStringRow : OpenClaim := { program := "ytgnpindamkgggaa", sum := "22591a194a87c5e98b438011c9e2fdba18f95675e9472abe405ea5595eaffac3", func := "loop.example/g03003/laws.FnExactDeriveFromString", spec := "fnExactDeriveFromString", apart := false }
def FnExactDeriveFromStringSaid : Prop := fnExactDeriveFromStringRow.holds Try.pinned (OpenSpec.ofChange fnExactDeriveFromStringSpec)

/-- ITS FALSE NEIGHBOUR: 'it returns false'. Refute it at one input. -/
def fnExactDeriveFromStringWrong : ChangeSpec := { name := "fnExactDeriveFromString", fn := fun _ => fun
  | [d1, d2] => { results := [.lit (.bool false)], args := [d1, d2] }
  | _ => none }
def FnExactDeriveFromStringWrongFalsely : Prop := fnExactDeriveFromStringRow.holds Try.pinned (OpenSpec.ofChange fnExactDeriveFromStringWrong)

/-- 'laws.FnExactIsSymmetric': WHATEVER THE INPUT: true; the input reads as it did. -/
def fnExactIsSymmetricSpec : ChangeSpec := { name := "fnExactIsSymmetric", fn := fun _ => fun
  | [d] => { results := [.lit (.bool true)], args := [d] }
  | _ => none }
def fnExactIsSymmetricRow : OpenClaim := { program := "ytgnpindamkgggaa", sum := "22591a194a87c5e98b438011c9e2fdba18f95675e9472abe405ea5595eaffac3", func := "loop.example/g03003/laws.FnExactIsSymmetric", spec := "fnExactIsSymmetric", apart := false }
def FnExactIsSymmetricSaid : Prop := fnExactIsSymmetricRow.holds Try.pinned (OpenSpec.ofChange fnExactIsSymmetricSpec)

/-- ITS FALSE NEIGHBOUR: 'it returns false'. Refute it at one input. -/
def fnExactIsSymmetricWrong : ChangeSpec := { name := "fnExactIsSymmetric", fn := fun _ => fun
  | [d] => { results := [.lit (.bool false)], args := [d] }
  | _ => none }
def FnExactIsSymmetricWrongFalsely : Prop := fnExactIsSymmetricRow.holds Try.pinned (OpenSpec.ofChange fnExactIsSymmetricWrong)

/-- 'laws.FnKeyedHash': WHATEVER THE INPUT: true; the input reads as it did. -/
def fnKeyedHashSpec : ChangeSpec := { name := "fnKeyedHash", fn := fun _ => fun
  | [d] => { results := [.lit (.bool true)], args := [d] }
  | _ => none }
def fnKeyedHashRow : OpenClaim := { program := "ytgnpindamkgggaa", sum := "22591a194a87c5e98b438011c9e2fdba18f95675e9472abe405ea5595eaffac3", func := "loop.example/g03003/laws.FnKeyedHash", spec := "fnKeyedHash", apart := false }
def FnKeyedHashSaid : Prop := fnKeyedHashRow.holds Try.pinned (OpenSpec.ofChange fnKeyedHashSpec)

/-- ITS FALSE NEIGHBOUR: 'it returns false'. Refute it at one input. -/
def fnKeyedHashWrong : ChangeSpec := { name := "fnKeyedHash", fn := fun _ => fun
  | [d] => { results := [.lit (.bool false)], args := [d] }
  | _ => none }
def FnKeyedHashWrongFalsely : Prop := fnKeyedHashRow.holds Try.pinned (OpenSpec.ofChange fnKeyedHashWrong)

/-- 'laws.FnExactSortLetters': WHATEVER THE INPUT: true; the input reads as it did. -/
def fnExactSortLettersSpec : ChangeSpec := { name := "fnExactSortLetters", fn := fun _ => fun
  | [d] => { results := [.lit (.bool true)], args := [d] }
  | _ => none }
def fnExactSortLettersRow : OpenClaim := { program := "ytgnpindamkgggaa", sum := "22591a194a87c5e98b438011c9e2fdba18f95675e9472abe405ea5595eaffac3", func := "loop.example/g03003/laws.FnExactSortLetters", spec := "fnExactSortLetters", recurses := true, apart := false }
def FnExactSortLettersSaid : Prop := fnExactSortLettersRow.holds Try.pinned (OpenSpec.ofChange fnExactSortLettersSpec)

/-- ITS FALSE NEIGHBOUR: 'it returns false'. Refute it at one input. -/
def fnExactSortLettersWrong : ChangeSpec := { name := "fnExactSortLetters", fn := fun _ => fun
  | [d] => { results := [.lit (.bool false)], args := [d] }
  | _ => none }
def FnExactSortLettersWrongFalsely : Prop := fnExactSortLettersRow.holds Try.pinned (OpenSpec.ofChange fnExactSortLettersWrong)

/-- 'laws.FnExactIsRearranged': WHATEVER THE INPUT: true; the input reads as it did. -/
def fnExactIsRearrangedSpec : ChangeSpec := { name := "fnExactIsRearranged", fn := fun _ => fun
  | [d1, d2] => { results := [.lit (.bool true)], args := [d1, d2] }
  | _ => none }
def fnExactIsRearrangedRow : OpenClaim := { program := "ytgnpindamkgggaa", sum := "22591a194a87c5e98b438011c9e2fdba18f95675e9472abe405ea5595eaffac3", func := "loop.example/g03003/laws.FnExactIsRearranged", spec := "fnExactIsRearranged", recurses := true, apart := false }
def FnExactIsRearrangedSaid : Prop := fnExactIsRearrangedRow.holds Try.pinned (OpenSpec.ofChange fnExactIsRearrangedSpec)

/-- ITS FALSE NEIGHBOUR: 'it returns false'. Refute it at one input. -/
def fnExactIsRearrangedWrong : ChangeSpec := { name := "fnExactIsRearranged", fn := fun _ => fun
  | [d1, d2] => { results := [.lit (.bool false)], args := [d1, d2] }
  | _ => none }
def FnExactIsRearrangedWrongFalsely : Prop := fnExactIsRearrangedRow.holds Try.pinned (OpenSpec.ofChange fnExactIsRearrangedWrong)

/-- 'laws.FnExactWordsFitting': WHATEVER THE INPUT: true; the input reads as it did. -/
def fnExactWordsFittingSpec : ChangeSpec := { name := "fnExactWordsFitting", fn := fun _ => fun
  | [d1, d2] => { results := [.lit (.bool true)], args := [d1, d2] }
  | _ => none }
def fnExactWordsFittingRow : OpenClaim := { program := "ytgnpindamkgggaa", sum := "22591a194a87c5e98b438011c9e2fdba18f95675e9472abe405ea5595eaffac3", func := "loop.example/g03003/laws.FnExactWordsFitting", spec := "fnExactWordsFitting", unfollowed := true, recurses := true, apart := false }
def FnExactWordsFittingSaid : Prop := fnExactWordsFittingRow.holds Try.pinned (OpenSpec.ofChange fnExactWordsFittingSpec)

/-- ITS FALSE NEIGHBOUR: 'it returns false'. Refute it at one input. -/
def fnExactWordsFittingWrong : ChangeSpec := { name := "fnExactWordsFitting", fn := fun _ => fun
  | [d1, d2] => { results := [.lit (.bool false)], args := [d1, d2] }
  | _ => none }
def FnExactWordsFittingWrongFalsely : Prop := fnExactWordsFittingRow.holds Try.pinned (OpenSpec.ofChange fnExactWordsFittingWrong)

/- THE SECOND FORM. 'bulk': how many values and letters a reading holds, each counted each time it is reached (what is shared counts as often as it is met; a slice's spare places count too). A statement '..UptoSaid' is the law's where the arguments, and the package variables that the reading takes, are together of bulk at most 1048576: NARROWER than '..Said'. Prove '..Said' where nothing that the law and all that it calls make is longer than what came in: it says more and counts as full. Else prove '..UptoSaid'. A law counts once. -/
mutual
def uptoBulk {H : Type} : DataW H → Nat
  | .lit (.string bytes) => bytes.length + 1
  | .lit _ => 1
  | .nil => 1
  | .ptr d => uptoBulk d + 1
  | .slice elems spare => uptoBulkAll elems + uptoBulkAll spare + 1
  | .agg parts => uptoBulkAll parts + 1
  | .iface _ d => uptoBulk d + 1
  | .map entries => uptoBulkEntries entries + 1
  | .held _ => 1
def uptoBulkAll {H : Type} : List (DataW H) → Nat
  | [] => 0
  | d :: r => uptoBulk d + uptoBulkAll r
def uptoBulkEntries {H : Type} : List (Lit × DataW H) → Nat
  | [] => 0
  | x :: r => uptoBulkEntry x + uptoBulkEntries r
def uptoBulkEntry {H : Type} : Lit × DataW H → Nat
  | (.string bytes, d) => bytes.length + uptoBulk d + 1
  | (_, d) => uptoBulk d + 1
 end
def uptoSmall : (H : Type) → List (DataW H) → Bool := fun _ ds => decide (uptoBulkAll ds ≤ 1048576)
def OpenSpec.upto (s : _root_.Go.ChangeSpec) : _root_.Go.OpenSpec := { _root_.Go.OpenSpec.ofChange s with cond := some uptoSmall }

/-- 'laws.FnExactBackwards', WHERE WHAT IT READS IS OF BULK AT MOST 1048576: true; the input reads as it did. -/
def fnExactBackwardsUptoRow : OpenClaim := { program := "ytgnpindamkgggaa", sum := "22591a194a87c5e98b438011c9e2fdba18f95675e9472abe405ea5595eaffac3", func := "loop.example/g03003/laws.FnExactBackwards", spec := "fnExactBackwards", apart := false, narrowed := true }
def FnExactBackwardsUptoSaid : Prop := fnExactBackwardsUptoRow.holds Try.pinned (OpenSpec.upto fnExactBackwardsSpec)

/-- 'laws.FnExactLettersAt', WHERE WHAT IT READS IS OF BULK AT MOST 1048576: true; the input reads as it did. -/
def fnExactLettersAtUptoRow : OpenClaim := { program := "ytgnpindamkgggaa", sum := "22591a194a87c5e98b438011c9e2fdba18f95675e9472abe405ea5595eaffac3", func := "loop.example/g03003/laws.FnExactLettersAt", spec := "fnExactLettersAt", recurses := true, apart := false, narrowed := true }
def FnExactLettersAtUptoSaid : Prop := fnExactLettersAtUptoRow.holds Try.pinned (OpenSpec.upto fnExactLettersAtSpec)

/-- 'laws.FnWords', WHERE WHAT IT READS IS OF BULK AT MOST 1048576: true; the input reads as it did. -/
def fnWordsUptoRow : OpenClaim := { program := "ytgnpindamkgggaa", sum := "22591a194a87c5e98b438011c9e2fdba18f95675e9472abe405ea5595eaffac3", func := "loop.example/g03003/laws.FnWords", spec := "fnWords", recurses := true, apart := false, narrowed := true }
def FnWordsUptoSaid : Prop := fnWordsUptoRow.holds Try.pinned (OpenSpec.upto fnWordsSpec)

/-- 'laws.FnPatterns', WHERE WHAT IT READS IS OF BULK AT MOST 1048576: true; the input reads as it did. -/
def fnPatternsUptoRow : OpenClaim := { program := "ytgnpindamkgggaa", sum := "22591a194a87c5e98b438011c9e2fdba18f95675e9472abe405ea5595eaffac3", func := "loop.example/g03003/laws.FnPatterns", spec := "fnPatterns", unfollowed := true, recurses := true, apart := false, narrowed := true }
def FnPatternsUptoSaid : Prop := fnPatternsUptoRow.holds Try.pinned (OpenSpec.upto fnPatternsSpec)

/-- 'laws.FnExactMeetPatterns', WHERE WHAT IT READS IS OF BULK AT MOST 1048576: true; the input reads as it did. -/
def fnExactMeetPatternsUptoRow : OpenClaim := { program := "ytgnpindamkgggaa", sum := "22591a194a87c5e98b438011c9e2fdba18f95675e9472abe405ea5595eaffac3", func := "loop.example/g03003/laws.FnExactMeetPatterns", spec := "fnExactMeetPatterns", apart := false, narrowed := true }
def FnExactMeetPatternsUptoSaid : Prop := fnExactMeetPatternsUptoRow.holds Try.pinned (OpenSpec.upto fnExactMeetPatternsSpec)

/-- 'laws.FnExactDeriveFromString', WHERE WHAT IT READS IS OF BULK AT MOST 1048576: true; the input reads as it did. -/
def fnExactDeriveFromStringUptoRow : OpenClaim := { program := "ytgnpindamkgggaa", sum := "22591a194a87c5e98b438011c9e2fdba18f95675e9472abe405ea5595eaffac3", func := "loop.example/g03003/laws.FnExactDeriveFromString", spec := "fnExactDeriveFromString", apart := false, narrowed := true }
def FnExactDeriveFromStringUptoSaid : Prop := fnExactDeriveFromStringUptoRow.holds Try.pinned (OpenSpec.upto fnExactDeriveFromStringSpec)

/-- 'laws.FnExactIsSymmetric', WHERE WHAT IT READS IS OF BULK AT MOST 1048576: true; the input reads as it did. -/
def fnExactIsSymmetricUptoRow : OpenClaim := { program := "ytgnpindamkgggaa", sum := "22591a194a87c5e98b438011c9e2fdba18f95675e9472abe405ea5595eaffac3", func := "loop.example/g03003/laws.FnExactIsSymmetric", spec := "fnExactIsSymmetric", apart := false, narrowed := true }
def FnExactIsSymmetricUptoSaid : Prop := fnExactIsSymmetricUptoRow.holds Try.pinned (OpenSpec.upto fnExactIsSymmetricSpec)

/-- 'laws.FnKeyedHash', WHERE WHAT IT READS IS OF BULK AT MOST 1048576: true; the input reads as it did. -/
def fnKeyedHashUptoRow : OpenClaim := { program := "ytgnpindamkgggaa", sum := "22591a194a87c5e98b438011c9e2fdba18f95675e9472abe405ea5595eaffac3", func := "loop.example/g03003/laws.FnKeyedHash", spec := "fnKeyedHash", apart := false, narrowed := true }
def FnKeyedHashUptoSaid : Prop := fnKeyedHashUptoRow.holds Try.pinned (OpenSpec.upto fnKeyedHashSpec)

/-- 'laws.FnExactSortLetters', WHERE WHAT IT READS IS OF BULK AT MOST 1048576: true; the input reads as it did. -/
def fnExactSortLettersUptoRow : OpenClaim := { program := "ytgnpindamkgggaa", sum := "22591a194a87c5e98b438011c9e2fdba18f95675e9472abe405ea5595eaffac3", func := "loop.example/g03003/laws.FnExactSortLetters", spec := "fnExactSortLetters", recurses := true, apart := false, narrowed := true }
def FnExactSortLettersUptoSaid : Prop := fnExactSortLettersUptoRow.holds Try.pinned (OpenSpec.upto fnExactSortLettersSpec)

/-- 'laws.FnExactIsRearranged', WHERE WHAT IT READS IS OF BULK AT MOST 1048576: true; the input reads as it did. -/
def fnExactIsRearrangedUptoRow : OpenClaim := { program := "ytgnpindamkgggaa", sum := "22591a194a87c5e98b438011c9e2fdba18f95675e9472abe405ea5595eaffac3", func := "loop.example/g03003/laws.FnExactIsRearranged", spec := "fnExactIsRearranged", recurses := true, apart := false, narrowed := true }
def FnExactIsRearrangedUptoSaid : Prop := fnExactIsRearrangedUptoRow.holds Try.pinned (OpenSpec.upto fnExactIsRearrangedSpec)

/-- 'laws.FnExactWordsFitting', WHERE WHAT IT READS IS OF BULK AT MOST 1048576: true; the input reads as it did. -/
def fnExactWordsFittingUptoRow : OpenClaim := { program := "ytgnpindamkgggaa", sum := "22591a194a87c5e98b438011c9e2fdba18f95675e9472abe405ea5595eaffac3", func := "loop.example/g03003/laws.FnExactWordsFitting", spec := "fnExactWordsFitting", unfollowed := true, recurses := true, apart := false, narrowed := true }
def FnExactWordsFittingUptoSaid : Prop := fnExactWordsFittingUptoRow.holds Try.pinned (OpenSpec.upto fnExactWordsFittingSpec)

end Rows
end Go.Proofs.Ytgnpindamkgggaa
