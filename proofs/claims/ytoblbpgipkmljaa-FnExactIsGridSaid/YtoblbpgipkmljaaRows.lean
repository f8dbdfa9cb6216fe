/-
  No cell of these rows narrows 'for every input' (looked for: loops, veiled, ifaces, maps, wideKeys, modest, calm, conditions, laid).
  DERIVED. THE GIVEN ROWS OF THIS SEAT. 12 by the template 'for every input the law returns true; each argument reads behind the call as it read before'; 0 by the template 'total and deterministic' (their statements: YtoblbpgipkmljaaTotals.lean).
  GIVEN WITH THE SEED: the statements are not yours to turn. If you find one false, say at which input.
  Laid BY PROGRAM, IN A SANDBOX (cutbox-rows.mjs): the forced cells as the released guide's own fill.sh prints them over the translation 3cd459904fb640f4… (all of the seat's roots in one cut). By AI agents, Wed Nov 11 2026. No macro, syntax, notation, axiom, sorry.
-/
import Derived.Test.YtoblbpgipkmljaaChecked
import GoSem.Claim
import GoSem.ClaimJoined
import GoSem.ClaimMapViews
import Derived.JoinedTies
import Derived.KernelRfl
namespace Go.Proofs.Ytoblbpgipkmljaa
/- THE CELL 'sum', in the pinned program and in every row, IS THE sha256 OF THE DUMP (.gsa) THAT YtoblbpgipkmljaaProg.lean LOADS. Nothing in Lean hashes anything: it is a label: what it is worth is what the hold of that sum in a sandbox is worth. -/
noncomputable def Try.pinned : Pinned := { name := "ytoblbpgipkmljaa", sum := "3cd459904fb640f454fd01b1aaec7fc48a36119dc65cf0169bbf4038314813c1", checked := Try.checked }
namespace Rows
def none {H : Type} : Left H := { results := [], args := [] }

/-- 'laws.FnExactEqualBytes': WHATEVER THE INPUT: true; the input reads as it did. -/
def fnExactEqualBytesSpec : ChangeSpec := { name := "fnExactEqualBytes", fn := fun _ => fun
  | [d1, d2] => { results := [.lit (.bool true)], args := [d1, d2] }
  | _ => none }
def fnExactEqualBytesRow : OpenClaim := { program := "ytoblbpgipkmljaa", sum := "3cd459904fb640f454fd01b1aaec7fc48a36119dc65cf0169bbf4038314813c1", func := "loop.example/g03003/laws.FnExactEqualBytes", spec := "fnExactEqualBytes", apart := false }
def FnExactEqualBytesSaid : Prop := fnExactEqualBytesRow.holds Try.pinned (OpenSpec.ofChange fnExactEqualBytesSpec)

/-- ITS FALSE NEIGHBOUR: 'it returns false'. Refute it at one input. -/
def fnExactEqualBytesWrong : ChangeSpec := { name := "fnExactEqualBytes", fn := fun _ => fun
  | [d1, d2] => { results := [.lit (.bool false)], args := [d1, d2] }
  | _ => none }
def FnExactEqualBytesWrongFalsely : Prop := fnExactEqualBytesRow.holds Try.pinned (OpenSpec.ofChange fnExactEqualBytesWrong)

/-- 'laws.FnExactIsGrid': WHATEVER THE INPUT: true; the input reads as it did. -/
def fnExactIsGridSpec : ChangeSpec := { name := "fnExactIsGrid", fn := fun _ => fun
  | [d] => { results := [.lit (.bool true)], args := [d] }
  | _ => none }
def fnExactIsGridRow : OpenClaim := { program := "ytoblbpgipkmljaa", sum := "3cd459904fb640f454fd01b1aaec7fc48a36119dc65cf0169bbf4038314813c1", func := "loop.example/g03003/laws.FnExactIsGrid", spec := "fnExactIsGrid", apart := false }
def FnExactIsGridSaid : Prop := fnExactIsGridRow.holds Try.pinned (OpenSpec.ofChange fnExactIsGridSpec)

/-- ITS FALSE NEIGHBOUR: 'it returns false'. Refute it at one input. -/
def fnExactIsGridWrong : ChangeSpec := { name := "fnExactIsGrid", fn := fun _ => fun
  | [d] => { results := [.lit (.bool false)], args := [d] }
  | _ => none }
def FnExactIsGridWrongFalsely : Prop := fnExactIsGridRow.holds Try.pinned (OpenSpec.ofChange fnExactIsGridWrong)

/-- 'laws.FnExactEqualInts': WHATEVER THE INPUT: true; the input reads as it did. -/
def fnExactEqualIntsSpec : ChangeSpec := { name := "fnExactEqualInts", fn := fun _ => fun
  | [d1, d2] => { results := [.lit (.bool true)], args := [d1, d2] }
  | _ => none }
def fnExactEqualIntsRow : OpenClaim := { program := "ytoblbpgipkmljaa", sum := "3cd459904fb640f454fd01b1aaec7fc48a36119dc65cf0169bbf4038314813c1", func := "loop.example/g03003/laws.FnExactEqualInts", spec := "fnExactEqualInts", apart := false }
def FnExactEqualIntsSaid : Prop := fnExactEqualIntsRow.holds Try.pinned (OpenSpec.ofChange fnExactEqualIntsSpec)

/-- ITS FALSE NEIGHBOUR: 'it returns false'. Refute it at one input. -/
def fnExactEqualIntsWrong : ChangeSpec := { name := "fnExactEqualInts", fn := fun _ => fun
  | [d1, d2] => { results := [.lit (.bool false)], args := [d1, d2] }
  | _ => none }
def FnExactEqualIntsWrongFalsely : Prop := fnExactEqualIntsRow.holds Try.pinned (OpenSpec.ofChange fnExactEqualIntsWrong)

/-- 'laws.FnExactIsWhite': WHATEVER THE INPUT: true; the input reads as it did. -/
def fnExactIsWhiteSpec : ChangeSpec := { name := "fnExactIsWhite", fn := fun _ => fun
  | [d1, d2] => { results := [.lit (.bool true)], args := [d1, d2] }
  | _ => none }
def fnExactIsWhiteRow : OpenClaim := { program := "ytoblbpgipkmljaa", sum := "3cd459904fb640f454fd01b1aaec7fc48a36119dc65cf0169bbf4038314813c1", func := "loop.example/g03003/laws.FnExactIsWhite", spec := "fnExactIsWhite", apart := false }
def FnExactIsWhiteSaid : Prop := fnExactIsWhiteRow.holds Try.pinned (OpenSpec.ofChange fnExactIsWhiteSpec)

/-- ITS FALSE NEIGHBOUR: 'it returns false'. Refute it at one input. -/
def fnExactIsWhiteWrong : ChangeSpec := { name := "fnExactIsWhite", fn := fun _ => fun
  | [d1, d2] => { results := [.lit (.bool false)], args := [d1, d2] }
  | _ => none }
def FnExactIsWhiteWrongFalsely : Prop := fnExactIsWhiteRow.holds Try.pinned (OpenSpec.ofChange fnExactIsWhiteWrong)

/-- 'laws.FnExactCountLetter': WHATEVER THE INPUT: true; the input reads as it did. -/
def fnExactCountLetterSpec : ChangeSpec := { name := "fnExactCountLetter", fn := fun _ => fun
  | [d1, d2] => { results := [.lit (.bool true)], args := [d1, d2] }
  | _ => none }
def fnExactCountLetterRow : OpenClaim := { program := "ytoblbpgipkmljaa", sum := "3cd459904fb640f454fd01b1aaec7fc48a36119dc65cf0169bbf4038314813c1", func := "loop.example/g03003/laws.FnExactCountLetter", spec := "fnExactCountLetter", apart := false }
def FnExactCountLetterSaid : Prop := fnExactCountLetterRow.holds Try.pinned (OpenSpec.ofChange fnExactCountLetterSpec)

/-- ITS FALSE NEIGHBOUR: 'it returns false'. Refute it at one input. -/
def fnExactCountLetterWrong : ChangeSpec := { name := "fnExactCountLetter", fn := fun _ => fun
  | [d1, d2] => { results := [.lit (.bool false)], args := [d1, d2] }
  | _ => none }
def FnExactCountLetterWrongFalsely : Prop := fnExactCountLetterRow.holds Try.pinned (OpenSpec.ofChange fnExactCountLetterWrong)

/-- 'laws.FnExactHash': WHATEVER THE INPUT: true; the input reads as it did. -/
def fnExactHashSpec : ChangeSpec := { name := "fnExactHash", fn := fun _ => fun
  | [d] => { results := [.lit (.bool true)], args := [d] }
  | _ => none }
def fnExactHashRow : OpenClaim := { program := "ytoblbpgipkmljaa", sum := "3cd459904fb640f454fd01b1aaec7fc48a36119dc65cf0169bbf4038314813c1", func := "loop.example/g03003/laws.FnExactHash", spec := "fnExactHash", apart := false }
def FnExactHashSaid : Prop := fnExactHashRow.holds Try.pinned (OpenSpec.ofChange fnExactHashSpec)

/-- ITS FALSE NEIGHBOUR: 'it returns false'. Refute it at one input. -/
def fnExactHashWrong : ChangeSpec := { name := "fnExactHash", fn := fun _ => fun
  | [d] => { results := [.lit (.bool false)], args := [d] }
  | _ => none }
def FnExactHashWrongFalsely : Prop := fnExactHashRow.holds Try.pinned (OpenSpec.ofChange fnExactHashWrong)

/-- 'laws.FnExactHasWord': WHATEVER THE INPUT: true; the input reads as it did. -/
def fnExactHasWordSpec : ChangeSpec := { name := "fnExactHasWord", fn := fun _ => fun
  | [d1, d2] => { results := [.lit (.bool true)], args := [d1, d2] }
  | _ => none }
def fnExactHasWordRow : OpenClaim := { program := "ytoblbpgipkmljaa", sum := "3cd459904fb640f454fd01b1aaec7fc48a36119dc65cf0169bbf4038314813c1", func := "loop.example/g03003/laws.FnExactHasWord", spec := "fnExactHasWord", apart := false }
def FnExactHasWordSaid : Prop := fnExactHasWordRow.holds Try.pinned (OpenSpec.ofChange fnExactHasWordSpec)

/-- ITS FALSE NEIGHBOUR: 'it returns false'. Refute it at one input. -/
def fnExactHasWordWrong : ChangeSpec := { name := "fnExactHasWord", fn := fun _ => fun
  | [d1, d2] => { results := [.lit (.bool false)], args := [d1, d2] }
  | _ => none }
def FnExactHasWordWrongFalsely : Prop := fnExactHasWordRow.holds Try.pinned (OpenSpec.ofChange fnExactHasWordWrong)

/-- 'laws.FnExactKeyedHash': WHATEVER THE INPUT: true; the input reads as it did. -/
def fnExactKeyedHashSpec : ChangeSpec := { name := "fnExactKeyedHash", fn := fun _ => fun
  | [d1, d2] => { results := [.lit (.bool true)], args := [d1, d2] }
  | _ => none }
def fnExactKeyedHashRow : OpenClaim := { program := "ytoblbpgipkmljaa", sum := "3cd459904fb640f454fd01b1aaec7fc48a36119dc65cf0169bbf4038314813c1", func := "loop.example/g03003/laws.FnExactKeyedHash", spec := "fnExactKeyedHash", apart := false }
def FnExactKeyedHashSaid : Prop := fnExactKeyedHashRow.holds Try.pinned (OpenSpec.ofChange fnExactKeyedHashSpec)

/-- ITS FALSE NEIGHBOUR: 'it returns false'. Refute it at one input. -/
def fnExactKeyedHashWrong : ChangeSpec := { name := "fnExactKeyedHash", fn := fun _ => fun
  | [d1, d2] => { results := [.lit (.bool false)], args := [d1, d2] }
  | _ => none }
def FnExactKeyedHashWrongFalsely : Prop := fnExactKeyedHashRow.holds Try.pinned (OpenSpec.ofChange fnExactKeyedHashWrong)

/-- 'laws.FnExactCountOpen': WHATEVER THE INPUT: true; the input reads as it did. -/
def fnExactCountOpenSpec : ChangeSpec := { name := "fnExactCountOpen", fn := fun _ => fun
  | [d] => { results := [.lit (.bool true)], args := [d] }
  | _ => none }
def fnExactCountOpenRow : OpenClaim := { program := "ytoblbpgipkmljaa", sum := "3cd459904fb640f454fd01b1aaec7fc48a36119dc65cf0169bbf4038314813c1", func := "loop.example/g03003/laws.FnExactCountOpen", spec := "fnExactCountOpen", apart := false }
def FnExactCountOpenSaid : Prop := fnExactCountOpenRow.holds Try.pinned (OpenSpec.ofChange fnExactCountOpenSpec)

/-- ITS FALSE NEIGHBOUR: 'it returns false'. Refute it at one input. -/
def fnExactCountOpenWrong : ChangeSpec := { name := "fnExactCountOpen", fn := fun _ => fun
  | [d] => { results := [.lit (.bool false)], args := [d] }
  | _ => none }
def FnExactCountOpenWrongFalsely : Prop := fnExactCountOpenRow.holds Try.pinned (OpenSpec.ofChange fnExactCountOpenWrong)

/-- 'laws.FnExactReadUvarint': WHATEVER THE INPUT: true; the input reads as it did. -/
def fnExactReadUvarintSpec : ChangeSpec := { name := "fnExactReadUvarint", fn := fun _ => fun
  | [d1, d2] => { results := [.lit (.bool true)], args := [d1, d2] }
  | _ => none }
def fnExactReadUvarintRow : OpenClaim := { program := "ytoblbpgipkmljaa", sum := "3cd459904fb640f454fd01b1aaec7fc48a36119dc65cf0169bbf4038314813c1", func := "loop.example/g03003/laws.FnExactReadUvarint", spec := "fnExactReadUvarint", apart := false }
def FnExactReadUvarintSaid : Prop := fnExactReadUvarintRow.holds Try.pinned (OpenSpec.ofChange fnExactReadUvarintSpec)

/-- ITS FALSE NEIGHBOUR: 'it returns false'. Refute it at one input. -/
def fnExactReadUvarintWrong : ChangeSpec := { name := "fnExactReadUvarint", fn := fun _ => fun
  | [d1, d2] => { results := [.lit (.bool false)], args := [d1, d2] }
  | _ => none }
def FnExactReadUvarintWrongFalsely : Prop := fnExactReadUvarintRow.holds Try.pinned (OpenSpec.ofChange fnExactReadUvarintWrong)

/-- 'laws.FnExactBytesToInts': WHATEVER THE INPUT: true; the input reads as it did. -/
def fnExactBytesToIntsSpec : ChangeSpec := { name := "fnExactBytesToInts", fn := fun _ => fun
  | [d] => { results := [.lit (.bool true)], args := [d] }
  | _ => none }
def fnExactBytesToIntsRow : OpenClaim := { program := "ytoblbpgipkmljaa", sum := "3cd459904fb640f454fd01b1aaec7fc48a36119dc65cf0169bbf4038314813c1", func := "loop.example/g03003/laws.FnExactBytesToInts", spec := "fnExactBytesToInts", apart := false }
def FnExactBytesToIntsSaid : Prop := fnExactBytesToIntsRow.holds Try.pinned (OpenSpec.ofChange fnExactBytesToIntsSpec)

/-- ITS FALSE NEIGHBOUR: 'it returns false'. Refute it at one input. -/
def fnExactBytesToIntsWrong : ChangeSpec := { name := "fnExactBytesToInts", fn := fun _ => fun
  | [d] => { results := [.lit (.bool false)], args := [d] }
  | _ => none }
def FnExactBytesToIntsWrongFalsely : Prop := fnExactBytesToIntsRow.holds Try.pinned (OpenSpec.ofChange fnExactBytesToIntsWrong)

/-- 'laws.FnExactAppendUvarint': WHATEVER THE INPUT: true; the input reads as it did. -/
def fnExactAppendUvarintSpec : ChangeSpec := { name := "fnExactAppendUvarint", fn := fun _ => fun
  | [d1, d2] => { results := [.lit (.bool true)], args := [d1, d2] }
  | _ => none }
def fnExactAppendUvarintRow : OpenClaim := { program := "ytoblbpgipkmljaa", sum := "3cd459904fb640f454fd01b1aaec7fc48a36119dc65cf0169bbf4038314813c1", func := "loop.example/g03003/laws.FnExactAppendUvarint", spec := "fnExactAppendUvarint", apart := false }
def FnExactAppendUvarintSaid : Prop := fnExactAppendUvarintRow.holds Try.pinned (OpenSpec.ofChange fnExactAppendUvarintSpec)

/-- ITS FALSE NEIGHBOUR: 'it returns false'. Refute it at one input. -/
def fnExactAppendUvarintWrong : ChangeSpec := { name := "fnExactAppendUvarint", fn := fun _ => fun
  | [d1, d2] => { results := [.lit (.bool false)], args := [d1, d2] }
  | _ => none }
def FnExactAppendUvarintWrongFalsely : Prop := fnExactAppendUvarintRow.holds Try.pinned (OpenSpec.ofChange fnExactAppendUvarintWrong)

/- THE SECOND FORM. 'bulk': how many values and letters a reading holds, each counted each time it is reached (what is shared counts as often as it is met; a slice's spare places count too). A statement '..UptoSaid' is the law's where the arguments, and the package variables that the reading takes, are together of bulk at most 1048576: NARROWER than '..Said'. Prove '..Said' where nothing that the law and all that it calls make is longer than what came in: it says more and counts as full. Else prove '..UptoSaid'. A law counts once. -/
mutual
def uptoBulk {H : Type} : DataW H → Nat
  | .lit (.string bytes) => bytes.length + 1
  | .lit _ => 1
  | .nil => 1
  | .ptr d => uptoBulk d + 1
  | .slice elems spare => uptoBulkAll elems + uptoBulkAll spare + 1
  | .agg parts => uptoBulkAll parts + 1
  | .iface _ d => uptoBulk d + 1
  | .map entries => uptoBulkEntries entries + 1
  | .held _ => 1
def uptoBulkAll {H : Type} : List (DataW H) → Nat
  | [] => 0
  | d :: r => uptoBulk d + uptoBulkAll r
def uptoBulkEntries {H : Type} : List (Lit × DataW H) → Nat
  | [] => 0
  | x :: r => uptoBulkEntry x + uptoBulkEntries r
def uptoBulkEntry {H : Type} : Lit × DataW H → Nat
  | (.string bytes, d) => bytes.length + uptoBulk d + 1
  | (_, d) => uptoBulk d + 1
 end
def uptoSmall : (H : Type) → List (DataW H) → Bool := fun _ ds => decide (uptoBulkAll ds ≤ 1048576)
def OpenSpec.upto (s : _root_.Go.ChangeSpec) : _root_.Go.OpenSpec := { _root_.Go.OpenSpec.ofChange s with cond := some uptoSmall }

/-- 'laws.FnExactEqualBytes', WHERE WHAT IT READS IS OF BULK AT MOST 1048576: true; the input reads as it did. -/
def fnExactEqualBytesUptoRow : OpenClaim := { program := "ytoblbpgipkmljaa", sum := "3cd459904fb640f454fd01b1aaec7fc48a36119dc65cf0169bbf4038314813c1", func := "loop.example/g03003/laws.FnExactEqualBytes", spec := "fnExactEqualBytes", apart := false, narrowed := true }
def FnExactEqualBytesUptoSaid : Prop := fnExactEqualBytesUptoRow.holds Try.pinned (OpenSpec.upto fnExactEqualBytesSpec)

/-- 'laws.FnExactIsGrid', WHERE WHAT IT READS IS OF BULK AT MOST 1048576: true; the input reads as it did. -/
def fnExactIsGridUptoRow : OpenClaim := { program := "ytoblbpgipkmljaa", sum := "3cd459904fb640f454fd01b1aaec7fc48a36119dc65cf0169bbf4038314813c1", func := "loop.example/g03003/laws.FnExactIsGrid", spec := "fnExactIsGrid", apart := false, narrowed := true }
def FnExactIsGridUptoSaid : Prop := fnExactIsGridUptoRow.holds Try.pinned (OpenSpec.upto fnExactIsGridSpec)

/-- 'laws.FnExactEqualInts', WHERE WHAT IT READS IS OF BULK AT MOST 1048576: true; the input reads as it did. -/
def fnExactEqualIntsUptoRow : OpenClaim := { program := "ytoblbpgipkmljaa", sum := "3cd459904fb640f454fd01b1aaec7fc48a36119dc65cf0169bbf4038314813c1", func := "loop.example/g03003/laws.FnExactEqualInts", spec := "fnExactEqualInts", apart := false, narrowed := true }
def FnExactEqualIntsUptoSaid : Prop := fnExactEqualIntsUptoRow.holds Try.pinned (OpenSpec.upto fnExactEqualIntsSpec)

/-- 'laws.FnExactIsWhite', WHERE WHAT IT READS IS OF BULK AT MOST 1048576: true; the input reads as it did. -/
def fnExactIsWhiteUptoRow : OpenClaim := { program := "ytoblbpgipkmljaa", sum := "3cd459904fb640f454fd01b1aaec7fc48a36119dc65cf0169bbf4038314813c1", func := "loop.example/g03003/laws.FnExactIsWhite", spec := "fnExactIsWhite", apart := false, narrowed := true }
def FnExactIsWhiteUptoSaid : Prop := fnExactIsWhiteUptoRow.holds Try.pinned (OpenSpec.upto fnExactIsWhiteSpec)

/-- 'laws.FnExactCountLetter', WHERE WHAT IT READS IS OF BULK AT MOST 1048576: true; the input reads as it did. -/
def fnExactCountLetterUptoRow : OpenClaim := { program := "ytoblbpgipkmljaa", sum := "3cd459904fb640f454fd01b1aaec7fc48a36119dc65cf0169bbf4038314813c1", func := "loop.example/g03003/laws.FnExactCountLetter", spec := "fnExactCountLetter", apart := false, narrowed := true }
def FnExactCountLetterUptoSaid : Prop := fnExactCountLetterUptoRow.holds Try.pinned (OpenSpec.upto fnExactCountLetterSpec)

/-- 'laws.FnExactHash', WHERE WHAT IT READS IS OF BULK AT MOST 1048576: true; the input reads as it did. -/
def fnExactHashUptoRow : OpenClaim := { program := "ytoblbpgipkmljaa", sum := "3cd459904fb640f454fd01b1aaec7fc48a36119dc65cf0169bbf4038314813c1", func := "loop.example/g03003/laws.FnExactHash", spec := "fnExactHash", apart := false, narrowed := true }
def FnExactHashUptoSaid : Prop := fnExactHashUptoRow.holds Try.pinned (OpenSpec.upto fnExactHashSpec)

/-- 'laws.FnExactHasWord', WHERE WHAT IT READS IS OF BULK AT MOST 1048576: true; the input reads as it did. -/
def fnExactHasWordUptoRow : OpenClaim := { program := "ytoblbpgipkmljaa", sum := "3cd459904fb640f454fd01b1aaec7fc48a36119dc65cf0169bbf4038314813c1", func := "loop.example/g03003/laws.FnExactHasWord", spec := "fnExactHasWord", apart := false, narrowed := true }
def FnExactHasWordUptoSaid : Prop := fnExactHasWordUptoRow.holds Try.pinned (OpenSpec.upto fnExactHasWordSpec)

/-- 'laws.FnExactKeyedHash', WHERE WHAT IT READS IS OF BULK AT MOST 1048576: true; the input reads as it did. -/
def fnExactKeyedHashUptoRow : OpenClaim := { program := "ytoblbpgipkmljaa", sum := "3cd459904fb640f454fd01b1aaec7fc48a36119dc65cf0169bbf4038314813c1", func := "loop.example/g03003/laws.FnExactKeyedHash", spec := "fnExactKeyedHash", apart := false, narrowed := true }
def FnExactKeyedHashUptoSaid : Prop := fnExactKeyedHashUptoRow.holds Try.pinned (OpenSpec.upto fnExactKeyedHashSpec)

/-- 'laws.FnExactCountOpen', WHERE WHAT IT READS IS OF BULK AT MOST 1048576: true; the input reads as it did. -/
def fnExactCountOpenUptoRow : OpenClaim := { program := "ytoblbpgipkmljaa", sum := "3cd459904fb640f454fd01b1aaec7fc48a36119dc65cf0169bbf4038314813c1", func := "loop.example/g03003/laws.FnExactCountOpen", spec := "fnExactCountOpen", apart := false, narrowed := true }
def FnExactCountOpenUptoSaid : Prop := fnExactCountOpenUptoRow.holds Try.pinned (OpenSpec.upto fnExactCountOpenSpec)

/-- 'laws.FnExactReadUvarint', WHERE WHAT IT READS IS OF BULK AT MOST 1048576: true; the input reads as it did. -/
def fnExactReadUvarintUptoRow : OpenClaim := { program := "ytoblbpgipkmljaa", sum := "3cd459904fb640f454fd01b1aaec7fc48a36119dc65cf0169bbf4038314813c1", func := "loop.example/g03003/laws.FnExactReadUvarint", spec := "fnExactReadUvarint", apart := false, narrowed := true }
def FnExactReadUvarintUptoSaid : Prop := fnExactReadUvarintUptoRow.holds Try.pinned (OpenSpec.upto fnExactReadUvarintSpec)

/-- 'laws.FnExactBytesToInts', WHERE WHAT IT READS IS OF BULK AT MOST 1048576: true; the input reads as it did. -/
def fnExactBytesToIntsUptoRow : OpenClaim := { program := "ytoblbpgipkmljaa", sum := "3cd459904fb640f454fd01b1aaec7fc48a36119dc65cf0169bbf4038314813c1", func := "loop.example/g03003/laws.FnExactBytesToInts", spec := "fnExactBytesToInts", apart := false, narrowed := true }
def FnExactBytesToIntsUptoSaid : Prop := fnExactBytesToIntsUptoRow.holds Try.pinned (OpenSpec.upto fnExactBytesToIntsSpec)

/-- 'laws.FnExactAppendUvarint', WHERE WHAT IT READS IS OF BULK AT MOST 1048576: true; the input reads as it did. -/
def fnExactAppendUvarintUptoRow : OpenClaim := { program := "ytoblbpgipkmljaa", sum := "3cd459904fb640f454fd01b1aaec7fc48a36119dc65cf0169bbf4038314813c1", func := "loop.example/g03003/laws.FnExactAppendUvarint", spec := "fnExactAppendUvarint", apart := false, narrowed := true }
def FnExactAppendUvarintUptoSaid : Prop := fnExactAppendUvarintUptoRow.holds Try.pinned (OpenSpec.upto fnExactAppendUvarintSpec)

end Rows
end Go.Proofs.Ytoblbpgipkmljaa
