/-
  NARROWER THAN 'FOR EVERY INPUT', by the rows' own cells (each row's printed sentence says how): FnExactSameIs: loops · FnExactSameClass: loops · FnExactSameSteps: loops · FnExactWhyTells: loops.
  DERIVED. THE GIVEN ROWS OF THIS SEAT. 11 by the template 'for every input the law returns true; each argument reads behind the call as it read before'; 0 by the template 'total and deterministic' (their statements: YtgokggnmacjafaaTotals.lean).
  GIVEN WITH THE SEED: the statements are not yours to turn. If you find one false, say at which input.
  Laid BY PROGRAM, IN A SANDBOX (cutbox-rows.mjs): the forced cells as the released guide's own fill.sh prints them over the translation de488b4674884442… (all of the seat's roots in one cut). By AI agents, Wed Nov 11 2026. No macro, syntax, notation, axiom, sorry.
-/
import Derived.Test.YtgokggnmacjafaaChecked
import GoSem.Claim
import GoSem.ClaimJoined
import GoSem.ClaimMapViews
import Derived.JoinedTies
import Derived.KernelRfl
namespace Go.Proofs.Ytgokggnmacjafaa
/- THE CELL 'sum', in the pinned program and in every row, IS THE sha256 OF THE DUMP (.gsa) THAT YtgokggnmacjafaaProg.lean LOADS. Nothing in Lean hashes anything: it is a label: what it is worth is what the hold of that sum in a sandbox is worth. -/
noncomputable def Try.pinned : Pinned := { name := "ytgokggnmacjafaa", sum := "de488b4674884442a72f7a53e2e7015797b640d08c2007fdfe2cf502d5687d5d", checked := Try.checked }
namespace Rows
def none {H : Type} : Left H := { results := [], args := [] }

/-- 'laws.FnAtomTurn': WHATEVER THE INPUT: true; the input reads as it did. -/
def fnAtomTurnSpec : ChangeSpec := { name := "fnAtomTurn", fn := fun _ => fun
  | [d] => { results := [.lit (.bool true)], args := [d] }
  | _ => none }
def fnAtomTurnRow : OpenClaim := { program := "ytgokggnmacjafaa", sum := "de488b4674884442a72f7a53e2e7015797b640d08c2007fdfe2cf502d5687d5d", func := "loop.example/compurgator/laws.FnAtomTurn", spec := "fnAtomTurn", inPlace := ["internal/abi.NoEscape", "internal/bytealg.MakeNoZero"], unfollowed := true, recurses := true, apart := false }
def FnAtomTurnSaid : Prop := fnAtomTurnRow.holds Try.pinned (OpenSpec.ofChange fnAtomTurnSpec)

/-- ITS FALSE NEIGHBOUR: 'it returns false'. Refute it at one input. -/
def fnAtomTurnWrong : ChangeSpec := { name := "fnAtomTurn", fn := fun _ => fun
  | [d] => { results := [.lit (.bool false)], args := [d] }
  | _ => none }
def FnAtomTurnWrongFalsely : Prop := fnAtomTurnRow.holds Try.pinned (OpenSpec.ofChange fnAtomTurnWrong)

/-- 'laws.FnFormIs': WHATEVER THE INPUT: true; the input reads as it did. -/
def fnFormIsSpec : ChangeSpec := { name := "fnFormIs", fn := fun _ => fun
  | [d] => { results := [.lit (.bool true)], args := [d] }
  | _ => none }
def fnFormIsRow : OpenClaim := { program := "ytgokggnmacjafaa", sum := "de488b4674884442a72f7a53e2e7015797b640d08c2007fdfe2cf502d5687d5d", func := "loop.example/compurgator/laws.FnFormIs", spec := "fnFormIs", inPlace := ["internal/abi.NoEscape", "internal/bytealg.MakeNoZero"], unfollowed := true, recurses := true, apart := false }
def FnFormIsSaid : Prop := fnFormIsRow.holds Try.pinned (OpenSpec.ofChange fnFormIsSpec)

/-- ITS FALSE NEIGHBOUR: 'it returns false'. Refute it at one input. -/
def fnFormIsWrong : ChangeSpec := { name := "fnFormIs", fn := fun _ => fun
  | [d] => { results := [.lit (.bool false)], args := [d] }
  | _ => none }
def FnFormIsWrongFalsely : Prop := fnFormIsRow.holds Try.pinned (OpenSpec.ofChange fnFormIsWrong)

/-- 'laws.FnFormMorgan': WHATEVER THE INPUT: true; the input reads as it did. -/
def fnFormMorganSpec : ChangeSpec := { name := "fnFormMorgan", fn := fun _ => fun
  | [d] => { results := [.lit (.bool true)], args := [d] }
  | _ => none }
def fnFormMorganRow : OpenClaim := { program := "ytgokggnmacjafaa", sum := "de488b4674884442a72f7a53e2e7015797b640d08c2007fdfe2cf502d5687d5d", func := "loop.example/compurgator/laws.FnFormMorgan", spec := "fnFormMorgan", inPlace := ["internal/abi.NoEscape", "internal/bytealg.MakeNoZero"], unfollowed := true, recurses := true, apart := false }
def FnFormMorganSaid : Prop := fnFormMorganRow.holds Try.pinned (OpenSpec.ofChange fnFormMorganSpec)

/-- ITS FALSE NEIGHBOUR: 'it returns false'. Refute it at one input. -/
def fnFormMorganWrong : ChangeSpec := { name := "fnFormMorgan", fn := fun _ => fun
  | [d] => { results := [.lit (.bool false)], args := [d] }
  | _ => none }
def FnFormMorganWrongFalsely : Prop := fnFormMorganRow.holds Try.pinned (OpenSpec.ofChange fnFormMorganWrong)

/-- 'laws.FnFormTwice': WHATEVER THE INPUT: true; the input reads as it did. -/
def fnFormTwiceSpec : ChangeSpec := { name := "fnFormTwice", fn := fun _ => fun
  | [d] => { results := [.lit (.bool true)], args := [d] }
  | _ => none }
def fnFormTwiceRow : OpenClaim := { program := "ytgokggnmacjafaa", sum := "de488b4674884442a72f7a53e2e7015797b640d08c2007fdfe2cf502d5687d5d", func := "loop.example/compurgator/laws.FnFormTwice", spec := "fnFormTwice", inPlace := ["internal/abi.NoEscape", "internal/bytealg.MakeNoZero"], unfollowed := true, recurses := true, apart := false }
def FnFormTwiceSaid : Prop := fnFormTwiceRow.holds Try.pinned (OpenSpec.ofChange fnFormTwiceSpec)

/-- ITS FALSE NEIGHBOUR: 'it returns false'. Refute it at one input. -/
def fnFormTwiceWrong : ChangeSpec := { name := "fnFormTwice", fn := fun _ => fun
  | [d] => { results := [.lit (.bool false)], args := [d] }
  | _ => none }
def FnFormTwiceWrongFalsely : Prop := fnFormTwiceRow.holds Try.pinned (OpenSpec.ofChange fnFormTwiceWrong)

/-- 'laws.FnCoreOf': WHATEVER THE INPUT: true; the input reads as it did. -/
def fnCoreOfSpec : ChangeSpec := { name := "fnCoreOf", fn := fun _ => fun
  | [d] => { results := [.lit (.bool true)], args := [d] }
  | _ => none }
def fnCoreOfRow : OpenClaim := { program := "ytgokggnmacjafaa", sum := "de488b4674884442a72f7a53e2e7015797b640d08c2007fdfe2cf502d5687d5d", func := "loop.example/compurgator/laws.FnCoreOf", spec := "fnCoreOf", unfollowed := true, recurses := true, apart := false }
def FnCoreOfSaid : Prop := fnCoreOfRow.holds Try.pinned (OpenSpec.ofChange fnCoreOfSpec)

/-- ITS FALSE NEIGHBOUR: 'it returns false'. Refute it at one input. -/
def fnCoreOfWrong : ChangeSpec := { name := "fnCoreOf", fn := fun _ => fun
  | [d] => { results := [.lit (.bool false)], args := [d] }
  | _ => none }
def FnCoreOfWrongFalsely : Prop := fnCoreOfRow.holds Try.pinned (OpenSpec.ofChange fnCoreOfWrong)

/-- 'laws.FnExactSameIs': WHATEVER THE INPUT: true; the input reads as it did. -/
def fnExactSameIsSpec : ChangeSpec := { name := "fnExactSameIs", fn := fun _ => fun
  | [d1, d2, d3, d4] => { results := [.lit (.bool true)], args := [d1, d2, d3, d4] }
  | _ => none }
def fnExactSameIsRow : OpenClaim := { program := "ytgokggnmacjafaa", sum := "de488b4674884442a72f7a53e2e7015797b640d08c2007fdfe2cf502d5687d5d", func := "loop.example/compurgator/laws.FnExactSameIs", spec := "fnExactSameIs", unfollowed := true, recurses := true, loops := true, apart := false }
def FnExactSameIsSaid : Prop := fnExactSameIsRow.holds Try.pinned (OpenSpec.ofChange fnExactSameIsSpec)

/-- ITS FALSE NEIGHBOUR: 'it returns false'. Refute it at one input. -/
def fnExactSameIsWrong : ChangeSpec := { name := "fnExactSameIs", fn := fun _ => fun
  | [d1, d2, d3, d4] => { results := [.lit (.bool false)], args := [d1, d2, d3, d4] }
  | _ => none }
def FnExactSameIsWrongFalsely : Prop := fnExactSameIsRow.holds Try.pinned (OpenSpec.ofChange fnExactSameIsWrong)

/-- 'laws.FnExactSameClass': WHATEVER THE INPUT: true; the input reads as it did. -/
def fnExactSameClassSpec : ChangeSpec := { name := "fnExactSameClass", fn := fun _ => fun
  | [d1, d2, d3] => { results := [.lit (.bool true)], args := [d1, d2, d3] }
  | _ => none }
def fnExactSameClassRow : OpenClaim := { program := "ytgokggnmacjafaa", sum := "de488b4674884442a72f7a53e2e7015797b640d08c2007fdfe2cf502d5687d5d", func := "loop.example/compurgator/laws.FnExactSameClass", spec := "fnExactSameClass", unfollowed := true, recurses := true, loops := true, apart := false }
def FnExactSameClassSaid : Prop := fnExactSameClassRow.holds Try.pinned (OpenSpec.ofChange fnExactSameClassSpec)

/-- ITS FALSE NEIGHBOUR: 'it returns false'. Refute it at one input. -/
def fnExactSameClassWrong : ChangeSpec := { name := "fnExactSameClass", fn := fun _ => fun
  | [d1, d2, d3] => { results := [.lit (.bool false)], args := [d1, d2, d3] }
  | _ => none }
def FnExactSameClassWrongFalsely : Prop := fnExactSameClassRow.holds Try.pinned (OpenSpec.ofChange fnExactSameClassWrong)

/-- 'laws.FnExactSameSteps': WHATEVER THE INPUT: true; the input reads as it did. -/
def fnExactSameStepsSpec : ChangeSpec := { name := "fnExactSameSteps", fn := fun _ => fun
  | [d1, d2, d3] => { results := [.lit (.bool true)], args := [d1, d2, d3] }
  | _ => none }
def fnExactSameStepsRow : OpenClaim := { program := "ytgokggnmacjafaa", sum := "de488b4674884442a72f7a53e2e7015797b640d08c2007fdfe2cf502d5687d5d", func := "loop.example/compurgator/laws.FnExactSameSteps", spec := "fnExactSameSteps", unfollowed := true, recurses := true, loops := true, apart := false }
def FnExactSameStepsSaid : Prop := fnExactSameStepsRow.holds Try.pinned (OpenSpec.ofChange fnExactSameStepsSpec)

/-- ITS FALSE NEIGHBOUR: 'it returns false'. Refute it at one input. -/
def fnExactSameStepsWrong : ChangeSpec := { name := "fnExactSameSteps", fn := fun _ => fun
  | [d1, d2, d3] => { results := [.lit (.bool false)], args := [d1, d2, d3] }
  | _ => none }
def FnExactSameStepsWrongFalsely : Prop := fnExactSameStepsRow.holds Try.pinned (OpenSpec.ofChange fnExactSameStepsWrong)

/-- 'laws.FnExactWhyTells': WHATEVER THE INPUT: true; the input reads as it did. -/
def fnExactWhyTellsSpec : ChangeSpec := { name := "fnExactWhyTells", fn := fun _ => fun
  | [d1, d2, d3] => { results := [.lit (.bool true)], args := [d1, d2, d3] }
  | _ => none }
def fnExactWhyTellsRow : OpenClaim := { program := "ytgokggnmacjafaa", sum := "de488b4674884442a72f7a53e2e7015797b640d08c2007fdfe2cf502d5687d5d", func := "loop.example/compurgator/laws.FnExactWhyTells", spec := "fnExactWhyTells", unfollowed := true, recurses := true, loops := true, apart := false }
def FnExactWhyTellsSaid : Prop := fnExactWhyTellsRow.holds Try.pinned (OpenSpec.ofChange fnExactWhyTellsSpec)

/-- ITS FALSE NEIGHBOUR: 'it returns false'. Refute it at one input. -/
def fnExactWhyTellsWrong : ChangeSpec := { name := "fnExactWhyTells", fn := fun _ => fun
  | [d1, d2, d3] => { results := [.lit (.bool false)], args := [d1, d2, d3] }
  | _ => none }
def FnExactWhyTellsWrongFalsely : Prop := fnExactWhyTellsRow.holds Try.pinned (OpenSpec.ofChange fnExactWhyTellsWrong)

/-- 'laws.FnSameGiven': WHATEVER THE INPUT: true; the input reads as it did. -/
def fnSameGivenSpec : ChangeSpec := { name := "fnSameGiven", fn := fun _ => fun
  | [d] => { results := [.lit (.bool true)], args := [d] }
  | _ => none }
def fnSameGivenRow : OpenClaim := { program := "ytgokggnmacjafaa", sum := "de488b4674884442a72f7a53e2e7015797b640d08c2007fdfe2cf502d5687d5d", func := "loop.example/compurgator/laws.FnSameGiven", spec := "fnSameGiven", unfollowed := true, recurses := true, apart := false }
def FnSameGivenSaid : Prop := fnSameGivenRow.holds Try.pinned (OpenSpec.ofChange fnSameGivenSpec)

/-- ITS FALSE NEIGHBOUR: 'it returns false'. Refute it at one input. -/
def fnSameGivenWrong : ChangeSpec := { name := "fnSameGiven", fn := fun _ => fun
  | [d] => { results := [.lit (.bool false)], args := [d] }
  | _ => none }
def FnSameGivenWrongFalsely : Prop := fnSameGivenRow.holds Try.pinned (OpenSpec.ofChange fnSameGivenWrong)

/-- 'laws.FnSameClass': WHATEVER THE INPUT: true; the input reads as it did. -/
def fnSameClassSpec : ChangeSpec := { name := "fnSameClass", fn := fun _ => fun
  | [d] => { results := [.lit (.bool true)], args := [d] }
  | _ => none }
def fnSameClassRow : OpenClaim := { program := "ytgokggnmacjafaa", sum := "de488b4674884442a72f7a53e2e7015797b640d08c2007fdfe2cf502d5687d5d", func := "loop.example/compurgator/laws.FnSameClass", spec := "fnSameClass", unfollowed := true, recurses := true, apart := false }
def FnSameClassSaid : Prop := fnSameClassRow.holds Try.pinned (OpenSpec.ofChange fnSameClassSpec)

/-- ITS FALSE NEIGHBOUR: 'it returns false'. Refute it at one input. -/
def fnSameClassWrong : ChangeSpec := { name := "fnSameClass", fn := fun _ => fun
  | [d] => { results := [.lit (.bool false)], args := [d] }
  | _ => none }
def FnSameClassWrongFalsely : Prop := fnSameClassRow.holds Try.pinned (OpenSpec.ofChange fnSameClassWrong)

/- THE SECOND FORM. 'bulk': how many values and letters a reading holds, each counted each time it is reached (what is shared counts as often as it is met; a slice's spare places count too). A statement '..UptoSaid' is the law's where the arguments, and the package variables that the reading takes, are together of bulk at most 1048576: NARROWER than '..Said'. Prove '..Said' where nothing that the law and all that it calls make is longer than what came in: it says more and counts as full. Else prove '..UptoSaid'. A law counts once. -/
mutual
def uptoBulk {H : Type} : DataW H → Nat
  | .lit (.string bytes) => bytes.length + 1
  | .lit _ => 1
  | .nil => 1
  | .ptr d => uptoBulk d + 1
  | .slice elems spare => uptoBulkAll elems + uptoBulkAll spare + 1
  | .agg parts => uptoBulkAll parts + 1
  | .iface _ d => uptoBulk d + 1
  | .map entries => uptoBulkEntries entries + 1
  | .held _ => 1
def uptoBulkAll {H : Type} : List (DataW H) → Nat
  | [] => 0
  | d :: r => uptoBulk d + uptoBulkAll r
def uptoBulkEntries {H : Type} : List (Lit × DataW H) → Nat
  | [] => 0
  | x :: r => uptoBulkEntry x + uptoBulkEntries r
def uptoBulkEntry {H : Type} : Lit × DataW H → Nat
  | (.string bytes, d) => bytes.length + uptoBulk d + 1
  | (_, d) => uptoBulk d + 1
 end
def uptoSmall : (H : Type) → List (DataW H) → Bool := fun _ ds => decide (uptoBulkAll ds ≤ 1048576)
def OpenSpec.upto (s : _root_.Go.ChangeSpec) : _root_.Go.OpenSpec := { _root_.Go.OpenSpec.ofChange s with cond := some uptoSmall }

/-- 'laws.FnAtomTurn', WHERE WHAT IT READS IS OF BULK AT MOST 1048576: true; the input reads as it did. -/
def fnAtomTurnUptoRow : OpenClaim := { program := "ytgokggnmacjafaa", sum := "de488b4674884442a72f7a53e2e7015797b640d08c2007fdfe2cf502d5687d5d", func := "loop.example/compurgator/laws.FnAtomTurn", spec := "fnAtomTurn", inPlace := ["internal/abi.NoEscape", "internal/bytealg.MakeNoZero"], unfollowed := true, recurses := true, apart := false, narrowed := true }
def FnAtomTurnUptoSaid : Prop := fnAtomTurnUptoRow.holds Try.pinned (OpenSpec.upto fnAtomTurnSpec)

/-- 'laws.FnFormIs', WHERE WHAT IT READS IS OF BULK AT MOST 1048576: true; the input reads as it did. -/
def fnFormIsUptoRow : OpenClaim := { program := "ytgokggnmacjafaa", sum := "de488b4674884442a72f7a53e2e7015797b640d08c2007fdfe2cf502d5687d5d", func := "loop.example/compurgator/laws.FnFormIs", spec := "fnFormIs", inPlace := ["internal/abi.NoEscape", "internal/bytealg.MakeNoZero"], unfollowed := true, recurses := true, apart := false, narrowed := true }
def FnFormIsUptoSaid : Prop := fnFormIsUptoRow.holds Try.pinned (OpenSpec.upto fnFormIsSpec)

/-- 'laws.FnFormMorgan', WHERE WHAT IT READS IS OF BULK AT MOST 1048576: true; the input reads as it did. -/
def fnFormMorganUptoRow : OpenClaim := { program := "ytgokggnmacjafaa", sum := "de488b4674884442a72f7a53e2e7015797b640d08c2007fdfe2cf502d5687d5d", func := "loop.example/compurgator/laws.FnFormMorgan", spec := "fnFormMorgan", inPlace := ["internal/abi.NoEscape", "internal/bytealg.MakeNoZero"], unfollowed := true, recurses := true, apart := false, narrowed := true }
def FnFormMorganUptoSaid : Prop := fnFormMorganUptoRow.holds Try.pinned (OpenSpec.upto fnFormMorganSpec)

/-- 'laws.FnFormTwice', WHERE WHAT IT READS IS OF BULK AT MOST 1048576: true; the input reads as it did. -/
def fnFormTwiceUptoRow : OpenClaim := { program := "ytgokggnmacjafaa", sum := "de488b4674884442a72f7a53e2e7015797b640d08c2007fdfe2cf502d5687d5d", func := "loop.example/compurgator/laws.FnFormTwice", spec := "fnFormTwice", inPlace := ["internal/abi.NoEscape", "internal/bytealg.MakeNoZero"], unfollowed := true, recurses := true, apart := false, narrowed := true }
def FnFormTwiceUptoSaid : Prop := fnFormTwiceUptoRow.holds Try.pinned (OpenSpec.upto fnFormTwiceSpec)

/-- 'laws.FnCoreOf', WHERE WHAT IT READS IS OF BULK AT MOST 1048576: true; the input reads as it did. -/
def fnCoreOfUptoRow : OpenClaim := { program := "ytgokggnmacjafaa", sum := "de488b4674884442a72f7a53e2e7015797b640d08c2007fdfe2cf502d5687d5d", func := "loop.example/compurgator/laws.FnCoreOf", spec := "fnCoreOf", unfollowed := true, recurses := true, apart := false, narrowed := true }
def FnCoreOfUptoSaid : Prop := fnCoreOfUptoRow.holds Try.pinned (OpenSpec.upto fnCoreOfSpec)

/-- 'laws.FnExactSameIs', WHERE WHAT IT READS IS OF BULK AT MOST 1048576: true; the input reads as it did. -/
def fnExactSameIsUptoRow : OpenClaim := { program := "ytgokggnmacjafaa", sum := "de488b4674884442a72f7a53e2e7015797b640d08c2007fdfe2cf502d5687d5d", func := "loop.example/compurgator/laws.FnExactSameIs", spec := "fnExactSameIs", unfollowed := true, recurses := true, loops := true, apart := false, narrowed := true }
def FnExactSameIsUptoSaid : Prop := fnExactSameIsUptoRow.holds Try.pinned (OpenSpec.upto fnExactSameIsSpec)

/-- 'laws.FnExactSameClass', WHERE WHAT IT READS IS OF BULK AT MOST 1048576: true; the input reads as it did. -/
def fnExactSameClassUptoRow : OpenClaim := { program := "ytgokggnmacjafaa", sum := "de488b4674884442a72f7a53e2e7015797b640d08c2007fdfe2cf502d5687d5d", func := "loop.example/compurgator/laws.FnExactSameClass", spec := "fnExactSameClass", unfollowed := true, recurses := true, loops := true, apart := false, narrowed := true }
def FnExactSameClassUptoSaid : Prop := fnExactSameClassUptoRow.holds Try.pinned (OpenSpec.upto fnExactSameClassSpec)

/-- 'laws.FnExactSameSteps', WHERE WHAT IT READS IS OF BULK AT MOST 1048576: true; the input reads as it did. -/
def fnExactSameStepsUptoRow : OpenClaim := { program := "ytgokggnmacjafaa", sum := "de488b4674884442a72f7a53e2e7015797b640d08c2007fdfe2cf502d5687d5d", func := "loop.example/compurgator/laws.FnExactSameSteps", spec := "fnExactSameSteps", unfollowed := true, recurses := true, loops := true, apart := false, narrowed := true }
def FnExactSameStepsUptoSaid : Prop := fnExactSameStepsUptoRow.holds Try.pinned (OpenSpec.upto fnExactSameStepsSpec)

/-- 'laws.FnExactWhyTells', WHERE WHAT IT READS IS OF BULK AT MOST 1048576: true; the input reads as it did. -/
def fnExactWhyTellsUptoRow : OpenClaim := { program := "ytgokggnmacjafaa", sum := "de488b4674884442a72f7a53e2e7015797b640d08c2007fdfe2cf502d5687d5d", func := "loop.example/compurgator/laws.FnExactWhyTells", spec := "fnExactWhyTells", unfollowed := true, recurses := true, loops := true, apart := false, narrowed := true }
def FnExactWhyTellsUptoSaid : Prop := fnExactWhyTellsUptoRow.holds Try.pinned (OpenSpec.upto fnExactWhyTellsSpec)

/-- 'laws.FnSameGiven', WHERE WHAT IT READS IS OF BULK AT MOST 1048576: true; the input reads as it did. -/
def fnSameGivenUptoRow : OpenClaim := { program := "ytgokggnmacjafaa", sum := "de488b4674884442a72f7a53e2e7015797b640d08c2007fdfe2cf502d5687d5d", func := "loop.example/compurgator/laws.FnSameGiven", spec := "fnSameGiven", unfollowed := true, recurses := true, apart := false, narrowed := true }
def FnSameGivenUptoSaid : Prop := fnSameGivenUptoRow.holds Try.pinned (OpenSpec.upto fnSameGivenSpec)

/-- 'laws.FnSameClass', WHERE WHAT IT READS IS OF BULK AT MOST 1048576: true; the input reads as it did. -/
def fnSameClassUptoRow : OpenClaim := { program := "ytgokggnmacjafaa", sum := "de488b4674884442a72f7a53e2e7015797b640d08c2007fdfe2cf502d5687d5d", func := "loop.example/compurgator/laws.FnSameClass", spec := "fnSameClass", unfollowed := true, recurses := true, apart := false, narrowed := true }
def FnSameClassUptoSaid : Prop := fnSameClassUptoRow.holds Try.pinned (OpenSpec.upto fnSameClassSpec)

end Rows
end Go.Proofs.Ytgokggnmacjafaa
