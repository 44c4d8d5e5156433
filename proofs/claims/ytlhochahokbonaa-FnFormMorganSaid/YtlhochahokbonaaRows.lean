/-
  No cell of these rows narrows 'for every input' (looked for: loops, veiled, ifaces, maps, wideKeys, modest, calm, conditions, laid).
  DERIVED. THE GIVEN ROWS OF THIS SEAT. 5 by the template 'for every input the law returns true; each argument reads behind the call as it read before'; 0 by the template 'total and deterministic' (their statements: YtlhochahokbonaaTotals.lean).
  GIVEN WITH THE SEED: the statements are not yours to turn. If you find one false, say at which input.
  Laid BY PROGRAM, IN A SANDBOX (cutbox-rows.mjs): the forced cells as the released guide's own fill.sh prints them over the translation c37d8d9a4b397c22… (all of the seat's roots in one cut). By AI agents, Wed Nov 11 2026. No macro, syntax, notation, axiom, sorry.
-/
import Derived.Test.YtlhochahokbonaaChecked
import GoSem.Claim
import GoSem.ClaimJoined
import GoSem.ClaimMapViews
import Derived.JoinedTies
import Derived.KernelRfl
namespace Go.Proofs.Ytlhochahokbonaa
/- THE CELL 'sum', in the pinned program and in every row, IS THE sha256 OF THE DUMP (.gsa) THAT YtlhochahokbonaaProg.lean LOADS. Nothing in Lean hashes anything: it is a label: what it is worth is what the hold of that sum in a sandbox is worth. -/
noncomputable def Try.pinned : Pinned := { name := "ytlhochahokbonaa", sum := "c37d8d9a4b397c22d6ff79acf686a6008debd2f61e6c4771c2b10306310dddc2", checked := Try.checked }
namespace Rows
def none {H : Type} : Left H := { results := [], args := [] }

/-- 'laws.FnAtomTurn': WHATEVER THE INPUT: true; the input reads as it did. -/
def fnAtomTurnSpec : ChangeSpec := { name := "fnAtomTurn", fn := fun _ => fun
  | [d] => { results := [.lit (.bool true)], args := [d] }
  | _ => none }
def fnAtomTurnRow : OpenClaim := { program := "ytlhochahokbonaa", sum := "c37d8d9a4b397c22d6ff79acf686a6008debd2f61e6c4771c2b10306310dddc2", func := "loop.example/compurgator/laws.FnAtomTurn", spec := "fnAtomTurn", inPlace := ["internal/abi.NoEscape", "internal/bytealg.MakeNoZero"], unfollowed := true, recurses := true, apart := false }
def FnAtomTurnSaid : Prop := fnAtomTurnRow.holds Try.pinned (OpenSpec.ofChange fnAtomTurnSpec)

/-- ITS FALSE NEIGHBOUR: 'it returns false'. Refute it at one input. -/
def fnAtomTurnWrong : ChangeSpec := { name := "fnAtomTurn", fn := fun _ => fun
  | [d] => { results := [.lit (.bool false)], args := [d] }
  | _ => none }
def FnAtomTurnWrongFalsely : Prop := fnAtomTurnRow.holds Try.pinned (OpenSpec.ofChange fnAtomTurnWrong)

/-- 'laws.FnFormIs': WHATEVER THE INPUT: true; the input reads as it did. -/
def fnFormIsSpec : ChangeSpec := { name := "fnFormIs", fn := fun _ => fun
  | [d] => { results := [.lit (.bool true)], args := [d] }
  | _ => none }
def fnFormIsRow : OpenClaim := { program := "ytlhochahokbonaa", sum := "c37d8d9a4b397c22d6ff79acf686a6008debd2f61e6c4771c2b10306310dddc2", func := "loop.example/compurgator/laws.FnFormIs", spec := "fnFormIs", inPlace := ["internal/abi.NoEscape", "internal/bytealg.MakeNoZero"], unfollowed := true, recurses := true, apart := false }
def FnFormIsSaid : Prop := fnFormIsRow.holds Try.pinned (OpenSpec.ofChange fnFormIsSpec)

/-- ITS FALSE NEIGHBOUR: 'it returns false'. Refute it at one input. -/
def fnFormIsWrong : ChangeSpec := { name := "fnFormIs", fn := fun _ => fun
  | [d] => { results := [.lit (.bool false)], args := [d] }
  | _ => none }
def FnFormIsWrongFalsely : Prop := fnFormIsRow.holds Try.pinned (OpenSpec.ofChange fnFormIsWrong)

/-- 'laws.FnFormMorgan': WHATEVER THE INPUT: true; the input reads as it did. -/
def fnFormMorganSpec : ChangeSpec := { name := "fnFormMorgan", fn := fun _ => fun
  | [d] => { results := [.lit (.bool true)], args := [d] }
  | _ => none }
def fnFormMorganRow : OpenClaim := { program := "ytlhochahokbonaa", sum := "c37d8d9a4b397c22d6ff79acf686a6008debd2f61e6c4771c2b10306310dddc2", func := "loop.example/compurgator/laws.FnFormMorgan", spec := "fnFormMorgan", inPlace := ["internal/abi.NoEscape", "internal/bytealg.MakeNoZero"], unfollowed := true, recurses := true, apart := false }
def FnFormMorganSaid : Prop := fnFormMorganRow.holds Try.pinned (OpenSpec.ofChange fnFormMorganSpec)

/-- ITS FALSE NEIGHBOUR: 'it returns false'. Refute it at one input. -/
def fnFormMorganWrong : ChangeSpec := { name := "fnFormMorgan", fn := fun _ => fun
  | [d] => { results := [.lit (.bool false)], args := [d] }
  | _ => none }
def FnFormMorganWrongFalsely : Prop := fnFormMorganRow.holds Try.pinned (OpenSpec.ofChange fnFormMorganWrong)

/-- 'laws.FnFormTwice': WHATEVER THE INPUT: true; the input reads as it did. -/
def fnFormTwiceSpec : ChangeSpec := { name := "fnFormTwice", fn := fun _ => fun
  | [d] => { results := [.lit (.bool true)], args := [d] }
  | _ => none }
def fnFormTwiceRow : OpenClaim := { program := "ytlhochahokbonaa", sum := "c37d8d9a4b397c22d6ff79acf686a6008debd2f61e6c4771c2b10306310dddc2", func := "loop.example/compurgator/laws.FnFormTwice", spec := "fnFormTwice", inPlace := ["internal/abi.NoEscape", "internal/bytealg.MakeNoZero"], unfollowed := true, recurses := true, apart := false }
def FnFormTwiceSaid : Prop := fnFormTwiceRow.holds Try.pinned (OpenSpec.ofChange fnFormTwiceSpec)

/-- ITS FALSE NEIGHBOUR: 'it returns false'. Refute it at one input. -/
def fnFormTwiceWrong : ChangeSpec := { name := "fnFormTwice", fn := fun _ => fun
  | [d] => { results := [.lit (.bool false)], args := [d] }
  | _ => none }
def FnFormTwiceWrongFalsely : Prop := fnFormTwiceRow.holds Try.pinned (OpenSpec.ofChange fnFormTwiceWrong)

/-- 'laws.FnCoreOf': WHATEVER THE INPUT: true; the input reads as it did. -/
def fnCoreOfSpec : ChangeSpec := { name := "fnCoreOf", fn := fun _ => fun
  | [d] => { results := [.lit (.bool true)], args := [d] }
  | _ => none }
def fnCoreOfRow : OpenClaim := { program := "ytlhochahokbonaa", sum := "c37d8d9a4b397c22d6ff79acf686a6008debd2f61e6c4771c2b10306310dddc2", func := "loop.example/compurgator/laws.FnCoreOf", spec := "fnCoreOf", unfollowed := true, recurses := true, apart := false }
def FnCoreOfSaid : Prop := fnCoreOfRow.holds Try.pinned (OpenSpec.ofChange fnCoreOfSpec)

/-- ITS FALSE NEIGHBOUR: 'it returns false'. Refute it at one input. -/
def fnCoreOfWrong : ChangeSpec := { name := "fnCoreOf", fn := fun _ => fun
  | [d] => { results := [.lit (.bool false)], args := [d] }
  | _ => none }
def FnCoreOfWrongFalsely : Prop := fnCoreOfRow.holds Try.pinned (OpenSpec.ofChange fnCoreOfWrong)

/- THE SECOND FORM. 'bulk': how many values and letters a reading holds, each counted each time it is reached (what is shared counts as often as it is met; a slice's spare places count too). A statement '..UptoSaid' is the law's where the arguments, and the package variables that the reading takes, are together of bulk at most 1048576: NARROWER than '..Said'. Prove '..Said' where nothing that the law and all that it calls make is longer than what came in: it says more and counts as full. Else prove '..UptoSaid'. A law counts once. -/
mutual
def uptoBulk {H : Type} : DataW H → Nat
  | .lit (.string bytes) => bytes.length + 1
  | .lit _ => 1
  | .nil => 1
  | .ptr d => uptoBulk d + 1
  | .slice elems spare => uptoBulkAll elems + uptoBulkAll spare + 1
  | .agg parts => uptoBulkAll parts + 1
  | .iface _ d => uptoBulk d + 1
  | .map entries => uptoBulkEntries entries + 1
  | .held _ => 1
def uptoBulkAll {H : Type} : List (DataW H) → Nat
  | [] => 0
  | d :: r => uptoBulk d + uptoBulkAll r
def uptoBulkEntries {H : Type} : List (Lit × DataW H) → Nat
  | [] => 0
  | x :: r => uptoBulkEntry x + uptoBulkEntries r
def uptoBulkEntry {H : Type} : Lit × DataW H → Nat
  | (.string bytes, d) => bytes.length + uptoBulk d + 1
  | (_, d) => uptoBulk d + 1
 end
def uptoSmall : (H : Type) → List (DataW H) → Bool := fun _ ds => decide (uptoBulkAll ds ≤ 1048576)
def OpenSpec.upto (s : _root_.Go.ChangeSpec) : _root_.Go.OpenSpec := { _root_.Go.OpenSpec.ofChange s with cond := some uptoSmall }

/-- 'laws.FnAtomTurn', WHERE WHAT IT READS IS OF BULK AT MOST 1048576: true; the input reads as it did. -/
def fnAtomTurnUptoRow : OpenClaim := { program := "ytlhochahokbonaa", sum := "c37d8d9a4b397c22d6ff79acf686a6008debd2f61e6c4771c2b10306310dddc2", func := "loop.example/compurgator/laws.FnAtomTurn", spec := "fnAtomTurn", inPlace := ["internal/abi.NoEscape", "internal/bytealg.MakeNoZero"], unfollowed := true, recurses := true, apart := false, narrowed := true }
def FnAtomTurnUptoSaid : Prop := fnAtomTurnUptoRow.holds Try.pinned (OpenSpec.upto fnAtomTurnSpec)

/-- 'laws.FnFormIs', WHERE WHAT IT READS IS OF BULK AT MOST 1048576: true; the input reads as it did. -/
def fnFormIsUptoRow : OpenClaim := { program := "ytlhochahokbonaa", sum := "c37d8d9a4b397c22d6ff79acf686a6008debd2f61e6c4771c2b10306310dddc2", func := "loop.example/compurgator/laws.FnFormIs", spec := "fnFormIs", inPlace := ["internal/abi.NoEscape", "internal/bytealg.MakeNoZero"], unfollowed := true, recurses := true, apart := false, narrowed := true }
def FnFormIsUptoSaid : Prop := fnFormIsUptoRow.holds Try.pinned (OpenSpec.upto fnFormIsSpec)

/-- 'laws.FnFormMorgan', WHERE WHAT IT READS IS OF BULK AT MOST 1048576: true; the input reads as it did. -/
def fnFormMorganUptoRow : OpenClaim := { program := "ytlhochahokbonaa", sum := "c37d8d9a4b397c22d6ff79acf686a6008debd2f61e6c4771c2b10306310dddc2", func := "loop.example/compurgator/laws.FnFormMorgan", spec := "fnFormMorgan", inPlace := ["internal/abi.NoEscape", "internal/bytealg.MakeNoZero"], unfollowed := true, recurses := true, apart := false, narrowed := true }
def FnFormMorganUptoSaid : Prop := fnFormMorganUptoRow.holds Try.pinned (OpenSpec.upto fnFormMorganSpec)

/-- 'laws.FnFormTwice', WHERE WHAT IT READS IS OF BULK AT MOST 1048576: true; the input reads as it did. -/
def fnFormTwiceUptoRow : OpenClaim := { program := "ytlhochahokbonaa", sum := "c37d8d9a4b397c22d6ff79acf686a6008debd2f61e6c4771c2b10306310dddc2", func := "loop.example/compurgator/laws.FnFormTwice", spec := "fnFormTwice", inPlace := ["internal/abi.NoEscape", "internal/bytealg.MakeNoZero"], unfollowed := true, recurses := true, apart := false, narrowed := true }
def FnFormTwiceUptoSaid : Prop := fnFormTwiceUptoRow.holds Try.pinned (OpenSpec.upto fnFormTwiceSpec)

/-- 'laws.FnCoreOf', WHERE WHAT IT READS IS OF BULK AT MOST 1048576: true; the input reads as it did. -/
def fnCoreOfUptoRow : OpenClaim := { program := "ytlhochahokbonaa", sum := "c37d8d9a4b397c22d6ff79acf686a6008debd2f61e6c4771c2b10306310dddc2", func := "loop.example/compurgator/laws.FnCoreOf", spec := "fnCoreOf", unfollowed := true, recurses := true, apart := false, narrowed := true }
def FnCoreOfUptoSaid : Prop := fnCoreOfUptoRow.holds Try.pinned (OpenSpec.upto fnCoreOfSpec)

end Rows
end Go.Proofs.Ytlhochahokbonaa
