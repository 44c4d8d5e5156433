/-
  NARROWER THAN 'FOR EVERY INPUT', by the rows' own cells (each row's printed sentence says how): FnExactCoreOf: loops · FnExactLitTerms: loops · FnExactPaperSame: loops · FnExactStackSame: loops · FnExactLitNot: loops · FnExactEqsOk: loops · FnExactFormIs: loops · FnExactFormAtoms: loops · FnExactFormsAtoms: loops · FnExactBothOk: loops.
  DERIVED. THE GIVEN ROWS OF THIS SEAT. 11 by the template 'for every input the law returns true; each argument reads behind the call as it read before'; 0 by the template 'total and deterministic' (their statements: YtaogaddgfllkpaaTotals.lean).
  GIVEN WITH THE SEED: the statements are not yours to turn. If you find one false, say at which input.
  Laid BY PROGRAM, IN A SANDBOX (cutbox-rows.mjs): the forced cells as the released guide's own fill.sh prints them over the translation f84ef0005eaba46f… (all of the seat's roots in one cut). By AI agents, Wed Nov 11 2026. No macro, syntax, notation, axiom, sorry.
-/
import Derived.Test.YtaogaddgfllkpaaChecked
import GoSem.Claim
import GoSem.ClaimJoined
import GoSem.ClaimMapViews
import Derived.JoinedTies
import Derived.KernelRfl
namespace Go.Proofs.Ytaogaddgfllkpaa
/- THE CELL 'sum', in the pinned program and in every row, IS THE sha256 OF THE DUMP (.gsa) THAT YtaogaddgfllkpaaProg.lean LOADS. Nothing in Lean hashes anything: it is a label: what it is worth is what the hold of that sum in a sandbox is worth. -/
noncomputable def Try.pinned : Pinned := { name := "ytaogaddgfllkpaa", sum := "f84ef0005eaba46f96bfbe5e278e4027c8e26594ce82673865188259842eb810", checked := Try.checked }
namespace Rows
def none {H : Type} : Left H := { results := [], args := [] }

/-- 'laws.FnExactCoreOf': WHATEVER THE INPUT: true; the input reads as it did. -/
def fnExactCoreOfSpec : ChangeSpec := { name := "fnExactCoreOf", fn := fun _ => fun
  | [d1, d2] => { results := [.lit (.bool true)], args := [d1, d2] }
  | _ => none }
def fnExactCoreOfRow : OpenClaim := { program := "ytaogaddgfllkpaa", sum := "f84ef0005eaba46f96bfbe5e278e4027c8e26594ce82673865188259842eb810", func := "loop.example/compurgator/laws.FnExactCoreOf", spec := "fnExactCoreOf", recurses := true, loops := true, apart := false }
def FnExactCoreOfSaid : Prop := fnExactCoreOfRow.holds Try.pinned (OpenSpec.ofChange fnExactCoreOfSpec)

/-- ITS FALSE NEIGHBOUR: 'it returns false'. Refute it at one input. -/
def fnExactCoreOfWrong : ChangeSpec := { name := "fnExactCoreOf", fn := fun _ => fun
  | [d1, d2] => { results := [.lit (.bool false)], args := [d1, d2] }
  | _ => none }
def FnExactCoreOfWrongFalsely : Prop := fnExactCoreOfRow.holds Try.pinned (OpenSpec.ofChange fnExactCoreOfWrong)

/-- 'laws.FnExactLitTerms': WHATEVER THE INPUT: true; the input reads as it did. -/
def fnExactLitTermsSpec : ChangeSpec := { name := "fnExactLitTerms", fn := fun _ => fun
  | [d] => { results := [.lit (.bool true)], args := [d] }
  | _ => none }
def fnExactLitTermsRow : OpenClaim := { program := "ytaogaddgfllkpaa", sum := "f84ef0005eaba46f96bfbe5e278e4027c8e26594ce82673865188259842eb810", func := "loop.example/compurgator/laws.FnExactLitTerms", spec := "fnExactLitTerms", inPlace := ["internal/abi.NoEscape", "internal/bytealg.MakeNoZero"], recurses := true, loops := true, apart := false }
def FnExactLitTermsSaid : Prop := fnExactLitTermsRow.holds Try.pinned (OpenSpec.ofChange fnExactLitTermsSpec)

/-- ITS FALSE NEIGHBOUR: 'it returns false'. Refute it at one input. -/
def fnExactLitTermsWrong : ChangeSpec := { name := "fnExactLitTerms", fn := fun _ => fun
  | [d] => { results := [.lit (.bool false)], args := [d] }
  | _ => none }
def FnExactLitTermsWrongFalsely : Prop := fnExactLitTermsRow.holds Try.pinned (OpenSpec.ofChange fnExactLitTermsWrong)

/-- 'laws.FnExactPaperSame': WHATEVER THE INPUT: true; the input reads as it did. -/
def fnExactPaperSameSpec : ChangeSpec := { name := "fnExactPaperSame", fn := fun _ => fun
  | [d1, d2] => { results := [.lit (.bool true)], args := [d1, d2] }
  | _ => none }
def fnExactPaperSameRow : OpenClaim := { program := "ytaogaddgfllkpaa", sum := "f84ef0005eaba46f96bfbe5e278e4027c8e26594ce82673865188259842eb810", func := "loop.example/compurgator/laws.FnExactPaperSame", spec := "fnExactPaperSame", unfollowed := true, recurses := true, loops := true, apart := false }
def FnExactPaperSameSaid : Prop := fnExactPaperSameRow.holds Try.pinned (OpenSpec.ofChange fnExactPaperSameSpec)

/-- ITS FALSE NEIGHBOUR: 'it returns false'. Refute it at one input. -/
def fnExactPaperSameWrong : ChangeSpec := { name := "fnExactPaperSame", fn := fun _ => fun
  | [d1, d2] => { results := [.lit (.bool false)], args := [d1, d2] }
  | _ => none }
def FnExactPaperSameWrongFalsely : Prop := fnExactPaperSameRow.holds Try.pinned (OpenSpec.ofChange fnExactPaperSameWrong)

/-- 'laws.FnExactStackSame': WHATEVER THE INPUT: true; the input reads as it did. -/
def fnExactStackSameSpec : ChangeSpec := { name := "fnExactStackSame", fn := fun _ => fun
  | [d1, d2] => { results := [.lit (.bool true)], args := [d1, d2] }
  | _ => none }
def fnExactStackSameRow : OpenClaim := { program := "ytaogaddgfllkpaa", sum := "f84ef0005eaba46f96bfbe5e278e4027c8e26594ce82673865188259842eb810", func := "loop.example/compurgator/laws.FnExactStackSame", spec := "fnExactStackSame", unfollowed := true, recurses := true, loops := true, apart := false }
def FnExactStackSameSaid : Prop := fnExactStackSameRow.holds Try.pinned (OpenSpec.ofChange fnExactStackSameSpec)

/-- ITS FALSE NEIGHBOUR: 'it returns false'. Refute it at one input. -/
def fnExactStackSameWrong : ChangeSpec := { name := "fnExactStackSame", fn := fun _ => fun
  | [d1, d2] => { results := [.lit (.bool false)], args := [d1, d2] }
  | _ => none }
def FnExactStackSameWrongFalsely : Prop := fnExactStackSameRow.holds Try.pinned (OpenSpec.ofChange fnExactStackSameWrong)

/-- 'laws.FnExactLitNot': WHATEVER THE INPUT: true; the input reads as it did. -/
def fnExactLitNotSpec : ChangeSpec := { name := "fnExactLitNot", fn := fun _ => fun
  | [d] => { results := [.lit (.bool true)], args := [d] }
  | _ => none }
def fnExactLitNotRow : OpenClaim := { program := "ytaogaddgfllkpaa", sum := "f84ef0005eaba46f96bfbe5e278e4027c8e26594ce82673865188259842eb810", func := "loop.example/compurgator/laws.FnExactLitNot", spec := "fnExactLitNot", inPlace := ["internal/abi.NoEscape", "internal/bytealg.MakeNoZero"], recurses := true, loops := true, apart := false }
def FnExactLitNotSaid : Prop := fnExactLitNotRow.holds Try.pinned (OpenSpec.ofChange fnExactLitNotSpec)

/-- ITS FALSE NEIGHBOUR: 'it returns false'. Refute it at one input. -/
def fnExactLitNotWrong : ChangeSpec := { name := "fnExactLitNot", fn := fun _ => fun
  | [d] => { results := [.lit (.bool false)], args := [d] }
  | _ => none }
def FnExactLitNotWrongFalsely : Prop := fnExactLitNotRow.holds Try.pinned (OpenSpec.ofChange fnExactLitNotWrong)

/-- 'laws.FnExactEqsOk': WHATEVER THE INPUT: true; the input reads as it did. -/
def fnExactEqsOkSpec : ChangeSpec := { name := "fnExactEqsOk", fn := fun _ => fun
  | [d1, d2] => { results := [.lit (.bool true)], args := [d1, d2] }
  | _ => none }
def fnExactEqsOkRow : OpenClaim := { program := "ytaogaddgfllkpaa", sum := "f84ef0005eaba46f96bfbe5e278e4027c8e26594ce82673865188259842eb810", func := "loop.example/compurgator/laws.FnExactEqsOk", spec := "fnExactEqsOk", unfollowed := true, recurses := true, loops := true, apart := false }
def FnExactEqsOkSaid : Prop := fnExactEqsOkRow.holds Try.pinned (OpenSpec.ofChange fnExactEqsOkSpec)

/-- ITS FALSE NEIGHBOUR: 'it returns false'. Refute it at one input. -/
def fnExactEqsOkWrong : ChangeSpec := { name := "fnExactEqsOk", fn := fun _ => fun
  | [d1, d2] => { results := [.lit (.bool false)], args := [d1, d2] }
  | _ => none }
def FnExactEqsOkWrongFalsely : Prop := fnExactEqsOkRow.holds Try.pinned (OpenSpec.ofChange fnExactEqsOkWrong)

/-- 'laws.FnExactStackNew': WHATEVER THE INPUT: true; the input reads as it did. -/
def fnExactStackNewSpec : ChangeSpec := { name := "fnExactStackNew", fn := fun _ => fun
  | [d] => { results := [.lit (.bool true)], args := [d] }
  | _ => none }
def fnExactStackNewRow : OpenClaim := { program := "ytaogaddgfllkpaa", sum := "f84ef0005eaba46f96bfbe5e278e4027c8e26594ce82673865188259842eb810", func := "loop.example/compurgator/laws.FnExactStackNew", spec := "fnExactStackNew", unfollowed := true, recurses := true, apart := false }
def FnExactStackNewSaid : Prop := fnExactStackNewRow.holds Try.pinned (OpenSpec.ofChange fnExactStackNewSpec)

/-- ITS FALSE NEIGHBOUR: 'it returns false'. Refute it at one input. -/
def fnExactStackNewWrong : ChangeSpec := { name := "fnExactStackNew", fn := fun _ => fun
  | [d] => { results := [.lit (.bool false)], args := [d] }
  | _ => none }
def FnExactStackNewWrongFalsely : Prop := fnExactStackNewRow.holds Try.pinned (OpenSpec.ofChange fnExactStackNewWrong)

/-- 'laws.FnExactFormIs': WHATEVER THE INPUT: true; the input reads as it did. -/
def fnExactFormIsSpec : ChangeSpec := { name := "fnExactFormIs", fn := fun _ => fun
  | [d1, d2] => { results := [.lit (.bool true)], args := [d1, d2] }
  | _ => none }
def fnExactFormIsRow : OpenClaim := { program := "ytaogaddgfllkpaa", sum := "f84ef0005eaba46f96bfbe5e278e4027c8e26594ce82673865188259842eb810", func := "loop.example/compurgator/laws.FnExactFormIs", spec := "fnExactFormIs", inPlace := ["internal/abi.NoEscape", "internal/bytealg.MakeNoZero"], unfollowed := true, recurses := true, loops := true, apart := false }
def FnExactFormIsSaid : Prop := fnExactFormIsRow.holds Try.pinned (OpenSpec.ofChange fnExactFormIsSpec)

/-- ITS FALSE NEIGHBOUR: 'it returns false'. Refute it at one input. -/
def fnExactFormIsWrong : ChangeSpec := { name := "fnExactFormIs", fn := fun _ => fun
  | [d1, d2] => { results := [.lit (.bool false)], args := [d1, d2] }
  | _ => none }
def FnExactFormIsWrongFalsely : Prop := fnExactFormIsRow.holds Try.pinned (OpenSpec.ofChange fnExactFormIsWrong)

/-- 'laws.FnExactFormAtoms': WHATEVER THE INPUT: true; the input reads as it did. -/
def fnExactFormAtomsSpec : ChangeSpec := { name := "fnExactFormAtoms", fn := fun _ => fun
  | [d] => { results := [.lit (.bool true)], args := [d] }
  | _ => none }
def fnExactFormAtomsRow : OpenClaim := { program := "ytaogaddgfllkpaa", sum := "f84ef0005eaba46f96bfbe5e278e4027c8e26594ce82673865188259842eb810", func := "loop.example/compurgator/laws.FnExactFormAtoms", spec := "fnExactFormAtoms", inPlace := ["internal/abi.NoEscape", "internal/bytealg.MakeNoZero"], unfollowed := true, recurses := true, loops := true, apart := false }
def FnExactFormAtomsSaid : Prop := fnExactFormAtomsRow.holds Try.pinned (OpenSpec.ofChange fnExactFormAtomsSpec)

/-- ITS FALSE NEIGHBOUR: 'it returns false'. Refute it at one input. -/
def fnExactFormAtomsWrong : ChangeSpec := { name := "fnExactFormAtoms", fn := fun _ => fun
  | [d] => { results := [.lit (.bool false)], args := [d] }
  | _ => none }
def FnExactFormAtomsWrongFalsely : Prop := fnExactFormAtomsRow.holds Try.pinned (OpenSpec.ofChange fnExactFormAtomsWrong)

/-- 'laws.FnExactFormsAtoms': WHATEVER THE INPUT: true; the input reads as it did. -/
def fnExactFormsAtomsSpec : ChangeSpec := { name := "fnExactFormsAtoms", fn := fun _ => fun
  | [d] => { results := [.lit (.bool true)], args := [d] }
  | _ => none }
def fnExactFormsAtomsRow : OpenClaim := { program := "ytaogaddgfllkpaa", sum := "f84ef0005eaba46f96bfbe5e278e4027c8e26594ce82673865188259842eb810", func := "loop.example/compurgator/laws.FnExactFormsAtoms", spec := "fnExactFormsAtoms", inPlace := ["internal/abi.NoEscape", "internal/bytealg.MakeNoZero"], unfollowed := true, recurses := true, loops := true, apart := false }
def FnExactFormsAtomsSaid : Prop := fnExactFormsAtomsRow.holds Try.pinned (OpenSpec.ofChange fnExactFormsAtomsSpec)

/-- ITS FALSE NEIGHBOUR: 'it returns false'. Refute it at one input. -/
def fnExactFormsAtomsWrong : ChangeSpec := { name := "fnExactFormsAtoms", fn := fun _ => fun
  | [d] => { results := [.lit (.bool false)], args := [d] }
  | _ => none }
def FnExactFormsAtomsWrongFalsely : Prop := fnExactFormsAtomsRow.holds Try.pinned (OpenSpec.ofChange fnExactFormsAtomsWrong)

/-- 'laws.FnExactBothOk': WHATEVER THE INPUT: true; the input reads as it did. -/
def fnExactBothOkSpec : ChangeSpec := { name := "fnExactBothOk", fn := fun _ => fun
  | [d1, d2] => { results := [.lit (.bool true)], args := [d1, d2] }
  | _ => none }
def fnExactBothOkRow : OpenClaim := { program := "ytaogaddgfllkpaa", sum := "f84ef0005eaba46f96bfbe5e278e4027c8e26594ce82673865188259842eb810", func := "loop.example/compurgator/laws.FnExactBothOk", spec := "fnExactBothOk", inPlace := ["internal/abi.NoEscape", "internal/bytealg.MakeNoZero"], unfollowed := true, recurses := true, loops := true, apart := false }
def FnExactBothOkSaid : Prop := fnExactBothOkRow.holds Try.pinned (OpenSpec.ofChange fnExactBothOkSpec)

/-- ITS FALSE NEIGHBOUR: 'it returns false'. Refute it at one input. -/
def fnExactBothOkWrong : ChangeSpec := { name := "fnExactBothOk", fn := fun _ => fun
  | [d1, d2] => { results := [.lit (.bool false)], args := [d1, d2] }
  | _ => none }
def FnExactBothOkWrongFalsely : Prop := fnExactBothOkRow.holds Try.pinned (OpenSpec.ofChange fnExactBothOkWrong)

/- THE SECOND FORM. 'bulk': how many values and letters a reading holds, each counted each time it is reached (what is shared counts as often as it is met; a slice's spare places count too). A statement '..UptoSaid' is the law's where the arguments, and the package variables that the reading takes, are together of bulk at most 1048576: NARROWER than '..Said'. Prove '..Said' where nothing that the law and all that it calls make is longer than what came in: it says more and counts as full. Else prove '..UptoSaid'. A law counts once. -/
mutual
def uptoBulk {H : Type} : DataW H → Nat
  | .lit (.string bytes) => bytes.length + 1
  | .lit _ => 1
  | .nil => 1
  | .ptr d => uptoBulk d + 1
  | .slice elems spare => uptoBulkAll elems + uptoBulkAll spare + 1
  | .agg parts => uptoBulkAll parts + 1
  | .iface _ d => uptoBulk d + 1
  | .map entries => uptoBulkEntries entries + 1
  | .held _ => 1
def uptoBulkAll {H : Type} : List (DataW H) → Nat
  | [] => 0
  | d :: r => uptoBulk d + uptoBulkAll r
def uptoBulkEntries {H : Type} : List (Lit × DataW H) → Nat
  | [] => 0
  | x :: r => uptoBulkEntry x + uptoBulkEntries r
def uptoBulkEntry {H : Type} : Lit × DataW H → Nat
  | (.string bytes, d) => bytes.length + uptoBulk d + 1
  | (_, d) => uptoBulk d + 1
 end
def uptoSmall : (H : Type) → List (DataW H) → Bool := fun _ ds => decide (uptoBulkAll ds ≤ 1048576)
def OpenSpec.upto (s : _root_.Go.ChangeSpec) : _root_.Go.OpenSpec := { _root_.Go.OpenSpec.ofChange s with cond := some uptoSmall }

/-- 'laws.FnExactCoreOf', WHERE WHAT IT READS IS OF BULK AT MOST 1048576: true; the input reads as it did. -/
def fnExactCoreOfUptoRow : OpenClaim := { program := "ytaogaddgfllkpaa", sum := "f84ef0005eaba46f96bfbe5e278e4027c8e26594ce82673865188259842eb810", func := "loop.example/compurgator/laws.FnExactCoreOf", spec := "fnExactCoreOf", recurses := true, loops := true, apart := false, narrowed := true }
def FnExactCoreOfUptoSaid : Prop := fnExactCoreOfUptoRow.holds Try.pinned (OpenSpec.upto fnExactCoreOfSpec)

/-- 'laws.FnExactLitTerms', WHERE WHAT IT READS IS OF BULK AT MOST 1048576: true; the input reads as it did. -/
def fnExactLitTermsUptoRow : OpenClaim := { program := "ytaogaddgfllkpaa", sum := "f84ef0005eaba46f96bfbe5e278e4027c8e26594ce82673865188259842eb810", func := "loop.example/compurgator/laws.FnExactLitTerms", spec := "fnExactLitTerms", inPlace := ["internal/abi.NoEscape", "internal/bytealg.MakeNoZero"], recurses := true, loops := true, apart := false, narrowed := true }
def FnExactLitTermsUptoSaid : Prop := fnExactLitTermsUptoRow.holds Try.pinned (OpenSpec.upto fnExactLitTermsSpec)

/-- 'laws.FnExactPaperSame', WHERE WHAT IT READS IS OF BULK AT MOST 1048576: true; the input reads as it did. -/
def fnExactPaperSameUptoRow : OpenClaim := { program := "ytaogaddgfllkpaa", sum := "f84ef0005eaba46f96bfbe5e278e4027c8e26594ce82673865188259842eb810", func := "loop.example/compurgator/laws.FnExactPaperSame", spec := "fnExactPaperSame", unfollowed := true, recurses := true, loops := true, apart := false, narrowed := true }
def FnExactPaperSameUptoSaid : Prop := fnExactPaperSameUptoRow.holds Try.pinned (OpenSpec.upto fnExactPaperSameSpec)

/-- 'laws.FnExactStackSame', WHERE WHAT IT READS IS OF BULK AT MOST 1048576: true; the input reads as it did. -/
def fnExactStackSameUptoRow : OpenClaim := { program := "ytaogaddgfllkpaa", sum := "f84ef0005eaba46f96bfbe5e278e4027c8e26594ce82673865188259842eb810", func := "loop.example/compurgator/laws.FnExactStackSame", spec := "fnExactStackSame", unfollowed := true, recurses := true, loops := true, apart := false, narrowed := true }
def FnExactStackSameUptoSaid : Prop := fnExactStackSameUptoRow.holds Try.pinned (OpenSpec.upto fnExactStackSameSpec)

/-- 'laws.FnExactLitNot', WHERE WHAT IT READS IS OF BULK AT MOST 1048576: true; the input reads as it did. -/
def fnExactLitNotUptoRow : OpenClaim := { program := "ytaogaddgfllkpaa", sum := "f84ef0005eaba46f96bfbe5e278e4027c8e26594ce82673865188259842eb810", func := "loop.example/compurgator/laws.FnExactLitNot", spec := "fnExactLitNot", inPlace := ["internal/abi.NoEscape", "internal/bytealg.MakeNoZero"], recurses := true, loops := true, apart := false, narrowed := true }
def FnExactLitNotUptoSaid : Prop := fnExactLitNotUptoRow.holds Try.pinned (OpenSpec.upto fnExactLitNotSpec)

/-- 'laws.FnExactEqsOk', WHERE WHAT IT READS IS OF BULK AT MOST 1048576: true; the input reads as it did. -/
def fnExactEqsOkUptoRow : OpenClaim := { program := "ytaogaddgfllkpaa", sum := "f84ef0005eaba46f96bfbe5e278e4027c8e26594ce82673865188259842eb810", func := "loop.example/compurgator/laws.FnExactEqsOk", spec := "fnExactEqsOk", unfollowed := true, recurses := true, loops := true, apart := false, narrowed := true }
def FnExactEqsOkUptoSaid : Prop := fnExactEqsOkUptoRow.holds Try.pinned (OpenSpec.upto fnExactEqsOkSpec)

/-- 'laws.FnExactStackNew', WHERE WHAT IT READS IS OF BULK AT MOST 1048576: true; the input reads as it did. -/
def fnExactStackNewUptoRow : OpenClaim := { program := "ytaogaddgfllkpaa", sum := "f84ef0005eaba46f96bfbe5e278e4027c8e26594ce82673865188259842eb810", func := "loop.example/compurgator/laws.FnExactStackNew", spec := "fnExactStackNew", unfollowed := true, recurses := true, apart := false, narrowed := true }
def FnExactStackNewUptoSaid : Prop := fnExactStackNewUptoRow.holds Try.pinned (OpenSpec.upto fnExactStackNewSpec)

/-- 'laws.FnExactFormIs', WHERE WHAT IT READS IS OF BULK AT MOST 1048576: true; the input reads as it did. -/
def fnExactFormIsUptoRow : OpenClaim := { program := "ytaogaddgfllkpaa", sum := "f84ef0005eaba46f96bfbe5e278e4027c8e26594ce82673865188259842eb810", func := "loop.example/compurgator/laws.FnExactFormIs", spec := "fnExactFormIs", inPlace := ["internal/abi.NoEscape", "internal/bytealg.MakeNoZero"], unfollowed := true, recurses := true, loops := true, apart := false, narrowed := true }
def FnExactFormIsUptoSaid : Prop := fnExactFormIsUptoRow.holds Try.pinned (OpenSpec.upto fnExactFormIsSpec)

/-- 'laws.FnExactFormAtoms', WHERE WHAT IT READS IS OF BULK AT MOST 1048576: true; the input reads as it did. -/
def fnExactFormAtomsUptoRow : OpenClaim := { program := "ytaogaddgfllkpaa", sum := "f84ef0005eaba46f96bfbe5e278e4027c8e26594ce82673865188259842eb810", func := "loop.example/compurgator/laws.FnExactFormAtoms", spec := "fnExactFormAtoms", inPlace := ["internal/abi.NoEscape", "internal/bytealg.MakeNoZero"], unfollowed := true, recurses := true, loops := true, apart := false, narrowed := true }
def FnExactFormAtomsUptoSaid : Prop := fnExactFormAtomsUptoRow.holds Try.pinned (OpenSpec.upto fnExactFormAtomsSpec)

/-- 'laws.FnExactFormsAtoms', WHERE WHAT IT READS IS OF BULK AT MOST 1048576: true; the input reads as it did. -/
def fnExactFormsAtomsUptoRow : OpenClaim := { program := "ytaogaddgfllkpaa", sum := "f84ef0005eaba46f96bfbe5e278e4027c8e26594ce82673865188259842eb810", func := "loop.example/compurgator/laws.FnExactFormsAtoms", spec := "fnExactFormsAtoms", inPlace := ["internal/abi.NoEscape", "internal/bytealg.MakeNoZero"], unfollowed := true, recurses := true, loops := true, apart := false, narrowed := true }
def FnExactFormsAtomsUptoSaid : Prop := fnExactFormsAtomsUptoRow.holds Try.pinned (OpenSpec.upto fnExactFormsAtomsSpec)

/-- 'laws.FnExactBothOk', WHERE WHAT IT READS IS OF BULK AT MOST 1048576: true; the input reads as it did. -/
def fnExactBothOkUptoRow : OpenClaim := { program := "ytaogaddgfllkpaa", sum := "f84ef0005eaba46f96bfbe5e278e4027c8e26594ce82673865188259842eb810", func := "loop.example/compurgator/laws.FnExactBothOk", spec := "fnExactBothOk", inPlace := ["internal/abi.NoEscape", "internal/bytealg.MakeNoZero"], unfollowed := true, recurses := true, loops := true, apart := false, narrowed := true }
def FnExactBothOkUptoSaid : Prop := fnExactBothOkUptoRow.holds Try.pinned (OpenSpec.upto fnExactBothOkSpec)

end Rows
end Go.Proofs.Ytaogaddgfllkpaa
