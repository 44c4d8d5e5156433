/-
  NARROWER THAN 'FOR EVERY INPUT', by the rows' own cells (each row's printed sentence says how): FnExactFormOk: loops · FnExactFormsOk: loops · FnExactStackOk: loops · FnExactStackForms: loops · FnExactBothNums: loops · FnExactBothEqs: loops · FnExactBothLins: loops.
  DERIVED. THE GIVEN ROWS OF THIS SEAT. 7 by the template 'for every input the law returns true; each argument reads behind the call as it read before'; 0 by the template 'total and deterministic' (their statements: YtlcfophhjflpdaaGreatTotals.lean).
  GIVEN WITH THE SEED: the statements are not yours to turn. If you find one false, say at which input.
  Laid BY PROGRAM, IN A SANDBOX (cutbox-rows.mjs): the forced cells as the released guide's own fill.sh prints them over the translation 5abe9bfa2cd957b5… (all of the seat's roots in one cut). By AI agents, Wed Nov 11 2026. No macro, syntax, notation, axiom, sorry.
-/
import Derived.Test.YtlcfophhjflpdaaGreatChecked
import GoSem.Claim
import GoSem.ClaimJoined
import GoSem.ClaimMapViews
import Derived.JoinedTies
import Derived.KernelRfl
namespace Go.Proofs.YtlcfophhjflpdaaGreat
/- THE CELL 'sum', in the pinned program and in every row, IS THE sha256 OF THE DUMP (.gsa) THAT YtlcfophhjflpdaaGreatProg.lean LOADS. Nothing in Lean hashes anything: it is a label: what it is worth is what the hold of that sum in a sandbox is worth. -/
noncomputable def Tryz.pinned : Pinned := { name := "ytlcfophhjflpdaagreat", sum := "5abe9bfa2cd957b5d887132c0bd6d9d85cd41cf570f1c931ea23d040c47ddcfd", checked := Tryz.checked }
namespace Rows
def none {H : Type} : Left H := { results := [], args := [] }

/-- 'laws.FnExactFormOk': WHATEVER THE INPUT: true; the input reads as it did. -/
def fnExactFormOkSpec : ChangeSpec := { name := "fnExactFormOk", fn := fun _ => fun
  | [d1, d2] => { results := [.lit (.bool true)], args := [d1, d2] }
  | _ => none }
def fnExactFormOkRow : OpenClaim := { program := "ytlcfophhjflpdaagreat", sum := "5abe9bfa2cd957b5d887132c0bd6d9d85cd41cf570f1c931ea23d040c47ddcfd", func := "loop.example/compurgator/laws.FnExactFormOk", spec := "fnExactFormOk", inPlace := ["internal/abi.NoEscape", "internal/bytealg.MakeNoZero"], unfollowed := true, recurses := true, loops := true, apart := false }
def FnExactFormOkSaid : Prop := fnExactFormOkRow.holds Tryz.pinned (OpenSpec.ofChange fnExactFormOkSpec)

/-- ITS FALSE NEIGHBOUR: 'it returns false'. Refute it at one input. -/
def fnExactFormOkWrong : ChangeSpec := { name := "fnExactFormOk", fn := fun _ => fun
  | [d1, d2] => { results := [.lit (.bool false)], args := [d1, d2] }
  | _ => none }
def FnExactFormOkWrongFalsely : Prop := fnExactFormOkRow.holds Tryz.pinned (OpenSpec.ofChange fnExactFormOkWrong)

/-- 'laws.FnExactFormsOk': WHATEVER THE INPUT: true; the input reads as it did. -/
def fnExactFormsOkSpec : ChangeSpec := { name := "fnExactFormsOk", fn := fun _ => fun
  | [d1, d2] => { results := [.lit (.bool true)], args := [d1, d2] }
  | _ => none }
def fnExactFormsOkRow : OpenClaim := { program := "ytlcfophhjflpdaagreat", sum := "5abe9bfa2cd957b5d887132c0bd6d9d85cd41cf570f1c931ea23d040c47ddcfd", func := "loop.example/compurgator/laws.FnExactFormsOk", spec := "fnExactFormsOk", inPlace := ["internal/abi.NoEscape", "internal/bytealg.MakeNoZero"], unfollowed := true, recurses := true, loops := true, apart := false }
def FnExactFormsOkSaid : Prop := fnExactFormsOkRow.holds Tryz.pinned (OpenSpec.ofChange fnExactFormsOkSpec)

/-- ITS FALSE NEIGHBOUR: 'it returns false'. Refute it at one input. -/
def fnExactFormsOkWrong : ChangeSpec := { name := "fnExactFormsOk", fn := fun _ => fun
  | [d1, d2] => { results := [.lit (.bool false)], args := [d1, d2] }
  | _ => none }
def FnExactFormsOkWrongFalsely : Prop := fnExactFormsOkRow.holds Tryz.pinned (OpenSpec.ofChange fnExactFormsOkWrong)

/-- 'laws.FnExactStackOk': WHATEVER THE INPUT: true; the input reads as it did. -/
def fnExactStackOkSpec : ChangeSpec := { name := "fnExactStackOk", fn := fun _ => fun
  | [d] => { results := [.lit (.bool true)], args := [d] }
  | _ => none }
def fnExactStackOkRow : OpenClaim := { program := "ytlcfophhjflpdaagreat", sum := "5abe9bfa2cd957b5d887132c0bd6d9d85cd41cf570f1c931ea23d040c47ddcfd", func := "loop.example/compurgator/laws.FnExactStackOk", spec := "fnExactStackOk", inPlace := ["internal/abi.NoEscape", "internal/bytealg.MakeNoZero"], unfollowed := true, recurses := true, loops := true, apart := false }
def FnExactStackOkSaid : Prop := fnExactStackOkRow.holds Tryz.pinned (OpenSpec.ofChange fnExactStackOkSpec)

/-- ITS FALSE NEIGHBOUR: 'it returns false'. Refute it at one input. -/
def fnExactStackOkWrong : ChangeSpec := { name := "fnExactStackOk", fn := fun _ => fun
  | [d] => { results := [.lit (.bool false)], args := [d] }
  | _ => none }
def FnExactStackOkWrongFalsely : Prop := fnExactStackOkRow.holds Tryz.pinned (OpenSpec.ofChange fnExactStackOkWrong)

/-- 'laws.FnExactStackForms': WHATEVER THE INPUT: true; the input reads as it did. -/
def fnExactStackFormsSpec : ChangeSpec := { name := "fnExactStackForms", fn := fun _ => fun
  | [d] => { results := [.lit (.bool true)], args := [d] }
  | _ => none }
def fnExactStackFormsRow : OpenClaim := { program := "ytlcfophhjflpdaagreat", sum := "5abe9bfa2cd957b5d887132c0bd6d9d85cd41cf570f1c931ea23d040c47ddcfd", func := "loop.example/compurgator/laws.FnExactStackForms", spec := "fnExactStackForms", inPlace := ["internal/abi.NoEscape", "internal/bytealg.MakeNoZero"], unfollowed := true, recurses := true, loops := true, apart := false }
def FnExactStackFormsSaid : Prop := fnExactStackFormsRow.holds Tryz.pinned (OpenSpec.ofChange fnExactStackFormsSpec)

/-- ITS FALSE NEIGHBOUR: 'it returns false'. Refute it at one input. -/
def fnExactStackFormsWrong : ChangeSpec := { name := "fnExactStackForms", fn := fun _ => fun
  | [d] => { results := [.lit (.bool false)], args := [d] }
  | _ => none }
def FnExactStackFormsWrongFalsely : Prop := fnExactStackFormsRow.holds Tryz.pinned (OpenSpec.ofChange fnExactStackFormsWrong)

/-- 'laws.FnExactBothNums': WHATEVER THE INPUT: true; the input reads as it did. -/
def fnExactBothNumsSpec : ChangeSpec := { name := "fnExactBothNums", fn := fun _ => fun
  | [d1, d2] => { results := [.lit (.bool true)], args := [d1, d2] }
  | _ => none }
def fnExactBothNumsRow : OpenClaim := { program := "ytlcfophhjflpdaagreat", sum := "5abe9bfa2cd957b5d887132c0bd6d9d85cd41cf570f1c931ea23d040c47ddcfd", func := "loop.example/compurgator/laws.FnExactBothNums", spec := "fnExactBothNums", inPlace := ["internal/abi.NoEscape", "internal/bytealg.MakeNoZero"], unfollowed := true, recurses := true, loops := true, apart := false }
def FnExactBothNumsSaid : Prop := fnExactBothNumsRow.holds Tryz.pinned (OpenSpec.ofChange fnExactBothNumsSpec)

/-- ITS FALSE NEIGHBOUR: 'it returns false'. Refute it at one input. -/
def fnExactBothNumsWrong : ChangeSpec := { name := "fnExactBothNums", fn := fun _ => fun
  | [d1, d2] => { results := [.lit (.bool false)], args := [d1, d2] }
  | _ => none }
def FnExactBothNumsWrongFalsely : Prop := fnExactBothNumsRow.holds Tryz.pinned (OpenSpec.ofChange fnExactBothNumsWrong)

/-- 'laws.FnExactBothEqs': WHATEVER THE INPUT: true; the input reads as it did. -/
def fnExactBothEqsSpec : ChangeSpec := { name := "fnExactBothEqs", fn := fun _ => fun
  | [d1, d2] => { results := [.lit (.bool true)], args := [d1, d2] }
  | _ => none }
def fnExactBothEqsRow : OpenClaim := { program := "ytlcfophhjflpdaagreat", sum := "5abe9bfa2cd957b5d887132c0bd6d9d85cd41cf570f1c931ea23d040c47ddcfd", func := "loop.example/compurgator/laws.FnExactBothEqs", spec := "fnExactBothEqs", inPlace := ["internal/abi.NoEscape", "internal/bytealg.MakeNoZero"], unfollowed := true, recurses := true, loops := true, apart := false }
def FnExactBothEqsSaid : Prop := fnExactBothEqsRow.holds Tryz.pinned (OpenSpec.ofChange fnExactBothEqsSpec)

/-- ITS FALSE NEIGHBOUR: 'it returns false'. Refute it at one input. -/
def fnExactBothEqsWrong : ChangeSpec := { name := "fnExactBothEqs", fn := fun _ => fun
  | [d1, d2] => { results := [.lit (.bool false)], args := [d1, d2] }
  | _ => none }
def FnExactBothEqsWrongFalsely : Prop := fnExactBothEqsRow.holds Tryz.pinned (OpenSpec.ofChange fnExactBothEqsWrong)

/-- 'laws.FnExactBothLins': WHATEVER THE INPUT: true; the input reads as it did. -/
def fnExactBothLinsSpec : ChangeSpec := { name := "fnExactBothLins", fn := fun _ => fun
  | [d1, d2] => { results := [.lit (.bool true)], args := [d1, d2] }
  | _ => none }
def fnExactBothLinsRow : OpenClaim := { program := "ytlcfophhjflpdaagreat", sum := "5abe9bfa2cd957b5d887132c0bd6d9d85cd41cf570f1c931ea23d040c47ddcfd", func := "loop.example/compurgator/laws.FnExactBothLins", spec := "fnExactBothLins", inPlace := ["internal/abi.NoEscape", "internal/bytealg.MakeNoZero"], unfollowed := true, recurses := true, loops := true, apart := false }
def FnExactBothLinsSaid : Prop := fnExactBothLinsRow.holds Tryz.pinned (OpenSpec.ofChange fnExactBothLinsSpec)

/-- ITS FALSE NEIGHBOUR: 'it returns false'. Refute it at one input. -/
def fnExactBothLinsWrong : ChangeSpec := { name := "fnExactBothLins", fn := fun _ => fun
  | [d1, d2] => { results := [.lit (.bool false)], args := [d1, d2] }
  | _ => none }
def FnExactBothLinsWrongFalsely : Prop := fnExactBothLinsRow.holds Tryz.pinned (OpenSpec.ofChange fnExactBothLinsWrong)

/- THE SECOND FORM. 'bulk': how many values and letters a reading holds, each counted each time it is reached (what is shared counts as often as it is met; a slice's spare places count too). A statement '..UptoSaid' is the law's where the arguments, and the package variables that the reading takes, are together of bulk at most 1048576: NARROWER than '..Said'. Prove '..Said' where nothing that the law and all that it calls make is longer than what came in: it says more and counts as full. Else prove '..UptoSaid'. A law counts once. -/
mutual
def uptoBulk {H : Type} : DataW H → Nat
  | .lit (.string bytes) => bytes.length + 1
  | .lit _ => 1
  | .nil => 1
  | .ptr d => uptoBulk d + 1
  | .slice elems spare => uptoBulkAll elems + uptoBulkAll spare + 1
  | .agg parts => uptoBulkAll parts + 1
  | .iface _ d => uptoBulk d + 1
  | .map entries => uptoBulkEntries entries + 1
  | .held _ => 1
def uptoBulkAll {H : Type} : List (DataW H) → Nat
  | [] => 0
  | d :: r => uptoBulk d + uptoBulkAll r
def uptoBulkEntries {H : Type} : List (Lit × DataW H) → Nat
  | [] => 0
  | x :: r => uptoBulkEntry x + uptoBulkEntries r
def uptoBulkEntry {H : Type} : Lit × DataW H → Nat
  | (.string bytes, d) => bytes.length + uptoBulk d + 1
  | (_, d) => uptoBulk d + 1
 end
def uptoSmall : (H : Type) → List (DataW H) → Bool := fun _ ds => decide (uptoBulkAll ds ≤ 1048576)
def OpenSpec.upto (s : _root_.Go.ChangeSpec) : _root_.Go.OpenSpec := { _root_.Go.OpenSpec.ofChange s with cond := some uptoSmall }

/-- 'laws.FnExactFormOk', WHERE WHAT IT READS IS OF BULK AT MOST 1048576: true; the input reads as it did. -/
def fnExactFormOkUptoRow : OpenClaim := { program := "ytlcfophhjflpdaagreat", sum := "5abe9bfa2cd957b5d887132c0bd6d9d85cd41cf570f1c931ea23d040c47ddcfd", func := "loop.example/compurgator/laws.FnExactFormOk", spec := "fnExactFormOk", inPlace := ["internal/abi.NoEscape", "internal/bytealg.MakeNoZero"], unfollowed := true, recurses := true, loops := true, apart := false, narrowed := true }
def FnExactFormOkUptoSaid : Prop := fnExactFormOkUptoRow.holds Tryz.pinned (OpenSpec.upto fnExactFormOkSpec)

/-- 'laws.FnExactFormsOk', WHERE WHAT IT READS IS OF BULK AT MOST 1048576: true; the input reads as it did. -/
def fnExactFormsOkUptoRow : OpenClaim := { program := "ytlcfophhjflpdaagreat", sum := "5abe9bfa2cd957b5d887132c0bd6d9d85cd41cf570f1c931ea23d040c47ddcfd", func := "loop.example/compurgator/laws.FnExactFormsOk", spec := "fnExactFormsOk", inPlace := ["internal/abi.NoEscape", "internal/bytealg.MakeNoZero"], unfollowed := true, recurses := true, loops := true, apart := false, narrowed := true }
def FnExactFormsOkUptoSaid : Prop := fnExactFormsOkUptoRow.holds Tryz.pinned (OpenSpec.upto fnExactFormsOkSpec)

/-- 'laws.FnExactStackOk', WHERE WHAT IT READS IS OF BULK AT MOST 1048576: true; the input reads as it did. -/
def fnExactStackOkUptoRow : OpenClaim := { program := "ytlcfophhjflpdaagreat", sum := "5abe9bfa2cd957b5d887132c0bd6d9d85cd41cf570f1c931ea23d040c47ddcfd", func := "loop.example/compurgator/laws.FnExactStackOk", spec := "fnExactStackOk", inPlace := ["internal/abi.NoEscape", "internal/bytealg.MakeNoZero"], unfollowed := true, recurses := true, loops := true, apart := false, narrowed := true }
def FnExactStackOkUptoSaid : Prop := fnExactStackOkUptoRow.holds Tryz.pinned (OpenSpec.upto fnExactStackOkSpec)

/-- 'laws.FnExactStackForms', WHERE WHAT IT READS IS OF BULK AT MOST 1048576: true; the input reads as it did. -/
def fnExactStackFormsUptoRow : OpenClaim := { program := "ytlcfophhjflpdaagreat", sum := "5abe9bfa2cd957b5d887132c0bd6d9d85cd41cf570f1c931ea23d040c47ddcfd", func := "loop.example/compurgator/laws.FnExactStackForms", spec := "fnExactStackForms", inPlace := ["internal/abi.NoEscape", "internal/bytealg.MakeNoZero"], unfollowed := true, recurses := true, loops := true, apart := false, narrowed := true }
def FnExactStackFormsUptoSaid : Prop := fnExactStackFormsUptoRow.holds Tryz.pinned (OpenSpec.upto fnExactStackFormsSpec)

/-- 'laws.FnExactBothNums', WHERE WHAT IT READS IS OF BULK AT MOST 1048576: true; the input reads as it did. -/
def fnExactBothNumsUptoRow : OpenClaim := { program := "ytlcfophhjflpdaagreat", sum := "5abe9bfa2cd957b5d887132c0bd6d9d85cd41cf570f1c931ea23d040c47ddcfd", func := "loop.example/compurgator/laws.FnExactBothNums", spec := "fnExactBothNums", inPlace := ["internal/abi.NoEscape", "internal/bytealg.MakeNoZero"], unfollowed := true, recurses := true, loops := true, apart := false, narrowed := true }
def FnExactBothNumsUptoSaid : Prop := fnExactBothNumsUptoRow.holds Tryz.pinned (OpenSpec.upto fnExactBothNumsSpec)

/-- 'laws.FnExactBothEqs', WHERE WHAT IT READS IS OF BULK AT MOST 1048576: true; the input reads as it did. -/
def fnExactBothEqsUptoRow : OpenClaim := { program := "ytlcfophhjflpdaagreat", sum := "5abe9bfa2cd957b5d887132c0bd6d9d85cd41cf570f1c931ea23d040c47ddcfd", func := "loop.example/compurgator/laws.FnExactBothEqs", spec := "fnExactBothEqs", inPlace := ["internal/abi.NoEscape", "internal/bytealg.MakeNoZero"], unfollowed := true, recurses := true, loops := true, apart := false, narrowed := true }
def FnExactBothEqsUptoSaid : Prop := fnExactBothEqsUptoRow.holds Tryz.pinned (OpenSpec.upto fnExactBothEqsSpec)

/-- 'laws.FnExactBothLins', WHERE WHAT IT READS IS OF BULK AT MOST 1048576: true; the input reads as it did. -/
def fnExactBothLinsUptoRow : OpenClaim := { program := "ytlcfophhjflpdaagreat", sum := "5abe9bfa2cd957b5d887132c0bd6d9d85cd41cf570f1c931ea23d040c47ddcfd", func := "loop.example/compurgator/laws.FnExactBothLins", spec := "fnExactBothLins", inPlace := ["internal/abi.NoEscape", "internal/bytealg.MakeNoZero"], unfollowed := true, recurses := true, loops := true, apart := false, narrowed := true }
def FnExactBothLinsUptoSaid : Prop := fnExactBothLinsUptoRow.holds Tryz.pinned (OpenSpec.upto fnExactBothLinsSpec)

end Rows
end Go.Proofs.YtlcfophhjflpdaaGreat
