/-
  No cell of these rows narrows 'for every input' (looked for: loops, veiled, ifaces, maps, wideKeys, modest, calm, conditions, laid).
  DERIVED. THE GIVEN ROWS OF THIS SEAT. 6 by the template 'for every input the law returns true; each argument reads behind the call as it read before'; 0 by the template 'total and deterministic' (their statements: YtbfinjiledfpcaaGreatTotals.lean).
  GIVEN WITH THE SEED: the statements are not yours to turn. If you find one false, say at which input.
  Laid BY PROGRAM, IN A SANDBOX (cutbox-rows.mjs): the forced cells as the released guide's own fill.sh prints them over the translation b6b25fa0001c9dcd… (all of the seat's roots in one cut). By AI agents, Wed Nov 11 2026. No macro, syntax, notation, axiom, sorry.
-/
import Derived.Test.YtbfinjiledfpcaaGreatChecked
import GoSem.Claim
import GoSem.ClaimJoined
import GoSem.ClaimMapViews
import Derived.JoinedTies
import Derived.KernelRfl
namespace Go.Proofs.YtbfinjiledfpcaaGreat
/- THE CELL 'sum', in the pinned program and in every row, IS THE sha256 OF THE DUMP (.gsa) THAT YtbfinjiledfpcaaGreatProg.lean LOADS. Nothing in Lean hashes anything: it is a label: what it is worth is what the hold of that sum in a sandbox is worth. -/
noncomputable def Tryz.pinned : Pinned := { name := "ytbfinjiledfpcaagreat", sum := "b6b25fa0001c9dcd10d8641ad0e0d4aa4bfbcb732f49a8db55c0d933175a0959", checked := Tryz.checked }
namespace Rows
def none {H : Type} : Left H := { results := [], args := [] }

/-- 'laws.FnFormAtoms': WHATEVER THE INPUT: true; the input reads as it did. -/
def fnFormAtomsSpec : ChangeSpec := { name := "fnFormAtoms", fn := fun _ => fun
  | [d] => { results := [.lit (.bool true)], args := [d] }
  | _ => none }
def fnFormAtomsRow : OpenClaim := { program := "ytbfinjiledfpcaagreat", sum := "b6b25fa0001c9dcd10d8641ad0e0d4aa4bfbcb732f49a8db55c0d933175a0959", func := "loop.example/compurgator/laws.FnFormAtoms", spec := "fnFormAtoms", inPlace := ["internal/abi.NoEscape", "internal/bytealg.MakeNoZero"], unfollowed := true, recurses := true, apart := false }
def FnFormAtomsSaid : Prop := fnFormAtomsRow.holds Tryz.pinned (OpenSpec.ofChange fnFormAtomsSpec)

/-- ITS FALSE NEIGHBOUR: 'it returns false'. Refute it at one input. -/
def fnFormAtomsWrong : ChangeSpec := { name := "fnFormAtoms", fn := fun _ => fun
  | [d] => { results := [.lit (.bool false)], args := [d] }
  | _ => none }
def FnFormAtomsWrongFalsely : Prop := fnFormAtomsRow.holds Tryz.pinned (OpenSpec.ofChange fnFormAtomsWrong)

/-- 'laws.FnFormsOk': WHATEVER THE INPUT: true; the input reads as it did. -/
def fnFormsOkSpec : ChangeSpec := { name := "fnFormsOk", fn := fun _ => fun
  | [d1, d2] => { results := [.lit (.bool true)], args := [d1, d2] }
  | _ => none }
def fnFormsOkRow : OpenClaim := { program := "ytbfinjiledfpcaagreat", sum := "b6b25fa0001c9dcd10d8641ad0e0d4aa4bfbcb732f49a8db55c0d933175a0959", func := "loop.example/compurgator/laws.FnFormsOk", spec := "fnFormsOk", inPlace := ["internal/abi.NoEscape", "internal/bytealg.MakeNoZero"], unfollowed := true, recurses := true, apart := false }
def FnFormsOkSaid : Prop := fnFormsOkRow.holds Tryz.pinned (OpenSpec.ofChange fnFormsOkSpec)

/-- ITS FALSE NEIGHBOUR: 'it returns false'. Refute it at one input. -/
def fnFormsOkWrong : ChangeSpec := { name := "fnFormsOk", fn := fun _ => fun
  | [d1, d2] => { results := [.lit (.bool false)], args := [d1, d2] }
  | _ => none }
def FnFormsOkWrongFalsely : Prop := fnFormsOkRow.holds Tryz.pinned (OpenSpec.ofChange fnFormsOkWrong)

/-- 'laws.FnStackForms': WHATEVER THE INPUT: true; the input reads as it did. -/
def fnStackFormsSpec : ChangeSpec := { name := "fnStackForms", fn := fun _ => fun
  | [d] => { results := [.lit (.bool true)], args := [d] }
  | _ => none }
def fnStackFormsRow : OpenClaim := { program := "ytbfinjiledfpcaagreat", sum := "b6b25fa0001c9dcd10d8641ad0e0d4aa4bfbcb732f49a8db55c0d933175a0959", func := "loop.example/compurgator/laws.FnStackForms", spec := "fnStackForms", inPlace := ["internal/abi.NoEscape", "internal/bytealg.MakeNoZero"], unfollowed := true, recurses := true, apart := false }
def FnStackFormsSaid : Prop := fnStackFormsRow.holds Tryz.pinned (OpenSpec.ofChange fnStackFormsSpec)

/-- ITS FALSE NEIGHBOUR: 'it returns false'. Refute it at one input. -/
def fnStackFormsWrong : ChangeSpec := { name := "fnStackForms", fn := fun _ => fun
  | [d] => { results := [.lit (.bool false)], args := [d] }
  | _ => none }
def FnStackFormsWrongFalsely : Prop := fnStackFormsRow.holds Tryz.pinned (OpenSpec.ofChange fnStackFormsWrong)

/-- 'laws.FnStackPush': WHATEVER THE INPUT: true; the input reads as it did. -/
def fnStackPushSpec : ChangeSpec := { name := "fnStackPush", fn := fun _ => fun
  | [d] => { results := [.lit (.bool true)], args := [d] }
  | _ => none }
def fnStackPushRow : OpenClaim := { program := "ytbfinjiledfpcaagreat", sum := "b6b25fa0001c9dcd10d8641ad0e0d4aa4bfbcb732f49a8db55c0d933175a0959", func := "loop.example/compurgator/laws.FnStackPush", spec := "fnStackPush", inPlace := ["internal/abi.NoEscape", "internal/bytealg.MakeNoZero"], unfollowed := true, recurses := true, apart := false }
def FnStackPushSaid : Prop := fnStackPushRow.holds Tryz.pinned (OpenSpec.ofChange fnStackPushSpec)

/-- ITS FALSE NEIGHBOUR: 'it returns false'. Refute it at one input. -/
def fnStackPushWrong : ChangeSpec := { name := "fnStackPush", fn := fun _ => fun
  | [d] => { results := [.lit (.bool false)], args := [d] }
  | _ => none }
def FnStackPushWrongFalsely : Prop := fnStackPushRow.holds Tryz.pinned (OpenSpec.ofChange fnStackPushWrong)

/-- 'laws.FnStackPop': WHATEVER THE INPUT: true; the input reads as it did. -/
def fnStackPopSpec : ChangeSpec := { name := "fnStackPop", fn := fun _ => fun
  | [d] => { results := [.lit (.bool true)], args := [d] }
  | _ => none }
def fnStackPopRow : OpenClaim := { program := "ytbfinjiledfpcaagreat", sum := "b6b25fa0001c9dcd10d8641ad0e0d4aa4bfbcb732f49a8db55c0d933175a0959", func := "loop.example/compurgator/laws.FnStackPop", spec := "fnStackPop", inPlace := ["internal/abi.NoEscape", "internal/bytealg.MakeNoZero"], unfollowed := true, recurses := true, apart := false }
def FnStackPopSaid : Prop := fnStackPopRow.holds Tryz.pinned (OpenSpec.ofChange fnStackPopSpec)

/-- ITS FALSE NEIGHBOUR: 'it returns false'. Refute it at one input. -/
def fnStackPopWrong : ChangeSpec := { name := "fnStackPop", fn := fun _ => fun
  | [d] => { results := [.lit (.bool false)], args := [d] }
  | _ => none }
def FnStackPopWrongFalsely : Prop := fnStackPopRow.holds Tryz.pinned (OpenSpec.ofChange fnStackPopWrong)

/-- 'laws.FnStackTell': WHATEVER THE INPUT: true; the input reads as it did. -/
def fnStackTellSpec : ChangeSpec := { name := "fnStackTell", fn := fun _ => fun
  | [d] => { results := [.lit (.bool true)], args := [d] }
  | _ => none }
def fnStackTellRow : OpenClaim := { program := "ytbfinjiledfpcaagreat", sum := "b6b25fa0001c9dcd10d8641ad0e0d4aa4bfbcb732f49a8db55c0d933175a0959", func := "loop.example/compurgator/laws.FnStackTell", spec := "fnStackTell", inPlace := ["internal/abi.NoEscape", "internal/bytealg.MakeNoZero"], unfollowed := true, recurses := true, apart := false }
def FnStackTellSaid : Prop := fnStackTellRow.holds Tryz.pinned (OpenSpec.ofChange fnStackTellSpec)

/-- ITS FALSE NEIGHBOUR: 'it returns false'. Refute it at one input. -/
def fnStackTellWrong : ChangeSpec := { name := "fnStackTell", fn := fun _ => fun
  | [d] => { results := [.lit (.bool false)], args := [d] }
  | _ => none }
def FnStackTellWrongFalsely : Prop := fnStackTellRow.holds Tryz.pinned (OpenSpec.ofChange fnStackTellWrong)

/- THE SECOND FORM. 'bulk': how many values and letters a reading holds, each counted each time it is reached (what is shared counts as often as it is met; a slice's spare places count too). A statement '..UptoSaid' is the law's where the arguments, and the package variables that the reading takes, are together of bulk at most 1048576: NARROWER than '..Said'. Prove '..Said' where nothing that the law and all that it calls make is longer than what came in: it says more and counts as full. Else prove '..UptoSaid'. A law counts once. -/
mutual
def uptoBulk {H : Type} : DataW H → Nat
  | .lit (.string bytes) => bytes.length + 1
  | .lit _ => 1
  | .nil => 1
  | .ptr d => uptoBulk d + 1
  | .slice elems spare => uptoBulkAll elems + uptoBulkAll spare + 1
  | .agg parts => uptoBulkAll parts + 1
  | .iface _ d => uptoBulk d + 1
  | .map entries => uptoBulkEntries entries + 1
  | .held _ => 1
def uptoBulkAll {H : Type} : List (DataW H) → Nat
  | [] => 0
  | d :: r => uptoBulk d + uptoBulkAll r
def uptoBulkEntries {H : Type} : List (Lit × DataW H) → Nat
  | [] => 0
  | x :: r => uptoBulkEntry x + uptoBulkEntries r
def uptoBulkEntry {H : Type} : Lit × DataW H → Nat
  | (.string bytes, d) => bytes.length + uptoBulk d + 1
  | (_, d) => uptoBulk d + 1
 end
def uptoSmall : (H : Type) → List (DataW H) → Bool := fun _ ds => decide (uptoBulkAll ds ≤ 1048576)
def OpenSpec.upto (s : _root_.Go.ChangeSpec) : _root_.Go.OpenSpec := { _root_.Go.OpenSpec.ofChange s with cond := some uptoSmall }

/-- 'laws.FnFormAtoms', WHERE WHAT IT READS IS OF BULK AT MOST 1048576: true; the input reads as it did. -/
def fnFormAtomsUptoRow : OpenClaim := { program := "ytbfinjiledfpcaagreat", sum := "b6b25fa0001c9dcd10d8641ad0e0d4aa4bfbcb732f49a8db55c0d933175a0959", func := "loop.example/compurgator/laws.FnFormAtoms", spec := "fnFormAtoms", inPlace := ["internal/abi.NoEscape", "internal/bytealg.MakeNoZero"], unfollowed := true, recurses := true, apart := false, narrowed := true }
def FnFormAtomsUptoSaid : Prop := fnFormAtomsUptoRow.holds Tryz.pinned (OpenSpec.upto fnFormAtomsSpec)

/-- 'laws.FnFormsOk', WHERE WHAT IT READS IS OF BULK AT MOST 1048576: true; the input reads as it did. -/
def fnFormsOkUptoRow : OpenClaim := { program := "ytbfinjiledfpcaagreat", sum := "b6b25fa0001c9dcd10d8641ad0e0d4aa4bfbcb732f49a8db55c0d933175a0959", func := "loop.example/compurgator/laws.FnFormsOk", spec := "fnFormsOk", inPlace := ["internal/abi.NoEscape", "internal/bytealg.MakeNoZero"], unfollowed := true, recurses := true, apart := false, narrowed := true }
def FnFormsOkUptoSaid : Prop := fnFormsOkUptoRow.holds Tryz.pinned (OpenSpec.upto fnFormsOkSpec)

/-- 'laws.FnStackForms', WHERE WHAT IT READS IS OF BULK AT MOST 1048576: true; the input reads as it did. -/
def fnStackFormsUptoRow : OpenClaim := { program := "ytbfinjiledfpcaagreat", sum := "b6b25fa0001c9dcd10d8641ad0e0d4aa4bfbcb732f49a8db55c0d933175a0959", func := "loop.example/compurgator/laws.FnStackForms", spec := "fnStackForms", inPlace := ["internal/abi.NoEscape", "internal/bytealg.MakeNoZero"], unfollowed := true, recurses := true, apart := false, narrowed := true }
def FnStackFormsUptoSaid : Prop := fnStackFormsUptoRow.holds Tryz.pinned (OpenSpec.upto fnStackFormsSpec)

/-- 'laws.FnStackPush', WHERE WHAT IT READS IS OF BULK AT MOST 1048576: true; the input reads as it did. -/
def fnStackPushUptoRow : OpenClaim := { program := "ytbfinjiledfpcaagreat", sum := "b6b25fa0001c9dcd10d8641ad0e0d4aa4bfbcb732f49a8db55c0d933175a0959", func := "loop.example/compurgator/laws.FnStackPush", spec := "fnStackPush", inPlace := ["internal/abi.NoEscape", "internal/bytealg.MakeNoZero"], unfollowed := true, recurses := true, apart := false, narrowed := true }
def FnStackPushUptoSaid : Prop := fnStackPushUptoRow.holds Tryz.pinned (OpenSpec.upto fnStackPushSpec)

/-- 'laws.FnStackPop', WHERE WHAT IT READS IS OF BULK AT MOST 1048576: true; the input reads as it did. -/
def fnStackPopUptoRow : OpenClaim := { program := "ytbfinjiledfpcaagreat", sum := "b6b25fa0001c9dcd10d8641ad0e0d4aa4bfbcb732f49a8db55c0d933175a0959", func := "loop.example/compurgator/laws.FnStackPop", spec := "fnStackPop", inPlace := ["internal/abi.NoEscape", "internal/bytealg.MakeNoZero"], unfollowed := true, recurses := true, apart := false, narrowed := true }
def FnStackPopUptoSaid : Prop := fnStackPopUptoRow.holds Tryz.pinned (OpenSpec.upto fnStackPopSpec)

/-- 'laws.FnStackTell', WHERE WHAT IT READS IS OF BULK AT MOST 1048576: true; the input reads as it did. -/
def fnStackTellUptoRow : OpenClaim := { program := "ytbfinjiledfpcaagreat", sum := "b6b25fa0001c9dcd10d8641ad0e0d4aa4bfbcb732f49a8db55c0d933175a0959", func := "loop.example/compurgator/laws.FnStackTell", spec := "fnStackTell", inPlace := ["internal/abi.NoEscape", "internal/bytealg.MakeNoZero"], unfollowed := true, recurses := true, apart := false, narrowed := true }
def FnStackTellUptoSaid : Prop := fnStackTellUptoRow.holds Tryz.pinned (OpenSpec.upto fnStackTellSpec)

end Rows
end Go.Proofs.YtbfinjiledfpcaaGreat
