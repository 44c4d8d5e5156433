/-
  NARROWER THAN 'FOR EVERY INPUT', by the rows' own cells (each row's printed sentence says how): FnExactWhyTells: loops.
  DERIVED. THE GIVEN ROWS OF THIS SEAT. 8 by the template 'for every input the law returns true; each argument reads behind the call as it read before'; 0 by the template 'total and deterministic' (their statements: YtblbommhodondaaTotals.lean).
  GIVEN WITH THE SEED: the statements are not yours to turn. If you find one false, say at which input.
  Laid BY PROGRAM, IN A SANDBOX (cutbox-rows.mjs): the forced cells as the released guide's own fill.sh prints them over the translation 7d73c910b99b447f… (all of the seat's roots in one cut). By AI agents, Wed Nov 11 2026. No macro, syntax, notation, axiom, sorry.
-/
import Derived.Test.YtblbommhodondaaChecked
import GoSem.Claim
import GoSem.ClaimJoined
import GoSem.ClaimMapViews
import Derived.JoinedTies
import Derived.KernelRfl
namespace Go.Proofs.Ytblbommhodondaa
/- THE CELL 'sum', in the pinned program and in every row, IS THE sha256 OF THE DUMP (.gsa) THAT YtblbommhodondaaProg.lean LOADS. Nothing in Lean hashes anything: it is a label: what it is worth is what the hold of that sum in a sandbox is worth. -/
noncomputable def Try.pinned : Pinned := { name := "ytblbommhodondaa", sum := "7d73c910b99b447f88d48afc19d2dd6c8635df35756d2f96c64798ce58651a92", checked := Try.checked }
namespace Rows
def none {H : Type} : Left H := { results := [], args := [] }

/-- 'laws.FnSameClass': WHATEVER THE INPUT: true; the input reads as it did. -/
def fnSameClassSpec : ChangeSpec := { name := "fnSameClass", fn := fun _ => fun
  | [d] => { results := [.lit (.bool true)], args := [d] }
  | _ => none }
def fnSameClassRow : OpenClaim := { program := "ytblbommhodondaa", sum := "7d73c910b99b447f88d48afc19d2dd6c8635df35756d2f96c64798ce58651a92", func := "loop.example/compurgator/laws.FnSameClass", spec := "fnSameClass", unfollowed := true, recurses := true, apart := false }
def FnSameClassSaid : Prop := fnSameClassRow.holds Try.pinned (OpenSpec.ofChange fnSameClassSpec)

/-- ITS FALSE NEIGHBOUR: 'it returns false'. Refute it at one input. -/
def fnSameClassWrong : ChangeSpec := { name := "fnSameClass", fn := fun _ => fun
  | [d] => { results := [.lit (.bool false)], args := [d] }
  | _ => none }
def FnSameClassWrongFalsely : Prop := fnSameClassRow.holds Try.pinned (OpenSpec.ofChange fnSameClassWrong)

/-- 'laws.FnSameSteps': WHATEVER THE INPUT: true; the input reads as it did. -/
def fnSameStepsSpec : ChangeSpec := { name := "fnSameSteps", fn := fun _ => fun
  | [d] => { results := [.lit (.bool true)], args := [d] }
  | _ => none }
def fnSameStepsRow : OpenClaim := { program := "ytblbommhodondaa", sum := "7d73c910b99b447f88d48afc19d2dd6c8635df35756d2f96c64798ce58651a92", func := "loop.example/compurgator/laws.FnSameSteps", spec := "fnSameSteps", unfollowed := true, recurses := true, apart := false }
def FnSameStepsSaid : Prop := fnSameStepsRow.holds Try.pinned (OpenSpec.ofChange fnSameStepsSpec)

/-- ITS FALSE NEIGHBOUR: 'it returns false'. Refute it at one input. -/
def fnSameStepsWrong : ChangeSpec := { name := "fnSameSteps", fn := fun _ => fun
  | [d] => { results := [.lit (.bool false)], args := [d] }
  | _ => none }
def FnSameStepsWrongFalsely : Prop := fnSameStepsRow.holds Try.pinned (OpenSpec.ofChange fnSameStepsWrong)

/-- 'laws.FnSameIs': WHATEVER THE INPUT: true; the input reads as it did. -/
def fnSameIsSpec : ChangeSpec := { name := "fnSameIs", fn := fun _ => fun
  | [d1, d2] => { results := [.lit (.bool true)], args := [d1, d2] }
  | _ => none }
def fnSameIsRow : OpenClaim := { program := "ytblbommhodondaa", sum := "7d73c910b99b447f88d48afc19d2dd6c8635df35756d2f96c64798ce58651a92", func := "loop.example/compurgator/laws.FnSameIs", spec := "fnSameIs", unfollowed := true, recurses := true, apart := false }
def FnSameIsSaid : Prop := fnSameIsRow.holds Try.pinned (OpenSpec.ofChange fnSameIsSpec)

/-- ITS FALSE NEIGHBOUR: 'it returns false'. Refute it at one input. -/
def fnSameIsWrong : ChangeSpec := { name := "fnSameIs", fn := fun _ => fun
  | [d1, d2] => { results := [.lit (.bool false)], args := [d1, d2] }
  | _ => none }
def FnSameIsWrongFalsely : Prop := fnSameIsRow.holds Try.pinned (OpenSpec.ofChange fnSameIsWrong)

/-- 'laws.FnSameMore': WHATEVER THE INPUT: true; the input reads as it did. -/
def fnSameMoreSpec : ChangeSpec := { name := "fnSameMore", fn := fun _ => fun
  | [d] => { results := [.lit (.bool true)], args := [d] }
  | _ => none }
def fnSameMoreRow : OpenClaim := { program := "ytblbommhodondaa", sum := "7d73c910b99b447f88d48afc19d2dd6c8635df35756d2f96c64798ce58651a92", func := "loop.example/compurgator/laws.FnSameMore", spec := "fnSameMore", unfollowed := true, recurses := true, apart := false }
def FnSameMoreSaid : Prop := fnSameMoreRow.holds Try.pinned (OpenSpec.ofChange fnSameMoreSpec)

/-- ITS FALSE NEIGHBOUR: 'it returns false'. Refute it at one input. -/
def fnSameMoreWrong : ChangeSpec := { name := "fnSameMore", fn := fun _ => fun
  | [d] => { results := [.lit (.bool false)], args := [d] }
  | _ => none }
def FnSameMoreWrongFalsely : Prop := fnSameMoreRow.holds Try.pinned (OpenSpec.ofChange fnSameMoreWrong)

/-- 'laws.FnSameParts': WHATEVER THE INPUT: true; the input reads as it did. -/
def fnSamePartsSpec : ChangeSpec := { name := "fnSameParts", fn := fun _ => fun
  | [d] => { results := [.lit (.bool true)], args := [d] }
  | _ => none }
def fnSamePartsRow : OpenClaim := { program := "ytblbommhodondaa", sum := "7d73c910b99b447f88d48afc19d2dd6c8635df35756d2f96c64798ce58651a92", func := "loop.example/compurgator/laws.FnSameParts", spec := "fnSameParts", unfollowed := true, recurses := true, apart := false }
def FnSamePartsSaid : Prop := fnSamePartsRow.holds Try.pinned (OpenSpec.ofChange fnSamePartsSpec)

/-- ITS FALSE NEIGHBOUR: 'it returns false'. Refute it at one input. -/
def fnSamePartsWrong : ChangeSpec := { name := "fnSameParts", fn := fun _ => fun
  | [d] => { results := [.lit (.bool false)], args := [d] }
  | _ => none }
def FnSamePartsWrongFalsely : Prop := fnSamePartsRow.holds Try.pinned (OpenSpec.ofChange fnSamePartsWrong)

/-- 'laws.FnExactWhyTells': WHATEVER THE INPUT: true; the input reads as it did. -/
def fnExactWhyTellsSpec : ChangeSpec := { name := "fnExactWhyTells", fn := fun _ => fun
  | [d1, d2, d3] => { results := [.lit (.bool true)], args := [d1, d2, d3] }
  | _ => none }
def fnExactWhyTellsRow : OpenClaim := { program := "ytblbommhodondaa", sum := "7d73c910b99b447f88d48afc19d2dd6c8635df35756d2f96c64798ce58651a92", func := "loop.example/compurgator/laws.FnExactWhyTells", spec := "fnExactWhyTells", unfollowed := true, recurses := true, loops := true, apart := false }
def FnExactWhyTellsSaid : Prop := fnExactWhyTellsRow.holds Try.pinned (OpenSpec.ofChange fnExactWhyTellsSpec)

/-- ITS FALSE NEIGHBOUR: 'it returns false'. Refute it at one input. -/
def fnExactWhyTellsWrong : ChangeSpec := { name := "fnExactWhyTells", fn := fun _ => fun
  | [d1, d2, d3] => { results := [.lit (.bool false)], args := [d1, d2, d3] }
  | _ => none }
def FnExactWhyTellsWrongFalsely : Prop := fnExactWhyTellsRow.holds Try.pinned (OpenSpec.ofChange fnExactWhyTellsWrong)

/-- 'laws.FnSameGiven': WHATEVER THE INPUT: true; the input reads as it did. -/
def fnSameGivenSpec : ChangeSpec := { name := "fnSameGiven", fn := fun _ => fun
  | [d] => { results := [.lit (.bool true)], args := [d] }
  | _ => none }
def fnSameGivenRow : OpenClaim := { program := "ytblbommhodondaa", sum := "7d73c910b99b447f88d48afc19d2dd6c8635df35756d2f96c64798ce58651a92", func := "loop.example/compurgator/laws.FnSameGiven", spec := "fnSameGiven", unfollowed := true, recurses := true, apart := false }
def FnSameGivenSaid : Prop := fnSameGivenRow.holds Try.pinned (OpenSpec.ofChange fnSameGivenSpec)

/-- ITS FALSE NEIGHBOUR: 'it returns false'. Refute it at one input. -/
def fnSameGivenWrong : ChangeSpec := { name := "fnSameGiven", fn := fun _ => fun
  | [d] => { results := [.lit (.bool false)], args := [d] }
  | _ => none }
def FnSameGivenWrongFalsely : Prop := fnSameGivenRow.holds Try.pinned (OpenSpec.ofChange fnSameGivenWrong)

/-- 'laws.FnSameBent': WHATEVER THE INPUT: true; the input reads as it did. -/
def fnSameBentSpec : ChangeSpec := { name := "fnSameBent", fn := fun _ => fun
  | [d] => { results := [.lit (.bool true)], args := [d] }
  | _ => none }
def fnSameBentRow : OpenClaim := { program := "ytblbommhodondaa", sum := "7d73c910b99b447f88d48afc19d2dd6c8635df35756d2f96c64798ce58651a92", func := "loop.example/compurgator/laws.FnSameBent", spec := "fnSameBent", unfollowed := true, recurses := true, apart := false }
def FnSameBentSaid : Prop := fnSameBentRow.holds Try.pinned (OpenSpec.ofChange fnSameBentSpec)

/-- ITS FALSE NEIGHBOUR: 'it returns false'. Refute it at one input. -/
def fnSameBentWrong : ChangeSpec := { name := "fnSameBent", fn := fun _ => fun
  | [d] => { results := [.lit (.bool false)], args := [d] }
  | _ => none }
def FnSameBentWrongFalsely : Prop := fnSameBentRow.holds Try.pinned (OpenSpec.ofChange fnSameBentWrong)

/- THE SECOND FORM. 'bulk': how many values and letters a reading holds, each counted each time it is reached (what is shared counts as often as it is met; a slice's spare places count too). A statement '..UptoSaid' is the law's where the arguments, and the package variables that the reading takes, are together of bulk at most 1048576: NARROWER than '..Said'. Prove '..Said' where nothing that the law and all that it calls make is longer than what came in: it says more and counts as full. Else prove '..UptoSaid'. A law counts once. -/
mutual
def uptoBulk {H : Type} : DataW H → Nat
  | .lit (.string bytes) => bytes.length + 1
  | .lit _ => 1
  | .nil => 1
  | .ptr d => uptoBulk d + 1
  | .slice elems spare => uptoBulkAll elems + uptoBulkAll spare + 1
  | .agg parts => uptoBulkAll parts + 1
  | .iface _ d => uptoBulk d + 1
  | .map entries => uptoBulkEntries entries + 1
  | .held _ => 1
def uptoBulkAll {H : Type} : List (DataW H) → Nat
  | [] => 0
  | d :: r => uptoBulk d + uptoBulkAll r
def uptoBulkEntries {H : Type} : List (Lit × DataW H) → Nat
  | [] => 0
  | x :: r => uptoBulkEntry x + uptoBulkEntries r
def uptoBulkEntry {H : Type} : Lit × DataW H → Nat
  | (.string bytes, d) => bytes.length + uptoBulk d + 1
  | (_, d) => uptoBulk d + 1
 end
def uptoSmall : (H : Type) → List (DataW H) → Bool := fun _ ds => decide (uptoBulkAll ds ≤ 1048576)
def OpenSpec.upto (s : _root_.Go.ChangeSpec) : _root_.Go.OpenSpec := { _root_.Go.OpenSpec.ofChange s with cond := some uptoSmall }

/-- 'laws.FnSameClass', WHERE WHAT IT READS IS OF BULK AT MOST 1048576: true; the input reads as it did. -/
def fnSameClassUptoRow : OpenClaim := { program := "ytblbommhodondaa", sum := "7d73c910b99b447f88d48afc19d2dd6c8635df35756d2f96c64798ce58651a92", func := "loop.example/compurgator/laws.FnSameClass", spec := "fnSameClass", unfollowed := true, recurses := true, apart := false, narrowed := true }
def FnSameClassUptoSaid : Prop := fnSameClassUptoRow.holds Try.pinned (OpenSpec.upto fnSameClassSpec)

/-- 'laws.FnSameSteps', WHERE WHAT IT READS IS OF BULK AT MOST 1048576: true; the input reads as it did. -/
def fnSameStepsUptoRow : OpenClaim := { program := "ytblbommhodondaa", sum := "7d73c910b99b447f88d48afc19d2dd6c8635df35756d2f96c64798ce58651a92", func := "loop.example/compurgator/laws.FnSameSteps", spec := "fnSameSteps", unfollowed := true, recurses := true, apart := false, narrowed := true }
def FnSameStepsUptoSaid : Prop := fnSameStepsUptoRow.holds Try.pinned (OpenSpec.upto fnSameStepsSpec)

/-- 'laws.FnSameIs', WHERE WHAT IT READS IS OF BULK AT MOST 1048576: true; the input reads as it did. -/
def fnSameIsUptoRow : OpenClaim := { program := "ytblbommhodondaa", sum := "7d73c910b99b447f88d48afc19d2dd6c8635df35756d2f96c64798ce58651a92", func := "loop.example/compurgator/laws.FnSameIs", spec := "fnSameIs", unfollowed := true, recurses := true, apart := false, narrowed := true }
def FnSameIsUptoSaid : Prop := fnSameIsUptoRow.holds Try.pinned (OpenSpec.upto fnSameIsSpec)

/-- 'laws.FnSameMore', WHERE WHAT IT READS IS OF BULK AT MOST 1048576: true; the input reads as it did. -/
def fnSameMoreUptoRow : OpenClaim := { program := "ytblbommhodondaa", sum := "7d73c910b99b447f88d48afc19d2dd6c8635df35756d2f96c64798ce58651a92", func := "loop.example/compurgator/laws.FnSameMore", spec := "fnSameMore", unfollowed := true, recurses := true, apart := false, narrowed := true }
def FnSameMoreUptoSaid : Prop := fnSameMoreUptoRow.holds Try.pinned (OpenSpec.upto fnSameMoreSpec)

/-- 'laws.FnSameParts', WHERE WHAT IT READS IS OF BULK AT MOST 1048576: true; the input reads as it did. -/
def fnSamePartsUptoRow : OpenClaim := { program := "ytblbommhodondaa", sum := "7d73c910b99b447f88d48afc19d2dd6c8635df35756d2f96c64798ce58651a92", func := "loop.example/compurgator/laws.FnSameParts", spec := "fnSameParts", unfollowed := true, recurses := true, apart := false, narrowed := true }
def FnSamePartsUptoSaid : Prop := fnSamePartsUptoRow.holds Try.pinned (OpenSpec.upto fnSamePartsSpec)

/-- 'laws.FnExactWhyTells', WHERE WHAT IT READS IS OF BULK AT MOST 1048576: true; the input reads as it did. -/
def fnExactWhyTellsUptoRow : OpenClaim := { program := "ytblbommhodondaa", sum := "7d73c910b99b447f88d48afc19d2dd6c8635df35756d2f96c64798ce58651a92", func := "loop.example/compurgator/laws.FnExactWhyTells", spec := "fnExactWhyTells", unfollowed := true, recurses := true, loops := true, apart := false, narrowed := true }
def FnExactWhyTellsUptoSaid : Prop := fnExactWhyTellsUptoRow.holds Try.pinned (OpenSpec.upto fnExactWhyTellsSpec)

/-- 'laws.FnSameGiven', WHERE WHAT IT READS IS OF BULK AT MOST 1048576: true; the input reads as it did. -/
def fnSameGivenUptoRow : OpenClaim := { program := "ytblbommhodondaa", sum := "7d73c910b99b447f88d48afc19d2dd6c8635df35756d2f96c64798ce58651a92", func := "loop.example/compurgator/laws.FnSameGiven", spec := "fnSameGiven", unfollowed := true, recurses := true, apart := false, narrowed := true }
def FnSameGivenUptoSaid : Prop := fnSameGivenUptoRow.holds Try.pinned (OpenSpec.upto fnSameGivenSpec)

/-- 'laws.FnSameBent', WHERE WHAT IT READS IS OF BULK AT MOST 1048576: true; the input reads as it did. -/
def fnSameBentUptoRow : OpenClaim := { program := "ytblbommhodondaa", sum := "7d73c910b99b447f88d48afc19d2dd6c8635df35756d2f96c64798ce58651a92", func := "loop.example/compurgator/laws.FnSameBent", spec := "fnSameBent", unfollowed := true, recurses := true, apart := false, narrowed := true }
def FnSameBentUptoSaid : Prop := fnSameBentUptoRow.holds Try.pinned (OpenSpec.upto fnSameBentSpec)

end Rows
end Go.Proofs.Ytblbommhodondaa
