/-
  NARROWER THAN 'FOR EVERY INPUT', by the rows' own cells (each row's printed sentence says how): FnExactFormIs: loops · FnExactFormAtoms: loops · FnExactFormsAtoms: loops · FnExactSameIs: loops.
  DERIVED. THE GIVEN ROWS OF THIS SEAT. 4 by the template 'for every input the law returns true; each argument reads behind the call as it read before'; 0 by the template 'total and deterministic' (their statements: YtlakobnholgfgaaTotals.lean).
  GIVEN WITH THE SEED: the statements are not yours to turn. If you find one false, say at which input.
  Laid BY PROGRAM, IN A SANDBOX (cutbox-rows.mjs): the forced cells as the released guide's own fill.sh prints them over the translation 2a1dc2b489d292fb… (all of the seat's roots in one cut). By AI agents, Wed Nov 11 2026. No macro, syntax, notation, axiom, sorry.
-/
import Derived.Test.YtlakobnholgfgaaChecked
import GoSem.Claim
import GoSem.ClaimJoined
import GoSem.ClaimMapViews
import Derived.JoinedTies
import Derived.KernelRfl
namespace Go.Proofs.Ytlakobnholgfgaa
/- THE CELL 'sum', in the pinned program and in every row, IS THE sha256 OF THE DUMP (.gsa) THAT YtlakobnholgfgaaProg.lean LOADS. Nothing in Lean hashes anything: it is a label: what it is worth is what the hold of that sum in a sandbox is worth. -/
noncomputable def Try.pinned : Pinned := { name := "ytlakobnholgfgaa", sum := "2a1dc2b489d292fb198827398a013632d85098630ab9ad9a27947068543a67d4", checked := Try.checked }
namespace Rows
def none {H : Type} : Left H := { results := [], args := [] }

/-- 'laws.FnExactFormIs': WHATEVER THE INPUT: true; the input reads as it did. -/
def fnExactFormIsSpec : ChangeSpec := { name := "fnExactFormIs", fn := fun _ => fun
  | [d1, d2] => { results := [.lit (.bool true)], args := [d1, d2] }
  | _ => none }
def fnExactFormIsRow : OpenClaim := { program := "ytlakobnholgfgaa", sum := "2a1dc2b489d292fb198827398a013632d85098630ab9ad9a27947068543a67d4", func := "loop.example/compurgator/laws.FnExactFormIs", spec := "fnExactFormIs", inPlace := ["internal/abi.NoEscape", "internal/bytealg.MakeNoZero"], unfollowed := true, recurses := true, loops := true, apart := false }
def FnExactFormIsSaid : Prop := fnExactFormIsRow.holds Try.pinned (OpenSpec.ofChange fnExactFormIsSpec)

/-- ITS FALSE NEIGHBOUR: 'it returns false'. Refute it at one input. -/
def fnExactFormIsWrong : ChangeSpec := { name := "fnExactFormIs", fn := fun _ => fun
  | [d1, d2] => { results := [.lit (.bool false)], args := [d1, d2] }
  | _ => none }
def FnExactFormIsWrongFalsely : Prop := fnExactFormIsRow.holds Try.pinned (OpenSpec.ofChange fnExactFormIsWrong)

/-- 'laws.FnExactFormAtoms': WHATEVER THE INPUT: true; the input reads as it did. -/
def fnExactFormAtomsSpec : ChangeSpec := { name := "fnExactFormAtoms", fn := fun _ => fun
  | [d] => { results := [.lit (.bool true)], args := [d] }
  | _ => none }
def fnExactFormAtomsRow : OpenClaim := { program := "ytlakobnholgfgaa", sum := "2a1dc2b489d292fb198827398a013632d85098630ab9ad9a27947068543a67d4", func := "loop.example/compurgator/laws.FnExactFormAtoms", spec := "fnExactFormAtoms", inPlace := ["internal/abi.NoEscape", "internal/bytealg.MakeNoZero"], unfollowed := true, recurses := true, loops := true, apart := false }
def FnExactFormAtomsSaid : Prop := fnExactFormAtomsRow.holds Try.pinned (OpenSpec.ofChange fnExactFormAtomsSpec)

/-- ITS FALSE NEIGHBOUR: 'it returns false'. Refute it at one input. -/
def fnExactFormAtomsWrong : ChangeSpec := { name := "fnExactFormAtoms", fn := fun _ => fun
  | [d] => { results := [.lit (.bool false)], args := [d] }
  | _ => none }
def FnExactFormAtomsWrongFalsely : Prop := fnExactFormAtomsRow.holds Try.pinned (OpenSpec.ofChange fnExactFormAtomsWrong)

/-- 'laws.FnExactFormsAtoms': WHATEVER THE INPUT: true; the input reads as it did. -/
def fnExactFormsAtomsSpec : ChangeSpec := { name := "fnExactFormsAtoms", fn := fun _ => fun
  | [d] => { results := [.lit (.bool true)], args := [d] }
  | _ => none }
def fnExactFormsAtomsRow : OpenClaim := { program := "ytlakobnholgfgaa", sum := "2a1dc2b489d292fb198827398a013632d85098630ab9ad9a27947068543a67d4", func := "loop.example/compurgator/laws.FnExactFormsAtoms", spec := "fnExactFormsAtoms", inPlace := ["internal/abi.NoEscape", "internal/bytealg.MakeNoZero"], unfollowed := true, recurses := true, loops := true, apart := false }
def FnExactFormsAtomsSaid : Prop := fnExactFormsAtomsRow.holds Try.pinned (OpenSpec.ofChange fnExactFormsAtomsSpec)

/-- ITS FALSE NEIGHBOUR: 'it returns false'. Refute it at one input. -/
def fnExactFormsAtomsWrong : ChangeSpec := { name := "fnExactFormsAtoms", fn := fun _ => fun
  | [d] => { results := [.lit (.bool false)], args := [d] }
  | _ => none }
def FnExactFormsAtomsWrongFalsely : Prop := fnExactFormsAtomsRow.holds Try.pinned (OpenSpec.ofChange fnExactFormsAtomsWrong)

/-- 'laws.FnExactSameIs': WHATEVER THE INPUT: true; the input reads as it did. -/
def fnExactSameIsSpec : ChangeSpec := { name := "fnExactSameIs", fn := fun _ => fun
  | [d1, d2, d3, d4] => { results := [.lit (.bool true)], args := [d1, d2, d3, d4] }
  | _ => none }
def fnExactSameIsRow : OpenClaim := { program := "ytlakobnholgfgaa", sum := "2a1dc2b489d292fb198827398a013632d85098630ab9ad9a27947068543a67d4", func := "loop.example/compurgator/laws.FnExactSameIs", spec := "fnExactSameIs", unfollowed := true, recurses := true, loops := true, apart := false }
def FnExactSameIsSaid : Prop := fnExactSameIsRow.holds Try.pinned (OpenSpec.ofChange fnExactSameIsSpec)

/-- ITS FALSE NEIGHBOUR: 'it returns false'. Refute it at one input. -/
def fnExactSameIsWrong : ChangeSpec := { name := "fnExactSameIs", fn := fun _ => fun
  | [d1, d2, d3, d4] => { results := [.lit (.bool false)], args := [d1, d2, d3, d4] }
  | _ => none }
def FnExactSameIsWrongFalsely : Prop := fnExactSameIsRow.holds Try.pinned (OpenSpec.ofChange fnExactSameIsWrong)

/- THE SECOND FORM. 'bulk': how many values and letters a reading holds, each counted each time it is reached (what is shared counts as often as it is met; a slice's spare places count too). A statement '..UptoSaid' is the law's where the arguments, and the package variables that the reading takes, are together of bulk at most 1048576: NARROWER than '..Said'. Prove '..Said' where nothing that the law and all that it calls make is longer than what came in: it says more and counts as full. Else prove '..UptoSaid'. A law counts once. -/
mutual
def uptoBulk {H : Type} : DataW H → Nat
  | .lit (.string bytes) => bytes.length + 1
  | .lit _ => 1
  | .nil => 1
  | .ptr d => uptoBulk d + 1
  | .slice elems spare => uptoBulkAll elems + uptoBulkAll spare + 1
  | .agg parts => uptoBulkAll parts + 1
  | .iface _ d => uptoBulk d + 1
  | .map entries => uptoBulkEntries entries + 1
  | .held _ => 1
def uptoBulkAll {H : Type} : List (DataW H) → Nat
  | [] => 0
  | d :: r => uptoBulk d + uptoBulkAll r
def uptoBulkEntries {H : Type} : List (Lit × DataW H) → Nat
  | [] => 0
  | x :: r => uptoBulkEntry x + uptoBulkEntries r
def uptoBulkEntry {H : Type} : Lit × DataW H → Nat
  | (.string bytes, d) => bytes.length + uptoBulk d + 1
  | (_, d) => uptoBulk d + 1
 end
def uptoSmall : (H : Type) → List (DataW H) → Bool := fun _ ds => decide (uptoBulkAll ds ≤ 1048576)
def OpenSpec.upto (s : _root_.Go.ChangeSpec) : _root_.Go.OpenSpec := { _root_.Go.OpenSpec.ofChange s with cond := some uptoSmall }

/-- 'laws.FnExactFormIs', WHERE WHAT IT READS IS OF BULK AT MOST 1048576: true; the input reads as it did. -/
def fnExactFormIsUptoRow : OpenClaim := { program := "ytlakobnholgfgaa", sum := "2a1dc2b489d292fb198827398a013632d85098630ab9ad9a27947068543a67d4", func := "loop.example/compurgator/laws.FnExactFormIs", spec := "fnExactFormIs", inPlace := ["internal/abi.NoEscape", "internal/bytealg.MakeNoZero"], unfollowed := true, recurses := true, loops := true, apart := false, narrowed := true }
def FnExactFormIsUptoSaid : Prop := fnExactFormIsUptoRow.holds Try.pinned (OpenSpec.upto fnExactFormIsSpec)

/-- 'laws.FnExactFormAtoms', WHERE WHAT IT READS IS OF BULK AT MOST 1048576: true; the input reads as it did. -/
def fnExactFormAtomsUptoRow : OpenClaim := { program := "ytlakobnholgfgaa", sum := "2a1dc2b489d292fb198827398a013632d85098630ab9ad9a27947068543a67d4", func := "loop.example/compurgator/laws.FnExactFormAtoms", spec := "fnExactFormAtoms", inPlace := ["internal/abi.NoEscape", "internal/bytealg.MakeNoZero"], unfollowed := true, recurses := true, loops := true, apart := false, narrowed := true }
def FnExactFormAtomsUptoSaid : Prop := fnExactFormAtomsUptoRow.holds Try.pinned (OpenSpec.upto fnExactFormAtomsSpec)

/-- 'laws.FnExactFormsAtoms', WHERE WHAT IT READS IS OF BULK AT MOST 1048576: true; the input reads as it did. -/
def fnExactFormsAtomsUptoRow : OpenClaim := { program := "ytlakobnholgfgaa", sum := "2a1dc2b489d292fb198827398a013632d85098630ab9ad9a27947068543a67d4", func := "loop.example/compurgator/laws.FnExactFormsAtoms", spec := "fnExactFormsAtoms", inPlace := ["internal/abi.NoEscape", "internal/bytealg.MakeNoZero"], unfollowed := true, recurses := true, loops := true, apart := false, narrowed := true }
def FnExactFormsAtomsUptoSaid : Prop := fnExactFormsAtomsUptoRow.holds Try.pinned (OpenSpec.upto fnExactFormsAtomsSpec)

/-- 'laws.FnExactSameIs', WHERE WHAT IT READS IS OF BULK AT MOST 1048576: true; the input reads as it did. -/
def fnExactSameIsUptoRow : OpenClaim := { program := "ytlakobnholgfgaa", sum := "2a1dc2b489d292fb198827398a013632d85098630ab9ad9a27947068543a67d4", func := "loop.example/compurgator/laws.FnExactSameIs", spec := "fnExactSameIs", unfollowed := true, recurses := true, loops := true, apart := false, narrowed := true }
def FnExactSameIsUptoSaid : Prop := fnExactSameIsUptoRow.holds Try.pinned (OpenSpec.upto fnExactSameIsSpec)

end Rows
end Go.Proofs.Ytlakobnholgfgaa
