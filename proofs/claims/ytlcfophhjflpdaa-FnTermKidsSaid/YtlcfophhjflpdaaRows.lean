/-
  NARROWER THAN 'FOR EVERY INPUT', by the rows' own cells (each row's printed sentence says how): FnExactFormAtoms: loops · FnExactFormsAtoms: loops · FnExactFormIs: loops.
  DERIVED. THE GIVEN ROWS OF THIS SEAT. 7 by the template 'for every input the law returns true; each argument reads behind the call as it read before'; 0 by the template 'total and deterministic' (their statements: YtlcfophhjflpdaaTotals.lean).
  GIVEN WITH THE SEED: the statements are not yours to turn. If you find one false, say at which input.
  Laid BY PROGRAM, IN A SANDBOX (cutbox-rows.mjs): the forced cells as the released guide's own fill.sh prints them over the translation 6a88529f0f492250… (all of the seat's roots in one cut). By AI agents, Wed Nov 11 2026. No macro, syntax, notation, axiom, sorry.
-/
import Derived.Test.YtlcfophhjflpdaaChecked
import GoSem.Claim
import GoSem.ClaimJoined
import GoSem.ClaimMapViews
import Derived.JoinedTies
import Derived.KernelRfl
namespace Go.Proofs.Ytlcfophhjflpdaa
/- THE CELL 'sum', in the pinned program and in every row, IS THE sha256 OF THE DUMP (.gsa) THAT YtlcfophhjflpdaaProg.lean LOADS. Nothing in Lean hashes anything: it is a label: what it is worth is what the hold of that sum in a sandbox is worth. -/
noncomputable def Try.pinned : Pinned := { name := "ytlcfophhjflpdaa", sum := "6a88529f0f492250a3e2e42080afde9852ecb360336a1ec68f4d70d8932b2a91", checked := Try.checked }
namespace Rows
def none {H : Type} : Left H := { results := [], args := [] }

/-- 'laws.FnExactFormAtoms': WHATEVER THE INPUT: true; the input reads as it did. -/
def fnExactFormAtomsSpec : ChangeSpec := { name := "fnExactFormAtoms", fn := fun _ => fun
  | [d] => { results := [.lit (.bool true)], args := [d] }
  | _ => none }
def fnExactFormAtomsRow : OpenClaim := { program := "ytlcfophhjflpdaa", sum := "6a88529f0f492250a3e2e42080afde9852ecb360336a1ec68f4d70d8932b2a91", func := "loop.example/compurgator/laws.FnExactFormAtoms", spec := "fnExactFormAtoms", inPlace := ["internal/abi.NoEscape", "internal/bytealg.MakeNoZero"], unfollowed := true, recurses := true, loops := true, apart := false }
def FnExactFormAtomsSaid : Prop := fnExactFormAtomsRow.holds Try.pinned (OpenSpec.ofChange fnExactFormAtomsSpec)

/-- ITS FALSE NEIGHBOUR: 'it returns false'. Refute it at one input. -/
def fnExactFormAtomsWrong : ChangeSpec := { name := "fnExactFormAtoms", fn := fun _ => fun
  | [d] => { results := [.lit (.bool false)], args := [d] }
  | _ => none }
def FnExactFormAtomsWrongFalsely : Prop := fnExactFormAtomsRow.holds Try.pinned (OpenSpec.ofChange fnExactFormAtomsWrong)

/-- 'laws.FnExactFormsAtoms': WHATEVER THE INPUT: true; the input reads as it did. -/
def fnExactFormsAtomsSpec : ChangeSpec := { name := "fnExactFormsAtoms", fn := fun _ => fun
  | [d] => { results := [.lit (.bool true)], args := [d] }
  | _ => none }
def fnExactFormsAtomsRow : OpenClaim := { program := "ytlcfophhjflpdaa", sum := "6a88529f0f492250a3e2e42080afde9852ecb360336a1ec68f4d70d8932b2a91", func := "loop.example/compurgator/laws.FnExactFormsAtoms", spec := "fnExactFormsAtoms", inPlace := ["internal/abi.NoEscape", "internal/bytealg.MakeNoZero"], unfollowed := true, recurses := true, loops := true, apart := false }
def FnExactFormsAtomsSaid : Prop := fnExactFormsAtomsRow.holds Try.pinned (OpenSpec.ofChange fnExactFormsAtomsSpec)

/-- ITS FALSE NEIGHBOUR: 'it returns false'. Refute it at one input. -/
def fnExactFormsAtomsWrong : ChangeSpec := { name := "fnExactFormsAtoms", fn := fun _ => fun
  | [d] => { results := [.lit (.bool false)], args := [d] }
  | _ => none }
def FnExactFormsAtomsWrongFalsely : Prop := fnExactFormsAtomsRow.holds Try.pinned (OpenSpec.ofChange fnExactFormsAtomsWrong)

/-- 'laws.FnExactFormIs': WHATEVER THE INPUT: true; the input reads as it did. -/
def fnExactFormIsSpec : ChangeSpec := { name := "fnExactFormIs", fn := fun _ => fun
  | [d1, d2] => { results := [.lit (.bool true)], args := [d1, d2] }
  | _ => none }
def fnExactFormIsRow : OpenClaim := { program := "ytlcfophhjflpdaa", sum := "6a88529f0f492250a3e2e42080afde9852ecb360336a1ec68f4d70d8932b2a91", func := "loop.example/compurgator/laws.FnExactFormIs", spec := "fnExactFormIs", inPlace := ["internal/abi.NoEscape", "internal/bytealg.MakeNoZero"], unfollowed := true, recurses := true, loops := true, apart := false }
def FnExactFormIsSaid : Prop := fnExactFormIsRow.holds Try.pinned (OpenSpec.ofChange fnExactFormIsSpec)

/-- ITS FALSE NEIGHBOUR: 'it returns false'. Refute it at one input. -/
def fnExactFormIsWrong : ChangeSpec := { name := "fnExactFormIs", fn := fun _ => fun
  | [d1, d2] => { results := [.lit (.bool false)], args := [d1, d2] }
  | _ => none }
def FnExactFormIsWrongFalsely : Prop := fnExactFormIsRow.holds Try.pinned (OpenSpec.ofChange fnExactFormIsWrong)

/-- 'laws.FnTermTwo': WHATEVER THE INPUT: true; the input reads as it did. -/
def fnTermTwoSpec : ChangeSpec := { name := "fnTermTwo", fn := fun _ => fun
  | [d] => { results := [.lit (.bool true)], args := [d] }
  | _ => none }
def fnTermTwoRow : OpenClaim := { program := "ytlcfophhjflpdaa", sum := "6a88529f0f492250a3e2e42080afde9852ecb360336a1ec68f4d70d8932b2a91", func := "loop.example/compurgator/laws.FnTermTwo", spec := "fnTermTwo", unfollowed := true, recurses := true, apart := false }
def FnTermTwoSaid : Prop := fnTermTwoRow.holds Try.pinned (OpenSpec.ofChange fnTermTwoSpec)

/-- ITS FALSE NEIGHBOUR: 'it returns false'. Refute it at one input. -/
def fnTermTwoWrong : ChangeSpec := { name := "fnTermTwo", fn := fun _ => fun
  | [d] => { results := [.lit (.bool false)], args := [d] }
  | _ => none }
def FnTermTwoWrongFalsely : Prop := fnTermTwoRow.holds Try.pinned (OpenSpec.ofChange fnTermTwoWrong)

/-- 'laws.FnTermParts': WHATEVER THE INPUT: true; the input reads as it did. -/
def fnTermPartsSpec : ChangeSpec := { name := "fnTermParts", fn := fun _ => fun
  | [d] => { results := [.lit (.bool true)], args := [d] }
  | _ => none }
def fnTermPartsRow : OpenClaim := { program := "ytlcfophhjflpdaa", sum := "6a88529f0f492250a3e2e42080afde9852ecb360336a1ec68f4d70d8932b2a91", func := "loop.example/compurgator/laws.FnTermParts", spec := "fnTermParts", unfollowed := true, recurses := true, apart := false }
def FnTermPartsSaid : Prop := fnTermPartsRow.holds Try.pinned (OpenSpec.ofChange fnTermPartsSpec)

/-- ITS FALSE NEIGHBOUR: 'it returns false'. Refute it at one input. -/
def fnTermPartsWrong : ChangeSpec := { name := "fnTermParts", fn := fun _ => fun
  | [d] => { results := [.lit (.bool false)], args := [d] }
  | _ => none }
def FnTermPartsWrongFalsely : Prop := fnTermPartsRow.holds Try.pinned (OpenSpec.ofChange fnTermPartsWrong)

/-- 'laws.FnTermKids': WHATEVER THE INPUT: true; the input reads as it did. -/
def fnTermKidsSpec : ChangeSpec := { name := "fnTermKids", fn := fun _ => fun
  | [d] => { results := [.lit (.bool true)], args := [d] }
  | _ => none }
def fnTermKidsRow : OpenClaim := { program := "ytlcfophhjflpdaa", sum := "6a88529f0f492250a3e2e42080afde9852ecb360336a1ec68f4d70d8932b2a91", func := "loop.example/compurgator/laws.FnTermKids", spec := "fnTermKids", unfollowed := true, recurses := true, apart := false }
def FnTermKidsSaid : Prop := fnTermKidsRow.holds Try.pinned (OpenSpec.ofChange fnTermKidsSpec)

/-- ITS FALSE NEIGHBOUR: 'it returns false'. Refute it at one input. -/
def fnTermKidsWrong : ChangeSpec := { name := "fnTermKids", fn := fun _ => fun
  | [d] => { results := [.lit (.bool false)], args := [d] }
  | _ => none }
def FnTermKidsWrongFalsely : Prop := fnTermKidsRow.holds Try.pinned (OpenSpec.ofChange fnTermKidsWrong)

/-- 'laws.FnTermSort': WHATEVER THE INPUT: true; the input reads as it did. -/
def fnTermSortSpec : ChangeSpec := { name := "fnTermSort", fn := fun _ => fun
  | [d] => { results := [.lit (.bool true)], args := [d] }
  | _ => none }
def fnTermSortRow : OpenClaim := { program := "ytlcfophhjflpdaa", sum := "6a88529f0f492250a3e2e42080afde9852ecb360336a1ec68f4d70d8932b2a91", func := "loop.example/compurgator/laws.FnTermSort", spec := "fnTermSort", unfollowed := true, recurses := true, apart := false }
def FnTermSortSaid : Prop := fnTermSortRow.holds Try.pinned (OpenSpec.ofChange fnTermSortSpec)

/-- ITS FALSE NEIGHBOUR: 'it returns false'. Refute it at one input. -/
def fnTermSortWrong : ChangeSpec := { name := "fnTermSort", fn := fun _ => fun
  | [d] => { results := [.lit (.bool false)], args := [d] }
  | _ => none }
def FnTermSortWrongFalsely : Prop := fnTermSortRow.holds Try.pinned (OpenSpec.ofChange fnTermSortWrong)

/- THE SECOND FORM. 'bulk': how many values and letters a reading holds, each counted each time it is reached (what is shared counts as often as it is met; a slice's spare places count too). A statement '..UptoSaid' is the law's where the arguments, and the package variables that the reading takes, are together of bulk at most 1048576: NARROWER than '..Said'. Prove '..Said' where nothing that the law and all that it calls make is longer than what came in: it says more and counts as full. Else prove '..UptoSaid'. A law counts once. -/
mutual
def uptoBulk {H : Type} : DataW H → Nat
  | .lit (.string bytes) => bytes.length + 1
  | .lit _ => 1
  | .nil => 1
  | .ptr d => uptoBulk d + 1
  | .slice elems spare => uptoBulkAll elems + uptoBulkAll spare + 1
  | .agg parts => uptoBulkAll parts + 1
  | .iface _ d => uptoBulk d + 1
  | .map entries => uptoBulkEntries entries + 1
  | .held _ => 1
def uptoBulkAll {H : Type} : List (DataW H) → Nat
  | [] => 0
  | d :: r => uptoBulk d + uptoBulkAll r
def uptoBulkEntries {H : Type} : List (Lit × DataW H) → Nat
  | [] => 0
  | x :: r => uptoBulkEntry x + uptoBulkEntries r
def uptoBulkEntry {H : Type} : Lit × DataW H → Nat
  | (.string bytes, d) => bytes.length + uptoBulk d + 1
  | (_, d) => uptoBulk d + 1
 end
def uptoSmall : (H : Type) → List (DataW H) → Bool := fun _ ds => decide (uptoBulkAll ds ≤ 1048576)
def OpenSpec.upto (s : _root_.Go.ChangeSpec) : _root_.Go.OpenSpec := { _root_.Go.OpenSpec.ofChange s with cond := some uptoSmall }

/-- 'laws.FnExactFormAtoms', WHERE WHAT IT READS IS OF BULK AT MOST 1048576: true; the input reads as it did. -/
def fnExactFormAtomsUptoRow : OpenClaim := { program := "ytlcfophhjflpdaa", sum := "6a88529f0f492250a3e2e42080afde9852ecb360336a1ec68f4d70d8932b2a91", func := "loop.example/compurgator/laws.FnExactFormAtoms", spec := "fnExactFormAtoms", inPlace := ["internal/abi.NoEscape", "internal/bytealg.MakeNoZero"], unfollowed := true, recurses := true, loops := true, apart := false, narrowed := true }
def FnExactFormAtomsUptoSaid : Prop := fnExactFormAtomsUptoRow.holds Try.pinned (OpenSpec.upto fnExactFormAtomsSpec)

/-- 'laws.FnExactFormsAtoms', WHERE WHAT IT READS IS OF BULK AT MOST 1048576: true; the input reads as it did. -/
def fnExactFormsAtomsUptoRow : OpenClaim := { program := "ytlcfophhjflpdaa", sum := "6a88529f0f492250a3e2e42080afde9852ecb360336a1ec68f4d70d8932b2a91", func := "loop.example/compurgator/laws.FnExactFormsAtoms", spec := "fnExactFormsAtoms", inPlace := ["internal/abi.NoEscape", "internal/bytealg.MakeNoZero"], unfollowed := true, recurses := true, loops := true, apart := false, narrowed := true }
def FnExactFormsAtomsUptoSaid : Prop := fnExactFormsAtomsUptoRow.holds Try.pinned (OpenSpec.upto fnExactFormsAtomsSpec)

/-- 'laws.FnExactFormIs', WHERE WHAT IT READS IS OF BULK AT MOST 1048576: true; the input reads as it did. -/
def fnExactFormIsUptoRow : OpenClaim := { program := "ytlcfophhjflpdaa", sum := "6a88529f0f492250a3e2e42080afde9852ecb360336a1ec68f4d70d8932b2a91", func := "loop.example/compurgator/laws.FnExactFormIs", spec := "fnExactFormIs", inPlace := ["internal/abi.NoEscape", "internal/bytealg.MakeNoZero"], unfollowed := true, recurses := true, loops := true, apart := false, narrowed := true }
def FnExactFormIsUptoSaid : Prop := fnExactFormIsUptoRow.holds Try.pinned (OpenSpec.upto fnExactFormIsSpec)

/-- 'laws.FnTermTwo', WHERE WHAT IT READS IS OF BULK AT MOST 1048576: true; the input reads as it did. -/
def fnTermTwoUptoRow : OpenClaim := { program := "ytlcfophhjflpdaa", sum := "6a88529f0f492250a3e2e42080afde9852ecb360336a1ec68f4d70d8932b2a91", func := "loop.example/compurgator/laws.FnTermTwo", spec := "fnTermTwo", unfollowed := true, recurses := true, apart := false, narrowed := true }
def FnTermTwoUptoSaid : Prop := fnTermTwoUptoRow.holds Try.pinned (OpenSpec.upto fnTermTwoSpec)

/-- 'laws.FnTermParts', WHERE WHAT IT READS IS OF BULK AT MOST 1048576: true; the input reads as it did. -/
def fnTermPartsUptoRow : OpenClaim := { program := "ytlcfophhjflpdaa", sum := "6a88529f0f492250a3e2e42080afde9852ecb360336a1ec68f4d70d8932b2a91", func := "loop.example/compurgator/laws.FnTermParts", spec := "fnTermParts", unfollowed := true, recurses := true, apart := false, narrowed := true }
def FnTermPartsUptoSaid : Prop := fnTermPartsUptoRow.holds Try.pinned (OpenSpec.upto fnTermPartsSpec)

/-- 'laws.FnTermKids', WHERE WHAT IT READS IS OF BULK AT MOST 1048576: true; the input reads as it did. -/
def fnTermKidsUptoRow : OpenClaim := { program := "ytlcfophhjflpdaa", sum := "6a88529f0f492250a3e2e42080afde9852ecb360336a1ec68f4d70d8932b2a91", func := "loop.example/compurgator/laws.FnTermKids", spec := "fnTermKids", unfollowed := true, recurses := true, apart := false, narrowed := true }
def FnTermKidsUptoSaid : Prop := fnTermKidsUptoRow.holds Try.pinned (OpenSpec.upto fnTermKidsSpec)

/-- 'laws.FnTermSort', WHERE WHAT IT READS IS OF BULK AT MOST 1048576: true; the input reads as it did. -/
def fnTermSortUptoRow : OpenClaim := { program := "ytlcfophhjflpdaa", sum := "6a88529f0f492250a3e2e42080afde9852ecb360336a1ec68f4d70d8932b2a91", func := "loop.example/compurgator/laws.FnTermSort", spec := "fnTermSort", unfollowed := true, recurses := true, apart := false, narrowed := true }
def FnTermSortUptoSaid : Prop := fnTermSortUptoRow.holds Try.pinned (OpenSpec.upto fnTermSortSpec)

end Rows
end Go.Proofs.Ytlcfophhjflpdaa
