/-
  NARROWER THAN 'FOR EVERY INPUT', by the rows' own cells (each row's printed sentence says how): FnExactTermParts: loops · FnExactCoreOf: loops · FnExactLitTerms: loops.
  DERIVED. THE GIVEN ROWS OF THIS SEAT. 7 by the template 'for every input the law returns true; each argument reads behind the call as it read before'; 0 by the template 'total and deterministic' (their statements: YtmmmcfhhblmdjaaTotals.lean).
  GIVEN WITH THE SEED: the statements are not yours to turn. If you find one false, say at which input.
  Laid BY PROGRAM, IN A SANDBOX (cutbox-rows.mjs): the forced cells as the released guide's own fill.sh prints them over the translation 74296d6ff640510b… (all of the seat's roots in one cut). By AI agents, Wed Nov 11 2026. No macro, syntax, notation, axiom, sorry.
-/
import Derived.Test.YtmmmcfhhblmdjaaChecked
import GoSem.Claim
import GoSem.ClaimJoined
import GoSem.ClaimMapViews
import Derived.JoinedTies
import Derived.KernelRfl
namespace Go.Proofs.Ytmmmcfhhblmdjaa
/- THE CELL 'sum', in the pinned program and in every row, IS THE sha256 OF THE DUMP (.gsa) THAT YtmmmcfhhblmdjaaProg.lean LOADS. Nothing in Lean hashes anything: it is a label: what it is worth is what the hold of that sum in a sandbox is worth. -/
noncomputable def Try.pinned : Pinned := { name := "ytmmmcfhhblmdjaa", sum := "74296d6ff640510b25d0b3c83d023156c4b52ddc9479f3f91fb2ef7dcc17389b", checked := Try.checked }
namespace Rows
def none {H : Type} : Left H := { results := [], args := [] }

/-- 'laws.FnTermTwo': WHATEVER THE INPUT: true; the input reads as it did. -/
def fnTermTwoSpec : ChangeSpec := { name := "fnTermTwo", fn := fun _ => fun
  | [d] => { results := [.lit (.bool true)], args := [d] }
  | _ => none }
def fnTermTwoRow : OpenClaim := { program := "ytmmmcfhhblmdjaa", sum := "74296d6ff640510b25d0b3c83d023156c4b52ddc9479f3f91fb2ef7dcc17389b", func := "loop.example/compurgator/laws.FnTermTwo", spec := "fnTermTwo", unfollowed := true, recurses := true, apart := false }
def FnTermTwoSaid : Prop := fnTermTwoRow.holds Try.pinned (OpenSpec.ofChange fnTermTwoSpec)

/-- ITS FALSE NEIGHBOUR: 'it returns false'. Refute it at one input. -/
def fnTermTwoWrong : ChangeSpec := { name := "fnTermTwo", fn := fun _ => fun
  | [d] => { results := [.lit (.bool false)], args := [d] }
  | _ => none }
def FnTermTwoWrongFalsely : Prop := fnTermTwoRow.holds Try.pinned (OpenSpec.ofChange fnTermTwoWrong)

/-- 'laws.FnExactTermParts': WHATEVER THE INPUT: true; the input reads as it did. -/
def fnExactTermPartsSpec : ChangeSpec := { name := "fnExactTermParts", fn := fun _ => fun
  | [d] => { results := [.lit (.bool true)], args := [d] }
  | _ => none }
def fnExactTermPartsRow : OpenClaim := { program := "ytmmmcfhhblmdjaa", sum := "74296d6ff640510b25d0b3c83d023156c4b52ddc9479f3f91fb2ef7dcc17389b", func := "loop.example/compurgator/laws.FnExactTermParts", spec := "fnExactTermParts", unfollowed := true, recurses := true, loops := true, apart := false }
def FnExactTermPartsSaid : Prop := fnExactTermPartsRow.holds Try.pinned (OpenSpec.ofChange fnExactTermPartsSpec)

/-- ITS FALSE NEIGHBOUR: 'it returns false'. Refute it at one input. -/
def fnExactTermPartsWrong : ChangeSpec := { name := "fnExactTermParts", fn := fun _ => fun
  | [d] => { results := [.lit (.bool false)], args := [d] }
  | _ => none }
def FnExactTermPartsWrongFalsely : Prop := fnExactTermPartsRow.holds Try.pinned (OpenSpec.ofChange fnExactTermPartsWrong)

/-- 'laws.FnTermParts': WHATEVER THE INPUT: true; the input reads as it did. -/
def fnTermPartsSpec : ChangeSpec := { name := "fnTermParts", fn := fun _ => fun
  | [d] => { results := [.lit (.bool true)], args := [d] }
  | _ => none }
def fnTermPartsRow : OpenClaim := { program := "ytmmmcfhhblmdjaa", sum := "74296d6ff640510b25d0b3c83d023156c4b52ddc9479f3f91fb2ef7dcc17389b", func := "loop.example/compurgator/laws.FnTermParts", spec := "fnTermParts", unfollowed := true, recurses := true, apart := false }
def FnTermPartsSaid : Prop := fnTermPartsRow.holds Try.pinned (OpenSpec.ofChange fnTermPartsSpec)

/-- ITS FALSE NEIGHBOUR: 'it returns false'. Refute it at one input. -/
def fnTermPartsWrong : ChangeSpec := { name := "fnTermParts", fn := fun _ => fun
  | [d] => { results := [.lit (.bool false)], args := [d] }
  | _ => none }
def FnTermPartsWrongFalsely : Prop := fnTermPartsRow.holds Try.pinned (OpenSpec.ofChange fnTermPartsWrong)

/-- 'laws.FnTermKids': WHATEVER THE INPUT: true; the input reads as it did. -/
def fnTermKidsSpec : ChangeSpec := { name := "fnTermKids", fn := fun _ => fun
  | [d] => { results := [.lit (.bool true)], args := [d] }
  | _ => none }
def fnTermKidsRow : OpenClaim := { program := "ytmmmcfhhblmdjaa", sum := "74296d6ff640510b25d0b3c83d023156c4b52ddc9479f3f91fb2ef7dcc17389b", func := "loop.example/compurgator/laws.FnTermKids", spec := "fnTermKids", unfollowed := true, recurses := true, apart := false }
def FnTermKidsSaid : Prop := fnTermKidsRow.holds Try.pinned (OpenSpec.ofChange fnTermKidsSpec)

/-- ITS FALSE NEIGHBOUR: 'it returns false'. Refute it at one input. -/
def fnTermKidsWrong : ChangeSpec := { name := "fnTermKids", fn := fun _ => fun
  | [d] => { results := [.lit (.bool false)], args := [d] }
  | _ => none }
def FnTermKidsWrongFalsely : Prop := fnTermKidsRow.holds Try.pinned (OpenSpec.ofChange fnTermKidsWrong)

/-- 'laws.FnTermSort': WHATEVER THE INPUT: true; the input reads as it did. -/
def fnTermSortSpec : ChangeSpec := { name := "fnTermSort", fn := fun _ => fun
  | [d] => { results := [.lit (.bool true)], args := [d] }
  | _ => none }
def fnTermSortRow : OpenClaim := { program := "ytmmmcfhhblmdjaa", sum := "74296d6ff640510b25d0b3c83d023156c4b52ddc9479f3f91fb2ef7dcc17389b", func := "loop.example/compurgator/laws.FnTermSort", spec := "fnTermSort", unfollowed := true, recurses := true, apart := false }
def FnTermSortSaid : Prop := fnTermSortRow.holds Try.pinned (OpenSpec.ofChange fnTermSortSpec)

/-- ITS FALSE NEIGHBOUR: 'it returns false'. Refute it at one input. -/
def fnTermSortWrong : ChangeSpec := { name := "fnTermSort", fn := fun _ => fun
  | [d] => { results := [.lit (.bool false)], args := [d] }
  | _ => none }
def FnTermSortWrongFalsely : Prop := fnTermSortRow.holds Try.pinned (OpenSpec.ofChange fnTermSortWrong)

/-- 'laws.FnExactCoreOf': WHATEVER THE INPUT: true; the input reads as it did. -/
def fnExactCoreOfSpec : ChangeSpec := { name := "fnExactCoreOf", fn := fun _ => fun
  | [d1, d2] => { results := [.lit (.bool true)], args := [d1, d2] }
  | _ => none }
def fnExactCoreOfRow : OpenClaim := { program := "ytmmmcfhhblmdjaa", sum := "74296d6ff640510b25d0b3c83d023156c4b52ddc9479f3f91fb2ef7dcc17389b", func := "loop.example/compurgator/laws.FnExactCoreOf", spec := "fnExactCoreOf", recurses := true, loops := true, apart := false }
def FnExactCoreOfSaid : Prop := fnExactCoreOfRow.holds Try.pinned (OpenSpec.ofChange fnExactCoreOfSpec)

/-- ITS FALSE NEIGHBOUR: 'it returns false'. Refute it at one input. -/
def fnExactCoreOfWrong : ChangeSpec := { name := "fnExactCoreOf", fn := fun _ => fun
  | [d1, d2] => { results := [.lit (.bool false)], args := [d1, d2] }
  | _ => none }
def FnExactCoreOfWrongFalsely : Prop := fnExactCoreOfRow.holds Try.pinned (OpenSpec.ofChange fnExactCoreOfWrong)

/-- 'laws.FnExactLitTerms': WHATEVER THE INPUT: true; the input reads as it did. -/
def fnExactLitTermsSpec : ChangeSpec := { name := "fnExactLitTerms", fn := fun _ => fun
  | [d] => { results := [.lit (.bool true)], args := [d] }
  | _ => none }
def fnExactLitTermsRow : OpenClaim := { program := "ytmmmcfhhblmdjaa", sum := "74296d6ff640510b25d0b3c83d023156c4b52ddc9479f3f91fb2ef7dcc17389b", func := "loop.example/compurgator/laws.FnExactLitTerms", spec := "fnExactLitTerms", inPlace := ["internal/abi.NoEscape", "internal/bytealg.MakeNoZero"], recurses := true, loops := true, apart := false }
def FnExactLitTermsSaid : Prop := fnExactLitTermsRow.holds Try.pinned (OpenSpec.ofChange fnExactLitTermsSpec)

/-- ITS FALSE NEIGHBOUR: 'it returns false'. Refute it at one input. -/
def fnExactLitTermsWrong : ChangeSpec := { name := "fnExactLitTerms", fn := fun _ => fun
  | [d] => { results := [.lit (.bool false)], args := [d] }
  | _ => none }
def FnExactLitTermsWrongFalsely : Prop := fnExactLitTermsRow.holds Try.pinned (OpenSpec.ofChange fnExactLitTermsWrong)

/- THE SECOND FORM. 'bulk': how many values and letters a reading holds, each counted each time it is reached (what is shared counts as often as it is met; a slice's spare places count too). A statement '..UptoSaid' is the law's where the arguments, and the package variables that the reading takes, are together of bulk at most 1048576: NARROWER than '..Said'. Prove '..Said' where nothing that the law and all that it calls make is longer than what came in: it says more and counts as full. Else prove '..UptoSaid'. A law counts once. -/
mutual
def uptoBulk {H : Type} : DataW H → Nat
  | .lit (.string bytes) => bytes.length + 1
  | .lit _ => 1
  | .nil => 1
  | .ptr d => uptoBulk d + 1
  | .slice elems spare => uptoBulkAll elems + uptoBulkAll spare + 1
  | .agg parts => uptoBulkAll parts + 1
  | .iface _ d => uptoBulk d + 1
  | .map entries => uptoBulkEntries entries + 1
  | .held _ => 1
def uptoBulkAll {H : Type} : List (DataW H) → Nat
  | [] => 0
  | d :: r => uptoBulk d + uptoBulkAll r
def uptoBulkEntries {H : Type} : List (Lit × DataW H) → Nat
  | [] => 0
  | x :: r => uptoBulkEntry x + uptoBulkEntries r
def uptoBulkEntry {H : Type} : Lit × DataW H → Nat
  | (.string bytes, d) => bytes.length + uptoBulk d + 1
  | (_, d) => uptoBulk d + 1
 end
def uptoSmall : (H : Type) → List (DataW H) → Bool := fun _ ds => decide (uptoBulkAll ds ≤ 1048576)
def OpenSpec.upto (s : _root_.Go.ChangeSpec) : _root_.Go.OpenSpec := { _root_.Go.OpenSpec.ofChange s with cond := some uptoSmall }

/-- 'laws.FnTermTwo', WHERE WHAT IT READS IS OF BULK AT MOST 1048576: true; the input reads as it did. -/
def fnTermTwoUptoRow : OpenClaim := { program := "ytmmmcfhhblmdjaa", sum := "74296d6ff640510b25d0b3c83d023156c4b52ddc9479f3f91fb2ef7dcc17389b", func := "loop.example/compurgator/laws.FnTermTwo", spec := "fnTermTwo", unfollowed := true, recurses := true, apart := false, narrowed := true }
def FnTermTwoUptoSaid : Prop := fnTermTwoUptoRow.holds Try.pinned (OpenSpec.upto fnTermTwoSpec)

/-- 'laws.FnExactTermParts', WHERE WHAT IT READS IS OF BULK AT MOST 1048576: true; the input reads as it did. -/
def fnExactTermPartsUptoRow : OpenClaim := { program := "ytmmmcfhhblmdjaa", sum := "74296d6ff640510b25d0b3c83d023156c4b52ddc9479f3f91fb2ef7dcc17389b", func := "loop.example/compurgator/laws.FnExactTermParts", spec := "fnExactTermParts", unfollowed := true, recurses := true, loops := true, apart := false, narrowed := true }
def FnExactTermPartsUptoSaid : Prop := fnExactTermPartsUptoRow.holds Try.pinned (OpenSpec.upto fnExactTermPartsSpec)

/-- 'laws.FnTermParts', WHERE WHAT IT READS IS OF BULK AT MOST 1048576: true; the input reads as it did. -/
def fnTermPartsUptoRow : OpenClaim := { program := "ytmmmcfhhblmdjaa", sum := "74296d6ff640510b25d0b3c83d023156c4b52ddc9479f3f91fb2ef7dcc17389b", func := "loop.example/compurgator/laws.FnTermParts", spec := "fnTermParts", unfollowed := true, recurses := true, apart := false, narrowed := true }
def FnTermPartsUptoSaid : Prop := fnTermPartsUptoRow.holds Try.pinned (OpenSpec.upto fnTermPartsSpec)

/-- 'laws.FnTermKids', WHERE WHAT IT READS IS OF BULK AT MOST 1048576: true; the input reads as it did. -/
def fnTermKidsUptoRow : OpenClaim := { program := "ytmmmcfhhblmdjaa", sum := "74296d6ff640510b25d0b3c83d023156c4b52ddc9479f3f91fb2ef7dcc17389b", func := "loop.example/compurgator/laws.FnTermKids", spec := "fnTermKids", unfollowed := true, recurses := true, apart := false, narrowed := true }
def FnTermKidsUptoSaid : Prop := fnTermKidsUptoRow.holds Try.pinned (OpenSpec.upto fnTermKidsSpec)

/-- 'laws.FnTermSort', WHERE WHAT IT READS IS OF BULK AT MOST 1048576: true; the input reads as it did. -/
def fnTermSortUptoRow : OpenClaim := { program := "ytmmmcfhhblmdjaa", sum := "74296d6ff640510b25d0b3c83d023156c4b52ddc9479f3f91fb2ef7dcc17389b", func := "loop.example/compurgator/laws.FnTermSort", spec := "fnTermSort", unfollowed := true, recurses := true, apart := false, narrowed := true }
def FnTermSortUptoSaid : Prop := fnTermSortUptoRow.holds Try.pinned (OpenSpec.upto fnTermSortSpec)

/-- 'laws.FnExactCoreOf', WHERE WHAT IT READS IS OF BULK AT MOST 1048576: true; the input reads as it did. -/
def fnExactCoreOfUptoRow : OpenClaim := { program := "ytmmmcfhhblmdjaa", sum := "74296d6ff640510b25d0b3c83d023156c4b52ddc9479f3f91fb2ef7dcc17389b", func := "loop.example/compurgator/laws.FnExactCoreOf", spec := "fnExactCoreOf", recurses := true, loops := true, apart := false, narrowed := true }
def FnExactCoreOfUptoSaid : Prop := fnExactCoreOfUptoRow.holds Try.pinned (OpenSpec.upto fnExactCoreOfSpec)

/-- 'laws.FnExactLitTerms', WHERE WHAT IT READS IS OF BULK AT MOST 1048576: true; the input reads as it did. -/
def fnExactLitTermsUptoRow : OpenClaim := { program := "ytmmmcfhhblmdjaa", sum := "74296d6ff640510b25d0b3c83d023156c4b52ddc9479f3f91fb2ef7dcc17389b", func := "loop.example/compurgator/laws.FnExactLitTerms", spec := "fnExactLitTerms", inPlace := ["internal/abi.NoEscape", "internal/bytealg.MakeNoZero"], recurses := true, loops := true, apart := false, narrowed := true }
def FnExactLitTermsUptoSaid : Prop := fnExactLitTermsUptoRow.holds Try.pinned (OpenSpec.upto fnExactLitTermsSpec)

end Rows
end Go.Proofs.Ytmmmcfhhblmdjaa
