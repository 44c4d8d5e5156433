/- Parts of the proof: StkO. -/
import Derived.BigQuiet
import Derived.Lib.Hide
import Derived.Test.YtlhochahokbonaaPa34
import Derived.Test.YtlhochahokbonaaPa36
import Derived.Deep.RegionHeld3
import Derived.Test.YtlhochahokbonaaPa32
import Derived.Test.YtlhochahokbonaaPa19
/- Well-formed forms in a language: both sides. -/
namespace Go.Proofs.Ytlhochahokbonaa
open Go Go.RowKit
set_option linter.unusedVariables false
set_option linter.unusedSimpArgs false
def litOf (x : Atm) : Lt := ⟨x, false⟩
def litsOf (l : List Atm) : List Lt := l.map litOf
theorem litsOf_succ (l : List Atm) (k : Nat) (h : k < l.length) : litsOf (l.take (k + 1)) = litsOf (l.take k) ++ [litOf l[k]] := by
  unfold litsOf; rw [List.take_succ_eq_append_getElem h, List.map_append]; rfl
set_option maxRecDepth 100000 in
set_option maxHeartbeats 1000000 in
theorem l9Lits_any (l : List Atm) (v : Value) (g : List Nat) (w : World) (hlen : l.length ≤ 1000000000) (hv : Rd w (.sl (l.map Atm.cd)) v g) :
    Calls Try.prog 114 #[v] w fun e w' => (∃ rv rf, e = .returned rv ∧ Rd w' (.sl ((litsOf l).map Lt.cd)) rv rf) ∧ Below w.heap.size w w' := by
  obtain ⟨a, cap, rfl, hc1, hc2⟩ := rd_sl_inv hv
  have hfl := hv.lt _
  go_enter Try.func114, Try.ntmps114
  go_wp2_with fail
  go_loopw [3, 4] (fun ov i wr => ∃ (k : Nat) (fp : List Nat), k ≤ l.length ∧ i = .int .i64 k ∧ Own wr w.heap.size 37 10 ov ((litsOf (l.take k)).map Lt.cd) fp ∧ Below w.heap.size w wr) (fun _ i _ => l.length - (intOf i).toNat)
  case atStart => exact ⟨0, [], Nat.zero_le _, rfl, Own.empty _ _ _ _ (Nat.le_refl _), below_alloc _ _⟩
  case round =>
    obtain ⟨k, fp, hkl, rfl, hown, hb⟩ := hrel
    have hz := hb.size
    by_cases hlt : k < l.length
    · obtain ⟨b, off, rfl, hbs, _⟩ := rd_addr hv (by omega)
      have hbz : b < wr.heap.size := by omega
      obtain ⟨a2, c2, f2, a4, c4, f4, a5, c5, f5, a6, c6, f6, d0, d1, d2, d3, d4, d5, d6, d7, d8, n0, n1, n2, n3, n4, n5, n6, n7, hsub⟩ := Atm.at (hv.below hb) hlt
      have hBA : Below wr.heap.size wr (wr.alloc (.cells #[.int .i64 l[k].kind, .string l[k].a.name, .slice a2 l[k].a.kids.length c2, .string l[k].b.name, .slice a4 l[k].b.kids.length c4, .slice a5 l[k].nums.length c5, .slice a6 l[k].times.length c6, .int .i64 l[k].bound, .bool l[k].strict, .bool false] 37)) := below_alloc _ _
      have hB2 := hb.trans (hBA.mono hz)
      have hl : ((litsOf (l.take k)).map Lt.cd).length = k := by simp [litsOf]; omega
      have hnews : RdVs wr [(litOf l[k]).cd].flatten [.int .i64 l[k].kind, .string l[k].a.name, .slice a2 l[k].a.kids.length c2, .string l[k].b.name, .slice a4 l[k].b.kids.length c4, .slice a5 l[k].nums.length c5, .slice a6 l[k].times.length c6, .int .i64 l[k].bound, .bool l[k].strict, .bool false] (f2 ++ (f4 ++ (f5 ++ f6))) := by
        have := Lt.close (x := litOf l[k]) n0 n1 n2 n3 n4 n5 n6 n7
        simpa [litOf] using this
      have hne : ∀ y ∈ f2 ++ (f4 ++ (f5 ++ f6)), u3.ownBlock ≠ some y := fun y hy e => by have h1 := (hown.block e).1; have h2 := hfl y (hsub y hy); omega
      have HT := Lib.hid (litsOf_succ l k hlt)
      go_wp2_with (at_builtin; refine wpList_app slTyLitS rfl _ _ rfl w.heap.size _ _ _ rfl (hown.below hBA) ⟨wr.heap.size, 0, none⟩ 1 1 [(litOf l[k]).cd] [.int .i64 l[k].kind, .string l[k].a.name, .slice a2 l[k].a.kids.length c2, .string l[k].b.name, .slice a4 l[k].b.kids.length c4, .slice a5 l[k].nums.length c5, .slice a6 l[k].times.length c6, .int .i64 l[k].bound, .bool l[k].strict, .bool false] (f2 ++ (f4 ++ (f5 ++ f6))) rfl rfl (hnews.below hBA) ?k ?cells ?na ?bytes ?len ?base ?next)
      case k => simp [Lt.cd, Atm.cd_len]
      case cells =>
        intro j u hj
        have := cells_new wr [.int .i64 l[k].kind, .string l[k].a.name, .slice a2 l[k].a.kids.length c2, .string l[k].b.name, .slice a4 l[k].b.kids.length c4, .slice a5 l[k].nums.length c5, .slice a6 l[k].times.length c6, .int .i64 l[k].bound, .bool l[k].strict, .bool false] 37 j u hj
        simpa using this
      case na => exact hne
      case bytes => rw [hl]; omega
      case len => rw [hl]; omega
      case base => simp; omega
      case next =>
        intro v' w4 hown4 hg hv' hs4
        have hb4 := grown_below hB2 hg (by simp; omega) (fun q hq => (hown.block hq).1)
        clear hl
        go_wp2_with fail
        go_roundw
        case rel =>
          refine ⟨k + 1, fp ++ (f2 ++ (f4 ++ (f5 ++ f6))), by omega, by go_num, ?_, hb4⟩
          rw [HT.out, List.map_append]; exact hown4
        case measure => simp [intOf]; omega
    · have he : l.take k = l := List.take_of_length_le (by omega)
      rw [he] at hown
      obtain ⟨oa, on, oc, rfl⟩ := hown.form'
      obtain ⟨fp', hr⟩ := hown.rd'
      clear he
      go_wp2_with fail
      go_ret
      exact ⟨⟨_, fp', rfl, hr⟩, hb⟩
end Go.Proofs.Ytlhochahokbonaa
/- StackOk: both sides. -/
namespace Go.Proofs.Ytlhochahokbonaa
open Go Go.RowKit
set_option linter.unusedVariables false
set_option linter.unusedSimpArgs false
end Go.Proofs.Ytlhochahokbonaa
/- The reference's copies of forms. -/
namespace Go.Proofs.Ytlhochahokbonaa
open Go Go.RowKit
set_option linter.unusedVariables false
set_option linter.unusedSimpArgs false
end Go.Proofs.Ytlhochahokbonaa
