/- Parts of the proof: Sig2 ExTo. -/
import Derived.IntWalk
import Derived.Test.YtlhochahokbonaaPa7
import Derived.Deep.Cut
namespace Go.Proofs.Ytlhochahokbonaa
open Go Go.RowKit
set_option linter.unusedVariables false
set_option linter.unusedSimpArgs false
theorem below_box {w : World} {B : Nat} {wr : World} {cs : Array Value} {T : Nat} (hb : Below B w wr) (hz : B ≤ wr.heap.size) : Below B w (wr.alloc (.cells cs T)) := hb.alloc hz _
theorem geq_run (t : TypeId) (a b : ByteArray) : binOp .geq t (.string a) (.string b) = pure (.bool (!nmLt a b)) := by simp [binOp, Op.stringOp, nmLt]
theorem Sg.okAt_cmp {s : Sg} {k : Nat} (hk : k + 1 < s.syms.length) (h : nmLt s.syms[k].name s.syms[k + 1].name = false) : s.okAt (k + 1) = false := by
  simp [Sg.okAt, List.getElem?_eq_getElem hk, List.getElem?_eq_getElem (show k < s.syms.length by omega), h]
theorem Sy.okB_name {x : Sy} (h : nameB x.name = false) : x.okB = false := by simp [Sy.okB, h]
theorem Sy.okB_len {x : Sy} (h : ¬ x.args.length ≤ 2) : x.okB = false := by simp [Sy.okB, h]
theorem Sy.okB_sort {x : Sy} (h : srtB x.sort = false) : x.okB = false := by simp [Sy.okB, h]
theorem Sy.okB_args {x : Sy} (h : x.args.all srtB = false) : x.okB = false := by simp only [Sy.okB, h, Bool.and_false]
theorem Sy.okB_yes {x : Sy} (h1 : nameB x.name = true) (h2 : x.args.length ≤ 2) (h3 : srtB x.sort = true) (h4 : x.args.all srtB = true) : x.okB = true := by simp only [Sy.okB, h1, decide_eq_true h2, h3, h4]; rfl
set_option maxHeartbeats 1000000 in
theorem sigOkS_any (x : Sg) (vs : List Value) (f : List Nat) (w : World) (hv : RdVs w x.cd vs f) :
    Calls Try.prog 32 #[.agg vs.toArray] w fun e w' => e = .returned (.bool x.okB) ∧ Below w.heap.size w w' := by
  obtain ⟨a0, c0, f0, rfl, _, m0⟩ := Sg.open hv
  have hlen := rd_len m0
  go_enter Try.func32, Try.ntmps32
  go_wp2_with fail
  go_loopw [3] (fun i wq => ∃ k : Nat, k ≤ x.syms.length ∧ i = .int .i64 k ∧ Hid (∀ j, j < k → x.okAt j = true) ∧ Below (w.heap.size + 1) (w.alloc (.cells #[.slice a0 x.syms.length c0] 25)) wq) (fun i _ => x.syms.length - (intOf i).toNat)
  case atStart => exact ⟨0, Nat.zero_le _, rfl, Lib.hid (fun j h => by omega), Below.refl _ _⟩
  case round =>
    obtain ⟨k, hkl, rfl, hall, hL⟩ := hrel
    obtain ⟨hxL, hzL, hBL⟩ := box1 hL
    have cx := hxL 0
    simp only [List.getElem?_toArray, List.getElem?_cons_zero, List.getElem?_cons_succ] at cx
    by_cases hlt : k < x.syms.length
    · obtain ⟨b, off, rfl, hbs, _⟩ := rd_addr m0 (by omega)
      have hbz2 : b < wr.heap.size := by omega
      have hz0 : w.heap.size < wr.heap.size := by omega
      obtain ⟨ea1, ec1, ef1, d0, d1, d2, em0, em1, em2, _⟩ := Sy.at (m0.below hBL) hlt
      have hlen2 := rd_len em1
      have hBX := below_box (cs := #[.string x.syms[k].name, .slice ea1 x.syms[k].args.length ec1, .int .i64 x.syms[k].sort]) (T := 95) hBL (by omega)
      have hLX := below_box (cs := #[.string x.syms[k].name, .slice ea1 x.syms[k].args.length ec1, .int .i64 x.syms[k].sort]) (T := 95) hL (by omega)
      have hbox := cell_new wr #[.string x.syms[k].name, .slice ea1 x.syms[k].args.length ec1, .int .i64 x.syms[k].sort] 95
      have hsz : (wr.alloc (.cells #[.string x.syms[k].name, .slice ea1 x.syms[k].args.length ec1, .int .i64 x.syms[k].sort] 95)).heap.size = wr.heap.size + 1 := by simp
      obtain ⟨w2, hw2⟩ : ∃ w2, w2 = wr.alloc (.cells #[.string x.syms[k].name, .slice ea1 x.syms[k].args.length ec1, .int .i64 x.syms[k].sort] 95) := ⟨_, rfl⟩
      have hbw : Below wr.heap.size wr w2 := hw2 ▸ below_alloc _ _
      go_wp2_with fail
      rw [← hw2] at hBX hLX hbox hsz ⊢
      clear hw2
      have n0 := hbox 0
      have n1 := hbox 1
      have n2 := hbox 2
      simp only [List.getElem?_toArray, List.getElem?_cons_zero, List.getElem?_cons_succ] at n0 n1 n2
      have cx2 := cell_keep cx hbw
      cases h1 : nameB x.syms[k].name
      · have HF := Lib.hid (Sg.okB_no hlt (Sg.okAt_bad hlt (Sy.okB_name h1)))
        have q0 := cell_regrown n0
        have q1 := cell_regrown n1
        have q2 := cell_regrown n2
        have qx := cell_regrown cx2
        refine wp_region_quiet_below (by kernel_rfl) (by kernel_rfl) ?_
        repeat (first | go_big_quiet_skip | quiet_step (first | (go_at_call 67; refine Calls.regrown_of ((nameOkS_any _ _ em0).mono (fun e w' h => ⟨h.1, h.2 ▸ Below.refl _ _⟩))) | (go_at_call 68; refine Calls.regrown_of ((l4Sort_any _ _).mono (fun e w' h => ⟨h.1, h.2 ▸ Below.refl _ _⟩)))))
        refine wpQuiet_nil ?_
        intro w3 hw3
        obtain ⟨⟨dq, osq⟩, hw3⟩ := hw3
        have hb3 : Below w2.heap.size w2 w3 := hw3 ▸ below_regrown w2 dq osq
        clear hw3 q0 q1 q2 qx
        go_wp2_with fail
        go_ret
        exact ⟨retB HF.out.symm, hBX.trans (hb3.mono (by omega))⟩
      have H1 := Lib.hid h1
      by_cases h2 : x.syms[k].args.length ≤ 2
      rotate_left
      · have HF := Lib.hid (Sg.okB_no hlt (Sg.okAt_bad hlt (Sy.okB_len h2)))
        have t2 : decide ((2 : Int) < (x.syms[k].args.length : Int)) = true := by simp; omega
        have q0 := cell_regrown n0
        have q1 := cell_regrown n1
        have q2 := cell_regrown n2
        have qx := cell_regrown cx2
        refine wp_region_quiet_below (by kernel_rfl) (by kernel_rfl) ?_
        repeat (first | go_big_quiet_skip | quiet_step (first | (go_at_call 67; refine Calls.regrown_of ((nameOkS_any _ _ em0).mono (fun e w' h => ⟨h.1, h.2 ▸ Below.refl _ _⟩))) | (go_at_call 68; refine Calls.regrown_of ((l4Sort_any _ _).mono (fun e w' h => ⟨h.1, h.2 ▸ Below.refl _ _⟩)))))
        refine wpQuiet_nil ?_
        intro w3 hw3
        obtain ⟨⟨dq, osq⟩, hw3⟩ := hw3
        have hb3 : Below w2.heap.size w2 w3 := hw3 ▸ below_regrown w2 dq osq
        clear hw3 q0 q1 q2 qx
        go_wp2_with fail
        go_ret
        exact ⟨retB HF.out.symm, hBX.trans (hb3.mono (by omega))⟩
      have t2 : decide ((2 : Int) < (x.syms[k].args.length : Int)) = false := by simp; omega
      cases h3 : srtB x.syms[k].sort
      · have HF := Lib.hid (Sg.okB_no hlt (Sg.okAt_bad hlt (Sy.okB_sort h3)))
        have q0 := cell_regrown n0
        have q1 := cell_regrown n1
        have q2 := cell_regrown n2
        have qx := cell_regrown cx2
        refine wp_region_quiet_below (by kernel_rfl) (by kernel_rfl) ?_
        repeat (first | go_big_quiet_skip | quiet_step (first | (go_at_call 67; refine Calls.regrown_of ((nameOkS_any _ _ em0).mono (fun e w' h => ⟨h.1, h.2 ▸ Below.refl _ _⟩))) | (go_at_call 68; refine Calls.regrown_of ((l4Sort_any _ _).mono (fun e w' h => ⟨h.1, h.2 ▸ Below.refl _ _⟩)))))
        refine wpQuiet_nil ?_
        intro w3 hw3
        obtain ⟨⟨dq, osq⟩, hw3⟩ := hw3
        have hb3 : Below w2.heap.size w2 w3 := hw3 ▸ below_regrown w2 dq osq
        clear hw3 q0 q1 q2 qx
        go_wp2_with fail
        go_ret
        exact ⟨retB HF.out.symm, hBX.trans (hb3.mono (by omega))⟩
      have H3 := Lib.hid h3
      rcases Nat.eq_zero_or_pos k with hk0 | hkp
      · subst hk0
        have HFIN : Hid (x.syms[0].args.all srtB = true → x.okAt 0 = true) := Lib.hid (fun h => Sg.okAt_zero hlt (Sy.okB_yes H1.out h2 H3.out h))
        have HALL : Hid (x.okAt 0 = true → ∀ j, j < 0 + 1 → x.okAt j = true) := Lib.hid (fun h j hj => (show j = 0 by omega) ▸ h)
        have q0 := cell_regrown n0
        have q1 := cell_regrown n1
        have q2 := cell_regrown n2
        have qx := cell_regrown cx2
        refine wp_region_quiet_below (by kernel_rfl) (by kernel_rfl) ?_
        repeat (first | go_big_quiet_skip | quiet_step (first | (go_at_call 67; refine Calls.regrown_of ((nameOkS_any _ _ em0).mono (fun e w' h => ⟨h.1, h.2 ▸ Below.refl _ _⟩))) | (go_at_call 68; refine Calls.regrown_of ((l4Sort_any _ _).mono (fun e w' h => ⟨h.1, h.2 ▸ Below.refl _ _⟩)))))
        refine wpQuiet_nil ?_
        intro w3 hw3
        obtain ⟨⟨dq, osq⟩, hw3⟩ := hw3
        have hb3 : Below w2.heap.size w2 w3 := hw3 ▸ below_regrown w2 dq osq
        clear hw3 q0 q1 q2 qx
        go_wp2_with fail
        have n1' := cell_keep n1 hb3
        have em1w := (em1.below hbw).below hb3
        have hL3 := hLX.trans (hb3.mono (by omega))
        have hB3 := hBX.trans (hb3.mono (by omega))
        have hsz3 := hb3.size
        go_loopw [5] (fun i wq => ∃ g : Nat, g ≤ x.syms[0].args.length ∧ i = .int .i64 g ∧ Hid ((x.syms[0].args.take g).all srtB = true) ∧ Below w3.heap.size w3 wq) (fun i _ => x.syms[0].args.length - (intOf i).toNat)
        case atStart => exact ⟨0, Nat.zero_le _, rfl, Lib.hid (by simp), Below.refl _ _⟩
        case round =>
          obtain ⟨g, hgl, rfl, hallg, hM⟩ := hrel
          have gx := cell_keep n1' hM
          have hszm := hM.size
          by_cases hgt : g < x.syms[0].args.length
          · have em1m := em1w.below hM
            obtain ⟨eb, eo, rfl, ebs, _⟩ := rd_addr em1m (by omega)
            obtain ⟨g0, _⟩ := intCd_at em1m hgt
            go_wp2_with fail
            refine (l4Sort_any _ _).mono ?_
            rintro e w5 ⟨rfl, rfl⟩
            cases he : srtB x.syms[0].args[g]
            · have HF := Lib.hid (Sg.okB_no hlt (Sg.okAt_bad hlt (Sy.okB_args (all_no_at hgt he))))
              have he' : (!srtB x.syms[0].args[g]) = true := by rw [he]; rfl
              go_wp2_with fail
              go_ret
              exact ⟨retB HF.out.symm, hB3.trans (hM.mono (by omega))⟩
            · have HE := Lib.hid (all_take_at hgt hallg.out he)
              have he' : (!srtB x.syms[0].args[g]) = false := by rw [he]; rfl
              go_wp2_with fail
              go_roundw
              case rel => exact ⟨g + 1, by omega, by go_num, HE, hM⟩
              case measure => simp [intOf]; omega
          · have HE := Lib.hid (HFIN.out (by have := hallg.out; rwa [List.take_of_length_le (by omega)] at this))
            go_wp2_with fail
            go_roundw
            case rel => exact ⟨0 + 1, by omega, by go_num, Lib.hid (HALL.out HE.out), hL3.trans (hM.mono (by omega))⟩
            case measure => simp [intOf]; omega
      · obtain ⟨j, rfl⟩ : ∃ j, k = j + 1 := ⟨k - 1, by omega⟩
        have hlt1 : j < x.syms.length := by omega
        obtain ⟨_, _, _, p0', _, _, pm0, _⟩ := Sy.at (m0.below hBL) hlt1
        have p0 := cell_keep p0' hbw
        have hge := geq_run 9 x.syms[j].name x.syms[j + 1].name
        have hs1 : IntKind.i64.wrap (j : Int) = (j : Int) := by rw [IntWalk.i64_in _ (by omega)]
        cases hcmp : nmLt x.syms[j].name x.syms[j + 1].name
        · have HF := Lib.hid (Sg.okB_no hlt (Sg.okAt_cmp hlt hcmp))
          rw [hcmp] at hge
          have q0 := cell_regrown n0
          have q1 := cell_regrown n1
          have q2 := cell_regrown n2
          have qx := cell_regrown cx2
          have qp := cell_regrown p0
          refine wp_region_quiet_below (by kernel_rfl) (by kernel_rfl) ?_
          repeat (first | go_big_quiet_skip | quiet_step (first | (go_at_call 67; refine Calls.regrown_of ((nameOkS_any _ _ em0).mono (fun e w' h => ⟨h.1, h.2 ▸ Below.refl _ _⟩))) | (go_at_call 68; refine Calls.regrown_of ((l4Sort_any _ _).mono (fun e w' h => ⟨h.1, h.2 ▸ Below.refl _ _⟩)))))
          refine wpQuiet_nil ?_
          intro w3 hw3
          obtain ⟨⟨dq, osq⟩, hw3⟩ := hw3
          have hb3 : Below w2.heap.size w2 w3 := hw3 ▸ below_regrown w2 dq osq
          clear hw3 q0 q1 q2 qx qp
          go_wp2_with fail
          go_ret
          exact ⟨retB HF.out.symm, hBX.trans (hb3.mono (by omega))⟩
        · have HFIN : Hid (x.syms[j + 1].args.all srtB = true → x.okAt (j + 1) = true) := Lib.hid (fun h => (Sg.okAt_succ hlt (Sy.okB_yes H1.out h2 H3.out h)).trans hcmp)
          have HALL : Hid (x.okAt (j + 1) = true → ∀ i, i < j + 1 + 1 → x.okAt i = true) := Lib.hid (fun h i hi => by
            rcases Nat.lt_or_ge i (j + 1) with h' | h'
            · exact hall.out i h'
            · obtain rfl : i = j + 1 := by omega
              exact h)
          rw [hcmp] at hge
          have q0 := cell_regrown n0
          have q1 := cell_regrown n1
          have q2 := cell_regrown n2
          have qx := cell_regrown cx2
          have qp := cell_regrown p0
          refine wp_region_quiet_below (by kernel_rfl) (by kernel_rfl) ?_
          repeat (first | go_big_quiet_skip | quiet_step (first | (go_at_call 67; refine Calls.regrown_of ((nameOkS_any _ _ em0).mono (fun e w' h => ⟨h.1, h.2 ▸ Below.refl _ _⟩))) | (go_at_call 68; refine Calls.regrown_of ((l4Sort_any _ _).mono (fun e w' h => ⟨h.1, h.2 ▸ Below.refl _ _⟩)))))
          refine wpQuiet_nil ?_
          intro w3 hw3
          obtain ⟨⟨dq, osq⟩, hw3⟩ := hw3
          have hb3 : Below w2.heap.size w2 w3 := hw3 ▸ below_regrown w2 dq osq
          clear hw3 q0 q1 q2 qx qp
          go_wp2_with fail
          have n1' := cell_keep n1 hb3
          have em1w := (em1.below hbw).below hb3
          have hL3 := hLX.trans (hb3.mono (by omega))
          have hB3 := hBX.trans (hb3.mono (by omega))
          have hsz3 := hb3.size
          go_loopw [5] (fun i wq => ∃ g : Nat, g ≤ x.syms[j + 1].args.length ∧ i = .int .i64 g ∧ Hid ((x.syms[j + 1].args.take g).all srtB = true) ∧ Below w3.heap.size w3 wq) (fun i _ => x.syms[j + 1].args.length - (intOf i).toNat)
          case atStart => exact ⟨0, Nat.zero_le _, rfl, Lib.hid (by simp), Below.refl _ _⟩
          case round =>
            obtain ⟨g, hgl, rfl, hallg, hM⟩ := hrel
            have gx := cell_keep n1' hM
            have hszm := hM.size
            by_cases hgt : g < x.syms[j + 1].args.length
            · have em1m := em1w.below hM
              obtain ⟨eb, eo, rfl, ebs, _⟩ := rd_addr em1m (by omega)
              obtain ⟨g0, _⟩ := intCd_at em1m hgt
              go_wp2_with fail
              refine (l4Sort_any _ _).mono ?_
              rintro e w5 ⟨rfl, rfl⟩
              cases he : srtB x.syms[j + 1].args[g]
              · have HF := Lib.hid (Sg.okB_no hlt (Sg.okAt_bad hlt (Sy.okB_args (all_no_at hgt he))))
                have he' : (!srtB x.syms[j + 1].args[g]) = true := by rw [he]; rfl
                go_wp2_with fail
                go_ret
                exact ⟨retB HF.out.symm, hB3.trans (hM.mono (by omega))⟩
              · have HE := Lib.hid (all_take_at hgt hallg.out he)
                have he' : (!srtB x.syms[j + 1].args[g]) = false := by rw [he]; rfl
                go_wp2_with fail
                go_roundw
                case rel => exact ⟨g + 1, by omega, by go_num, HE, hM⟩
                case measure => simp [intOf]; omega
            · have HE := Lib.hid (HFIN.out (by have := hallg.out; rwa [List.take_of_length_le (by omega)] at this))
              go_wp2_with fail
              go_roundw
              case rel => exact ⟨j + 1 + 1, by omega, by go_num, Lib.hid (HALL.out HE.out), hL3.trans (hM.mono (by omega))⟩
              case measure => simp [intOf]; omega
    · have HE := Lib.hid (Sg.okB_all (by omega) hall.out)
      go_wp2_with fail
      go_ret
      exact ⟨retB (by rw [HE.out]; simp; try omega), hBL⟩
end Go.Proofs.Ytlhochahokbonaa
namespace Go.Proofs.Ytlhochahokbonaa
open Go Go.RowKit
set_option linter.unusedVariables false
set_option linter.unusedSimpArgs false
set_option maxHeartbeats 800000
theorem nofp_int {n : Int} : NoFp [.int n] := fun w vs f h => by obtain ⟨v, rfl, h'⟩ := RdVs.one_inv h; exact (rd_int_inv h').2.2
def ToOut (d : CD) (w : World) (e : Ending) (w' : World) : Prop := ∃ kv fp, e = .returned kv ∧ Rd w' d kv fp ∧ Fresh w.heap.size w' fp ∧ Below w.heap.size w w'
def ToOutV (ds : List CD) (w : World) (e : Ending) (w' : World) : Prop := ∃ vs fp, e = .returned (.agg vs.toArray) ∧ RdVs w' ds vs fp ∧ Fresh w.heap.size w' fp ∧ Below w.heap.size w w'
theorem cells_set {w : World} {b : Nat} {cs : Array Value} (h : ∀ j, w.cell? ⟨b, j, none⟩ = cs[j]?) (i : Nat) (v : Value) (hi : i < cs.size := by simp) : ∀ j, (w.setCell ⟨b, i, none⟩ v).cell? ⟨b, j, none⟩ = (cs.setIfInBounds i v)[j]? := by
  intro j
  by_cases hij : i = j
  · subst hij
    rw [World.cell?_setCell_same w _ v ((h i).trans (Array.getElem?_eq_getElem hi)), Array.getElem?_setIfInBounds]
    simp [hi]
  · rw [World.cell?_setCell_other w _ _ v (by simp [hij]), h j, Array.getElem?_setIfInBounds]
    simp [hij]
theorem cells_set_other {w : World} {b b' : Nat} {cs : Array Value} (h : ∀ j, w.cell? ⟨b, j, none⟩ = cs[j]?) (i : Nat) (v : Value) (hne : b' ≠ b) : ∀ j, (w.setCell ⟨b', i, none⟩ v).cell? ⟨b, j, none⟩ = cs[j]? :=
  fun j => (World.cell?_setCell_other w _ _ v (by simp [hne])).trans (h j)
theorem free_later {w1 w2 : World} {b : Nat} (h : ∀ j, w1.frozen? ⟨b, j, none⟩ = false) (hl : b < w1.heap.size) (hb : Below w1.heap.size w1 w2) : ∀ j, w2.frozen? ⟨b, j, none⟩ = false :=
  fun j => (hb.frozen (p := ⟨b, j, none⟩) hl).trans (h j)
theorem free_set {w : World} {b : Nat} (h : ∀ j, w.frozen? ⟨b, j, none⟩ = false) (a : Addr) (v : Value) : ∀ j, (w.setCell a v).frozen? ⟨b, j, none⟩ = false := fun j => by rw [World.frozen?_setCell]; exact h j
/-- From w to w' of what was there the blocks from lo to hi alone have turned. -/
structure Loc (lo hi : Nat) (w w' : World) : Prop where
  os : w'.os = w.os
  tape : w'.tape = w.tape
  output : w'.output = w.output
  size : w.heap.size ≤ w'.heap.size
  block : ∀ k, k < w.heap.size → (k < lo ∨ hi ≤ k) → w'.heap[k]? = w.heap[k]?
theorem Loc.refl (lo hi : Nat) (w : World) : Loc lo hi w w := ⟨rfl, rfl, rfl, Nat.le_refl _, fun _ _ _ => rfl⟩
theorem Loc.set {lo hi : Nat} {w w' : World} (h : Loc lo hi w w') {b i : Nat} {v : Value} (h1 : lo ≤ b) (h2 : b < hi) : Loc lo hi w (w'.setCell ⟨b, i, none⟩ v) :=
  ⟨h.os, h.tape, h.output, by simpa [World.setCell] using h.size, fun k hk hn => (Below.heap_setCell _ _ _ _ (by simp only; omega)).trans (h.block k hk hn)⟩
theorem Loc.below {lo hi : Nat} {w w1 w2 : World} (h : Loc lo hi w w1) (hb : Below w1.heap.size w1 w2) : Loc lo hi w w2 :=
  ⟨hb.os.trans h.os, hb.tape.trans h.tape, hb.output.trans h.output, Nat.le_trans h.size hb.size, fun k hk hn => (hb.block k (Nat.lt_of_lt_of_le hk h.size)).trans (h.block k hk hn)⟩
theorem Loc.toBelow {lo hi : Nat} {w w1 : World} (h : Loc lo hi w w1) {B : Nat} (hB : B ≤ w.heap.size) (hl : B ≤ lo) : Below B w w1 :=
  ⟨h.os, h.tape, h.output, h.size, fun k hk => h.block k (by omega) (.inl (by omega))⟩
theorem Loc.same {lo hi : Nat} {w w1 w0 : World} (h : Loc lo hi w w1) {f : List Nat} (hf : Fresh hi w f) : SameOn f w w1 := fun b hb => h.block b (hf.lt b hb) (.inr (hf.2 b hb).1)
def setAt (b : Nat) : List (Nat × Value) → World → World
  | [], w => w
  | u :: r, w => setAt b r (w.setCell ⟨b, u.1, none⟩ u.2)
def updAll : List (Nat × Value) → List Value → List Value
  | [], l => l
  | u :: r, l => updAll r (l.set u.1 u.2)
theorem cells_sets {b : Nat} : ∀ (ups : List (Nat × Value)) {w : World} {l : List Value}, (∀ j, w.cell? ⟨b, j, none⟩ = (l.toArray)[j]?) → (∀ u ∈ ups, u.1 < l.length) → ∀ j, (setAt b ups w).cell? ⟨b, j, none⟩ = ((updAll ups l).toArray)[j]?
  | [], _, _, h, _ => h
  | u :: r, w, l, h, hu => by
    have h1 := cells_set h u.1 u.2 (by simpa using hu u (List.mem_cons_self ..))
    rw [List.setIfInBounds_toArray] at h1
    exact cells_sets r h1 (fun x hx => by rw [List.length_set]; exact hu x (List.mem_cons_of_mem _ hx))
theorem cells_sets_other {b b' : Nat} {cs : Array Value} (hne : b' ≠ b) : ∀ (ups : List (Nat × Value)) {w : World}, (∀ j, w.cell? ⟨b, j, none⟩ = cs[j]?) → ∀ j, (setAt b' ups w).cell? ⟨b, j, none⟩ = cs[j]?
  | [], _, h => h
  | u :: r, w, h => cells_sets_other hne r (cells_set_other h u.1 u.2 hne)
theorem free_sets {b b' : Nat} : ∀ (ups : List (Nat × Value)) {w : World}, (∀ j, w.frozen? ⟨b, j, none⟩ = false) → ∀ j, (setAt b' ups w).frozen? ⟨b, j, none⟩ = false
  | [], _, h => h
  | u :: r, w, h => free_sets r (free_set h _ _)
theorem Loc.sets {lo hi b : Nat} {w : World} (h1 : lo ≤ b) (h2 : b < hi) : ∀ (ups : List (Nat × Value)) {w' : World}, Loc lo hi w w' → Loc lo hi w (setAt b ups w')
  | [], _, h => h
  | u :: r, w', h => Loc.sets h1 h2 r (h.set h1 h2)
theorem slTyIntS : SlTy Try.prog 29 3 (.int .i64 0) 1 8 := ⟨Try.underlying29, by kernel_rfl, rfl, by omega⟩
theorem slTyBoolS : SlTy Try.prog 44 4 (.bool false) 1 1 := ⟨Try.underlying44, by kernel_rfl, rfl, by omega⟩
theorem slTySymS : SlTy Try.prog 23 95 (.agg #[.string ByteArray.empty, .slice none 0 0, .int .i64 0]) 3 48 := ⟨Try.underlying23, by kernel_rfl, rfl, by omega⟩
theorem slTyAtomS : SlTy Try.prog 74 31 (.agg #[.int .i64 0, .string ByteArray.empty, .slice none 0 0, .string ByteArray.empty, .slice none 0 0, .slice none 0 0, .slice none 0 0, .int .i64 0, .bool false]) 9 152 := ⟨Try.underlying74, by kernel_rfl, rfl, by omega⟩
theorem slTyLitS : SlTy Try.prog 138 37 (.agg #[.int .i64 0, .string ByteArray.empty, .slice none 0 0, .string ByteArray.empty, .slice none 0 0, .slice none 0 0, .slice none 0 0, .int .i64 0, .bool false, .bool false]) 10 160 := ⟨Try.underlying138, by kernel_rfl, rfl, by omega⟩
theorem slTyFormS : SlTy Try.prog 41 43 (.agg #[.int .i64 0, .int .i64 0, .string ByteArray.empty, .slice none 0 0, .string ByteArray.empty, .slice none 0 0, .slice none 0 0, .slice none 0 0, .int .i64 0, .bool false, .bool false, .slice none 0 0]) 12 192 := ⟨Try.underlying41, by kernel_rfl, rfl, by omega⟩
end Go.Proofs.Ytlhochahokbonaa
