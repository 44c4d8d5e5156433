/- Terms more: the reference's test; what a valid list of equations gives, plain. -/
import Derived.Deep.RegionHeld3
import Derived.Test.YtblbommhodondaaCloT
import Derived.Test.YtblbommhodondaaEqs2
namespace Go.Proofs.Ytblbommhodondaa
open Go Go.RowKit
set_option linter.unusedVariables false
set_option linter.unusedSimpArgs false

/-- The parts of equations and of terms more. -/
def moreP (es : List Eqn) (ms : List Tm) : List Tm := Tm.addPs [] (sidesP es ++ ms)
theorem moreP_ord (es : List Eqn) (ms : List Tm) : Tm.Ord (moreP es ms) := Tm.addPs_ord _ _ Tm.Ord.nil
theorem moreP_mem {es : List Eqn} {ms : List Tm} {t : Tm} (h : t ∈ sidesP es ++ ms) : t ∈ moreP es ms := by
  have := (Tm.allIns_iff (moreP es ms) (sidesP es ++ ms)).1 (Tm.addPs_all _ _) t h
  rw [Tm.allIn_eq] at this
  exact this.1
theorem moreP_eqs (es : List Eqn) (ms : List Tm) : ∀ e ∈ es, e.a ∈ moreP es ms ∧ e.b ∈ moreP es ms := fun e he =>
  ⟨moreP_mem (List.mem_append_left _ (List.mem_flatMap.2 ⟨e, he, by simp⟩)), moreP_mem (List.mem_append_left _ (List.mem_flatMap.2 ⟨e, he, by simp⟩))⟩
theorem moreP_len (es : List Eqn) (ms : List Tm) : (moreP es ms).length ≤ Tm.sizes (sidesP es ++ ms) := by
  have := Tm.addPs_len (sidesP es ++ ms) []
  simpa [moreP] using this
namespace Clo
theorem given_good {ps : List Tm} : ∀ (es : List Eqn) (n : Nat) (c : List Nat) (st : List Stp), (∀ e ∈ es, e.a ∈ ps ∧ e.b ∈ ps) → Good ps.length c → Good ps.length (given ps es n c st).1
  | [], _, _, _, _, h => h
  | e :: es, n, c, st, hin, h => by
    have h1 := hin e (by simp)
    have h2 : ∀ x ∈ es, x.a ∈ ps ∧ x.b ∈ ps := fun x hx => hin x (by simp [hx])
    unfold given
    split
    · exact given_good es _ _ _ h2 h
    · exact given_good es _ _ _ h2 (h.join (Tm.pos_yes h1.1).1 (Tm.pos_yes h1.2).1)
theorem run_good {ps : List Tm} : ∀ (f : Nat) (c : List Nat) (st : List Stp), Good ps.length c → Good ps.length (run ps f c st).1
  | 0, _, _, h => h
  | f + 1, c, st, h => by
    unfold run
    cases hn : next ps c with
    | none => exact h
    | some p =>
      obtain ⟨k, i⟩ := p
      obtain ⟨h1, h2, h3⟩ := next_spec hn
      exact run_good f _ _ (h.join (by omega) h2)
theorem close_good {ps : List Tm} {es : List Eqn} (hin : ∀ e ∈ es, e.a ∈ ps ∧ e.b ∈ ps) : Good ps.length (close ps es).1 := by
  rw [close_eq]
  exact run_good _ _ _ (given_good _ _ _ _ hin (Good.start _))
end Clo
/-- The classes, the steps. -/
def cloC (es : List Eqn) (ms : List Tm) : List Nat := (Clo.close (moreP es ms) es).1
def cloS (es : List Eqn) (ms : List Tm) : List Stp := (Clo.close (moreP es ms) es).2
theorem cloC_good (es : List Eqn) (ms : List Tm) : Clo.Good (moreP es ms).length (cloC es ms) := Clo.close_good (moreP_eqs es ms)
def AllSrt (s : Sg) (ms : List Tm) (k : Nat) : Prop := ∀ j, j < k → ∀ (hj : j < ms.length), (ms[j].tsrt s).isSome = true
theorem AllSrt.succ {s : Sg} {ms : List Tm} {k : Nat} (h : AllSrt s ms k) (hk : k < ms.length) (h' : (ms[k].tsrt s).isSome = true) : AllSrt s ms (k + 1) := fun j hj hl => by
  rcases Nat.lt_or_ge j k with h1 | h1
  · exact h j h1 hl
  · obtain rfl : j = k := by omega
    exact h'
theorem AllSrt.all {s : Sg} {ms : List Tm} {k : Nat} (h : AllSrt s ms k) (hk : ms.length ≤ k) : ms.all (fun t => (t.tsrt s).isSome) = true := by
  rw [List.all_eq_true]
  intro t ht
  obtain ⟨j, hj, rfl⟩ := List.getElem_of_mem ht
  exact h j (by omega) hj
theorem moreB_no {s : Sg} {es : List Eqn} {ms : List Tm} {k : Nat} (hk : k < ms.length) (h : (ms[k].tsrt s).isSome = false) : moreB s es ms = false := by
  have : ms.all (fun t => (t.tsrt s).isSome) = false := by
    rw [Bool.eq_false_iff]; intro h'; rw [List.all_eq_true] at h'
    have := h' ms[k] (List.getElem_mem hk)
    rw [h] at this; simp at this
  simp [moreB, this]
theorem moreB_rest {s : Sg} {es : List Eqn} {ms : List Tm} {k : Nat} (hk : ms.length ≤ k) (h : AllSrt s ms k) : moreB s es ms = (eqsB s es && decide ((moreP es ms).length ≤ 24)) := by
  unfold moreB moreP; rw [h.all hk]; simp
theorem eqsB_len12 {s : Sg} {es : List Eqn} (h : eqsB s es = true) : es.length ≤ 12 := by
  simp only [eqsB, Bool.and_eq_true, decide_eq_true_eq] at h; exact h.2.1
theorem moreB_yes {s : Sg} {es : List Eqn} {ms : List Tm} (h : moreB s es ms = true) : es.length ≤ 12 ∧ (moreP es ms).length ≤ 24 := by
  simp only [moreB, Bool.and_eq_true, decide_eq_true_eq] at h
  exact ⟨eqsB_len12 h.1, h.2.2⟩
set_option maxHeartbeats 2000000 in
theorem l5More_any (s : Sg) (es : List Eqn) (ms : List Tm) (vs : List Value) (v v2 : Value) (f f' f2 : List Nat) (w : World) (hbig : Tm.sizes (sidesP es ++ ms) ≤ 1000000000) (hv : RdVs w s.cd vs f) (hx : Rd w (.sl (es.map Eqn.cd)) v f') (h2 : Rd w (.sl (ms.map Tm.cd)) v2 f2) :
    Calls Try.prog 49 #[.agg vs.toArray, v, v2] w fun e w' => e = .returned (.bool (moreB s es ms)) ∧ Below w.heap.size w w' := by
  obtain ⟨a0, c0, f0, rfl, _, m0⟩ := Sg.open hv
  obtain ⟨a, cap, rfl, hc1, hc2⟩ := rd_sl_inv hx
  obtain ⟨a2, cap2, rfl, hc3, hc4⟩ := rd_sl_inv h2
  have hbs := hbig
  rw [Tm.sizes_append] at hbs
  go_enter Try.func49, Try.ntmps49
  go_wp2_with fail
  go_loopw [7] (fun i wq => ∃ k : Nat, k ≤ ms.length ∧ i = .int .i64 k ∧ Hid (AllSrt s ms k) ∧ wq.cell? ⟨w.heap.size, 0, none⟩ = some (.slice a0 s.syms.length c0) ∧ w.heap.size < wq.heap.size ∧ Below w.heap.size w wq) (fun i _ => ms.length - (intOf i).toNat)
  case atStart => exact ⟨0, Nat.zero_le _, rfl, Lib.hid (fun j hj => by omega), by simp, by simp, below_alloc _ _⟩
  case round =>
    obtain ⟨k, hkl, rfl, hall, cx, hz3, hBM⟩ := hrel
    by_cases hlt : k < ms.length
    · obtain ⟨b, off, rfl, hbs2, _⟩ := rd_addr h2 (by omega)
      have hbz : b < wr.heap.size := by omega
      obtain ⟨b1, e1, g1, d0, d1, t0, t1, _⟩ := Tm.at (h2.below hBM) hlt
      have hvM := hv.below hBM
      have ha1 := Tm.size_mem (List.getElem_mem hlt)
      go_wp2_with fail
      go_region_held3 (fun W => W.cell? ⟨w.heap.size, 0, none⟩ = some (.slice a0 s.syms.length c0) ∧ W.cell? ⟨b, off + k * 2, none⟩ = some (.string ms[k].name) ∧ W.cell? ⟨b, off + k * 2 + 1, none⟩ = some (.slice b1 ms[k].kids.length e1))
        (first | exact ⟨cx, d0, d1⟩ | exact ⟨cell_keep cx (below_undrew' hb4), cell_keep d0 (below_undrew' hb4), cell_keep d1 (below_undrew' hb4)⟩)
        (first | (go_at_call 85; (with_reducible refine (termSortS_any s ms[k] (by omega) _ _ _ _ _ (by exact hvM.below (below_drew _)) (by exact (Tm.rdv t0 t1).below (below_drew _))).mono ?_); rintro e w4 ⟨rfl, hb4⟩))
      have hB4 := hBM.trans ((below_undrew' hb4).mono hBM.size)
      have hz4 := (below_undrew' hb4).size
      have cx4 := cell_keep cx (below_undrew' hb4)
      have hz5 : w.heap.size < w4.heap.size := by omega
      clear hb4 d0 d1 cx
      cases ho : ms[k].tsrt s with
      | none =>
        have HF := Lib.hid (moreB_no (es := es) hlt (by rw [ho]; rfl))
        clear ho
        simp only [Option.getD_none, Option.isSome_none]
        go_wp2_with fail
        go_ret
        exact ⟨retB HF.out.symm, hB4⟩
      | some m =>
        have HE := Lib.hid (hall.out.succ hlt (by rw [ho]; rfl))
        clear ho
        simp only [Option.getD_some, Option.isSome_some]
        go_wp2_with fail
        go_roundw
        case rel => exact ⟨k + 1, by omega, by go_num, HE, cx4, hz5, hB4⟩
        case measure => simp [intOf]; omega
    · have HF := Lib.hid (moreB_rest (es := es) (by omega) hall.out)
      have hlp := moreP_len es ms
      go_wp2_with fail
      refine (eqsOkS_any s es _ _ _ _ _ (by omega) (hv.below hBM) (hx.below hBM)).mono ?_
      rintro e w4 ⟨rfl, hb4⟩
      have hB4 := hBM.trans (hb4.mono hBM.size)
      clear hb4
      cases h1 : eqsB s es
      · have HG : Hid (moreB s es ms = false) := Lib.hid (by rw [HF.out, h1]; rfl)
        clear h1
        go_wp2_with fail
        go_ret
        exact ⟨retB HG.out.symm, hB4⟩
      have HG : Hid (moreB s es ms = decide ((moreP es ms).length ≤ 24)) := Lib.hid (by rw [HF.out, h1]; rfl)
      clear h1
      go_wp2_with fail
      refine (l5Parts_any es ms _ _ _ _ _ hbig (hx.below hB4) (h2.below hB4)).mono ?_
      rintro e w5 ⟨⟨rv, fp, rfl, hr, _⟩, hb5⟩
      have hB5 := hB4.trans (hb5.mono hB4.size)
      change Rd w5 (.sl ((moreP es ms).map Tm.cd)) rv fp at hr
      obtain ⟨ra, rc, rfl, hrc1, hrc2⟩ := rd_sl_inv hr
      clear hb5 hr
      go_wp2_with fail
      go_ret
      exact ⟨retB (by rw [HG.out, Bool.eq_iff_iff]; simp only [decide_eq_true_eq]; omega), hB5⟩
end Go.Proofs.Ytblbommhodondaa
