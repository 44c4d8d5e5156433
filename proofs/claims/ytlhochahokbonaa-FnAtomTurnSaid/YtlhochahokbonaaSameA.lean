/- slices.Equal and slices.EqualFunc. -/
import Derived.Test.YtlhochahokbonaaSameLib
import Derived.Test.YtlhochahokbonaaExLib
namespace Go.Proofs.Ytlhochahokbonaa
open Go Go.RowKit
set_option linter.unusedVariables false
set_option linter.unusedSimpArgs false


theorem Tm.eqv (x y : Tm) : eqV x.cd y.cd = (decide (x.name = y.name) && eqR (x.kids.map Tm.cd) (y.kids.map Tm.cd)) := by
  rw [Tm.cd_app x, Tm.cd_app y]
  rw [eqV_app (by simp)]
  simp only [eqV_int, eqV_str, eqV_bool, eqV_sl, ← Bool.beq_eq_decide_eq, ← int_beq]
theorem Tm.eqv_name {x y : Tm} (h : decide (x.name = y.name) = false) : eqV x.cd y.cd = false := by rw [Tm.eqv]; simp [h]
theorem Tm.eqv_kids {x y : Tm} (h : eqR (x.kids.map Tm.cd) (y.kids.map Tm.cd) = false) : eqV x.cd y.cd = false := by rw [Tm.eqv]; simp [h]
theorem Sy.eqv (x y : Sy) : eqV x.cd y.cd = (decide (x.name = y.name) && (eqR (x.args.map intCd) (y.args.map intCd) && (x.sort == y.sort))) := by
  unfold Sy.cd
  rw [eqV_app (by simp)]
  rw [eqV_app (by simp)]
  simp only [eqV_int, eqV_str, eqV_bool, eqV_sl, ← Bool.beq_eq_decide_eq, ← int_beq]
theorem Sy.eqv_name {x y : Sy} (h : decide (x.name = y.name) = false) : eqV x.cd y.cd = false := by rw [Sy.eqv]; simp [h]
theorem Sy.eqv_args {x y : Sy} (h : eqR (x.args.map intCd) (y.args.map intCd) = false) : eqV x.cd y.cd = false := by rw [Sy.eqv]; simp [h]
theorem Sy.eqv_sort {x y : Sy} (h : (x.sort == y.sort) = false) : eqV x.cd y.cd = false := by rw [Sy.eqv]; simp [h]
theorem Sg.eqv (x y : Sg) : eqV x.cd y.cd = eqR (x.syms.map Sy.cd) (y.syms.map Sy.cd) := by
  unfold Sg.cd
  simp only [eqV_int, eqV_str, eqV_bool, eqV_sl, ← Bool.beq_eq_decide_eq, ← int_beq]
theorem Sg.eqv_syms {x y : Sg} (h : eqR (x.syms.map Sy.cd) (y.syms.map Sy.cd) = false) : eqV x.cd y.cd = false := by rw [Sg.eqv]; simp [h]
theorem Wy.eqv (x y : Wy) : eqV x.cd y.cd = ((x.rule == y.rule) && ((x.n == y.n) && (eqV x.t.cd y.t.cd && eqR (x.kids.map Wy.cd) (y.kids.map Wy.cd)))) := by
  rw [Wy.cd_eq x, Wy.cd_eq y]
  rw [eqV_app (by simp)]
  rw [eqV_app (by simp)]
  rw [eqV_app (by simp [Tm.cd_len])]
  simp only [eqV_int, eqV_str, eqV_bool, eqV_sl, ← Bool.beq_eq_decide_eq, ← int_beq]
theorem Wy.eqv_rule {x y : Wy} (h : (x.rule == y.rule) = false) : eqV x.cd y.cd = false := by rw [Wy.eqv]; simp [h]
theorem Wy.eqv_n {x y : Wy} (h : (x.n == y.n) = false) : eqV x.cd y.cd = false := by rw [Wy.eqv]; simp [h]
theorem Wy.eqv_t {x y : Wy} (h : eqV x.t.cd y.t.cd = false) : eqV x.cd y.cd = false := by rw [Wy.eqv]; simp [h]
theorem Wy.eqv_kids {x y : Wy} (h : eqR (x.kids.map Wy.cd) (y.kids.map Wy.cd) = false) : eqV x.cd y.cd = false := by rw [Wy.eqv]; simp [h]
theorem Atm.eqv (x y : Atm) : eqV x.cd y.cd = ((x.kind == y.kind) && (eqV x.a.cd y.a.cd && (eqV x.b.cd y.b.cd && (eqR (x.nums.map Tm.cd) (y.nums.map Tm.cd) && (eqR (x.times.map intCd) (y.times.map intCd) && ((x.bound == y.bound) && (x.strict == y.strict))))))) := by
  unfold Atm.cd
  rw [eqV_app (by simp)]
  rw [eqV_app (by simp [Tm.cd_len])]
  rw [eqV_app (by simp [Tm.cd_len])]
  rw [eqV_app (by simp)]
  rw [eqV_app (by simp)]
  rw [eqV_app (by simp)]
  simp only [eqV_int, eqV_str, eqV_bool, eqV_sl, ← Bool.beq_eq_decide_eq, ← int_beq]
theorem Atm.eqv_kind {x y : Atm} (h : (x.kind == y.kind) = false) : eqV x.cd y.cd = false := by rw [Atm.eqv]; simp [h]
theorem Atm.eqv_a {x y : Atm} (h : eqV x.a.cd y.a.cd = false) : eqV x.cd y.cd = false := by rw [Atm.eqv]; simp [h]
theorem Atm.eqv_b {x y : Atm} (h : eqV x.b.cd y.b.cd = false) : eqV x.cd y.cd = false := by rw [Atm.eqv]; simp [h]
theorem Atm.eqv_nums {x y : Atm} (h : eqR (x.nums.map Tm.cd) (y.nums.map Tm.cd) = false) : eqV x.cd y.cd = false := by rw [Atm.eqv]; simp [h]
theorem Atm.eqv_times {x y : Atm} (h : eqR (x.times.map intCd) (y.times.map intCd) = false) : eqV x.cd y.cd = false := by rw [Atm.eqv]; simp [h]
theorem Atm.eqv_bound {x y : Atm} (h : (x.bound == y.bound) = false) : eqV x.cd y.cd = false := by rw [Atm.eqv]; simp [h]
theorem Atm.eqv_strict {x y : Atm} (h : (x.strict == y.strict) = false) : eqV x.cd y.cd = false := by rw [Atm.eqv]; simp [h]
theorem Lt.eqv (x y : Lt) : eqV x.cd y.cd = (eqV x.atom.cd y.atom.cd && (x.no == y.no)) := by
  unfold Lt.cd
  rw [eqV_app (by simp [Atm.cd_len])]
  simp only [eqV_int, eqV_str, eqV_bool, eqV_sl, ← Bool.beq_eq_decide_eq, ← int_beq]
theorem Lt.eqv_atom {x y : Lt} (h : eqV x.atom.cd y.atom.cd = false) : eqV x.cd y.cd = false := by rw [Lt.eqv]; simp [h]
theorem Lt.eqv_no {x y : Lt} (h : (x.no == y.no) = false) : eqV x.cd y.cd = false := by rw [Lt.eqv]; simp [h]
theorem Fm.eqv (x y : Fm) : eqV x.cd y.cd = ((x.kind == y.kind) && (eqV x.lit.atom.cd y.lit.atom.cd && ((x.lit.no == y.lit.no) && eqR (x.kids.map Fm.cd) (y.kids.map Fm.cd)))) := by
  rw [Fm.cd_eq x, Fm.cd_eq y]
  simp only [Lt.cd, List.append_assoc]
  rw [eqV_app (by simp)]
  rw [eqV_app (by simp [Atm.cd_len])]
  rw [eqV_app (by simp)]
  simp only [eqV_int, eqV_str, eqV_bool, eqV_sl, ← Bool.beq_eq_decide_eq, ← int_beq]
theorem Fm.eqv_kind {x y : Fm} (h : (x.kind == y.kind) = false) : eqV x.cd y.cd = false := by rw [Fm.eqv]; simp [h]
theorem Fm.eqv_lit_atom {x y : Fm} (h : eqV x.lit.atom.cd y.lit.atom.cd = false) : eqV x.cd y.cd = false := by rw [Fm.eqv]; simp [h]
theorem Fm.eqv_lit_no {x y : Fm} (h : (x.lit.no == y.lit.no) = false) : eqV x.cd y.cd = false := by rw [Fm.eqv]; simp [h]
theorem Fm.eqv_kids {x y : Fm} (h : eqR (x.kids.map Fm.cd) (y.kids.map Fm.cd) = false) : eqV x.cd y.cd = false := by rw [Fm.eqv]; simp [h]
theorem Cs.eqv (x y : Cs) : eqV x.cd y.cd = ((x.kind == y.kind) && ((x.n == y.n) && (eqV x.why.cd y.why.cd && (eqR (x.times.map intCd) (y.times.map intCd) && (eqV x.a.cd y.a.cd && (eqV x.b.cd y.b.cd && eqR (x.kids.map Cs.cd) (y.kids.map Cs.cd))))))) := by
  rw [Cs.cd_eq x, Cs.cd_eq y]
  rw [eqV_app (by simp)]
  rw [eqV_app (by simp)]
  rw [eqV_app (by simp [Wy.cd_len])]
  rw [eqV_app (by simp)]
  rw [eqV_app (by simp [Tm.cd_len])]
  rw [eqV_app (by simp [Tm.cd_len])]
  simp only [eqV_int, eqV_str, eqV_bool, eqV_sl, ← Bool.beq_eq_decide_eq, ← int_beq]
theorem Cs.eqv_kind {x y : Cs} (h : (x.kind == y.kind) = false) : eqV x.cd y.cd = false := by rw [Cs.eqv]; simp [h]
theorem Cs.eqv_n {x y : Cs} (h : (x.n == y.n) = false) : eqV x.cd y.cd = false := by rw [Cs.eqv]; simp [h]
theorem Cs.eqv_why {x y : Cs} (h : eqV x.why.cd y.why.cd = false) : eqV x.cd y.cd = false := by rw [Cs.eqv]; simp [h]
theorem Cs.eqv_times {x y : Cs} (h : eqR (x.times.map intCd) (y.times.map intCd) = false) : eqV x.cd y.cd = false := by rw [Cs.eqv]; simp [h]
theorem Cs.eqv_a {x y : Cs} (h : eqV x.a.cd y.a.cd = false) : eqV x.cd y.cd = false := by rw [Cs.eqv]; simp [h]
theorem Cs.eqv_b {x y : Cs} (h : eqV x.b.cd y.b.cd = false) : eqV x.cd y.cd = false := by rw [Cs.eqv]; simp [h]
theorem Cs.eqv_kids {x y : Cs} (h : eqR (x.kids.map Cs.cd) (y.kids.map Cs.cd) = false) : eqV x.cd y.cd = false := by rw [Cs.eqv]; simp [h]
theorem Lm.eqv (x y : Lm) : eqV x.cd y.cd = (eqR (x.marks.map intCd) (y.marks.map intCd) && eqV x.case.cd y.case.cd) := by
  unfold Lm.cd
  rw [eqV_app (by simp)]
  simp only [eqV_int, eqV_str, eqV_bool, eqV_sl, ← Bool.beq_eq_decide_eq, ← int_beq]
theorem Lm.eqv_marks {x y : Lm} (h : eqR (x.marks.map intCd) (y.marks.map intCd) = false) : eqV x.cd y.cd = false := by rw [Lm.eqv]; simp [h]
theorem Lm.eqv_case {x y : Lm} (h : eqV x.case.cd y.case.cd = false) : eqV x.cd y.cd = false := by rw [Lm.eqv]; simp [h]
theorem Pp.eqv (x y : Pp) : eqV x.cd y.cd = (eqR (x.lemmas.map Lm.cd) (y.lemmas.map Lm.cd) && eqR (x.log.map intsCd) (y.log.map intsCd)) := by
  unfold Pp.cd
  rw [eqV_app (by simp)]
  simp only [eqV_int, eqV_str, eqV_bool, eqV_sl, ← Bool.beq_eq_decide_eq, ← int_beq]
theorem Pp.eqv_lemmas {x y : Pp} (h : eqR (x.lemmas.map Lm.cd) (y.lemmas.map Lm.cd) = false) : eqV x.cd y.cd = false := by rw [Pp.eqv]; simp [h]
theorem Pp.eqv_log {x y : Pp} (h : eqR (x.log.map intsCd) (y.log.map intsCd) = false) : eqV x.cd y.cd = false := by rw [Pp.eqv]; simp [h]
theorem Stk.eqv (x y : Stk) : eqV x.cd y.cd = (eqV x.sig.cd y.sig.cd && eqR (x.levels.map fmsCd) (y.levels.map fmsCd)) := by
  unfold Stk.cd
  rw [eqV_app (by simp [Sg.cd_len])]
  simp only [eqV_int, eqV_str, eqV_bool, eqV_sl, ← Bool.beq_eq_decide_eq, ← int_beq]
theorem Stk.eqv_sig {x y : Stk} (h : eqV x.sig.cd y.sig.cd = false) : eqV x.cd y.cd = false := by rw [Stk.eqv]; simp [h]
theorem Stk.eqv_levels {x y : Stk} (h : eqR (x.levels.map fmsCd) (y.levels.map fmsCd) = false) : eqV x.cd y.cd = false := by rw [Stk.eqv]; simp [h]
theorem equalInts_x (xs ys : List Int) (v u : Value) (f f' : List Nat) (w : World) (hv : Rd w (.sl (xs.map intCd)) v f) (hx : Rd w (.sl (ys.map intCd)) u f') :
    Calls Try.prog 38 #[v, u] w fun e w' => e = .returned (.bool (eqR (xs.map intCd) (ys.map intCd))) ∧ Below w.heap.size w w' := by
  obtain ⟨a, c, rfl, hc1, hc2⟩ := rd_sl_inv hv
  obtain ⟨a', c', rfl, hc1', hc2'⟩ := rd_sl_inv hx
  by_cases hl : xs.length = ys.length
  · have hlb : ((xs.length : Int) != (ys.length : Int)) = false := by rw [hl]; simp
    have hl1 : xs.length ≤ ys.length := by omega
    have hl2 : ys.length ≤ xs.length := by omega
    clear hl
    go_enter Try.func38, Try.ntmps38
    go_wp2_with fail
    go_loopw [13] (fun i wr => ∃ k : Nat, k ≤ xs.length ∧ i = .int .i64 k ∧ Hid (Alike intCd xs ys k) ∧ Below w.heap.size w wr) (fun i _ => xs.length - (intOf i).toNat)
    case atStart => exact ⟨0, Nat.zero_le _, rfl, Lib.hid Alike.zero, Below.refl _ _⟩
    case round =>
      obtain ⟨k, hkl, rfl, hall, hb⟩ := hrel
      have hz := hb.size
      by_cases hlt : k < xs.length
      · obtain ⟨b, off, rfl, hbs, _⟩ := rd_addr hv (by omega)
        obtain ⟨b', off', rfl, hbs', _⟩ := rd_addr hx (by omega)
        have hlt' : k < ys.length := by omega
        obtain ⟨d0, _⟩ := intCd_at (hv.below hb) hlt
        obtain ⟨d0', _⟩ := intCd_at (hx.below hb) hlt'
        by_cases he : xs[k] = ys[k]
        · have HE : Hid (eqV (intCd xs[k]) (intCd ys[k]) = true) := by rw [he]; exact eqV_self _
          have hne : (xs[k] != ys[k]) = false := by rw [he]; simp
          clear he
          go_wp2_with fail
          have q0 := cell_regrown d0
          have q0' := cell_regrown d0'
          refine wp_region_quiet_below (by kernel_rfl) (by kernel_rfl) ?_
          repeat (quiet_step (fail))
          refine wpQuiet_nil ?_
          intro w2 hw2
          obtain ⟨⟨dq, osq⟩, hw2⟩ := hw2
          have hb2 : Below wr.heap.size wr w2 := hw2 ▸ below_regrown wr dq osq
          clear hw2 q0 q0'
          go_wp2_with fail
          go_roundw
          case rel => exact ⟨k + 1, by omega, by go_num, hall.out.succ hlt hlt' HE.out, hb.trans (hb2.mono (by omega))⟩
          case measure => simp [intOf]; omega
        · have HE : Hid (eqV (intCd xs[k]) (intCd ys[k]) = false) := Lib.hid (eqV_no (by simpa [intCd] using he))
          have hne : (xs[k] != ys[k]) = true := by rw [bne_iff_ne]; exact he
          go_wp2_with fail
          have q0 := cell_regrown d0
          have q0' := cell_regrown d0'
          refine wp_region_quiet_below (by kernel_rfl) (by kernel_rfl) ?_
          repeat (quiet_step (fail))
          refine wpQuiet_nil ?_
          intro w2 hw2
          obtain ⟨⟨dq, osq⟩, hw2⟩ := hw2
          have hb2 : Below wr.heap.size wr w2 := hw2 ▸ below_regrown wr dq osq
          clear hw2 q0 q0'
          go_wp2_with fail
          go_ret
          exact ⟨retB (unlike_at hlt hlt' HE.out).symm, hb.trans (hb2.mono (by omega))⟩
      · go_wp2_with fail
        go_ret
        exact ⟨retB (hall.out.all (by omega) (by omega)).symm, hb⟩
  · have hlb : ((xs.length : Int) != (ys.length : Int)) = true := by rw [bne_iff_ne]; omega
    have HF := Lib.hid (eqR_len (cd := intCd) hl)
    clear hl
    go_enter Try.func38, Try.ntmps38
    go_wp2_with fail
    go_ret
    exact ⟨retB HF.out.symm, Below.refl _ _⟩
end Go.Proofs.Ytlhochahokbonaa
