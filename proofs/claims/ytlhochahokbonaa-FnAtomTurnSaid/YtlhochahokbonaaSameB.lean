/- slices.EqualFunc. -/
import Derived.Test.YtlhochahokbonaaSameA
namespace Go.Proofs.Ytlhochahokbonaa
open Go Go.RowKit
set_option linter.unusedVariables false
set_option linter.unusedSimpArgs false


theorem equalFm_f (xs ys : List Fm) (hq : ∀ x ∈ xs, ∀ (y : Fm) (vs us : List Value) (f f' : List Nat) (w : World), RdVs w x.cd vs f → RdVs w y.cd us f' → Calls Try.prog 20 #[.agg vs.toArray, .agg us.toArray] w fun e w' => e = .returned (.bool (eqV x.cd y.cd)) ∧ Below w.heap.size w w')
    (v u : Value) (f f' : List Nat) (w : World) (hv : Rd w (.sl (xs.map Fm.cd)) v f) (hx : Rd w (.sl (ys.map Fm.cd)) u f') :
    Calls Try.prog 55 #[v, u, .func (.func 20) #[] #[]] w fun e w' => e = .returned (.bool (eqR (xs.map Fm.cd) (ys.map Fm.cd))) ∧ Below w.heap.size w w' := by
  obtain ⟨a, c, rfl, hc1, hc2⟩ := rd_sl_inv hv
  obtain ⟨a', c', rfl, hc1', hc2'⟩ := rd_sl_inv hx
  have HQ := Lib.hid hq
  clear hq
  by_cases hl : xs.length = ys.length
  · have hlb : ((xs.length : Int) != (ys.length : Int)) = false := by rw [hl]; simp
    have hl1 : xs.length ≤ ys.length := by omega
    have hl2 : ys.length ≤ xs.length := by omega
    clear hl
    go_enter Try.func55, Try.ntmps55
    go_wp2_with fail
    go_loopw [17] (fun i wr => ∃ k : Nat, k ≤ xs.length ∧ i = .int .i64 k ∧ Hid (Alike Fm.cd xs ys k) ∧ Below w.heap.size w wr) (fun i _ => xs.length - (intOf i).toNat)
    case atStart => exact ⟨0, Nat.zero_le _, rfl, Lib.hid Alike.zero, Below.refl _ _⟩
    case round =>
      obtain ⟨k, hkl, rfl, hall, hb⟩ := hrel
      have hz := hb.size
      by_cases hlt : k < xs.length
      · obtain ⟨b, off, rfl, hbs, _⟩ := rd_addr hv (by omega)
        obtain ⟨b', off', rfl, hbs', _⟩ := rd_addr hx (by omega)
        have hlt' : k < ys.length := by omega
        obtain ⟨a3, c3, f3, a5, c5, f5, a6, c6, f6, a7, c7, f7, a11, c11, f11, d0, d1, d2, d3, d4, d5, d6, d7, d8, d9, d10, d11, m0, m1, m2, m3, m4, m5, m6, m7, m8, m9, _⟩ := Fm.at (hv.below hb) hlt
        obtain ⟨a3', c3', f3', a5', c5', f5', a6', c6', f6', a7', c7', f7', a11', c11', f11', d0', d1', d2', d3', d4', d5', d6', d7', d8', d9', d10', d11', m0', m1', m2', m3', m4', m5', m6', m7', m8', m9', _⟩ := Fm.at (hx.below hb) hlt'
        have hbz : b' < wr.heap.size := by omega
        go_wp2_with fail
        refine (HQ.out xs[k] (List.getElem_mem hlt) ys[k] _ _ _ _ _ (by exact (Fm.close m0 m1 m2 m3 m4 m5 m6 m7 m8 m9).below (((Below.refl _ _).alloc (Nat.le_refl _) _).alloc (by simp) _)) (by exact (Fm.close m0' m1' m2' m3' m4' m5' m6' m7' m8' m9').below (((Below.refl _ _).alloc (Nat.le_refl _) _).alloc (by simp) _))).mono ?_
        rintro e w2 ⟨rfl, hb2⟩
        have hb3 : Below wr.heap.size wr w2 := ((((Below.refl _ _).alloc (Nat.le_refl _) _).alloc (by simp) _)).trans (hb2.mono (by simp; try omega))
        clear hb2
        cases he : eqV (xs[k].cd) (ys[k].cd)
        · have HE := Lib.hid he
          clear he
          go_wp2_with fail
          go_ret
          exact ⟨retB (unlike_at hlt hlt' HE.out).symm, hb.trans (hb3.mono (by omega))⟩
        · have HE := Lib.hid he
          clear he
          go_wp2_with fail
          go_roundw
          case rel => exact ⟨k + 1, by omega, by go_num, hall.out.succ hlt hlt' HE.out, hb.trans (hb3.mono (by omega))⟩
          case measure => simp [intOf]; omega
      · go_wp2_with fail
        go_ret
        exact ⟨retB (hall.out.all (by omega) (by omega)).symm, hb⟩
  · have hlb : ((xs.length : Int) != (ys.length : Int)) = true := by rw [bne_iff_ne]; omega
    have HF := Lib.hid (eqR_len (cd := Fm.cd) hl)
    clear hl
    go_enter Try.func55, Try.ntmps55
    go_wp2_with fail
    go_ret
    exact ⟨retB HF.out.symm, Below.refl _ _⟩
end Go.Proofs.Ytlhochahokbonaa
