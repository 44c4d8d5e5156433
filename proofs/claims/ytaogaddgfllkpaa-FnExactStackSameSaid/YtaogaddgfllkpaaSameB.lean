/- slices.EqualFunc. -/
import Derived.Test.YtaogaddgfllkpaaSameA
namespace Go.Proofs.Ytaogaddgfllkpaa
open Go Go.RowKit
set_option linter.unusedVariables false
set_option linter.unusedSimpArgs false


theorem equalSy_f (xs ys : List Sy) (hq : ∀ x ∈ xs, ∀ (y : Sy) (vs us : List Value) (f f' : List Nat) (w : World), RdVs w x.cd vs f → RdVs w y.cd us f' → Calls Try.prog 179 #[.agg vs.toArray, .agg us.toArray] w fun e w' => e = .returned (.bool (eqV x.cd y.cd)) ∧ Below w.heap.size w w')
    (v u : Value) (f f' : List Nat) (w : World) (hv : Rd w (.sl (xs.map Sy.cd)) v f) (hx : Rd w (.sl (ys.map Sy.cd)) u f') :
    Calls Try.prog 178 #[v, u, .func (.func 179) #[] #[]] w fun e w' => e = .returned (.bool (eqR (xs.map Sy.cd) (ys.map Sy.cd))) ∧ Below w.heap.size w w' := by
  obtain ⟨a, c, rfl, hc1, hc2⟩ := rd_sl_inv hv
  obtain ⟨a', c', rfl, hc1', hc2'⟩ := rd_sl_inv hx
  have HQ := Lib.hid hq
  clear hq
  by_cases hl : xs.length = ys.length
  · have hlb : ((xs.length : Int) != (ys.length : Int)) = false := by rw [hl]; simp
    have hl1 : xs.length ≤ ys.length := by omega
    have hl2 : ys.length ≤ xs.length := by omega
    clear hl
    go_enter Try.func178, Try.ntmps178
    go_wp2_with fail
    go_loopw [17] (fun i wr => ∃ k : Nat, k ≤ xs.length ∧ i = .int .i64 k ∧ Hid (Alike Sy.cd xs ys k) ∧ Below w.heap.size w wr) (fun i _ => xs.length - (intOf i).toNat)
    case atStart => exact ⟨0, Nat.zero_le _, rfl, Lib.hid Alike.zero, Below.refl _ _⟩
    case round =>
      obtain ⟨k, hkl, rfl, hall, hb⟩ := hrel
      have hz := hb.size
      by_cases hlt : k < xs.length
      · obtain ⟨b, off, rfl, hbs, _⟩ := rd_addr hv (by omega)
        obtain ⟨b', off', rfl, hbs', _⟩ := rd_addr hx (by omega)
        have hlt' : k < ys.length := by omega
        obtain ⟨a1, c1, f1, d0, d1, d2, m0, m1, m2, _⟩ := Sy.at (hv.below hb) hlt
        obtain ⟨a1', c1', f1', d0', d1', d2', m0', m1', m2', _⟩ := Sy.at (hx.below hb) hlt'
        have hbz : b' < wr.heap.size := by omega
        go_wp2_with fail
        refine (HQ.out xs[k] (List.getElem_mem hlt) ys[k] _ _ _ _ _ (by exact (Sy.close m0 m1 m2).below (((Below.refl _ _).alloc (Nat.le_refl _) _).alloc (by simp) _)) (by exact (Sy.close m0' m1' m2').below (((Below.refl _ _).alloc (Nat.le_refl _) _).alloc (by simp) _))).mono ?_
        rintro e w2 ⟨rfl, hb2⟩
        have hb3 : Below wr.heap.size wr w2 := ((((Below.refl _ _).alloc (Nat.le_refl _) _).alloc (by simp) _)).trans (hb2.mono (by simp; try omega))
        clear hb2
        cases he : eqV (xs[k].cd) (ys[k].cd)
        · have HE := Lib.hid he
          clear he
          go_wp2_with fail
          go_ret
          exact ⟨retB (unlike_at hlt hlt' HE.out).symm, hb.trans (hb3.mono (by omega))⟩
        · have HE := Lib.hid he
          clear he
          go_wp2_with fail
          go_roundw
          case rel => exact ⟨k + 1, by omega, by go_num, hall.out.succ hlt hlt' HE.out, hb.trans (hb3.mono (by omega))⟩
          case measure => simp [intOf]; omega
      · go_wp2_with fail
        go_ret
        exact ⟨retB (hall.out.all (by omega) (by omega)).symm, hb⟩
  · have hlb : ((xs.length : Int) != (ys.length : Int)) = true := by rw [bne_iff_ne]; omega
    have HF := Lib.hid (eqR_len (cd := Sy.cd) hl)
    clear hl
    go_enter Try.func178, Try.ntmps178
    go_wp2_with fail
    go_ret
    exact ⟨retB HF.out.symm, Below.refl _ _⟩
theorem equalWy_f (xs ys : List Wy) (hq : ∀ x ∈ xs, ∀ (y : Wy) (vs us : List Value) (f f' : List Nat) (w : World), RdVs w x.cd vs f → RdVs w y.cd us f' → Calls Try.prog 173 #[.agg vs.toArray, .agg us.toArray] w fun e w' => e = .returned (.bool (eqV x.cd y.cd)) ∧ Below w.heap.size w w')
    (v u : Value) (f f' : List Nat) (w : World) (hv : Rd w (.sl (xs.map Wy.cd)) v f) (hx : Rd w (.sl (ys.map Wy.cd)) u f') :
    Calls Try.prog 218 #[v, u, .func (.func 173) #[] #[]] w fun e w' => e = .returned (.bool (eqR (xs.map Wy.cd) (ys.map Wy.cd))) ∧ Below w.heap.size w w' := by
  obtain ⟨a, c, rfl, hc1, hc2⟩ := rd_sl_inv hv
  obtain ⟨a', c', rfl, hc1', hc2'⟩ := rd_sl_inv hx
  have HQ := Lib.hid hq
  clear hq
  by_cases hl : xs.length = ys.length
  · have hlb : ((xs.length : Int) != (ys.length : Int)) = false := by rw [hl]; simp
    have hl1 : xs.length ≤ ys.length := by omega
    have hl2 : ys.length ≤ xs.length := by omega
    clear hl
    go_enter Try.func218, Try.ntmps218
    go_wp2_with fail
    go_loopw [17] (fun i wr => ∃ k : Nat, k ≤ xs.length ∧ i = .int .i64 k ∧ Hid (Alike Wy.cd xs ys k) ∧ Below w.heap.size w wr) (fun i _ => xs.length - (intOf i).toNat)
    case atStart => exact ⟨0, Nat.zero_le _, rfl, Lib.hid Alike.zero, Below.refl _ _⟩
    case round =>
      obtain ⟨k, hkl, rfl, hall, hb⟩ := hrel
      have hz := hb.size
      by_cases hlt : k < xs.length
      · obtain ⟨b, off, rfl, hbs, _⟩ := rd_addr hv (by omega)
        obtain ⟨b', off', rfl, hbs', _⟩ := rd_addr hx (by omega)
        have hlt' : k < ys.length := by omega
        obtain ⟨a3, c3, f3, a4, c4, f4, d0, d1, d2, d3, d4, m0, m1, m2, m3, m4, _⟩ := Wy.at (hv.below hb) hlt
        obtain ⟨a3', c3', f3', a4', c4', f4', d0', d1', d2', d3', d4', m0', m1', m2', m3', m4', _⟩ := Wy.at (hx.below hb) hlt'
        have hbz : b' < wr.heap.size := by omega
        go_wp2_with fail
        refine (HQ.out xs[k] (List.getElem_mem hlt) ys[k] _ _ _ _ _ (by exact (Wy.close m0 m1 m2 m3 m4).below (((Below.refl _ _).alloc (Nat.le_refl _) _).alloc (by simp) _)) (by exact (Wy.close m0' m1' m2' m3' m4').below (((Below.refl _ _).alloc (Nat.le_refl _) _).alloc (by simp) _))).mono ?_
        rintro e w2 ⟨rfl, hb2⟩
        have hb3 : Below wr.heap.size wr w2 := ((((Below.refl _ _).alloc (Nat.le_refl _) _).alloc (by simp) _)).trans (hb2.mono (by simp; try omega))
        clear hb2
        cases he : eqV (xs[k].cd) (ys[k].cd)
        · have HE := Lib.hid he
          clear he
          go_wp2_with fail
          go_ret
          exact ⟨retB (unlike_at hlt hlt' HE.out).symm, hb.trans (hb3.mono (by omega))⟩
        · have HE := Lib.hid he
          clear he
          go_wp2_with fail
          go_roundw
          case rel => exact ⟨k + 1, by omega, by go_num, hall.out.succ hlt hlt' HE.out, hb.trans (hb3.mono (by omega))⟩
          case measure => simp [intOf]; omega
      · go_wp2_with fail
        go_ret
        exact ⟨retB (hall.out.all (by omega) (by omega)).symm, hb⟩
  · have hlb : ((xs.length : Int) != (ys.length : Int)) = true := by rw [bne_iff_ne]; omega
    have HF := Lib.hid (eqR_len (cd := Wy.cd) hl)
    clear hl
    go_enter Try.func218, Try.ntmps218
    go_wp2_with fail
    go_ret
    exact ⟨retB HF.out.symm, Below.refl _ _⟩
theorem equalFm_f (xs ys : List Fm) (hq : ∀ x ∈ xs, ∀ (y : Fm) (vs us : List Value) (f f' : List Nat) (w : World), RdVs w x.cd vs f → RdVs w y.cd us f' → Calls Try.prog 116 #[.agg vs.toArray, .agg us.toArray] w fun e w' => e = .returned (.bool (eqV x.cd y.cd)) ∧ Below w.heap.size w w')
    (v u : Value) (f f' : List Nat) (w : World) (hv : Rd w (.sl (xs.map Fm.cd)) v f) (hx : Rd w (.sl (ys.map Fm.cd)) u f') :
    Calls Try.prog 115 #[v, u, .func (.func 116) #[] #[]] w fun e w' => e = .returned (.bool (eqR (xs.map Fm.cd) (ys.map Fm.cd))) ∧ Below w.heap.size w w' := by
  obtain ⟨a, c, rfl, hc1, hc2⟩ := rd_sl_inv hv
  obtain ⟨a', c', rfl, hc1', hc2'⟩ := rd_sl_inv hx
  have HQ := Lib.hid hq
  clear hq
  by_cases hl : xs.length = ys.length
  · have hlb : ((xs.length : Int) != (ys.length : Int)) = false := by rw [hl]; simp
    have hl1 : xs.length ≤ ys.length := by omega
    have hl2 : ys.length ≤ xs.length := by omega
    clear hl
    go_enter Try.func115, Try.ntmps115
    go_wp2_with fail
    go_loopw [17] (fun i wr => ∃ k : Nat, k ≤ xs.length ∧ i = .int .i64 k ∧ Hid (Alike Fm.cd xs ys k) ∧ Below w.heap.size w wr) (fun i _ => xs.length - (intOf i).toNat)
    case atStart => exact ⟨0, Nat.zero_le _, rfl, Lib.hid Alike.zero, Below.refl _ _⟩
    case round =>
      obtain ⟨k, hkl, rfl, hall, hb⟩ := hrel
      have hz := hb.size
      by_cases hlt : k < xs.length
      · obtain ⟨b, off, rfl, hbs, _⟩ := rd_addr hv (by omega)
        obtain ⟨b', off', rfl, hbs', _⟩ := rd_addr hx (by omega)
        have hlt' : k < ys.length := by omega
        obtain ⟨a3, c3, f3, a5, c5, f5, a6, c6, f6, a7, c7, f7, a11, c11, f11, d0, d1, d2, d3, d4, d5, d6, d7, d8, d9, d10, d11, m0, m1, m2, m3, m4, m5, m6, m7, m8, m9, _⟩ := Fm.at (hv.below hb) hlt
        obtain ⟨a3', c3', f3', a5', c5', f5', a6', c6', f6', a7', c7', f7', a11', c11', f11', d0', d1', d2', d3', d4', d5', d6', d7', d8', d9', d10', d11', m0', m1', m2', m3', m4', m5', m6', m7', m8', m9', _⟩ := Fm.at (hx.below hb) hlt'
        have hbz : b' < wr.heap.size := by omega
        go_wp2_with fail
        refine (HQ.out xs[k] (List.getElem_mem hlt) ys[k] _ _ _ _ _ (by exact (Fm.close m0 m1 m2 m3 m4 m5 m6 m7 m8 m9).below (((Below.refl _ _).alloc (Nat.le_refl _) _).alloc (by simp) _)) (by exact (Fm.close m0' m1' m2' m3' m4' m5' m6' m7' m8' m9').below (((Below.refl _ _).alloc (Nat.le_refl _) _).alloc (by simp) _))).mono ?_
        rintro e w2 ⟨rfl, hb2⟩
        have hb3 : Below wr.heap.size wr w2 := ((((Below.refl _ _).alloc (Nat.le_refl _) _).alloc (by simp) _)).trans (hb2.mono (by simp; try omega))
        clear hb2
        cases he : eqV (xs[k].cd) (ys[k].cd)
        · have HE := Lib.hid he
          clear he
          go_wp2_with fail
          go_ret
          exact ⟨retB (unlike_at hlt hlt' HE.out).symm, hb.trans (hb3.mono (by omega))⟩
        · have HE := Lib.hid he
          clear he
          go_wp2_with fail
          go_roundw
          case rel => exact ⟨k + 1, by omega, by go_num, hall.out.succ hlt hlt' HE.out, hb.trans (hb3.mono (by omega))⟩
          case measure => simp [intOf]; omega
      · go_wp2_with fail
        go_ret
        exact ⟨retB (hall.out.all (by omega) (by omega)).symm, hb⟩
  · have hlb : ((xs.length : Int) != (ys.length : Int)) = true := by rw [bne_iff_ne]; omega
    have HF := Lib.hid (eqR_len (cd := Fm.cd) hl)
    clear hl
    go_enter Try.func115, Try.ntmps115
    go_wp2_with fail
    go_ret
    exact ⟨retB HF.out.symm, Below.refl _ _⟩
theorem equalCs_f (xs ys : List Cs) (hq : ∀ x ∈ xs, ∀ (y : Cs) (vs us : List Value) (f f' : List Nat) (w : World), RdVs w x.cd vs f → RdVs w y.cd us f' → Calls Try.prog 104 #[.agg vs.toArray, .agg us.toArray] w fun e w' => e = .returned (.bool (eqV x.cd y.cd)) ∧ Below w.heap.size w w')
    (v u : Value) (f f' : List Nat) (w : World) (hv : Rd w (.sl (xs.map Cs.cd)) v f) (hx : Rd w (.sl (ys.map Cs.cd)) u f') :
    Calls Try.prog 175 #[v, u, .func (.func 104) #[] #[]] w fun e w' => e = .returned (.bool (eqR (xs.map Cs.cd) (ys.map Cs.cd))) ∧ Below w.heap.size w w' := by
  obtain ⟨a, c, rfl, hc1, hc2⟩ := rd_sl_inv hv
  obtain ⟨a', c', rfl, hc1', hc2'⟩ := rd_sl_inv hx
  have HQ := Lib.hid hq
  clear hq
  by_cases hl : xs.length = ys.length
  · have hlb : ((xs.length : Int) != (ys.length : Int)) = false := by rw [hl]; simp
    have hl1 : xs.length ≤ ys.length := by omega
    have hl2 : ys.length ≤ xs.length := by omega
    clear hl
    go_enter Try.func175, Try.ntmps175
    go_wp2_with fail
    go_loopw [17] (fun i wr => ∃ k : Nat, k ≤ xs.length ∧ i = .int .i64 k ∧ Hid (Alike Cs.cd xs ys k) ∧ Below w.heap.size w wr) (fun i _ => xs.length - (intOf i).toNat)
    case atStart => exact ⟨0, Nat.zero_le _, rfl, Lib.hid Alike.zero, Below.refl _ _⟩
    case round =>
      obtain ⟨k, hkl, rfl, hall, hb⟩ := hrel
      have hz := hb.size
      by_cases hlt : k < xs.length
      · obtain ⟨b, off, rfl, hbs, _⟩ := rd_addr hv (by omega)
        obtain ⟨b', off', rfl, hbs', _⟩ := rd_addr hx (by omega)
        have hlt' : k < ys.length := by omega
        obtain ⟨a5, c5, f5, a6, c6, f6, a7, c7, f7, a9, c9, f9, a11, c11, f11, a12, c12, f12, d0, d1, d2, d3, d4, d5, d6, d7, d8, d9, d10, d11, d12, m0, m1, m2, m3, m4, m5, m6, m7, m8, m9, m10, m11, m12, _⟩ := Cs.at (hv.below hb) hlt
        obtain ⟨a5', c5', f5', a6', c6', f6', a7', c7', f7', a9', c9', f9', a11', c11', f11', a12', c12', f12', d0', d1', d2', d3', d4', d5', d6', d7', d8', d9', d10', d11', d12', m0', m1', m2', m3', m4', m5', m6', m7', m8', m9', m10', m11', m12', _⟩ := Cs.at (hx.below hb) hlt'
        have hbz : b' < wr.heap.size := by omega
        go_wp2_with fail
        refine (HQ.out xs[k] (List.getElem_mem hlt) ys[k] _ _ _ _ _ (by exact (Cs.close m0 m1 m2 m3 m4 m5 m6 m7 m8 m9 m10 m11 m12).below (((Below.refl _ _).alloc (Nat.le_refl _) _).alloc (by simp) _)) (by exact (Cs.close m0' m1' m2' m3' m4' m5' m6' m7' m8' m9' m10' m11' m12').below (((Below.refl _ _).alloc (Nat.le_refl _) _).alloc (by simp) _))).mono ?_
        rintro e w2 ⟨rfl, hb2⟩
        have hb3 : Below wr.heap.size wr w2 := ((((Below.refl _ _).alloc (Nat.le_refl _) _).alloc (by simp) _)).trans (hb2.mono (by simp; try omega))
        clear hb2
        cases he : eqV (xs[k].cd) (ys[k].cd)
        · have HE := Lib.hid he
          clear he
          go_wp2_with fail
          go_ret
          exact ⟨retB (unlike_at hlt hlt' HE.out).symm, hb.trans (hb3.mono (by omega))⟩
        · have HE := Lib.hid he
          clear he
          go_wp2_with fail
          go_roundw
          case rel => exact ⟨k + 1, by omega, by go_num, hall.out.succ hlt hlt' HE.out, hb.trans (hb3.mono (by omega))⟩
          case measure => simp [intOf]; omega
      · go_wp2_with fail
        go_ret
        exact ⟨retB (hall.out.all (by omega) (by omega)).symm, hb⟩
  · have hlb : ((xs.length : Int) != (ys.length : Int)) = true := by rw [bne_iff_ne]; omega
    have HF := Lib.hid (eqR_len (cd := Cs.cd) hl)
    clear hl
    go_enter Try.func175, Try.ntmps175
    go_wp2_with fail
    go_ret
    exact ⟨retB HF.out.symm, Below.refl _ _⟩
theorem equalLm_f (xs ys : List Lm) (hq : ∀ x ∈ xs, ∀ (y : Lm) (vs us : List Value) (f f' : List Nat) (w : World), RdVs w x.cd vs f → RdVs w y.cd us f' → Calls Try.prog 102 #[.agg vs.toArray, .agg us.toArray] w fun e w' => e = .returned (.bool (eqV x.cd y.cd)) ∧ Below w.heap.size w w')
    (v u : Value) (f f' : List Nat) (w : World) (hv : Rd w (.sl (xs.map Lm.cd)) v f) (hx : Rd w (.sl (ys.map Lm.cd)) u f') :
    Calls Try.prog 101 #[v, u, .func (.func 102) #[] #[]] w fun e w' => e = .returned (.bool (eqR (xs.map Lm.cd) (ys.map Lm.cd))) ∧ Below w.heap.size w w' := by
  obtain ⟨a, c, rfl, hc1, hc2⟩ := rd_sl_inv hv
  obtain ⟨a', c', rfl, hc1', hc2'⟩ := rd_sl_inv hx
  have HQ := Lib.hid hq
  clear hq
  by_cases hl : xs.length = ys.length
  · have hlb : ((xs.length : Int) != (ys.length : Int)) = false := by rw [hl]; simp
    have hl1 : xs.length ≤ ys.length := by omega
    have hl2 : ys.length ≤ xs.length := by omega
    clear hl
    go_enter Try.func101, Try.ntmps101
    go_wp2_with fail
    go_loopw [17] (fun i wr => ∃ k : Nat, k ≤ xs.length ∧ i = .int .i64 k ∧ Hid (Alike Lm.cd xs ys k) ∧ Below w.heap.size w wr) (fun i _ => xs.length - (intOf i).toNat)
    case atStart => exact ⟨0, Nat.zero_le _, rfl, Lib.hid Alike.zero, Below.refl _ _⟩
    case round =>
      obtain ⟨k, hkl, rfl, hall, hb⟩ := hrel
      have hz := hb.size
      by_cases hlt : k < xs.length
      · obtain ⟨b, off, rfl, hbs, _⟩ := rd_addr hv (by omega)
        obtain ⟨b', off', rfl, hbs', _⟩ := rd_addr hx (by omega)
        have hlt' : k < ys.length := by omega
        obtain ⟨a0, c0, f0, a6, c6, f6, a7, c7, f7, a8, c8, f8, a10, c10, f10, a12, c12, f12, a13, c13, f13, d0, d1, d2, d3, d4, d5, d6, d7, d8, d9, d10, d11, d12, d13, m0, m1, m2, m3, m4, m5, m6, m7, m8, m9, m10, m11, m12, m13, _⟩ := Lm.at (hv.below hb) hlt
        obtain ⟨a0', c0', f0', a6', c6', f6', a7', c7', f7', a8', c8', f8', a10', c10', f10', a12', c12', f12', a13', c13', f13', d0', d1', d2', d3', d4', d5', d6', d7', d8', d9', d10', d11', d12', d13', m0', m1', m2', m3', m4', m5', m6', m7', m8', m9', m10', m11', m12', m13', _⟩ := Lm.at (hx.below hb) hlt'
        have hbz : b' < wr.heap.size := by omega
        go_wp2_with fail
        refine (HQ.out xs[k] (List.getElem_mem hlt) ys[k] _ _ _ _ _ (by exact (Lm.close m0 m1 m2 m3 m4 m5 m6 m7 m8 m9 m10 m11 m12 m13).below (((Below.refl _ _).alloc (Nat.le_refl _) _).alloc (by simp) _)) (by exact (Lm.close m0' m1' m2' m3' m4' m5' m6' m7' m8' m9' m10' m11' m12' m13').below (((Below.refl _ _).alloc (Nat.le_refl _) _).alloc (by simp) _))).mono ?_
        rintro e w2 ⟨rfl, hb2⟩
        have hb3 : Below wr.heap.size wr w2 := ((((Below.refl _ _).alloc (Nat.le_refl _) _).alloc (by simp) _)).trans (hb2.mono (by simp; try omega))
        clear hb2
        cases he : eqV (xs[k].cd) (ys[k].cd)
        · have HE := Lib.hid he
          clear he
          go_wp2_with fail
          go_ret
          exact ⟨retB (unlike_at hlt hlt' HE.out).symm, hb.trans (hb3.mono (by omega))⟩
        · have HE := Lib.hid he
          clear he
          go_wp2_with fail
          go_roundw
          case rel => exact ⟨k + 1, by omega, by go_num, hall.out.succ hlt hlt' HE.out, hb.trans (hb3.mono (by omega))⟩
          case measure => simp [intOf]; omega
      · go_wp2_with fail
        go_ret
        exact ⟨retB (hall.out.all (by omega) (by omega)).symm, hb⟩
  · have hlb : ((xs.length : Int) != (ys.length : Int)) = true := by rw [bne_iff_ne]; omega
    have HF := Lib.hid (eqR_len (cd := Lm.cd) hl)
    clear hl
    go_enter Try.func101, Try.ntmps101
    go_wp2_with fail
    go_ret
    exact ⟨retB HF.out.symm, Below.refl _ _⟩
theorem equalInts_f (xs ys : List (List Int)) (hq : ∀ x ∈ xs, ∀ (y : (List Int)) (v u : Value) (f f' : List Nat) (w : World), Rd w (.sl (x.map intCd)) v f → Rd w (.sl (y.map intCd)) u f' → Calls Try.prog 103 #[v, u] w fun e w' => e = .returned (.bool (eqV (intsCd x) (intsCd y))) ∧ Below w.heap.size w w')
    (v u : Value) (f f' : List Nat) (w : World) (hv : Rd w (.sl (xs.map intsCd)) v f) (hx : Rd w (.sl (ys.map intsCd)) u f') :
    Calls Try.prog 105 #[v, u, .func (.func 103) #[] #[]] w fun e w' => e = .returned (.bool (eqR (xs.map intsCd) (ys.map intsCd))) ∧ Below w.heap.size w w' := by
  obtain ⟨a, c, rfl, hc1, hc2⟩ := rd_sl_inv hv
  obtain ⟨a', c', rfl, hc1', hc2'⟩ := rd_sl_inv hx
  have HQ := Lib.hid hq
  clear hq
  by_cases hl : xs.length = ys.length
  · have hlb : ((xs.length : Int) != (ys.length : Int)) = false := by rw [hl]; simp
    have hl1 : xs.length ≤ ys.length := by omega
    have hl2 : ys.length ≤ xs.length := by omega
    clear hl
    go_enter Try.func105, Try.ntmps105
    go_wp2_with fail
    go_loopw [17] (fun i wr => ∃ k : Nat, k ≤ xs.length ∧ i = .int .i64 k ∧ Hid (Alike intsCd xs ys k) ∧ Below w.heap.size w wr) (fun i _ => xs.length - (intOf i).toNat)
    case atStart => exact ⟨0, Nat.zero_le _, rfl, Lib.hid Alike.zero, Below.refl _ _⟩
    case round =>
      obtain ⟨k, hkl, rfl, hall, hb⟩ := hrel
      have hz := hb.size
      by_cases hlt : k < xs.length
      · obtain ⟨b, off, rfl, hbs, _⟩ := rd_addr hv (by omega)
        obtain ⟨b', off', rfl, hbs', _⟩ := rd_addr hx (by omega)
        have hlt' : k < ys.length := by omega
        obtain ⟨a0, c0, f0, d0, hk0, _⟩ := intsCd_at (hv.below hb) hlt
        obtain ⟨a0', c0', f0', d0', hk0', _⟩ := intsCd_at (hx.below hb) hlt'
        have hbz : b' < wr.heap.size := by omega
        go_wp2_with fail
        refine (HQ.out xs[k] (List.getElem_mem hlt) ys[k] _ _ _ _ _ (by exact hk0.below (Below.refl _ _)) (by exact hk0'.below (Below.refl _ _))).mono ?_
        rintro e w2 ⟨rfl, hb2⟩
        have hb3 : Below wr.heap.size wr w2 := ((Below.refl _ _)).trans (hb2.mono (by simp; try omega))
        clear hb2
        cases he : eqV (intsCd xs[k]) (intsCd ys[k])
        · have HE := Lib.hid he
          clear he
          go_wp2_with fail
          go_ret
          exact ⟨retB (unlike_at hlt hlt' HE.out).symm, hb.trans (hb3.mono (by omega))⟩
        · have HE := Lib.hid he
          clear he
          go_wp2_with fail
          go_roundw
          case rel => exact ⟨k + 1, by omega, by go_num, hall.out.succ hlt hlt' HE.out, hb.trans (hb3.mono (by omega))⟩
          case measure => simp [intOf]; omega
      · go_wp2_with fail
        go_ret
        exact ⟨retB (hall.out.all (by omega) (by omega)).symm, hb⟩
  · have hlb : ((xs.length : Int) != (ys.length : Int)) = true := by rw [bne_iff_ne]; omega
    have HF := Lib.hid (eqR_len (cd := intsCd) hl)
    clear hl
    go_enter Try.func105, Try.ntmps105
    go_wp2_with fail
    go_ret
    exact ⟨retB HF.out.symm, Below.refl _ _⟩
theorem equalFms_f (xs ys : List (List Fm)) (hq : ∀ x ∈ xs, ∀ (y : (List Fm)) (v u : Value) (f f' : List Nat) (w : World), Rd w (.sl (x.map Fm.cd)) v f → Rd w (.sl (y.map Fm.cd)) u f' → Calls Try.prog 114 #[v, u] w fun e w' => e = .returned (.bool (eqV (fmsCd x) (fmsCd y))) ∧ Below w.heap.size w w')
    (v u : Value) (f f' : List Nat) (w : World) (hv : Rd w (.sl (xs.map fmsCd)) v f) (hx : Rd w (.sl (ys.map fmsCd)) u f') :
    Calls Try.prog 113 #[v, u, .func (.func 114) #[] #[]] w fun e w' => e = .returned (.bool (eqR (xs.map fmsCd) (ys.map fmsCd))) ∧ Below w.heap.size w w' := by
  obtain ⟨a, c, rfl, hc1, hc2⟩ := rd_sl_inv hv
  obtain ⟨a', c', rfl, hc1', hc2'⟩ := rd_sl_inv hx
  have HQ := Lib.hid hq
  clear hq
  by_cases hl : xs.length = ys.length
  · have hlb : ((xs.length : Int) != (ys.length : Int)) = false := by rw [hl]; simp
    have hl1 : xs.length ≤ ys.length := by omega
    have hl2 : ys.length ≤ xs.length := by omega
    clear hl
    go_enter Try.func113, Try.ntmps113
    go_wp2_with fail
    go_loopw [17] (fun i wr => ∃ k : Nat, k ≤ xs.length ∧ i = .int .i64 k ∧ Hid (Alike fmsCd xs ys k) ∧ Below w.heap.size w wr) (fun i _ => xs.length - (intOf i).toNat)
    case atStart => exact ⟨0, Nat.zero_le _, rfl, Lib.hid Alike.zero, Below.refl _ _⟩
    case round =>
      obtain ⟨k, hkl, rfl, hall, hb⟩ := hrel
      have hz := hb.size
      by_cases hlt : k < xs.length
      · obtain ⟨b, off, rfl, hbs, _⟩ := rd_addr hv (by omega)
        obtain ⟨b', off', rfl, hbs', _⟩ := rd_addr hx (by omega)
        have hlt' : k < ys.length := by omega
        obtain ⟨a0, c0, f0, d0, hk0, _⟩ := fmsCd_at (hv.below hb) hlt
        obtain ⟨a0', c0', f0', d0', hk0', _⟩ := fmsCd_at (hx.below hb) hlt'
        have hbz : b' < wr.heap.size := by omega
        go_wp2_with fail
        refine (HQ.out xs[k] (List.getElem_mem hlt) ys[k] _ _ _ _ _ (by exact hk0.below (Below.refl _ _)) (by exact hk0'.below (Below.refl _ _))).mono ?_
        rintro e w2 ⟨rfl, hb2⟩
        have hb3 : Below wr.heap.size wr w2 := ((Below.refl _ _)).trans (hb2.mono (by simp; try omega))
        clear hb2
        cases he : eqV (fmsCd xs[k]) (fmsCd ys[k])
        · have HE := Lib.hid he
          clear he
          go_wp2_with fail
          go_ret
          exact ⟨retB (unlike_at hlt hlt' HE.out).symm, hb.trans (hb3.mono (by omega))⟩
        · have HE := Lib.hid he
          clear he
          go_wp2_with fail
          go_roundw
          case rel => exact ⟨k + 1, by omega, by go_num, hall.out.succ hlt hlt' HE.out, hb.trans (hb3.mono (by omega))⟩
          case measure => simp [intOf]; omega
      · go_wp2_with fail
        go_ret
        exact ⟨retB (hall.out.all (by omega) (by omega)).symm, hb⟩
  · have hlb : ((xs.length : Int) != (ys.length : Int)) = true := by rw [bne_iff_ne]; omega
    have HF := Lib.hid (eqR_len (cd := fmsCd) hl)
    clear hl
    go_enter Try.func113, Try.ntmps113
    go_wp2_with fail
    go_ret
    exact ⟨retB HF.out.symm, Below.refl _ _⟩
end Go.Proofs.Ytaogaddgfllkpaa
