/- The exact laws' held functions. -/
import Derived.Test.YtlcfophhjflpdaaExMark
namespace Go.Proofs.Ytlcfophhjflpdaa
open Go Go.RowKit
set_option linter.unusedVariables false
set_option linter.unusedSimpArgs false


set_option maxHeartbeats 1600000
set_option maxRecDepth 100000
theorem dec_beq (x : Int) : (!decide (x = 0) == (x == 0)) = false := by
  rw [show (x == 0) = decide (x = 0) from rfl]; cases decide (x = 0) <;> rfl
theorem RdFlat.below {w w' : World} {b off : Nat} {ds : List CD} {f : List Nat} (h : RdFlat w b off ds f) (hl : b < w.heap.size) (hb : Below w.heap.size w w') : RdFlat w' b off ds f := by
  obtain ⟨vs, h1, h2⟩ := h
  exact ⟨vs, fun j u hj => (World.cell?_of_block (w := w) (hb.block b hl)).trans (h1 j u hj), h2.below hb⟩
theorem held_row {α : Type} {cd : α → List CD} {w : World} {xs : List α} {b off n cap K : Nat} {k : Int} {fp : List Nat} (h : Rd w (.sl (mkR (xs.map cd) k)) (.slice (some ⟨b, off, none⟩) n cap) fp) (hK : ∀ x, (cd x).length = K) {i : Nat} (hi : i < xs.length) :
    ∃ g, RdFlat w b (off + i * K) (mkV (cd xs[i]) (k + cntR ((xs.map cd).take i))) g := by
  obtain ⟨vs, g, h1, h2, _⟩ := h.row (k := K) (by
    intro e he
    obtain ⟨j, hj, rfl⟩ := List.getElem_of_mem he
    rw [mkR_get _ _ _ (by rw [mkR_len] at hj; exact hj), mkV_len, List.getElem_map]; exact hK _) i (by rw [mkR_len, List.length_map]; exact hi)
  rw [mkR_get _ _ _ (by rw [List.length_map]; exact hi), List.getElem_map] at h2
  exact ⟨g, vs, h1, h2⟩
theorem rd_mk_inv {α : Type} {cd : α → List CD} {w : World} {xs : List α} {q : Int} {v : Value} {f : List Nat} (h : Rd w (.sl (mkR (xs.map cd) q)) v f) : ∃ a c, v = .slice a xs.length c ∧ xs.length ≤ c ∧ c ≤ 9223372036854775807 := by
  obtain ⟨a, c, h1, h2, h3⟩ := h.sl_form
  rw [mkR_len, List.length_map] at h1 h2
  exact ⟨a, c, h1, h2, h3⟩
def HeldOut (es : List (List CD)) (k : Int) (w : World) (e : Ending) (w' : World) : Prop := e = .returned (.int .i64 (k + cntR es)) ∧ Below w.heap.size w w'
theorem heldTermS_x (xs : List Tm) (v : Value) (fp : List Nat) (k : Int) (w : World) (h0 : 0 < k) (h1 : k + cntR (xs.map Tm.cd) ≤ 200000000000000) (hv : Rd w (.sl (mkR (xs.map Tm.cd) k)) v fp) :
    Calls Try.prog 50 #[v, .int .i64 k] w (HeldOut (xs.map Tm.cd) k w) := by
  have h := heldTermS_any (Tm.sizes xs) xs v fp k w (Nat.le_refl _) h0 (by rw [← Tm.cntR_cds]; exact h1) hv
  rw [← Tm.cntR_cds] at h
  exact h

theorem heldIntS_nil (v : Value) (fp : List Nat) (k : Int) (w : World) (hv : Rd w (.sl (mkR (([] : List Int).map intCd) k)) v fp) :
    Calls Try.prog 51 #[v, .int .i64 k] w (HeldOut (([] : List Int).map intCd) k w) := by
  obtain ⟨a, cap, rfl, hc1, hc2⟩ := rd_mk_inv hv
  go_enter Try.func51, Try.ntmps51
  go_wp2_with fail
  refine wp_loop_rounds 1 ?_
  rw [rounds_succ]
  go_wp2_with fail
  go_ret
  exact ⟨retI (by simp [cntR]), Below.refl _ _⟩
theorem heldIntS_x (xs : List Int) (v : Value) (fp : List Nat) (k : Int) (w : World) (h0 : 0 < k) (h1 : k + cntR (xs.map intCd) ≤ 200000000000000) (hv : Rd w (.sl (mkR (xs.map intCd) k)) v fp) :
    Calls Try.prog 51 #[v, .int .i64 k] w (HeldOut (xs.map intCd) k w) := by
  rcases Nat.eq_zero_or_pos xs.length with hz | hne
  · obtain rfl := List.eq_nil_of_length_eq_zero hz
    exact heldIntS_nil v fp k w hv
  obtain ⟨a, cap, rfl, hc1, hc2⟩ := rd_mk_inv hv
  obtain ⟨b, off, f, rfl, hbs, rfl, _⟩ := hv.addr (by rw [mkR_len, List.length_map]; omega)
  go_enter Try.func51, Try.ntmps51
  go_wp2_with fail
  go_loopw [1, 5] (fun kv iv wr => ∃ (i : Nat) (q : Int), i ≤ xs.length ∧ iv = .int .i64 i ∧ kv = .int .i64 q ∧ q = k + cntR ((xs.map intCd).take i) ∧ Below w.heap.size w wr) (fun _ iv _ => xs.length - (intOf iv).toNat)
  case atStart => exact ⟨0, k, Nat.zero_le _, rfl, rfl, by simp [cntR], Below.refl _ _⟩
  case round =>
    obtain ⟨i, q, hil, rfl, rfl, hq, hb⟩ := hrel
    have hcs := cntR_take_le (xs.map intCd) i
    have hsz := hb.size
    have hbl : b < wr.heap.size := by omega
    by_cases hlt : i < xs.length
    · have hc2' := cntR_take_le (xs.map intCd) (i + 1)
      rw [cntR_take_succ _ _ _ hlt] at hc2'
      have hw : cntV (intCd xs[i]) = 1 := by rw [show intCd xs[i] = [.int xs[i]] from rfl]; simp only [cntV, cnt]; try omega
      rw [hw] at hc2'
      have hq0 : 0 < q := by omega
      have hq1 : q + (1 : Nat) ≤ 200000000000000 := by omega
      obtain ⟨g0, hst⟩ := held_row (hv.below hb) (intCd_len) hlt
      rw [← hq, show intCd xs[i] = [.int xs[i]] from rfl] at hst
      rw [Nat.mul_one] at hst
      simp only [mkV, mkC, cnt, Int.natCast_one] at hst
      have HQ := Lib.hid hq
      clear hc2' hcs hq
      obtain ⟨v0, f0, g1, _, c0, hr0, hst⟩ := hst.head
      obtain ⟨rfl, _⟩ := rd_int_inv hr0
      go_wp2_with fail
      go_roundw
      case rel =>
        refine ⟨i + 1, q + 1, by omega, by go_num, by go_num, ?_, hb⟩
        have hq := HQ.out; rw [cntR_take_succ _ _ _ hlt, hw]; omega
      case measure => simp [intOf]; omega
    · have he : i = xs.length := by omega
      have h1 : (xs.map intCd).take i = (xs.map intCd) := List.take_of_length_le (by simp; omega)
      rw [h1] at hq
      have HC := Lib.hid hq
      clear hq
      go_wp2_with fail
      go_ret
      exact ⟨retI HC.out, hb⟩
theorem heldAtomS_nil (v : Value) (fp : List Nat) (k : Int) (w : World) (hv : Rd w (.sl (mkR (([] : List Atm).map Atm.cd) k)) v fp) :
    Calls Try.prog 18 #[v, .int .i64 k] w (HeldOut (([] : List Atm).map Atm.cd) k w) := by
  obtain ⟨a, cap, rfl, hc1, hc2⟩ := rd_mk_inv hv
  go_enter Try.func18, Try.ntmps18
  go_wp2_with fail
  refine wp_loop_rounds 1 ?_
  rw [rounds_succ]
  go_wp2_with fail
  go_ret
  exact ⟨retI (by simp [cntR]), Below.refl _ _⟩
theorem heldAtomS_x (xs : List Atm) (v : Value) (fp : List Nat) (k : Int) (w : World) (h0 : 0 < k) (h1 : k + cntR (xs.map Atm.cd) ≤ 200000000000000) (hv : Rd w (.sl (mkR (xs.map Atm.cd) k)) v fp) :
    Calls Try.prog 18 #[v, .int .i64 k] w (HeldOut (xs.map Atm.cd) k w) := by
  rcases Nat.eq_zero_or_pos xs.length with hz | hne
  · obtain rfl := List.eq_nil_of_length_eq_zero hz
    exact heldAtomS_nil v fp k w hv
  obtain ⟨a, cap, rfl, hc1, hc2⟩ := rd_mk_inv hv
  obtain ⟨b, off, f, rfl, hbs, rfl, _⟩ := hv.addr (by rw [mkR_len, List.length_map]; omega)
  go_enter Try.func18, Try.ntmps18
  go_wp2_with fail
  go_loopw [1, 5] (fun kv iv wr => ∃ (i : Nat) (q : Int), i ≤ xs.length ∧ iv = .int .i64 i ∧ kv = .int .i64 q ∧ q = k + cntR ((xs.map Atm.cd).take i) ∧ Below w.heap.size w wr) (fun _ iv _ => xs.length - (intOf iv).toNat)
  case atStart => exact ⟨0, k, Nat.zero_le _, rfl, rfl, by simp [cntR], Below.refl _ _⟩
  case round =>
    obtain ⟨i, q, hil, rfl, rfl, hq, hb⟩ := hrel
    have hcs := cntR_take_le (xs.map Atm.cd) i
    have hsz := hb.size
    have hbl : b < wr.heap.size := by omega
    by_cases hlt : i < xs.length
    · have hc2' := cntR_take_le (xs.map Atm.cd) (i + 1)
      rw [cntR_take_succ _ _ _ hlt] at hc2'
      have hw : cntV (Atm.cd xs[i]) = 1 + 1 + cntR (xs[i].a.kids.map Tm.cd) + 1 + cntR (xs[i].b.kids.map Tm.cd) + cntR (xs[i].nums.map Tm.cd) + cntR (xs[i].times.map intCd) + 1 + 1 := by rw [Atm.cd_list]; simp only [cntV, cnt]; try omega
      rw [hw] at hc2'
      have hq0 : 0 < q := by omega
      have hq1 : q + (1 + 1 + cntR (xs[i].a.kids.map Tm.cd) + 1 + cntR (xs[i].b.kids.map Tm.cd) + cntR (xs[i].nums.map Tm.cd) + cntR (xs[i].times.map intCd) + 1 + 1 : Nat) ≤ 200000000000000 := by omega
      obtain ⟨g0, hst⟩ := held_row (hv.below hb) (Atm.cd_len) hlt
      rw [← hq, Atm.cd_list] at hst
      simp only [mkV, mkC, cnt, Int.natCast_one] at hst
      have HQ := Lib.hid hq
      clear hc2' hcs hq
      obtain ⟨v0, f0, g1, _, c0, hr0, hst⟩ := hst.head
      obtain ⟨rfl, _⟩ := rd_int_inv hr0
      obtain ⟨v1, f1, g2, _, c1, hr1, hst⟩ := hst.head
      obtain ⟨rfl, _⟩ := rd_str_inv hr1
      go_wp2_with fail
      have q1 := cell_regrown c1
      refine wp_region_quiet_below (by kernel_rfl) (by kernel_rfl) ?_
      repeat (quiet_step (refine Calls.regrown_of (markText_any _ _ (by omega) (by omega))))
      refine wpQuiet_nil ?_
      intro w1 hw1
      obtain ⟨⟨dq1, osq1⟩, hw1⟩ := hw1
      have hb1 : Below wr.heap.size wr w1 := hw1 ▸ below_regrown wr dq1 osq1
      clear hw1 q1
      have hst := hst.below hbl hb1
      have hsz1 := hb1.size
      have hb := hb.trans (hb1.mono hsz)
      have hsz := hb.size
      have hbl : b < w1.heap.size := by omega
      obtain ⟨v2, f2, g3, _, c2, hr2, hst⟩ := hst.head
      obtain ⟨ka2, kc2, rfl, _⟩ := rd_mk_inv hr2
      go_wp2_with fail
      refine (heldTermS_x xs[i].a.kids _ _ _ _ (by omega) (by omega) hr2).mono ?_
      rintro e w2 ⟨rfl, hb2⟩
      have hst := hst.below hbl hb2
      have hsz2 := hb2.size
      have hb := hb.trans (hb2.mono hsz)
      have hsz := hb.size
      have hbl : b < w2.heap.size := by omega
      obtain ⟨v3, f3, g4, _, c3, hr3, hst⟩ := hst.head
      obtain ⟨rfl, _⟩ := rd_str_inv hr3
      go_wp2_with fail
      have q3 := cell_regrown c3
      refine wp_region_quiet_below (by kernel_rfl) (by kernel_rfl) ?_
      repeat (quiet_step (refine Calls.regrown_of (markText_any _ _ (by omega) (by omega))))
      refine wpQuiet_nil ?_
      intro w3 hw3
      obtain ⟨⟨dq3, osq3⟩, hw3⟩ := hw3
      have hb3 : Below w2.heap.size w2 w3 := hw3 ▸ below_regrown w2 dq3 osq3
      clear hw3 q3
      have hst := hst.below hbl hb3
      have hsz3 := hb3.size
      have hb := hb.trans (hb3.mono hsz)
      have hsz := hb.size
      have hbl : b < w3.heap.size := by omega
      obtain ⟨v4, f4, g5, _, c4, hr4, hst⟩ := hst.head
      obtain ⟨ka4, kc4, rfl, _⟩ := rd_mk_inv hr4
      go_wp2_with fail
      refine (heldTermS_x xs[i].b.kids _ _ _ _ (by omega) (by omega) hr4).mono ?_
      rintro e w4 ⟨rfl, hb4⟩
      have hst := hst.below hbl hb4
      have hsz4 := hb4.size
      have hb := hb.trans (hb4.mono hsz)
      have hsz := hb.size
      have hbl : b < w4.heap.size := by omega
      obtain ⟨v5, f5, g6, _, c5, hr5, hst⟩ := hst.head
      obtain ⟨ka5, kc5, rfl, _⟩ := rd_mk_inv hr5
      go_wp2_with fail
      refine (heldTermS_x xs[i].nums _ _ _ _ (by omega) (by omega) hr5).mono ?_
      rintro e w5 ⟨rfl, hb5⟩
      have hst := hst.below hbl hb5
      have hsz5 := hb5.size
      have hb := hb.trans (hb5.mono hsz)
      have hsz := hb.size
      have hbl : b < w5.heap.size := by omega
      obtain ⟨v6, f6, g7, _, c6, hr6, hst⟩ := hst.head
      obtain ⟨ka6, kc6, rfl, _⟩ := rd_mk_inv hr6
      go_wp2_with fail
      refine (heldIntS_x xs[i].times _ _ _ _ (by omega) (by omega) hr6).mono ?_
      rintro e w6 ⟨rfl, hb6⟩
      have hst := hst.below hbl hb6
      have hsz6 := hb6.size
      have hb := hb.trans (hb6.mono hsz)
      have hsz := hb.size
      have hbl : b < w6.heap.size := by omega
      obtain ⟨v7, f7, g8, _, c7, hr7, hst⟩ := hst.head
      obtain ⟨rfl, _⟩ := rd_int_inv hr7
      obtain ⟨v8, f8, g9, _, c8, hr8, hst⟩ := hst.head
      obtain ⟨rfl, _⟩ := rd_bool_inv hr8
      go_wp2_with fail
      all_goals try (rename_i hbad; exact absurd ((dec_beq _).symm.trans hbad) Bool.false_ne_true)
      go_roundw
      case rel =>
        refine ⟨i + 1, q + 1 + 1 + cntR (xs[i].a.kids.map Tm.cd) + 1 + cntR (xs[i].b.kids.map Tm.cd) + cntR (xs[i].nums.map Tm.cd) + cntR (xs[i].times.map intCd) + 1 + 1, by omega, by go_num, by go_num, ?_, hb⟩
        have hq := HQ.out; rw [cntR_take_succ _ _ _ hlt, hw]; omega
      case measure => simp [intOf]; omega
    · have he : i = xs.length := by omega
      have h1 : (xs.map Atm.cd).take i = (xs.map Atm.cd) := List.take_of_length_le (by simp; omega)
      rw [h1] at hq
      have HC := Lib.hid hq
      clear hq
      go_wp2_with fail
      go_ret
      exact ⟨retI HC.out, hb⟩
end Go.Proofs.Ytlcfophhjflpdaa
