/- The exact laws' held functions. -/
import Derived.Test.YteclckgihmaebaaGreatExMark
namespace Go.Proofs.YteclckgihmaebaaGreat
open Go Go.RowKit
set_option linter.unusedVariables false
set_option linter.unusedSimpArgs false


set_option maxHeartbeats 1600000
set_option maxRecDepth 100000
theorem dec_beq (x : Int) : (!decide (x = 0) == (x == 0)) = false := by
  rw [show (x == 0) = decide (x = 0) from rfl]; cases decide (x = 0) <;> rfl
theorem RdFlat.below {w w' : World} {b off : Nat} {ds : List CD} {f : List Nat} (h : RdFlat w b off ds f) (hl : b < w.heap.size) (hb : Below w.heap.size w w') : RdFlat w' b off ds f := by
  obtain ⟨vs, h1, h2⟩ := h
  exact ⟨vs, fun j u hj => (World.cell?_of_block (w := w) (hb.block b hl)).trans (h1 j u hj), h2.below hb⟩
theorem held_row {α : Type} {cd : α → List CD} {w : World} {xs : List α} {b off n cap K : Nat} {k : Int} {fp : List Nat} (h : Rd w (.sl (mkR (xs.map cd) k)) (.slice (some ⟨b, off, none⟩) n cap) fp) (hK : ∀ x, (cd x).length = K) {i : Nat} (hi : i < xs.length) :
    ∃ g, RdFlat w b (off + i * K) (mkV (cd xs[i]) (k + cntR ((xs.map cd).take i))) g := by
  obtain ⟨vs, g, h1, h2, _⟩ := h.row (k := K) (by
    intro e he
    obtain ⟨j, hj, rfl⟩ := List.getElem_of_mem he
    rw [mkR_get _ _ _ (by rw [mkR_len] at hj; exact hj), mkV_len, List.getElem_map]; exact hK _) i (by rw [mkR_len, List.length_map]; exact hi)
  rw [mkR_get _ _ _ (by rw [List.length_map]; exact hi), List.getElem_map] at h2
  exact ⟨g, vs, h1, h2⟩
theorem rd_mk_inv {α : Type} {cd : α → List CD} {w : World} {xs : List α} {q : Int} {v : Value} {f : List Nat} (h : Rd w (.sl (mkR (xs.map cd) q)) v f) : ∃ a c, v = .slice a xs.length c ∧ xs.length ≤ c ∧ c ≤ 9223372036854775807 := by
  obtain ⟨a, c, h1, h2, h3⟩ := h.sl_form
  rw [mkR_len, List.length_map] at h1 h2
  exact ⟨a, c, h1, h2, h3⟩
def HeldOut (es : List (List CD)) (k : Int) (w : World) (e : Ending) (w' : World) : Prop := e = .returned (.int .i64 (k + cntR es)) ∧ Below w.heap.size w w'
theorem heldTermS_x (xs : List Tm) (v : Value) (fp : List Nat) (k : Int) (w : World) (h0 : 0 < k) (h1 : k + cntR (xs.map Tm.cd) ≤ 200000000000000) (hv : Rd w (.sl (mkR (xs.map Tm.cd) k)) v fp) :
    Calls Tryz.prog 66 #[v, .int .i64 k] w (HeldOut (xs.map Tm.cd) k w) := by
  have h := heldTermS_any (Tm.sizes xs) xs v fp k w (Nat.le_refl _) h0 (by rw [← Tm.cntR_cds]; exact h1) hv
  rw [← Tm.cntR_cds] at h
  exact h

theorem heldIntS_nil (v : Value) (fp : List Nat) (k : Int) (w : World) (hv : Rd w (.sl (mkR (([] : List Int).map intCd) k)) v fp) :
    Calls Tryz.prog 65 #[v, .int .i64 k] w (HeldOut (([] : List Int).map intCd) k w) := by
  obtain ⟨a, cap, rfl, hc1, hc2⟩ := rd_mk_inv hv
  go_enter Tryz.func65, Tryz.ntmps65
  go_wp2_with fail
  refine wp_loop_rounds 1 ?_
  rw [rounds_succ]
  go_wp2_with fail
  go_ret
  exact ⟨retI (by simp [cntR]), Below.refl _ _⟩
theorem heldIntS_x (xs : List Int) (v : Value) (fp : List Nat) (k : Int) (w : World) (h0 : 0 < k) (h1 : k + cntR (xs.map intCd) ≤ 200000000000000) (hv : Rd w (.sl (mkR (xs.map intCd) k)) v fp) :
    Calls Tryz.prog 65 #[v, .int .i64 k] w (HeldOut (xs.map intCd) k w) := by
  rcases Nat.eq_zero_or_pos xs.length with hz | hne
  · obtain rfl := List.eq_nil_of_length_eq_zero hz
    exact heldIntS_nil v fp k w hv
  obtain ⟨a, cap, rfl, hc1, hc2⟩ := rd_mk_inv hv
  obtain ⟨b, off, f, rfl, hbs, rfl, _⟩ := hv.addr (by rw [mkR_len, List.length_map]; omega)
  go_enter Tryz.func65, Tryz.ntmps65
  go_wp2_with fail
  go_loopw [1, 5] (fun kv iv wr => ∃ (i : Nat) (q : Int), i ≤ xs.length ∧ iv = .int .i64 i ∧ kv = .int .i64 q ∧ q = k + cntR ((xs.map intCd).take i) ∧ Below w.heap.size w wr) (fun _ iv _ => xs.length - (intOf iv).toNat)
  case atStart => exact ⟨0, k, Nat.zero_le _, rfl, rfl, by simp [cntR], Below.refl _ _⟩
  case round =>
    obtain ⟨i, q, hil, rfl, rfl, hq, hb⟩ := hrel
    have hcs := cntR_take_le (xs.map intCd) i
    have hsz := hb.size
    have hbl : b < wr.heap.size := by omega
    by_cases hlt : i < xs.length
    · have hc2' := cntR_take_le (xs.map intCd) (i + 1)
      rw [cntR_take_succ _ _ _ hlt] at hc2'
      have hw : cntV (intCd xs[i]) = 1 := by rw [show intCd xs[i] = [.int xs[i]] from rfl]; simp only [cntV, cnt]; try omega
      rw [hw] at hc2'
      have hq0 : 0 < q := by omega
      have hq1 : q + (1 : Nat) ≤ 200000000000000 := by omega
      obtain ⟨g0, hst⟩ := held_row (hv.below hb) (intCd_len) hlt
      rw [← hq, show intCd xs[i] = [.int xs[i]] from rfl] at hst
      rw [Nat.mul_one] at hst
      simp only [mkV, mkC, cnt, Int.natCast_one] at hst
      have HQ := Lib.hid hq
      clear hc2' hcs hq
      obtain ⟨v0, f0, g1, _, c0, hr0, hst⟩ := hst.head
      obtain ⟨rfl, _⟩ := rd_int_inv hr0
      go_wp2_with fail
      go_roundw
      case rel =>
        refine ⟨i + 1, q + 1, by omega, by go_num, by go_num, ?_, hb⟩
        have hq := HQ.out; rw [cntR_take_succ _ _ _ hlt, hw]; omega
      case measure => simp [intOf]; omega
    · have he : i = xs.length := by omega
      have h1 : (xs.map intCd).take i = (xs.map intCd) := List.take_of_length_le (by simp; omega)
      rw [h1] at hq
      have HC := Lib.hid hq
      clear hq
      go_wp2_with fail
      go_ret
      exact ⟨retI HC.out, hb⟩
theorem heldSymS_nil (v : Value) (fp : List Nat) (k : Int) (w : World) (hv : Rd w (.sl (mkR (([] : List Sy).map Sy.cd) k)) v fp) :
    Calls Tryz.prog 42 #[v, .int .i64 k] w (HeldOut (([] : List Sy).map Sy.cd) k w) := by
  obtain ⟨a, cap, rfl, hc1, hc2⟩ := rd_mk_inv hv
  go_enter Tryz.func42, Tryz.ntmps42
  go_wp2_with fail
  refine wp_loop_rounds 1 ?_
  rw [rounds_succ]
  go_wp2_with fail
  go_ret
  exact ⟨retI (by simp [cntR]), Below.refl _ _⟩
theorem heldSymS_x (xs : List Sy) (v : Value) (fp : List Nat) (k : Int) (w : World) (h0 : 0 < k) (h1 : k + cntR (xs.map Sy.cd) ≤ 200000000000000) (hv : Rd w (.sl (mkR (xs.map Sy.cd) k)) v fp) :
    Calls Tryz.prog 42 #[v, .int .i64 k] w (HeldOut (xs.map Sy.cd) k w) := by
  rcases Nat.eq_zero_or_pos xs.length with hz | hne
  · obtain rfl := List.eq_nil_of_length_eq_zero hz
    exact heldSymS_nil v fp k w hv
  obtain ⟨a, cap, rfl, hc1, hc2⟩ := rd_mk_inv hv
  obtain ⟨b, off, f, rfl, hbs, rfl, _⟩ := hv.addr (by rw [mkR_len, List.length_map]; omega)
  go_enter Tryz.func42, Tryz.ntmps42
  go_wp2_with fail
  go_loopw [1, 5] (fun kv iv wr => ∃ (i : Nat) (q : Int), i ≤ xs.length ∧ iv = .int .i64 i ∧ kv = .int .i64 q ∧ q = k + cntR ((xs.map Sy.cd).take i) ∧ Below w.heap.size w wr) (fun _ iv _ => xs.length - (intOf iv).toNat)
  case atStart => exact ⟨0, k, Nat.zero_le _, rfl, rfl, by simp [cntR], Below.refl _ _⟩
  case round =>
    obtain ⟨i, q, hil, rfl, rfl, hq, hb⟩ := hrel
    have hcs := cntR_take_le (xs.map Sy.cd) i
    have hsz := hb.size
    have hbl : b < wr.heap.size := by omega
    by_cases hlt : i < xs.length
    · have hc2' := cntR_take_le (xs.map Sy.cd) (i + 1)
      rw [cntR_take_succ _ _ _ hlt] at hc2'
      have hw : cntV (Sy.cd xs[i]) = 1 + cntR (xs[i].args.map intCd) + 1 := by rw [Sy.cd_list]; simp only [cntV, cnt]; try omega
      rw [hw] at hc2'
      have hq0 : 0 < q := by omega
      have hq1 : q + (1 + cntR (xs[i].args.map intCd) + 1 : Nat) ≤ 200000000000000 := by omega
      obtain ⟨g0, hst⟩ := held_row (hv.below hb) (Sy.cd_len) hlt
      rw [← hq, Sy.cd_list] at hst
      simp only [mkV, mkC, cnt, Int.natCast_one] at hst
      have HQ := Lib.hid hq
      clear hc2' hcs hq
      obtain ⟨v0, f0, g1, _, c0, hr0, hst⟩ := hst.head
      obtain ⟨rfl, _⟩ := rd_str_inv hr0
      go_wp2_with fail
      have q0 := cell_regrown c0
      refine wp_region_quiet_below (by kernel_rfl) (by kernel_rfl) ?_
      repeat (quiet_step (refine Calls.regrown_of (markText_any _ _ (by omega) (by omega))))
      refine wpQuiet_nil ?_
      intro w0 hw0
      obtain ⟨⟨dq0, osq0⟩, hw0⟩ := hw0
      have hb0 : Below wr.heap.size wr w0 := hw0 ▸ below_regrown wr dq0 osq0
      clear hw0 q0
      have hst := hst.below hbl hb0
      have hsz0 := hb0.size
      have hb := hb.trans (hb0.mono hsz)
      have hsz := hb.size
      have hbl : b < w0.heap.size := by omega
      obtain ⟨v1, f1, g2, _, c1, hr1, hst⟩ := hst.head
      obtain ⟨ka1, kc1, rfl, _⟩ := rd_mk_inv hr1
      go_wp2_with fail
      refine (heldIntS_x xs[i].args _ _ _ _ (by omega) (by omega) hr1).mono ?_
      rintro e w1 ⟨rfl, hb1⟩
      have hst := hst.below hbl hb1
      have hsz1 := hb1.size
      have hb := hb.trans (hb1.mono hsz)
      have hsz := hb.size
      have hbl : b < w1.heap.size := by omega
      obtain ⟨v2, f2, g3, _, c2, hr2, hst⟩ := hst.head
      obtain ⟨rfl, _⟩ := rd_int_inv hr2
      go_wp2_with fail
      go_roundw
      case rel =>
        refine ⟨i + 1, q + 1 + cntR (xs[i].args.map intCd) + 1, by omega, by go_num, by go_num, ?_, hb⟩
        have hq := HQ.out; rw [cntR_take_succ _ _ _ hlt, hw]; omega
      case measure => simp [intOf]; omega
    · have he : i = xs.length := by omega
      have h1 : (xs.map Sy.cd).take i = (xs.map Sy.cd) := List.take_of_length_le (by simp; omega)
      rw [h1] at hq
      have HC := Lib.hid hq
      clear hq
      go_wp2_with fail
      go_ret
      exact ⟨retI HC.out, hb⟩
theorem heldFormS_nil (v : Value) (fp : List Nat) (k : Int) (w : World) (hv : Rd w (.sl (mkR (([] : List Fm).map Fm.cd) k)) v fp) :
    Calls Tryz.prog 43 #[v, .int .i64 k] w (HeldOut (([] : List Fm).map Fm.cd) k w) := by
  obtain ⟨a, cap, rfl, hc1, hc2⟩ := rd_mk_inv hv
  go_enter Tryz.func43, Tryz.ntmps43
  go_wp2_with fail
  refine wp_loop_rounds 1 ?_
  rw [rounds_succ]
  go_wp2_with fail
  go_ret
  exact ⟨retI (by simp [cntR]), Below.refl _ _⟩
theorem heldFormS_n (n : Nat) : ∀ (xs : List Fm) (v : Value) (fp : List Nat) (k : Int) (w : World) (hn : ∀ x ∈ xs, ndV x.cd < n) (h0 : 0 < k) (h1 : k + cntR (xs.map Fm.cd) ≤ 200000000000000) (hv : Rd w (.sl (mkR (xs.map Fm.cd) k)) v fp),
    Calls Tryz.prog 43 #[v, .int .i64 k] w (HeldOut (xs.map Fm.cd) k w) := by
  induction n with
  | zero =>
    intro xs v fp k w hn h0 h1 hv
    cases xs with
    | nil => exact heldFormS_nil v fp k w hv
    | cons x xs => exact absurd (hn x (by simp)) (by omega)
  | succ n ih =>
    intro xs v fp k w hn h0 h1 hv
    have IH := Lib.hid ih
    have HN := Lib.hid hn
    clear ih hn
    rcases Nat.eq_zero_or_pos xs.length with hz | hne
    · obtain rfl := List.eq_nil_of_length_eq_zero hz
      exact heldFormS_nil v fp k w hv
    obtain ⟨a, cap, rfl, hc1, hc2⟩ := rd_mk_inv hv
    obtain ⟨b, off, f, rfl, hbs, rfl, _⟩ := hv.addr (by rw [mkR_len, List.length_map]; omega)
    go_enter Tryz.func43, Tryz.ntmps43
    go_wp2_with fail
    go_loopw [1, 5] (fun kv iv wr => ∃ (i : Nat) (q : Int), i ≤ xs.length ∧ iv = .int .i64 i ∧ kv = .int .i64 q ∧ q = k + cntR ((xs.map Fm.cd).take i) ∧ Below w.heap.size w wr) (fun _ iv _ => xs.length - (intOf iv).toNat)
    case atStart => exact ⟨0, k, Nat.zero_le _, rfl, rfl, by simp [cntR], Below.refl _ _⟩
    case round =>
      obtain ⟨i, q, hil, rfl, rfl, hq, hb⟩ := hrel
      have hcs := cntR_take_le (xs.map Fm.cd) i
      have hsz := hb.size
      have hbl : b < wr.heap.size := by omega
      by_cases hlt : i < xs.length
      · have hc2' := cntR_take_le (xs.map Fm.cd) (i + 1)
        rw [cntR_take_succ _ _ _ hlt] at hc2'
        have hw : cntV (Fm.cd xs[i]) = 1 + 1 + 1 + cntR (xs[i].lit.atom.a.kids.map Tm.cd) + 1 + cntR (xs[i].lit.atom.b.kids.map Tm.cd) + cntR (xs[i].lit.atom.nums.map Tm.cd) + cntR (xs[i].lit.atom.times.map intCd) + 1 + 1 + 1 + cntR (xs[i].kids.map Fm.cd) := by rw [Fm.cd_list]; simp only [cntV, cnt]; try omega
        rw [hw] at hc2'
        have hq0 : 0 < q := by omega
        have hq1 : q + (1 + 1 + 1 + cntR (xs[i].lit.atom.a.kids.map Tm.cd) + 1 + cntR (xs[i].lit.atom.b.kids.map Tm.cd) + cntR (xs[i].lit.atom.nums.map Tm.cd) + cntR (xs[i].lit.atom.times.map intCd) + 1 + 1 + 1 + cntR (xs[i].kids.map Fm.cd) : Nat) ≤ 200000000000000 := by omega
        obtain ⟨g0, hst⟩ := held_row (hv.below hb) (Fm.cd_len) hlt
        rw [← hq, Fm.cd_list] at hst
        simp only [mkV, mkC, cnt, Int.natCast_one] at hst
        have HQ := Lib.hid hq
        clear hc2' hcs hq
        obtain ⟨v0, f0, g1, _, c0, hr0, hst⟩ := hst.head
        obtain ⟨rfl, _⟩ := rd_int_inv hr0
        obtain ⟨v1, f1, g2, _, c1, hr1, hst⟩ := hst.head
        obtain ⟨rfl, _⟩ := rd_int_inv hr1
        obtain ⟨v2, f2, g3, _, c2, hr2, hst⟩ := hst.head
        obtain ⟨rfl, _⟩ := rd_str_inv hr2
        go_wp2_with fail
        have q2 := cell_regrown c2
        refine wp_region_quiet_below (by kernel_rfl) (by kernel_rfl) ?_
        repeat (quiet_step (refine Calls.regrown_of (markText_any _ _ (by omega) (by omega))))
        refine wpQuiet_nil ?_
        intro w2 hw2
        obtain ⟨⟨dq2, osq2⟩, hw2⟩ := hw2
        have hb2 : Below wr.heap.size wr w2 := hw2 ▸ below_regrown wr dq2 osq2
        clear hw2 q2
        have hst := hst.below hbl hb2
        have hsz2 := hb2.size
        have hb := hb.trans (hb2.mono hsz)
        have hsz := hb.size
        have hbl : b < w2.heap.size := by omega
        obtain ⟨v3, f3, g4, _, c3, hr3, hst⟩ := hst.head
        obtain ⟨ka3, kc3, rfl, _⟩ := rd_mk_inv hr3
        go_wp2_with fail
        refine (heldTermS_x xs[i].lit.atom.a.kids _ _ _ _ (by omega) (by omega) hr3).mono ?_
        rintro e w3 ⟨rfl, hb3⟩
        have hst := hst.below hbl hb3
        have hsz3 := hb3.size
        have hb := hb.trans (hb3.mono hsz)
        have hsz := hb.size
        have hbl : b < w3.heap.size := by omega
        obtain ⟨v4, f4, g5, _, c4, hr4, hst⟩ := hst.head
        obtain ⟨rfl, _⟩ := rd_str_inv hr4
        go_wp2_with fail
        have q4 := cell_regrown c4
        refine wp_region_quiet_below (by kernel_rfl) (by kernel_rfl) ?_
        repeat (quiet_step (refine Calls.regrown_of (markText_any _ _ (by omega) (by omega))))
        refine wpQuiet_nil ?_
        intro w4 hw4
        obtain ⟨⟨dq4, osq4⟩, hw4⟩ := hw4
        have hb4 : Below w3.heap.size w3 w4 := hw4 ▸ below_regrown w3 dq4 osq4
        clear hw4 q4
        have hst := hst.below hbl hb4
        have hsz4 := hb4.size
        have hb := hb.trans (hb4.mono hsz)
        have hsz := hb.size
        have hbl : b < w4.heap.size := by omega
        obtain ⟨v5, f5, g6, _, c5, hr5, hst⟩ := hst.head
        obtain ⟨ka5, kc5, rfl, _⟩ := rd_mk_inv hr5
        go_wp2_with fail
        refine (heldTermS_x xs[i].lit.atom.b.kids _ _ _ _ (by omega) (by omega) hr5).mono ?_
        rintro e w5 ⟨rfl, hb5⟩
        have hst := hst.below hbl hb5
        have hsz5 := hb5.size
        have hb := hb.trans (hb5.mono hsz)
        have hsz := hb.size
        have hbl : b < w5.heap.size := by omega
        obtain ⟨v6, f6, g7, _, c6, hr6, hst⟩ := hst.head
        obtain ⟨ka6, kc6, rfl, _⟩ := rd_mk_inv hr6
        go_wp2_with fail
        refine (heldTermS_x xs[i].lit.atom.nums _ _ _ _ (by omega) (by omega) hr6).mono ?_
        rintro e w6 ⟨rfl, hb6⟩
        have hst := hst.below hbl hb6
        have hsz6 := hb6.size
        have hb := hb.trans (hb6.mono hsz)
        have hsz := hb.size
        have hbl : b < w6.heap.size := by omega
        obtain ⟨v7, f7, g8, _, c7, hr7, hst⟩ := hst.head
        obtain ⟨ka7, kc7, rfl, _⟩ := rd_mk_inv hr7
        go_wp2_with fail
        refine (heldIntS_x xs[i].lit.atom.times _ _ _ _ (by omega) (by omega) hr7).mono ?_
        rintro e w7 ⟨rfl, hb7⟩
        have hst := hst.below hbl hb7
        have hsz7 := hb7.size
        have hb := hb.trans (hb7.mono hsz)
        have hsz := hb.size
        have hbl : b < w7.heap.size := by omega
        obtain ⟨v8, f8, g9, _, c8, hr8, hst⟩ := hst.head
        obtain ⟨rfl, _⟩ := rd_int_inv hr8
        obtain ⟨v9, f9, g10, _, c9, hr9, hst⟩ := hst.head
        obtain ⟨rfl, _⟩ := rd_bool_inv hr9
        obtain ⟨v10, f10, g11, _, c10, hr10, hst⟩ := hst.head
        obtain ⟨rfl, _⟩ := rd_bool_inv hr10
        obtain ⟨v11, f11, g12, _, c11, hr11, hst⟩ := hst.head
        obtain ⟨ka11, kc11, rfl, _⟩ := rd_mk_inv hr11
        go_wp2_with fail
        all_goals try (rename_i hbad; exact absurd ((dec_beq _).symm.trans hbad) Bool.false_ne_true)
        refine (IH.out xs[i].kids _ _ _ _ (fun y hy => by have := Fm.kid_nd hy; have := HN.out _ (List.getElem_mem hlt); omega) (by omega) (by omega) hr11).mono ?_
        rintro e w11 ⟨rfl, hb11⟩
        have hst := hst.below hbl hb11
        have hsz11 := hb11.size
        have hb := hb.trans (hb11.mono hsz)
        have hsz := hb.size
        have hbl : b < w11.heap.size := by omega
        go_wp2_with fail
        go_roundw
        case rel =>
          refine ⟨i + 1, q + 1 + 1 + 1 + cntR (xs[i].lit.atom.a.kids.map Tm.cd) + 1 + cntR (xs[i].lit.atom.b.kids.map Tm.cd) + cntR (xs[i].lit.atom.nums.map Tm.cd) + cntR (xs[i].lit.atom.times.map intCd) + 1 + 1 + 1 + cntR (xs[i].kids.map Fm.cd), by omega, by go_num, by go_num, ?_, hb⟩
          have hq := HQ.out; rw [cntR_take_succ _ _ _ hlt, hw]; omega
        case measure => simp [intOf]; omega
      · have he : i = xs.length := by omega
        have h1 : (xs.map Fm.cd).take i = (xs.map Fm.cd) := List.take_of_length_le (by simp; omega)
        rw [h1] at hq
        have HC := Lib.hid hq
        clear hq
        go_wp2_with fail
        go_ret
        exact ⟨retI HC.out, hb⟩
theorem heldFormS_x (xs : List Fm) (v : Value) (fp : List Nat) (k : Int) (w : World) (h0 : 0 < k) (h1 : k + cntR (xs.map Fm.cd) ≤ 200000000000000) (hv : Rd w (.sl (mkR (xs.map Fm.cd) k)) v fp) :
    Calls Tryz.prog 43 #[v, .int .i64 k] w (HeldOut (xs.map Fm.cd) k w) :=
  heldFormS_n _ xs v fp k w (fun x hx => ndR_mem (List.mem_map_of_mem hx)) h0 h1 hv
theorem heldFormSS_nil (v : Value) (fp : List Nat) (k : Int) (w : World) (hv : Rd w (.sl (mkR (([] : List (List Fm)).map fmsCd) k)) v fp) :
    Calls Tryz.prog 24 #[v, .int .i64 k] w (HeldOut (([] : List (List Fm)).map fmsCd) k w) := by
  obtain ⟨a, cap, rfl, hc1, hc2⟩ := rd_mk_inv hv
  go_enter Tryz.func24, Tryz.ntmps24
  go_wp2_with fail
  refine wp_loop_rounds 1 ?_
  rw [rounds_succ]
  go_wp2_with fail
  go_ret
  exact ⟨retI (by simp [cntR]), Below.refl _ _⟩
theorem heldFormSS_x (xs : List (List Fm)) (v : Value) (fp : List Nat) (k : Int) (w : World) (h0 : 0 < k) (h1 : k + cntR (xs.map fmsCd) ≤ 200000000000000) (hv : Rd w (.sl (mkR (xs.map fmsCd) k)) v fp) :
    Calls Tryz.prog 24 #[v, .int .i64 k] w (HeldOut (xs.map fmsCd) k w) := by
  rcases Nat.eq_zero_or_pos xs.length with hz | hne
  · obtain rfl := List.eq_nil_of_length_eq_zero hz
    exact heldFormSS_nil v fp k w hv
  obtain ⟨a, cap, rfl, hc1, hc2⟩ := rd_mk_inv hv
  obtain ⟨b, off, f, rfl, hbs, rfl, _⟩ := hv.addr (by rw [mkR_len, List.length_map]; omega)
  go_enter Tryz.func24, Tryz.ntmps24
  go_wp2_with fail
  go_loopw [1, 5] (fun kv iv wr => ∃ (i : Nat) (q : Int), i ≤ xs.length ∧ iv = .int .i64 i ∧ kv = .int .i64 q ∧ q = k + cntR ((xs.map fmsCd).take i) ∧ Below w.heap.size w wr) (fun _ iv _ => xs.length - (intOf iv).toNat)
  case atStart => exact ⟨0, k, Nat.zero_le _, rfl, rfl, by simp [cntR], Below.refl _ _⟩
  case round =>
    obtain ⟨i, q, hil, rfl, rfl, hq, hb⟩ := hrel
    have hcs := cntR_take_le (xs.map fmsCd) i
    have hsz := hb.size
    have hbl : b < wr.heap.size := by omega
    by_cases hlt : i < xs.length
    · have hc2' := cntR_take_le (xs.map fmsCd) (i + 1)
      rw [cntR_take_succ _ _ _ hlt] at hc2'
      have hw : cntV (fmsCd xs[i]) = cntR (xs[i].map Fm.cd) := by rw [show fmsCd xs[i] = [.sl (xs[i].map Fm.cd)] from rfl]; simp only [cntV, cnt]; try omega
      rw [hw] at hc2'
      have hq0 : 0 < q := by omega
      have hq1 : q + (cntR (xs[i].map Fm.cd) : Nat) ≤ 200000000000000 := by omega
      obtain ⟨g0, hst⟩ := held_row (hv.below hb) (fmsCd_len) hlt
      rw [← hq, show fmsCd xs[i] = [.sl (xs[i].map Fm.cd)] from rfl] at hst
      rw [Nat.mul_one] at hst
      simp only [mkV, mkC, cnt, Int.natCast_one] at hst
      have HQ := Lib.hid hq
      clear hc2' hcs hq
      obtain ⟨v0, f0, g1, _, c0, hr0, hst⟩ := hst.head
      obtain ⟨ka0, kc0, rfl, _⟩ := rd_mk_inv hr0
      go_wp2_with fail
      refine (heldFormS_x xs[i] _ _ _ _ (by omega) (by omega) hr0).mono ?_
      rintro e w0 ⟨rfl, hb0⟩
      have hst := hst.below hbl hb0
      have hsz0 := hb0.size
      have hb := hb.trans (hb0.mono hsz)
      have hsz := hb.size
      have hbl : b < w0.heap.size := by omega
      go_wp2_with fail
      go_roundw
      case rel =>
        refine ⟨i + 1, q + cntR (xs[i].map Fm.cd), by omega, by go_num, by go_num, ?_, hb⟩
        have hq := HQ.out; rw [cntR_take_succ _ _ _ hlt, hw]; omega
      case measure => simp [intOf]; omega
    · have he : i = xs.length := by omega
      have h1 : (xs.map fmsCd).take i = (xs.map fmsCd) := List.take_of_length_le (by simp; omega)
      rw [h1] at hq
      have HC := Lib.hid hq
      clear hq
      go_wp2_with fail
      go_ret
      exact ⟨retI HC.out, hb⟩
end Go.Proofs.YteclckgihmaebaaGreat
