/- The exact laws' held functions. -/
import Derived.Test.YteclieenkephfaaGreatExMark
namespace Go.Proofs.YteclieenkephfaaGreat
open Go Go.RowKit
set_option linter.unusedVariables false
set_option linter.unusedSimpArgs false


set_option maxHeartbeats 1600000
set_option maxRecDepth 100000
theorem dec_beq (x : Int) : (!decide (x = 0) == (x == 0)) = false := by
  rw [show (x == 0) = decide (x = 0) from rfl]; cases decide (x = 0) <;> rfl
theorem RdFlat.below {w w' : World} {b off : Nat} {ds : List CD} {f : List Nat} (h : RdFlat w b off ds f) (hl : b < w.heap.size) (hb : Below w.heap.size w w') : RdFlat w' b off ds f := by
  obtain ⟨vs, h1, h2⟩ := h
  exact ⟨vs, fun j u hj => (World.cell?_of_block (w := w) (hb.block b hl)).trans (h1 j u hj), h2.below hb⟩
theorem held_row {α : Type} {cd : α → List CD} {w : World} {xs : List α} {b off n cap K : Nat} {k : Int} {fp : List Nat} (h : Rd w (.sl (mkR (xs.map cd) k)) (.slice (some ⟨b, off, none⟩) n cap) fp) (hK : ∀ x, (cd x).length = K) {i : Nat} (hi : i < xs.length) :
    ∃ g, RdFlat w b (off + i * K) (mkV (cd xs[i]) (k + cntR ((xs.map cd).take i))) g := by
  obtain ⟨vs, g, h1, h2, _⟩ := h.row (k := K) (by
    intro e he
    obtain ⟨j, hj, rfl⟩ := List.getElem_of_mem he
    rw [mkR_get _ _ _ (by rw [mkR_len] at hj; exact hj), mkV_len, List.getElem_map]; exact hK _) i (by rw [mkR_len, List.length_map]; exact hi)
  rw [mkR_get _ _ _ (by rw [List.length_map]; exact hi), List.getElem_map] at h2
  exact ⟨g, vs, h1, h2⟩
theorem rd_mk_inv {α : Type} {cd : α → List CD} {w : World} {xs : List α} {q : Int} {v : Value} {f : List Nat} (h : Rd w (.sl (mkR (xs.map cd) q)) v f) : ∃ a c, v = .slice a xs.length c ∧ xs.length ≤ c ∧ c ≤ 9223372036854775807 := by
  obtain ⟨a, c, h1, h2, h3⟩ := h.sl_form
  rw [mkR_len, List.length_map] at h1 h2
  exact ⟨a, c, h1, h2, h3⟩
def HeldOut (es : List (List CD)) (k : Int) (w : World) (e : Ending) (w' : World) : Prop := e = .returned (.int .i64 (k + cntR es)) ∧ Below w.heap.size w w'

theorem heldIntS_nil (v : Value) (fp : List Nat) (k : Int) (w : World) (hv : Rd w (.sl (mkR (([] : List Int).map intCd) k)) v fp) :
    Calls Tryz.prog 35 #[v, .int .i64 k] w (HeldOut (([] : List Int).map intCd) k w) := by
  obtain ⟨a, cap, rfl, hc1, hc2⟩ := rd_mk_inv hv
  go_enter Tryz.func35, Tryz.ntmps35
  go_wp2_with fail
  refine wp_loop_rounds 1 ?_
  rw [rounds_succ]
  go_wp2_with fail
  go_ret
  exact ⟨retI (by simp [cntR]), Below.refl _ _⟩
theorem heldIntS_x (xs : List Int) (v : Value) (fp : List Nat) (k : Int) (w : World) (h0 : 0 < k) (h1 : k + cntR (xs.map intCd) ≤ 200000000000000) (hv : Rd w (.sl (mkR (xs.map intCd) k)) v fp) :
    Calls Tryz.prog 35 #[v, .int .i64 k] w (HeldOut (xs.map intCd) k w) := by
  rcases Nat.eq_zero_or_pos xs.length with hz | hne
  · obtain rfl := List.eq_nil_of_length_eq_zero hz
    exact heldIntS_nil v fp k w hv
  obtain ⟨a, cap, rfl, hc1, hc2⟩ := rd_mk_inv hv
  obtain ⟨b, off, f, rfl, hbs, rfl, _⟩ := hv.addr (by rw [mkR_len, List.length_map]; omega)
  go_enter Tryz.func35, Tryz.ntmps35
  go_wp2_with fail
  go_loopw [1, 5] (fun kv iv wr => ∃ (i : Nat) (q : Int), i ≤ xs.length ∧ iv = .int .i64 i ∧ kv = .int .i64 q ∧ q = k + cntR ((xs.map intCd).take i) ∧ Below w.heap.size w wr) (fun _ iv _ => xs.length - (intOf iv).toNat)
  case atStart => exact ⟨0, k, Nat.zero_le _, rfl, rfl, by simp [cntR], Below.refl _ _⟩
  case round =>
    obtain ⟨i, q, hil, rfl, rfl, hq, hb⟩ := hrel
    have hcs := cntR_take_le (xs.map intCd) i
    have hsz := hb.size
    have hbl : b < wr.heap.size := by omega
    by_cases hlt : i < xs.length
    · have hc2' := cntR_take_le (xs.map intCd) (i + 1)
      rw [cntR_take_succ _ _ _ hlt] at hc2'
      have hw : cntV (intCd xs[i]) = 1 := by rw [show intCd xs[i] = [.int xs[i]] from rfl]; simp only [cntV, cnt]; try omega
      rw [hw] at hc2'
      have hq0 : 0 < q := by omega
      have hq1 : q + (1 : Nat) ≤ 200000000000000 := by omega
      obtain ⟨g0, hst⟩ := held_row (hv.below hb) (intCd_len) hlt
      rw [← hq, show intCd xs[i] = [.int xs[i]] from rfl] at hst
      rw [Nat.mul_one] at hst
      simp only [mkV, mkC, cnt, Int.natCast_one] at hst
      have HQ := Lib.hid hq
      clear hc2' hcs hq
      obtain ⟨v0, f0, g1, _, c0, hr0, hst⟩ := hst.head
      obtain ⟨rfl, _⟩ := rd_int_inv hr0
      go_wp2_with fail
      go_roundw
      case rel =>
        refine ⟨i + 1, q + 1, by omega, by go_num, by go_num, ?_, hb⟩
        have hq := HQ.out; rw [cntR_take_succ _ _ _ hlt, hw]; omega
      case measure => simp [intOf]; omega
    · have he : i = xs.length := by omega
      have h1 : (xs.map intCd).take i = (xs.map intCd) := List.take_of_length_le (by simp; omega)
      rw [h1] at hq
      have HC := Lib.hid hq
      clear hq
      go_wp2_with fail
      go_ret
      exact ⟨retI HC.out, hb⟩
theorem heldLinS_nil (v : Value) (fp : List Nat) (k : Int) (w : World) (hv : Rd w (.sl (mkR (([] : List Ln).map Ln.cd) k)) v fp) :
    Calls Tryz.prog 16 #[v, .int .i64 k] w (HeldOut (([] : List Ln).map Ln.cd) k w) := by
  obtain ⟨a, cap, rfl, hc1, hc2⟩ := rd_mk_inv hv
  go_enter Tryz.func16, Tryz.ntmps16
  go_wp2_with fail
  refine wp_loop_rounds 1 ?_
  rw [rounds_succ]
  go_wp2_with fail
  go_ret
  exact ⟨retI (by simp [cntR]), Below.refl _ _⟩
theorem heldLinS_x (xs : List Ln) (v : Value) (fp : List Nat) (k : Int) (w : World) (h0 : 0 < k) (h1 : k + cntR (xs.map Ln.cd) ≤ 200000000000000) (hv : Rd w (.sl (mkR (xs.map Ln.cd) k)) v fp) :
    Calls Tryz.prog 16 #[v, .int .i64 k] w (HeldOut (xs.map Ln.cd) k w) := by
  rcases Nat.eq_zero_or_pos xs.length with hz | hne
  · obtain rfl := List.eq_nil_of_length_eq_zero hz
    exact heldLinS_nil v fp k w hv
  obtain ⟨a, cap, rfl, hc1, hc2⟩ := rd_mk_inv hv
  obtain ⟨b, off, f, rfl, hbs, rfl, _⟩ := hv.addr (by rw [mkR_len, List.length_map]; omega)
  go_enter Tryz.func16, Tryz.ntmps16
  go_wp2_with fail
  go_loopw [1, 5] (fun kv iv wr => ∃ (i : Nat) (q : Int), i ≤ xs.length ∧ iv = .int .i64 i ∧ kv = .int .i64 q ∧ q = k + cntR ((xs.map Ln.cd).take i) ∧ Below w.heap.size w wr) (fun _ iv _ => xs.length - (intOf iv).toNat)
  case atStart => exact ⟨0, k, Nat.zero_le _, rfl, rfl, by simp [cntR], Below.refl _ _⟩
  case round =>
    obtain ⟨i, q, hil, rfl, rfl, hq, hb⟩ := hrel
    have hcs := cntR_take_le (xs.map Ln.cd) i
    have hsz := hb.size
    have hbl : b < wr.heap.size := by omega
    by_cases hlt : i < xs.length
    · have hc2' := cntR_take_le (xs.map Ln.cd) (i + 1)
      rw [cntR_take_succ _ _ _ hlt] at hc2'
      have hw : cntV (Ln.cd xs[i]) = cntR (xs[i].coefs.map intCd) + 1 + 1 := by rw [Ln.cd_list]; simp only [cntV, cnt]; try omega
      rw [hw] at hc2'
      have hq0 : 0 < q := by omega
      have hq1 : q + (cntR (xs[i].coefs.map intCd) + 1 + 1 : Nat) ≤ 200000000000000 := by omega
      obtain ⟨g0, hst⟩ := held_row (hv.below hb) (Ln.cd_len) hlt
      rw [← hq, Ln.cd_list] at hst
      simp only [mkV, mkC, cnt, Int.natCast_one] at hst
      have HQ := Lib.hid hq
      clear hc2' hcs hq
      obtain ⟨v0, f0, g1, _, c0, hr0, hst⟩ := hst.head
      obtain ⟨ka0, kc0, rfl, _⟩ := rd_mk_inv hr0
      go_wp2_with fail
      refine (heldIntS_x xs[i].coefs _ _ _ _ (by omega) (by omega) hr0).mono ?_
      rintro e w0 ⟨rfl, hb0⟩
      have hst := hst.below hbl hb0
      have hsz0 := hb0.size
      have hb := hb.trans (hb0.mono hsz)
      have hsz := hb.size
      have hbl : b < w0.heap.size := by omega
      obtain ⟨v1, f1, g2, _, c1, hr1, hst⟩ := hst.head
      obtain ⟨rfl, _⟩ := rd_int_inv hr1
      obtain ⟨v2, f2, g3, _, c2, hr2, hst⟩ := hst.head
      obtain ⟨rfl, _⟩ := rd_bool_inv hr2
      go_wp2_with fail
      all_goals try (rename_i hbad; exact absurd ((dec_beq _).symm.trans hbad) Bool.false_ne_true)
      go_roundw
      case rel =>
        refine ⟨i + 1, q + cntR (xs[i].coefs.map intCd) + 1 + 1, by omega, by go_num, by go_num, ?_, hb⟩
        have hq := HQ.out; rw [cntR_take_succ _ _ _ hlt, hw]; omega
      case measure => simp [intOf]; omega
    · have he : i = xs.length := by omega
      have h1 : (xs.map Ln.cd).take i = (xs.map Ln.cd) := List.take_of_length_le (by simp; omega)
      rw [h1] at hq
      have HC := Lib.hid hq
      clear hq
      go_wp2_with fail
      go_ret
      exact ⟨retI HC.out, hb⟩
end Go.Proofs.YteclieenkephfaaGreat
