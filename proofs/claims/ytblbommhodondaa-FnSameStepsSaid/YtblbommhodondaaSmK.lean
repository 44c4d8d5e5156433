/- What the laws on the closure call: wpNums, wpKids. -/
import Derived.Deep.RegionHeld3
import Derived.BigQuiet
import Derived.Test.YtblbommhodondaaSmP
namespace Go.Proofs.Ytblbommhodondaa
open Go Go.RowKit
set_option linter.unusedVariables false
set_option linter.unusedSimpArgs false

theorem nats_at {c : List Nat} {k : Nat} (h : k < (nats c).length) : (nats c)[k] = ((Clo.cl c k : Nat) : Int) := by
  have h' : k < c.length := by simpa [nats] using h
  simp only [nats, List.getElem_map, Clo.cl, List.getD_eq_getElem?_getD, List.getElem?_eq_getElem h', Option.getD_some]
theorem len_of_eq {a b : Nat} (h : a = b) : ((a : Int) == (b : Int)) = true := by rw [h]; simp
theorem wpNums_same (xs : List Int) (v y : Value) (f f' : List Nat) (w : World) (hv : Rd w (.sl (xs.map intCd)) v f) (hx : Rd w (.sl (xs.map intCd)) y f') :
    Calls Try.prog 14 #[v, y] w fun e w' => e = .returned (.bool true) ∧ Below w.heap.size w w' := by
  obtain ⟨a, c, rfl, hc1, hc2⟩ := rd_sl_inv hv
  obtain ⟨a', c', rfl, hc1', hc2'⟩ := rd_sl_inv hx
  go_enter Try.func14, Try.ntmps14
  go_wp2_with fail
  go_loopw [5] (fun i wr => ∃ k : Nat, k ≤ xs.length ∧ i = .int .i64 k ∧ Below w.heap.size w wr) (fun i _ => xs.length - (intOf i).toNat)
  case atStart => exact ⟨0, Nat.zero_le _, rfl, Below.refl _ _⟩
  case round =>
    obtain ⟨k, hkl, rfl, hb⟩ := hrel
    have hz := hb.size
    by_cases hlt : k < xs.length
    · obtain ⟨b, off, rfl, hbs, _⟩ := rd_addr hv (by omega)
      obtain ⟨b', off', rfl, hbs', _⟩ := rd_addr hx (by omega)
      obtain ⟨d0, _⟩ := intCd_at (hv.below hb) hlt
      obtain ⟨d0', _⟩ := intCd_at (hx.below hb) hlt
      go_wp2_with fail
      have q0 := cell_regrown d0
      have q0' := cell_regrown d0'
      clear d0 d0'
      refine wp_region_quiet_below (by kernel_rfl) (by kernel_rfl) ?_
      repeat (quiet_step (fail))
      refine wpQuiet_nil ?_
      intro w2 hw2
      obtain ⟨⟨dq, osq⟩, hw2⟩ := hw2
      have hb2 : Below wr.heap.size wr w2 := hw2 ▸ below_regrown wr dq osq
      clear hw2 q0 q0'
      go_wp2_with fail
      go_roundw
      case rel => exact ⟨k + 1, by omega, by go_num, hb.trans (hb2.mono hz)⟩
      case measure => simp [intOf]; omega
    · go_wp2_with fail
      go_ret
      exact ⟨rfl, hb⟩
/-- Up to k the kids are in one class each. -/
def KidsTo (ps : List Tm) (c : List Nat) (xs ys : List Tm) (k : Nat) : Prop := ∀ j, j < k → ∀ (h1 : j < xs.length) (h2 : j < ys.length), Clo.cl c (Tm.pos ps xs[j]) = Clo.cl c (Tm.pos ps ys[j])
theorem KidsTo.succ {ps : List Tm} {c : List Nat} {xs ys : List Tm} {k : Nat} (h : KidsTo ps c xs ys k) (hk1 : k < xs.length) (hk2 : k < ys.length) (he : Clo.cl c (Tm.pos ps xs[k]) = Clo.cl c (Tm.pos ps ys[k])) : KidsTo ps c xs ys (k + 1) := fun j hj h1 h2 => by
  rcases Nat.lt_or_ge j k with h3 | h3
  · exact h j h3 h1 h2
  · obtain rfl : j = k := by omega
    exact he
theorem wpPlace_eq {P : Program} {fn : Nat} {args : Array Value} {w : World} {n m : Int} (h : n = m) (hc : Calls P fn args w fun e w' => e = .returned (.int .i64 n) ∧ Below w.heap.size w w') : Calls P fn args w fun e w' => e = .returned (.int .i64 m) ∧ Below w.heap.size w w' := h ▸ hc
set_option maxHeartbeats 4000000 in
theorem wpKids_any (ps : List Tm) (c : List Nat) (i k : Nat) (v u : Value) (f : List Nat) (w : World) (ho : Hid (Tm.Ord ps)) (hl : c.length = ps.length) (hps : ps.length ≤ 24) (hi : i < ps.length) (hk : k < ps.length) (hks : ∀ t ∈ ps, t.kids.length ≤ 5000) (hv : TmsR w ps v) (hu : Rd w (.sl ((nats c).map intCd)) u f) :
    Calls Try.prog 16 #[v, u, .int .i64 i, .int .i64 k] w fun e w' => e = .returned (.bool (Clo.kidsB ps c ps[i].kids ps[k].kids)) ∧ Below w.heap.size w w' := by
  obtain ⟨a, cap, rfl, hc1, hc2⟩ := hv.form
  obtain ⟨b1, off1, rfl, hbs1⟩ := hv.addr (by omega)
  obtain ⟨ua, uc, rfl, huc1, huc2⟩ := rd_sl_inv hu
  rw [nats_len] at huc1
  obtain ⟨b2, off2, rfl, hbs2, _⟩ := rd_addr hu (by rw [nats_len]; omega)
  obtain ⟨xa, xc, c0, c1, hss, hkk⟩ := hv.at hi
  obtain ⟨ya, yc, d0, d1, hst, hkl⟩ := hv.at hk
  obtain ⟨_, _, _, hx1, hx2⟩ := hkk.form
  obtain ⟨_, _, _, hy1, hy2⟩ := hkl.form
  have hki := hks _ (List.getElem_mem hi)
  have hkj := hks _ (List.getElem_mem hk)
  have hii : (i : Int) < (ps.length : Int) := by omega
  have hkk' : (k : Int) < (ps.length : Int) := by omega
  have hKI := Lib.hid (fun t (ht : t ∈ ps[i].kids) => Tm.Ord.kid ho.out hi ht)
  have hKJ := Lib.hid (fun t (ht : t ∈ ps[k].kids) => Tm.Ord.kid ho.out hk ht)
  clear ho hks
  rw [nats_len]
  go_enter Try.func16, Try.ntmps16
  go_wp2_with fail
  have q0 := cell_regrown c1
  have q1 := cell_regrown d1
  refine wp_region_quiet_below (by kernel_rfl) (by kernel_rfl) ?_
  repeat (go_big_quiet_step (fail))
  refine wpQuiet_nil ?_
  intro w2 hw2
  obtain ⟨⟨dq, osq⟩, hw2⟩ := hw2
  have hb2 : Below w.heap.size w w2 := hw2 ▸ below_regrown w dq osq
  clear hw2 q0 q1 dq osq
  by_cases hle : ps[i].kids.length = ps[k].kids.length
  rotate_left
  · have hq : ((ps[i].kids.length : Int) == (ps[k].kids.length : Int)) = false := beq_eq_false_iff_ne.2 (by omega)
    have HF := Lib.hid (Clo.kidsB_len (ps := ps) (c := c) hle)
    go_wp2_with fail
    go_ret
    exact ⟨retB HF.out.symm, hb2⟩
  have hq := len_of_eq hle
  go_wp2_with fail
  go_loopw [9] (fun jv wr => ∃ j : Nat, j ≤ ps[i].kids.length ∧ jv = .int .i64 j ∧ Hid (KidsTo ps c ps[i].kids ps[k].kids j) ∧ Below w.heap.size w wr) (fun jv _ => ps[i].kids.length - (intOf jv).toNat)
  case atStart => exact ⟨0, Nat.zero_le _, rfl, Lib.hid (fun j hj => by omega), hb2⟩
  case round =>
    clear hb2
    obtain ⟨j, hjl, rfl, hall, hb⟩ := hrel
    have hz := hb.size
    have hvw := hv.below hb
    replace c1 := cell_keep c1 hb
    replace d1 := cell_keep d1 hb
    by_cases hlj : j < ps[i].kids.length
    · have hlk : j < ps[k].kids.length := by omega
      obtain ⟨b3, off3, rfl, hbs3⟩ := hkk.addr (by omega)
      obtain ⟨b4, off4, rfl, hbs4⟩ := hkl.addr (by omega)
      obtain ⟨la, lc, e0, e1, hs3, hk3⟩ := (hkk.below hb).at hlj
      obtain ⟨ma, mc, g0, g1, hs4, hk4⟩ := (hkl.below hb).at hlk
      have hm3 := hKI.out _ (List.getElem_mem hlj)
      have hm4 := hKJ.out _ (List.getElem_mem hlk)
      have HP3 := Lib.hid (Tm.plc_pos hm3)
      have HP4 := Lib.hid (Tm.plc_pos hm4)
      have hp3 := (Tm.pos_yes hm3).1
      have hp4 := (Tm.pos_yes hm4).1
      obtain ⟨z3, _⟩ := intCd_at (hu.below hb) (k := Tm.pos ps ps[i].kids[j]) (by rw [nats_len]; omega)
      obtain ⟨z4, _⟩ := intCd_at (hu.below hb) (k := Tm.pos ps ps[k].kids[j]) (by rw [nats_len]; omega)
      rw [nats_at] at z3 z4
      have hz3 : (Tm.pos ps ps[i].kids[j] : Int) < (c.length : Int) := by omega
      have hz4 : (Tm.pos ps ps[k].kids[j] : Int) < (c.length : Int) := by omega
      clear hm3 hm4
      have hjj : (j : Int) < (ps[i].kids.length : Int) := by omega
      have hjk : (j : Int) < (ps[k].kids.length : Int) := by omega
      by_cases hcl : Clo.cl c (Tm.pos ps ps[i].kids[j]) = Clo.cl c (Tm.pos ps ps[k].kids[j])
      · have hq2 := len_of_eq hcl
        have HS := Lib.hid (hall.out.succ hlj hlk hcl)
        go_wp2_with fail
        have q0 := cell_regrown c1
        have q1 := cell_regrown d1
        have q2 := cell_regrown e0
        have q3 := cell_regrown e1
        have q4 := cell_regrown g0
        have q5 := cell_regrown g1
        have q6 := cell_regrown z3
        have q7 := cell_regrown z4
        refine wp_region_quiet_below (by kernel_rfl) (by kernel_rfl) ?_
        repeat (go_big_quiet_step (first
          | (with_reducible refine Calls.regrown_of (wpPlace_eq HP3.out (wpPlace_any ps ps[i].kids[j] _ _ _ (hvw.below (below_regrown _ _ _)) ((TmR.mk hs3 hk3).below (below_regrown _ _ _)))))
          | (with_reducible refine Calls.regrown_of (wpPlace_eq HP4.out (wpPlace_any ps ps[k].kids[j] _ _ _ (hvw.below (below_regrown _ _ _)) ((TmR.mk hs4 hk4).below (below_regrown _ _ _)))))))
        refine wpQuiet_nil ?_
        intro w9 hw9
        obtain ⟨⟨dq, osq⟩, hw9⟩ := hw9
        have hb9 : Below wr.heap.size wr w9 := hw9 ▸ below_regrown wr dq osq
        clear hw9 q0 q1 q2 q3 q4 q5 q6 q7
        go_wp2_with fail
        go_roundw
        case rel => exact ⟨j + 1, by omega, by go_num, HS, hb.trans (hb9.mono hz)⟩
        case measure => simp [intOf]; omega
      · have hq2 : (((Clo.cl c (Tm.pos ps ps[i].kids[j]) : Nat) : Int) == ((Clo.cl c (Tm.pos ps ps[k].kids[j]) : Nat) : Int)) = false := beq_eq_false_iff_ne.2 (by omega)
        have HF := Lib.hid (Clo.kidsB_not hlj hlk hcl)
        go_wp2_with fail
        have q0 := cell_regrown c1
        have q1 := cell_regrown d1
        have q2 := cell_regrown e0
        have q3 := cell_regrown e1
        have q4 := cell_regrown g0
        have q5 := cell_regrown g1
        have q6 := cell_regrown z3
        have q7 := cell_regrown z4
        refine wp_region_quiet_below (by kernel_rfl) (by kernel_rfl) ?_
        repeat (go_big_quiet_step (first
          | (with_reducible refine Calls.regrown_of (wpPlace_eq HP3.out (wpPlace_any ps ps[i].kids[j] _ _ _ (hvw.below (below_regrown _ _ _)) ((TmR.mk hs3 hk3).below (below_regrown _ _ _)))))
          | (with_reducible refine Calls.regrown_of (wpPlace_eq HP4.out (wpPlace_any ps ps[k].kids[j] _ _ _ (hvw.below (below_regrown _ _ _)) ((TmR.mk hs4 hk4).below (below_regrown _ _ _)))))))
        refine wpQuiet_nil ?_
        intro w9 hw9
        obtain ⟨⟨dq, osq⟩, hw9⟩ := hw9
        have hb9 : Below wr.heap.size wr w9 := hw9 ▸ below_regrown wr dq osq
        clear hw9 q0 q1 q2 q3 q4 q5 q6 q7
        go_wp2_with fail
        go_ret
        exact ⟨retB HF.out.symm, hb.trans (hb9.mono hz)⟩
    · have HF := Lib.hid (Clo.kidsB_all (ps := ps) (c := c) hle (fun j h1 h2 => hall.out j (by omega) h1 h2))
      go_wp2_with fail
      go_ret
      exact ⟨retB HF.out.symm, hb⟩
end Go.Proofs.Ytblbommhodondaa
