/- Parts of the proof: CloJ. -/
import Derived.Lib.Hide
import Derived.OwnWalk
import Derived.Deep.CutRange
import Derived.Test.YtlefdhhnlbpbkaaPb25
section
namespace Go.Proofs.Ytlefdhhnlbpbkaa
open Go Go.RowKit
set_option linter.unusedVariables false
set_option linter.unusedSimpArgs false
set_option maxRecDepth 100000
set_option maxHeartbeats 16000000
theorem za2 (ps : List Tm) (c : List Nat) (l : List Stp) (pv cv sv : Value) (cb a b : Nat) (w : World) (r : Bool) (ho : Hid (Tm.Ord ps)) (hc : Hid (c.length = ps.length)) (ha : a < ps.length) (hb : b < ps.length) (hr : Clo.alikeB ps c ps[a] ps[b] = r) (hst : CloAt w cb pv c l cv sv) (hv : TmsR w ps pv) :
    Calls Try.prog 90 #[.pointer (some ⟨cb, 0, none⟩), .int .i64 a, .int .i64 b] w fun e w' => e = .returned (.bool r) ∧ Below w.heap.size w w' := by
  have hpos : 0 < ps.length := by omega
  obtain ⟨pa, pc, rfl, hp1, hp2⟩ := hv.form
  obtain ⟨pb, off, rfl, hpb⟩ := hv.addr (by omega)
  have HB := zb w (.cells #[.pointer (some ⟨cb, 0, none⟩)] 62)
  have C0 := zq w #[.pointer (some ⟨cb, 0, none⟩)] 62 0
  simp only [zdY, zdW, zdX] at C0
  have HST := hst.below HB
  have hvw := hv.below HB
  obtain ⟨xa, xc, x0, x1, xs, xk⟩ := hvw.at ha
  obtain ⟨ya, yc, y0, y1, ys, yk⟩ := hvw.at hb
  have HX : Hid (∀ t ∈ ps[a].kids, t ∈ ps) := Lib.hid (fun t ht => ho.out.kid ha ht)
  have HY : Hid (∀ t ∈ ps[b].kids, t ∈ ps) := Lib.hid (fun t ht => ho.out.kid hb ht)
  obtain ⟨x, hx⟩ : ∃ x, x = ps[a] := ⟨_, rfl⟩
  obtain ⟨y, hy⟩ : ∃ y, y = ps[b] := ⟨_, rfl⟩
  rw [← hx] at x0 x1 xs xk HX hr
  rw [← hy] at y0 y1 ys yk HY hr
  have P0 := HST.p0
  have HR : Hid (((decide (x.name = y.name) && decide (0 < x.kids.length)) && Clo.kidsB ps c x.kids y.kids) = r) := Lib.hid hr
  clear hx hy hst hv hr
  have hz1 := World.block_lt_of_cell? _ _ C0
  have hz2 := World.block_lt_of_cell? _ _ P0
  have hz3 := World.block_lt_of_cell? _ _ x0
  simp only at hz1 hz2 hz3
  go_enter Try.func90, Try.ntmps90
  go_wp2_with fail
  generalize w.alloc (.cells #[.pointer (some ⟨cb, 0, none⟩)] 62) = W at *
  go_cut [7, 8] from 9 to 22 (fun s7 s8 wx => ∃ b7 b8, s7 = .pointer (some ⟨b7, 0, none⟩) ∧ s8 = .pointer (some ⟨b8, 0, none⟩) ∧ wx.cell? ⟨b7, 0, none⟩ = some (.string x.name) ∧ wx.cell? ⟨b7, 1, none⟩ = some (.slice xa x.kids.length xc) ∧ wx.cell? ⟨b8, 0, none⟩ = some (.string y.name) ∧ wx.cell? ⟨b8, 1, none⟩ = some (.slice ya y.kids.length yc) ∧ Below W.heap.size W wx)
  case first =>
    go_region
    all_goals (go_wp2_with fail; go_meet)
    all_goals
      have B1 := box2 (w := W) (wr := ((W.alloc (.cells #[.string x.name, .slice xa x.kids.length xc] 29)).alloc (.cells #[.string y.name, .slice ya y.kids.length yc] 29)).drew) (cs := #[.string x.name, .slice xa x.kids.length xc]) (ds := #[.string y.name, .slice ya y.kids.length yc]) (T := 29) (U := 29) ((Below.refl _ _).drew)
      have B2 := box2 (w := W) (wr := ((W.alloc (.cells #[.string y.name, .slice ya y.kids.length yc] 29)).alloc (.cells #[.string x.name, .slice xa x.kids.length xc] 29)).drew) (cs := #[.string y.name, .slice ya y.kids.length yc]) (ds := #[.string x.name, .slice xa x.kids.length xc]) (T := 29) (U := 29) ((Below.refl _ _).drew)
      first
        | exact ⟨_, _, rfl, rfl, B1.1 0, B1.1 1, B1.2.1 0, B1.2.1 1, B1.2.2.2⟩
        | exact ⟨_, _, rfl, rfl, B2.2.1 0, B2.2.1 1, B2.1 0, B2.1 1, B2.2.2.2⟩
  case rest =>
  obtain ⟨b7, b8, rfl, rfl, u0, u1, z0, z1, hBx⟩ := hcut
  have hBw := HB.trans (hBx.mono HB.size)
  have C0x := za C0 hBx
  have HSTx := HST.below hBx
  have hvx := hvw.below hBx
  have xkx := xk.below hBx
  have ykx := yk.below hBx
  clear C0 HST hvw xk yk x0 x1 y0 y1 P0 hz1 hz2 hz3 hBx
  by_cases h0 : ((0 : Int) < (x.kids.length : Int))
  rotate_left
  · have h0b : decide ((0 : Int) < (x.kids.length : Int)) = false := by simpa using h0
    have HF : Hid (false = r) := Lib.hid (by rw [← HR.out]; have : ¬ 0 < x.kids.length := by omega
                                             simp [this])
    go_wp2_with fail
    go_ret
    exact ⟨retB HF.out, hBw⟩
  have h0b : decide ((0 : Int) < (x.kids.length : Int)) = true := by simpa using h0
  by_cases hn : x.name.toList = y.name.toList
  rotate_left
  · have HF : Hid (false = r) := Lib.hid (by rw [← HR.out]; have : ¬ x.name = y.name := fun e => hn (by rw [e])
                                             simp [this])
    go_wp2_with fail
    go_ret
    exact ⟨retB HF.out, hBw⟩
  have HT : Hid (Clo.kidsB ps c x.kids y.kids = r) := Lib.hid (by rw [← HR.out, zQ.1 hn]; have : 0 < x.kids.length := by omega
                                                                  simp [this])
  have hnb : (x.name.toList == y.name.toList) = true := by rw [hn]; simp
  clear hn
  go_wp2_with fail
  refine (zcL ps c l x.kids y.kids _ _ _ _ _ _ cb _ ho hc hpos HX HY C0x HSTx hvx xkx ykx).mono ?_
  rintro e w2 ⟨rfl, hb2⟩
  rw [HT.out]
  go_wp2_with fail
  go_ret
  exact ⟨rfl, hBw.trans (hb2.mono hBw.size)⟩
theorem pair_any (ps : List Tm) (c : List Nat) (l : List Stp) (pv cv sv : Value) (cb : Nat) (w : World) (ho : Hid (Tm.Ord ps)) (hc : Hid (c.length = ps.length)) (hl : ps.length ≤ 1000000000) (hst : CloAt w cb pv c l cv sv) (hv : TmsR w ps pv) :
    Calls Try.prog 81 #[.pointer (some ⟨cb, 0, none⟩)] w fun e w' => e = .returned (nextV (Clo.next ps c)) ∧ Below w.heap.size w w' := by
  obtain ⟨pa, pc, rfl, hp1, hp2⟩ := hv.form
  have P0 := hst.p0
  go_enter Try.func81, Try.ntmps81
  go_wp2_with fail
  go_loopw [5, 12] (fun _ i wr => ∃ n : Nat, n ≤ ps.length ∧ i = .int .i64 n ∧ Hid (Clo.Upto ps c n) ∧ Below w.heap.size w wr) (fun _ i _ => ps.length - (intOf i).toNat)
  case atStart => exact ⟨0, Nat.zero_le _, rfl, Lib.hid (fun j hj => by omega), Below.refl _ _⟩
  case round =>
    clear P0
    obtain ⟨n, hn, rfl, hup, hB⟩ := hrel
    by_cases hlt : n < ps.length
    · go_wp2_with fail
      go_loopw [6, 16] (fun _ j wq => ∃ k : Nat, k ≤ n ∧ j = .int .i64 k ∧ Hid (Clo.Upto2 ps c n k) ∧ Below w.heap.size w wq) (fun _ j _ => n - (intOf j).toNat)
      case atStart => exact ⟨0, Nat.zero_le _, rfl, Lib.hid (fun j hj => by omega), hB⟩
      case round =>
        clear hB
        obtain ⟨k, hk, rfl, hup2, hB⟩ := hrel
        by_cases hlk : k < n
        · have hkp : k < ps.length := by omega
          have hstw := hst.below hB
          obtain ⟨g, cp, hcv, hgB, hgw, hcp⟩ := hstw.crow.form (by rw [zl, hc.out]; omega)
          rw [zl] at hcv hcp
          subst hcv
          have e0 := (IRow.cell hstw.crow (k := n) (by rw [zl, hc.out]; exact hlt)).1
          have e1 := (IRow.cell hstw.crow (k := k) (by rw [zl, hc.out]; exact hkp)).1
          rw [Clo.nats_get (by rw [hc.out]; exact hlt)] at e0
          rw [Clo.nats_get (by rw [hc.out]; exact hkp)] at e1
          have hcx : n < c.length := by rw [hc.out]; exact hlt
          have hcy : k < c.length := by rw [hc.out]; exact hkp
          have P1 := hstw.p1
          have hvw := hv.below hB
          by_cases he : Clo.cl c k = Clo.cl c n
          · have heb : (((Clo.cl c k : Nat) : Int) != ((Clo.cl c n : Nat) : Int)) = false := by rw [he]; simp
            have HE : Hid (Clo.badB ps c k n = false) := Lib.hid (Clo.bad_same he)
            clear he
            go_wp2_with fail
            have q0 := cell_regrown e0
            have q1 := cell_regrown e1
            have q2 := cell_regrown P1
            refine wp_region_quiet_below (by kernel_rfl) (by kernel_rfl) ?_
            repeat (quiet_step (fail))
            refine wpQuiet_nil ?_
            intro w2 hw2
            obtain ⟨⟨dq, osq⟩, hw2⟩ := hw2
            have hb2 : Below wr.heap.size wr w2 := hw2 ▸ below_regrown wr dq osq
            clear hw2 q0 q1 q2
            go_wp2_with fail
            go_roundw
            case rel => exact ⟨k + 1, by omega, by go_num, Lib.hid (Clo.upto2_succ hup2.out HE.out), hB.trans (hb2.mono hB.size)⟩
            case measure => simp [intOf]; omega
          · have heb : (((Clo.cl c k : Nat) : Int) != ((Clo.cl c n : Nat) : Int)) = true := by simp; omega
            have HNE := Lib.hid (fun (e : Clo.cl c k = Clo.cl c n) => he e)
            clear he
            cases hal : Clo.alikeB ps c ps[k] ps[n]
            · have HE : Hid (Clo.badB ps c k n = false) := Lib.hid (Clo.bad_no hkp hlt hal)
              have HAL := Lib.hid hal
              clear hal
              go_wp2_with fail
              have q0 := cell_regrown e0
              have q1 := cell_regrown e1
              have q2 := cell_regrown P1
              refine wp_region_quiet_below (by kernel_rfl) (by kernel_rfl) ?_
              repeat (quiet_step (with_reducible refine Calls.regrown_of (za2 ps c l _ _ _ cb k n _ _ ho hc hkp hlt HAL.out (hstw.below (below_regrown _ _ _)) (hvw.below (below_regrown _ _ _)))))
              refine wpQuiet_nil ?_
              intro w2 hw2
              obtain ⟨⟨dq, osq⟩, hw2⟩ := hw2
              have hb2 : Below wr.heap.size wr w2 := hw2 ▸ below_regrown wr dq osq
              clear hw2 q0 q1 q2
              go_wp2_with fail
              go_roundw
              case rel => exact ⟨k + 1, by omega, by go_num, Lib.hid (Clo.upto2_succ hup2.out HE.out), hB.trans (hb2.mono hB.size)⟩
              case measure => simp [intOf]; omega
            · have HE := Lib.hid (Clo.next_some hup.out hup2.out hlk hlt (Clo.bad_yes hkp hlt HNE.out hal))
              have HAL := Lib.hid hal
              clear hal
              go_wp2_with fail
              have q0 := cell_regrown e0
              have q1 := cell_regrown e1
              have q2 := cell_regrown P1
              refine wp_region_quiet_below (by kernel_rfl) (by kernel_rfl) ?_
              repeat (quiet_step (with_reducible refine Calls.regrown_of (za2 ps c l _ _ _ cb k n _ _ ho hc hkp hlt HAL.out (hstw.below (below_regrown _ _ _)) (hvw.below (below_regrown _ _ _)))))
              refine wpQuiet_nil ?_
              intro w2 hw2
              obtain ⟨⟨dq, osq⟩, hw2⟩ := hw2
              have hb2 : Below wr.heap.size wr w2 := hw2 ▸ below_regrown wr dq osq
              clear hw2 q0 q1 q2
              go_wp2_with fail
              (try simp only [Exit.inBlock, Exit.then])
              refine bodyPost_ret (results_tmp3 rfl _ _ _) rfl ?_
              exact ⟨by rw [HE.out]; rfl, hB.trans (hb2.mono hB.size)⟩
        · go_wp2_with fail
          go_roundw
          case rel => exact ⟨n + 1, by omega, by go_num, Lib.hid (fun j hj i hi => by
            rcases Nat.lt_or_ge j n with h | h
            · exact hup.out j h i hi
            · obtain rfl : j = n := by omega
              exact hup2.out i (by omega)), hB⟩
          case measure => simp [intOf]; omega
    · have HN := Lib.hid (Clo.next_none (ps := ps) (c := c) (fun j hj => hup.out j (by omega)))
      go_wp2_with fail
      (try simp only [Exit.inBlock, Exit.then])
      refine bodyPost_ret (results_tmp3 rfl _ _ _) rfl ?_
      exact ⟨by rw [HN.out]; rfl, hB⟩
end Go.Proofs.Ytlefdhhnlbpbkaa
end
