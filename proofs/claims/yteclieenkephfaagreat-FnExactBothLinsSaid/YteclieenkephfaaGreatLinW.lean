/- The reference's l8Lins. -/
import Derived.Deep.RegionHeld3
import Derived.Test.YteclieenkephfaaGreatLinV
namespace Go.Proofs.YteclieenkephfaaGreat
open Go Go.RowKit
set_option linter.unusedVariables false
set_option linter.unusedSimpArgs false
set_option maxRecDepth 100000 in
set_option maxHeartbeats 8000000 in
theorem l8Lins_any (nums : List Tm) (ls : List Lt) (nv v : Value) (f : List Nat) (w : World) (hnd : Hid nums.Nodup) (hnl : nums.length ≤ 4) (hgd : Hid (∀ l ∈ ls, GoodL nums l)) (hlen : ls.length ≤ 1048576) (hnv : TmsR w nums nv) (hv : Rd w (.sl (ls.map Lt.cd)) v f) :
    Calls Tryz.prog 20 #[nv, v] w (ToOut (.sl ((linsP nums ls).map Ln.cd)) w) := by
  obtain ⟨na, nc, rfl, _, _⟩ := hnv.form
  obtain ⟨va, vc, rfl, _, _⟩ := rd_sl_inv hv
  go_enter Tryz.func20, Tryz.ntmps20
  go_wp2_with fail
  go_loopw [5, 6] (fun ov i wr => ∃ (k : Nat) (fp : List Nat), k ≤ ls.length ∧ i = .int .i64 k ∧ Own wr w.heap.size 69 3 ov ((linsP nums (ls.take k)).map Ln.cd) fp ∧ Fresh w.heap.size wr fp ∧ Below w.heap.size w wr) (fun _ i _ => ls.length - (intOf i).toNat)
  case atStart => exact ⟨0, [], Nat.zero_le _, rfl, by exact Own.empty _ _ _ _ (Nat.le_refl _), Fresh.nil _ _, (Below.refl _ _).alloc (Nat.le_refl _) _⟩
  case round =>
    obtain ⟨k, fp, hk, rfl, hown, hfr, hb⟩ := hrel
    have hz := hb.size
    by_cases hlt : k < ls.length
    · obtain ⟨vb, voff, rfl, hvb, _⟩ := rd_addr hv (by omega)
      have hbz : vb < wr.heap.size := by omega
      obtain ⟨a2, c2, f2, a4, c4, f4, a5, c5, f5, a6, c6, f6, d0, d1, d2, d3, d4, d5, d6, d7, d8, d9, m0, m1, m2, m3, m4, m5, m6, m7, _⟩ := Lt.at (hv.below hb) hlt
      have hG := Lib.hid (hgd.out _ (List.getElem_mem hlt))
      have hB2 : Below wr.heap.size wr (wr.alloc (.cells #[.int .i64 ls[k].atom.kind, .string ls[k].atom.a.name, .slice a2 ls[k].atom.a.kids.length c2, .string ls[k].atom.b.name, .slice a4 ls[k].atom.b.kids.length c4, .slice a5 ls[k].atom.nums.length c5, .slice a6 ls[k].atom.times.length c6, .int .i64 ls[k].atom.bound, .bool ls[k].atom.strict] 62)) := below_alloc _ _
      go_upto_region 6 with fail
      have Y := cell_new wr #[.int .i64 ls[k].atom.kind, .string ls[k].atom.a.name, .slice a2 ls[k].atom.a.kids.length c2, .string ls[k].atom.b.name, .slice a4 ls[k].atom.b.kids.length c4, .slice a5 ls[k].atom.nums.length c5, .slice a6 ls[k].atom.times.length c6, .int .i64 ls[k].atom.bound, .bool ls[k].atom.strict] 62
      have d0 := cell_keep d0 hB2
      have d1 := cell_keep d1 hB2
      have d2 := cell_keep d2 hB2
      have d3 := cell_keep d3 hB2
      have d4 := cell_keep d4 hB2
      have d5 := cell_keep d5 hB2
      have d6 := cell_keep d6 hB2
      have d7 := cell_keep d7 hB2
      have d8 := cell_keep d8 hB2
      have d9 := cell_keep d9 hB2
      have hll9 : ((linsP nums (ls.take k)).map Ln.cd).length ≤ 2 * ls.length := by rw [List.length_map]; have := linsP_len nums (ls.take k); rw [List.length_take] at this; omega
      generalize wr.alloc (.cells #[.int .i64 ls[k].atom.kind, .string ls[k].atom.a.name, .slice a2 ls[k].atom.a.kids.length c2, .string ls[k].atom.b.name, .slice a4 ls[k].atom.b.kids.length c4, .slice a5 ls[k].atom.nums.length c5, .slice a6 ls[k].atom.times.length c6, .int .i64 ls[k].atom.bound, .bool ls[k].atom.strict] 62) = W at *
      have Y0 := Y 0
      have Y1 := Y 1
      have Y2 := Y 2
      have Y3 := Y 3
      have Y4 := Y 4
      simp only [List.getElem?_toArray, List.getElem?_cons_zero, List.getElem?_cons_succ] at Y0 Y1 Y2 Y3 Y4
      have hnw := (hnv.below hb).below hB2
      clear Y
      by_cases hk2 : ls[k].atom.kind = 2
      · have hkb : (ls[k].atom.kind == (2 : Int)) = true := by simpa using hk2
        have HL1 : Hid (lins1 nums ls[k] = [linT nums ls[k]]) := Lib.hid (by rw [lins1_sum hk2, linsP_linT hk2 hG.out hnd.out hnl])
        have hIn := Lib.hid (hG.out.sumIn hk2)
        have HLn := Lib.hid (hG.out.sumLen hk2)
        have hFew := hG.out.sumFew hk2
        clear hk2
        go_wp2_with fail
        refine (l8Lin_any nums ls[k] _ _ _ _ hnd hnl hIn HLn.out (by omega) hnw (by exact (Lt.close m0 m1 m2 m3 m4 m5 m6 m7).below hB2)).mono ?_
        rintro e w2 ⟨vs2, fq, rfl, hr2, hf2, hb2⟩
        obtain ⟨b0, e0, g0, rfl, rfl, n0, n1⟩ := Ln.open hr2
        generalize linT nums ls[k] = y at *
        have hBW := hB2.trans (hb2.mono hB2.size)
        have hf3 := hf2.mono (lo' := wr.heap.size) hB2.size
        clear hll9
        have hALB := below_alloc w2 (.cells #[.slice b0 y.coefs.length e0, .int .i64 y.bound, .bool y.strict] 69)
        have hBA := hBW.trans (hALB.mono hBW.size)
        have hown2 := hown.below hBA
        have hll9 : ((linsP nums (ls.take k)).map Ln.cd).length ≤ 2 * ls.length := by rw [List.length_map]; have := linsP_len nums (ls.take k); rw [List.length_take] at this; omega
        have hzW := hBW.size
        go_wp2_with (at_builtin; refine wpList_app slTyLinS rfl _ _ rfl w.heap.size _ _ fp rfl hown2 ⟨w2.heap.size, 0, none⟩ 1 1 [y.cd] [.slice b0 y.coefs.length e0, .int .i64 y.bound, .bool y.strict] fq rfl rfl ?rd ?k ?cells ?na ?bytes ?len ?base ?next)
        case rd => exact by simpa using hr2.below hALB
        case k => simp [Ln.cd_len]
        case cells => exact cells_new _ _ _
        case na => intro x hx e; have := (hf3.2 x hx).1; have := (hown.block e).2; omega
        case bytes => omega
        case len => omega
        case base => simp; omega
        case next =>
          intro v' w6 hown6 hg hv' hs6
          have hm6 := Moved.after hBA ⟨hg, fun b hb => by simpa using hv' b hb⟩
          have hb6 := hb.trans (hm6.toBelow (B := w.heap.size) hz (fun q hq => (hown.block hq).1))
          have hfr6 := ((Fresh.app (hfr.below hBW) (fun b hb => hfr.lt b hb) hz (hf3.mono (Nat.le_refl _))).below hALB).same hs6
          have HS := Lib.hid (linsP_succ nums ls k hlt)
          go_wp2_with fail
          go_roundw
          case rel => exact ⟨k + 1, fp ++ fq, by omega, by go_num, by rw [HS.out, HL1.out, List.map_append]; simpa using hown6, hfr6, hb6⟩
          case measure => simp [intOf]; omega
      · have hkb : (ls[k].atom.kind == (2 : Int)) = false := by simpa using hk2
        cases hno : ls[k].no
        rotate_left
        · have HL1 := Lib.hid (lins1_no (nums := nums) hk2 hno)
          rw [hno] at d9
          clear hno
          have HS := Lib.hid (linsP_succ nums ls k hlt)
          have hown2 := hown.below hB2
          have hfr2 := hfr.below hB2
          have hbw := hb.trans (hB2.mono hz)
          go_wp2_with fail
          go_roundw
          case rel => exact ⟨k + 1, fp, by omega, by go_num, by rw [HS.out, HL1.out, List.append_nil]; exact hown2, hfr2, hbw⟩
          case measure => simp [intOf]; omega
        rw [hno] at d9
        have hxa : TmR W ls[k].atom.a (.agg #[.string ls[k].atom.a.name, .slice a2 ls[k].atom.a.kids.length c2]) := TmR.mk m1 ⟨f2, m2.below hB2⟩
        have hxb : TmR W ls[k].atom.b (.agg #[.string ls[k].atom.b.name, .slice a4 ls[k].atom.b.kids.length c4]) := TmR.mk m3 ⟨f4, m4.below hB2⟩
        have HK2 := Lib.hid hk2
        have HNO := Lib.hid hno
        clear hk2 hno
        go_wp2_with fail
        refine (l4Place_any nums ls[k].atom.a _ _ _ hnw hxa).mono ?_
        rintro e w9 ⟨⟨n, rfl, hpl⟩, hb9⟩
        have hBc := hB2.trans (hb9.mono hB2.size)
        by_cases hn0 : (0 : Int) ≤ n
        rotate_left
        · have hnb : decide ((0 : Int) ≤ n) = false := by simpa using hn0
          have hnot : ls[k].atom.a ∉ nums := hpl.neg.1 (by omega)
          have HL1 := Lib.hid (lins1_none (nums := nums) HK2.out hnot)
          clear hnot hpl
          have HS := Lib.hid (linsP_succ nums ls k hlt)
          have hown2 := hown.below hBc
          have hfr2 := hfr.below hBc
          have hbw := hb.trans (hBc.mono hz)
          go_wp2_with fail
          go_roundw
          case rel => exact ⟨k + 1, fp, by omega, by go_num, by rw [HS.out, HL1.out, List.append_nil]; exact hown2, hfr2, hbw⟩
          case measure => simp [intOf]; omega
        have hnb : decide ((0 : Int) ≤ n) = true := by simpa using hn0
        have hain : ls[k].atom.a ∈ nums := by
          rcases hpl with ⟨h1, _⟩ | ⟨j, hj, _, h2⟩
          · omega
          · exact List.mem_of_getElem? h2
        have hbin := hG.out.eqIn HK2.out hain
        have HL1 : Hid (lins1 nums ls[k] = [Ln.mk (linC nums [ls[k].atom.a, ls[k].atom.b] [1, -1] [0, 0, 0, 0]) 0 false, Ln.mk (linC nums [ls[k].atom.b, ls[k].atom.a] [1, -1] [0, 0, 0, 0]) 0 false]) := Lib.hid (by rw [lins1_eq HK2.out HNO.out hain, diff_turn hain hbin hnl]; rfl)
        have Y1 := cell_keep Y1 hb9
        have Y2 := cell_keep Y2 hb9
        have Y3 := cell_keep Y3 hb9
        have Y4 := cell_keep Y4 hb9
        have hnw := hnw.below hb9
        have hxa := hxa.below hb9
        have hxb := hxb.below hb9
        have hB2 := hBc
        have hne9 := fun e => Nat.lt_irrefl _ (hown.block (b := wr.heap.size) e).2
        have hyl : wr.heap.size < w9.heap.size := World.block_lt_of_cell? _ _ Y1
        clear hpl Y0 hb9 d0 d1 d2 d3 d4 d5 d6 d7 d8 d9 hBc
        go_upto_region 9 with fail
        go_region_held3 (fun U => U.cell? ⟨wr.heap.size, 1, none⟩ = some (.string ls[k].atom.a.name) ∧ U.cell? ⟨wr.heap.size, 2, none⟩ = some (.slice a2 ls[k].atom.a.kids.length c2) ∧ U.cell? ⟨wr.heap.size, 3, none⟩ = some (.string ls[k].atom.b.name) ∧ U.cell? ⟨wr.heap.size, 4, none⟩ = some (.slice a4 ls[k].atom.b.kids.length c4))
          (first | exact ⟨G1, G2, G3, G4⟩ | exact ⟨Y1, Y2, Y3, Y4⟩ | exact ⟨cell_keep Y1 (below_undrew' hb2), cell_keep Y2 (below_undrew' hb2), cell_keep Y3 (below_undrew' hb2), cell_keep Y4 (below_undrew' hb2)⟩ | (refine ⟨?_, ?_, ?_, ?_⟩ <;> (refine cell_keep (cell_keep ?_ (below_undrew' hb2)) hb3; assumption)) | (refine ⟨?_, ?_, ?_, ?_⟩ <;> (refine cell_keep (cell_keep ?_ (below_undrew' hb2)) (hb3.alloc hb3.size _); assumption)))
          (first
            | (go_at_call 41; (with_reducible refine (l8Diff_any nums ls[k].atom.a ls[k].atom.b _ _ _ _ hnd hnl hain hbin (by exact hnw.below (below_drew _)) (by exact hxa.below (below_drew _)) (by exact hxb.below (below_drew _))).mono ?_); rintro e w2 ⟨vs2, fa, rfl, hra, hfa, hb2⟩; obtain ⟨b0, e0, g0, rfl, rfl, _, _⟩ := Ln.open hra)
            | (go_at_call 41; (with_reducible refine (l8Diff_any nums ls[k].atom.b ls[k].atom.a _ _ _ _ hnd hnl hbin hain (by exact hnw.below (below_undrew' hb2)) (by exact hxb.below (below_undrew' hb2)) (by exact hxa.below (below_undrew' hb2))).mono ?_); rintro e w3 ⟨vs3, fb, rfl, hrb, hfb, hb3⟩; obtain ⟨b1, e1, g1, rfl, rfl, _, _⟩ := Ln.open hrb; have hbd := below_undrew' hb2; have hQ : Below wr.heap.size wr w3 := hB2.trans ((hbd.trans (hb3.mono hbd.size)).mono hB2.size); have hown3 := hown.below (hQ.alloc hQ.size (.cells #[.slice b0 (linC nums [ls[k].atom.a, ls[k].atom.b] [1, -1] [0, 0, 0, 0]).length e0, .int .i64 0, .bool false, .slice b1 (linC nums [ls[k].atom.b, ls[k].atom.a] [1, -1] [0, 0, 0, 0]).length e1, .int .i64 0, .bool false] 69)); have hfab : Fresh wr.heap.size w3 (fa ++ fb) := Fresh.app ((hfa.mono (by simpa using hB2.size)).below hb3) (hra.lt) (by have := hbd.size; have := hB2.size; omega) hfb; have hnw3 := ((hra.below hb3).app hrb).below (below_alloc w3 (.cells #[.slice b0 (linC nums [ls[k].atom.a, ls[k].atom.b] [1, -1] [0, 0, 0, 0]).length e0, .int .i64 0, .bool false, .slice b1 (linC nums [ls[k].atom.b, ls[k].atom.a] [1, -1] [0, 0, 0, 0]).length e1, .int .i64 0, .bool false] 69)))
            | (refine step_app slTyLinS rfl _ _ rfl w.heap.size _ _ fp rfl (by exact hown3) ⟨w3.heap.size, 0, none⟩ 2 2 [(Ln.mk (linC nums [ls[k].atom.a, ls[k].atom.b] [1, -1] [0, 0, 0, 0]) 0 false).cd, (Ln.mk (linC nums [ls[k].atom.b, ls[k].atom.a] [1, -1] [0, 0, 0, 0]) 0 false).cd] [.slice b0 (linC nums [ls[k].atom.a, ls[k].atom.b] [1, -1] [0, 0, 0, 0]).length e0, .int .i64 0, .bool false, .slice b1 (linC nums [ls[k].atom.b, ls[k].atom.a] [1, -1] [0, 0, 0, 0]).length e1, .int .i64 0, .bool false] (fa ++ fb) rfl rfl (by simpa using hnw3) (by simp [Ln.cd_len]) (by exact cells_new _ _ _) (by exact hown.away (Nat.le_refl _) hfab) (by omega) (by omega) (by have := hQ.size; simp; omega) ?_; intro v' w4 hown4 hg hv' hs4; have G1 := grown_cell hg (cell_keep (cell_keep (cell_keep Y1 (below_undrew' hb2)) hb3) (below_alloc w3 _)) hne9; have G2 := grown_cell hg (cell_keep (cell_keep (cell_keep Y2 (below_undrew' hb2)) hb3) (below_alloc w3 _)) hne9; have G3 := grown_cell hg (cell_keep (cell_keep (cell_keep Y3 (below_undrew' hb2)) hb3) (below_alloc w3 _)) hne9; have G4 := grown_cell hg (cell_keep (cell_keep (cell_keep Y4 (below_undrew' hb2)) hb3) (below_alloc w3 _)) hne9))
        have hfr4 := ((Fresh.app (hfr.below hQ) (fun b hb => hfr.lt b hb) hz hfab).below (below_alloc w3 (.cells #[.slice b0 (linC nums [ls[k].atom.a, ls[k].atom.b] [1, -1] [0, 0, 0, 0]).length e0, .int .i64 0, .bool false, .slice b1 (linC nums [ls[k].atom.b, ls[k].atom.a] [1, -1] [0, 0, 0, 0]).length e1, .int .i64 0, .bool false] 69))).same hs4
        have hb4 := grown_below ((hb.trans (hQ.mono hz)).alloc (by have := hQ.size; omega) _) hg (by have := hQ.size; simp; omega) (fun q hq => (hown.block hq).1)
        clear hg hs4
        have HS := Lib.hid (linsP_succ nums ls k hlt)
        go_wp2_with fail
        go_roundw
        case rel => exact ⟨k + 1, fp ++ (fa ++ fb), by omega, by go_num, by rw [HS.out, HL1.out, List.map_append]; simpa using hown4, hfr4, hb4⟩
        case measure => simp [intOf]; omega
    · have he : ls.take k = ls := List.take_of_length_le (by omega)
      rw [he] at hown
      obtain ⟨oa, on, oc, rfl⟩ := hown.form'
      obtain ⟨fp', h1, h2, _⟩ := hown.fresh hfr
      clear he
      go_wp2_with fail
      go_ret
      exact ⟨_, fp', rfl, h1, h2, hb⟩
end Go.Proofs.YteclieenkephfaaGreat
