/- The program's linsOf. -/
import Derived.Test.YteclieenkephfaaGreatLinU
import Derived.Test.YteclieenkephfaaGreatSameLib
namespace Go.Proofs.YteclieenkephfaaGreat
open Go Go.RowKit
set_option linter.unusedVariables false
set_option linter.unusedSimpArgs false

theorem two_rd {W : World} {a b : Tm} {u0 u1 v0 v1 : Value} {f1 f2 : List Nat} {g : Nat} (h1 : RdVs W a.cd [u0, u1] f1) (h2 : RdVs W b.cd [v0, v1] f2) (hg : g < W.heap.size) (hc : ∀ j u, [u0, u1, v0, v1][j]? = some u → W.cell? ⟨g, j, none⟩ = some u) : ∃ fp, Rd W (.sl ([a, b].map Tm.cd)) (.slice (some ⟨g, 0, none⟩) 2 2) fp := by
  refine ⟨g :: (f1 ++ f2), ?_⟩
  simp only [Rd]
  refine ⟨_, 2, rfl, by simp, by simp [maxLen], .inr ⟨by simp, g, 0, f1 ++ f2, rfl, hg, rfl, ?_⟩⟩
  refine RdRows.mk (k := 2) (vs := [u0, u1, v0, v1]) (fun j u hj => by simpa using hc j u hj) ?_
  have := h1.app h2
  simpa using this
theorem ints2_rd {W : World} {x y : Int} {g : Nat} (hx : I64 x) (hy : I64 y) (hg : g < W.heap.size) (hc : ∀ j u, [Value.int .i64 x, .int .i64 y][j]? = some u → W.cell? ⟨g, j, none⟩ = some u) : ∃ fp, Rd W (.sl ([x, y].map intCd)) (.slice (some ⟨g, 0, none⟩) 2 2) fp := by
  refine ⟨g :: [], ?_⟩
  simp only [Rd]
  refine ⟨_, 2, rfl, by simp, by simp [maxLen], .inr ⟨by simp, g, 0, [], rfl, hg, rfl, ?_⟩⟩
  refine RdRows.mk (k := 1) (vs := [.int .i64 x, .int .i64 y]) (fun j u hj => by simpa using hc j u hj) ?_
  have := ints_rdv_mk (w := W) [x, y] (by intro n hn; simp at hn; rcases hn with rfl | rfl <;> assumption)
  simpa using this
set_option maxHeartbeats 8000000 in
theorem linsOf_any (nums : List Tm) (ls : List Lt) (nv v : Value) (f : List Nat) (w : World) (hnd : Hid nums.Nodup) (hnl : nums.length ≤ 4) (hgd : Hid (∀ l ∈ ls, GoodL nums l)) (hlen : ls.length ≤ 1048576) (hnv : TmsR w nums nv) (hv : Rd w (.sl (ls.map Lt.cd)) v f) :
    Calls Tryz.prog 26 #[nv, v] w (ToOut (.sl ((linsP nums ls).map Ln.cd)) w) := by
  obtain ⟨na, nc, rfl, _, _⟩ := hnv.form
  obtain ⟨va, vc, rfl, _, _⟩ := rd_sl_inv hv
  go_enter Tryz.func26, Tryz.ntmps26
  go_wp2_with fail
  go_loopw [5, 13] (fun ov i wr => ∃ (k : Nat) (fp : List Nat), k ≤ ls.length ∧ i = .int .i64 k ∧ Own wr w.heap.size 69 3 ov ((linsP nums (ls.take k)).map Ln.cd) fp ∧ Fresh w.heap.size wr fp ∧ Below w.heap.size w wr) (fun _ i _ => ls.length - (intOf i).toNat)
  case atStart => exact ⟨0, [], Nat.zero_le _, rfl, Own.nil _ _ _ _, Fresh.nil _ _, Below.refl _ _⟩
  case round =>
    obtain ⟨k, fp, hk, rfl, hown, hfr, hb⟩ := hrel
    have hz := hb.size
    by_cases hlt : k < ls.length
    · obtain ⟨vb, voff, rfl, hvb, _⟩ := rd_addr hv (by omega)
      have hbz : vb < wr.heap.size := by omega
      obtain ⟨a2, c2, f2, a4, c4, f4, a5, c5, f5, a6, c6, f6, d0, d1, d2, d3, d4, d5, d6, d7, d8, d9, m0, m1, m2, m3, m4, m5, m6, m7, _⟩ := Lt.at (hv.below hb) hlt
      have hG := Lib.hid (hgd.out _ (List.getElem_mem hlt))
      have hB2 : Below wr.heap.size wr ((wr.alloc (.cells #[.int .i64 ls[k].atom.kind, .string ls[k].atom.a.name, .slice a2 ls[k].atom.a.kids.length c2, .string ls[k].atom.b.name, .slice a4 ls[k].atom.b.kids.length c4, .slice a5 ls[k].atom.nums.length c5, .slice a6 ls[k].atom.times.length c6, .int .i64 ls[k].atom.bound, .bool ls[k].atom.strict, .bool ls[k].no] 64)).alloc (.cells #[.int .i64 ls[k].atom.kind, .string ls[k].atom.a.name, .slice a2 ls[k].atom.a.kids.length c2, .string ls[k].atom.b.name, .slice a4 ls[k].atom.b.kids.length c4, .slice a5 ls[k].atom.nums.length c5, .slice a6 ls[k].atom.times.length c6, .int .i64 ls[k].atom.bound, .bool ls[k].atom.strict] 62)) := ((Below.refl _ _).alloc (Nat.le_refl _) _).alloc (by simp) _
      go_upto_region 6 with fail
      obtain ⟨X, Y, hzX, _⟩ := box2 (w := wr) (wr := (wr.alloc (.cells #[.int .i64 ls[k].atom.kind, .string ls[k].atom.a.name, .slice a2 ls[k].atom.a.kids.length c2, .string ls[k].atom.b.name, .slice a4 ls[k].atom.b.kids.length c4, .slice a5 ls[k].atom.nums.length c5, .slice a6 ls[k].atom.times.length c6, .int .i64 ls[k].atom.bound, .bool ls[k].atom.strict, .bool ls[k].no] 64)).alloc (.cells #[.int .i64 ls[k].atom.kind, .string ls[k].atom.a.name, .slice a2 ls[k].atom.a.kids.length c2, .string ls[k].atom.b.name, .slice a4 ls[k].atom.b.kids.length c4, .slice a5 ls[k].atom.nums.length c5, .slice a6 ls[k].atom.times.length c6, .int .i64 ls[k].atom.bound, .bool ls[k].atom.strict] 62)) (Below.refl _ _)
      generalize (wr.alloc (.cells #[.int .i64 ls[k].atom.kind, .string ls[k].atom.a.name, .slice a2 ls[k].atom.a.kids.length c2, .string ls[k].atom.b.name, .slice a4 ls[k].atom.b.kids.length c4, .slice a5 ls[k].atom.nums.length c5, .slice a6 ls[k].atom.times.length c6, .int .i64 ls[k].atom.bound, .bool ls[k].atom.strict, .bool ls[k].no] 64)).alloc (.cells #[.int .i64 ls[k].atom.kind, .string ls[k].atom.a.name, .slice a2 ls[k].atom.a.kids.length c2, .string ls[k].atom.b.name, .slice a4 ls[k].atom.b.kids.length c4, .slice a5 ls[k].atom.nums.length c5, .slice a6 ls[k].atom.times.length c6, .int .i64 ls[k].atom.bound, .bool ls[k].atom.strict] 62) = W at *
      have X9 := X 9
      have Y0 := Y 0
      have Y1 := Y 1
      have Y2 := Y 2
      have Y3 := Y 3
      have Y4 := Y 4
      have Y5 := Y 5
      have Y6 := Y 6
      have Y7 := Y 7
      have Y8 := Y 8
      simp only [List.getElem?_toArray, List.getElem?_cons_zero, List.getElem?_cons_succ] at X9 Y0 Y1 Y2 Y3 Y4 Y5 Y6 Y7 Y8
      have hnw := (hnv.below hb).below hB2
      clear X Y d0 d1 d2 d3 d4 d5 d6 d7 d8 d9
      by_cases hk2 : ls[k].atom.kind = 2
      · have hkb : (ls[k].atom.kind == (2 : Int)) = true := by simpa using hk2
        have HL1 := Lib.hid (lins1_sum (nums := nums) hk2)
        have hIn := Lib.hid (hG.out.sumIn hk2)
        have hFew := hG.out.sumFew hk2
        have hSm := Lib.hid (hG.out.sumSmall hk2)
        have HLn := Lib.hid (hG.out.sumLen hk2)
        clear hk2
        go_wp2_with fail
        refine (linOf_any nums ls[k].atom.nums ls[k].atom.times ls[k].atom.bound ls[k].atom.strict _ _ _ _ _ hnd hnl hIn HLn.out (by omega) hSm m7 hnw ⟨f5, by exact m5.below hB2⟩ (by exact m6.below hB2)).mono ?_
        rintro e w2 ⟨vs2, fq, rfl, hr2, hf2, hb2⟩
        obtain ⟨b0, e0, g0, rfl, rfl, n0, n1⟩ := Ln.open hr2
        have hBb := below_alloc w2 (.cells #[.slice b0 (linC nums ls[k].atom.nums ls[k].atom.times [0, 0, 0, 0]).length e0, .int .i64 ls[k].atom.bound, .bool ls[k].atom.strict] 69)
        have xb := cell_new w2 #[.slice b0 (linC nums ls[k].atom.nums ls[k].atom.times [0, 0, 0, 0]).length e0, .int .i64 ls[k].atom.bound, .bool ls[k].atom.strict] 69
        have xf := free_new w2 #[.slice b0 (linC nums ls[k].atom.nums ls[k].atom.times [0, 0, 0, 0]).length e0, .int .i64 ls[k].atom.bound, .bool ls[k].atom.strict] 69
        have hB3 := hB2.trans ((hb2.trans (hBb.mono hb2.size)).mono hB2.size)
        have X9b := cell_keep (cell_keep X9 hb2) hBb
        have hr3 := hr2.below hBb
        have hf3 := (hf2.below hBb).mono (lo' := wr.heap.size) (by have := hB2.size; omega)
        have hx2 := hBb.size
        have hwz : wr.heap.size < w2.heap.size := by have := hb2.size; omega
        go_upto_region 8 with fail
        clear hr2 hf2 Y0 Y1 Y2 Y3 Y4 Y5 Y6 Y7 Y8
        generalize hWX : w2.alloc (.cells #[.slice b0 (linC nums ls[k].atom.nums ls[k].atom.times [0, 0, 0, 0]).length e0, .int .i64 ls[k].atom.bound, .bool ls[k].atom.strict] 69) = wx at *
        have xb0 := xb 0
        have xb1 := xb 1
        have xb2 := xb 2
        have xf0 := xf 0
        have xf1 := xf 1
        have xf2 := xf 2
        simp only [List.getElem?_toArray, List.getElem?_cons_zero, List.getElem?_cons_succ] at xb0 xb1 xb2
        have hxl : w2.heap.size < wx.heap.size := World.block_lt_of_cell? _ _ xb0
        cases hno : ls[k].no
        · have HL1 : Hid (lins1 nums ls[k] = [(Ln.mk (linC nums ls[k].atom.nums ls[k].atom.times [0, 0, 0, 0]) ls[k].atom.bound ls[k].atom.strict)]) := Lib.hid (by rw [HL1.out]; unfold turnL sumL z4; rw [hno]; rfl)
          rw [hno] at X9b
          have hBW := hB3
          clear hno xb xf hb2 hBb hWX
          have hALB := below_alloc wx (.cells #[.slice b0 (linC nums ls[k].atom.nums ls[k].atom.times [0, 0, 0, 0]).length e0, .int .i64 ls[k].atom.bound, .bool ls[k].atom.strict] 69)
          have hBA := hBW.trans (hALB.mono hBW.size)
          have hown2 := hown.below hBA
          have hll9 : ((linsP nums (ls.take k)).map Ln.cd).length ≤ 2 * ls.length := by rw [List.length_map]; have := linsP_len nums (ls.take k); rw [List.length_take] at this; omega
          have hzW := hBW.size
          go_wp2_with (at_builtin; refine wpList_app slTyLinS rfl _ _ rfl w.heap.size _ _ fp rfl hown2 ⟨wx.heap.size, 0, none⟩ 1 1 [(Ln.mk (linC nums ls[k].atom.nums ls[k].atom.times [0, 0, 0, 0]) ls[k].atom.bound ls[k].atom.strict).cd] [.slice b0 (linC nums ls[k].atom.nums ls[k].atom.times [0, 0, 0, 0]).length e0, .int .i64 ls[k].atom.bound, .bool ls[k].atom.strict] fq rfl rfl ?rd ?k ?cells ?na ?bytes ?len ?base ?next)
          case rd => exact by simpa using hr3.below hALB
          case k => simp [Ln.cd_len]
          case cells => exact cells_new _ _ _
          case na => intro x hx e; have := (hf3.2 x hx).1; have := (hown.block e).2; omega
          case bytes => omega
          case len => omega
          case base => simp; omega
          case next =>
            intro v' w6 hown6 hg hv' hs6
            have hm6 := Moved.after hBA ⟨hg, fun b hb => by simpa using hv' b hb⟩
            have hb6 := hb.trans (hm6.toBelow (B := w.heap.size) hz (fun q hq => (hown.block hq).1))
            have hfr6 := ((Fresh.app (hfr.below hBW) (fun b hb => hfr.lt b hb) hz (hf3.mono (Nat.le_refl _))).below hALB).same hs6
            have HS := Lib.hid (linsP_succ nums ls k hlt)
            go_wp2_with fail
            go_roundw
            case rel => exact ⟨k + 1, fp ++ fq, by omega, by go_num, by rw [HS.out, HL1.out, List.map_append]; simpa using hown6, hfr6, hb6⟩
            case measure => simp [intOf]; omega
        · have HL1 : Hid (lins1 nums ls[k] = [(Ln.mk (linC nums ls[k].atom.nums ls[k].atom.times [0, 0, 0, 0]) ls[k].atom.bound ls[k].atom.strict).not]) := Lib.hid (by rw [HL1.out]; unfold turnL sumL z4; rw [hno]; rfl)
          rw [hno] at X9b
          clear hno hWX
          go_wp2_with fail
          refine (linNot_any (Ln.mk (linC nums ls[k].atom.nums ls[k].atom.times [0, 0, 0, 0]) ls[k].atom.bound ls[k].atom.strict) _ _ _ (by exact hr3)).mono ?_
          rintro e w4 ⟨vs4, fr4, rfl, hr4, hf4, hb4⟩
          obtain ⟨b1, e1, g1, rfl, rfl, _, _⟩ := Ln.open hr4
          generalize (Ln.mk (linC nums ls[k].atom.nums ls[k].atom.times [0, 0, 0, 0]) ls[k].atom.bound ls[k].atom.strict).not = y at *
          have xbw := cells_later xb hxl hb4
          have xfw := free_later xf hxl hb4
          have xw0 := xbw 0
          have xw1 := xbw 1
          have xw2 := xbw 2
          have xg0 := xfw 0
          have xg1 := xfw 1
          have xg2 := xfw 2
          simp only [List.getElem?_toArray, List.getElem?_cons_zero, List.getElem?_cons_succ] at xw0 xw1 xw2
          have hres := cells_sets (b := w2.heap.size) [(0, .slice b1 y.coefs.length e1), (1, .int .i64 y.bound), (2, .bool y.strict)] xbw (by simp)
          have r0 := hres 0
          have r1 := hres 1
          have r2 := hres 2
          simp only [setAt, updAll, List.set_cons_zero, List.set_cons_succ, List.getElem?_toArray, List.getElem?_cons_zero, List.getElem?_cons_succ] at r0 r1 r2
          have hne := (hf4.ne (b := w2.heap.size) hxl)
          have hs3 := ((sameOn_set (a := ⟨w2.heap.size, 0, none⟩) (v := .slice b1 y.coefs.length e1) (w := w4) hne).trans (sameOn_set (a := ⟨w2.heap.size, 1, none⟩) (v := .int .i64 y.bound) hne)).trans (sameOn_set (a := ⟨w2.heap.size, 2, none⟩) (v := .bool y.strict) hne)
          have hr5 := hr4.same _ hs3
          have hf3 := (hf4.same hs3).mono (lo' := wr.heap.size) (by have := hB3.size; omega)
          have hBW := (((hB3.trans (hb4.mono hB3.size)).setCell (p := ⟨w2.heap.size, 0, none⟩) (by simp only; omega) (.slice b1 y.coefs.length e1)).setCell (p := ⟨w2.heap.size, 1, none⟩) (by simp only; omega) (.int .i64 y.bound)).setCell (p := ⟨w2.heap.size, 2, none⟩) (by simp only; omega) (.bool y.strict)
          clear xb xf hb2 hBb xb0 xb1 xb2 xf0 xf1 xf2 hres xbw xfw hs3 hr4 hf4 hr3
          go_upto_region 10 with fail
          generalize ((w4.setCell ⟨w2.heap.size, 0, none⟩ (.slice b1 y.coefs.length e1)).setCell ⟨w2.heap.size, 1, none⟩ (.int .i64 y.bound)).setCell ⟨w2.heap.size, 2, none⟩ (.bool y.strict) = wz at *
          clear xw0 xw1 xw2 xg0 xg1 xg2
          have hALB := below_alloc wz (.cells #[.slice b1 y.coefs.length e1, .int .i64 y.bound, .bool y.strict] 69)
          have hBA := hBW.trans (hALB.mono hBW.size)
          have hown2 := hown.below hBA
          have hll9 : ((linsP nums (ls.take k)).map Ln.cd).length ≤ 2 * ls.length := by rw [List.length_map]; have := linsP_len nums (ls.take k); rw [List.length_take] at this; omega
          have hzW := hBW.size
          go_wp2_with (at_builtin; refine wpList_app slTyLinS rfl _ _ rfl w.heap.size _ _ fp rfl hown2 ⟨wz.heap.size, 0, none⟩ 1 1 [y.cd] [.slice b1 y.coefs.length e1, .int .i64 y.bound, .bool y.strict] fr4 rfl rfl ?rd ?k ?cells ?na ?bytes ?len ?base ?next)
          case rd => exact by simpa using hr5.below hALB
          case k => simp [Ln.cd_len]
          case cells => exact cells_new _ _ _
          case na => intro x hx e; have := (hf3.2 x hx).1; have := (hown.block e).2; omega
          case bytes => omega
          case len => omega
          case base => simp; omega
          case next =>
            intro v' w6 hown6 hg hv' hs6
            have hm6 := Moved.after hBA ⟨hg, fun b hb => by simpa using hv' b hb⟩
            have hb6 := hb.trans (hm6.toBelow (B := w.heap.size) hz (fun q hq => (hown.block hq).1))
            have hfr6 := ((Fresh.app (hfr.below hBW) (fun b hb => hfr.lt b hb) hz (hf3.mono (Nat.le_refl _))).below hALB).same hs6
            have HS := Lib.hid (linsP_succ nums ls k hlt)
            go_wp2_with fail
            go_roundw
            case rel => exact ⟨k + 1, fp ++ fr4, by omega, by go_num, by rw [HS.out, HL1.out, List.map_append]; simpa using hown6, hfr6, hb6⟩
            case measure => simp [intOf]; omega
      · have hkb : (ls[k].atom.kind == (2 : Int)) = false := by simpa using hk2
        cases hno : ls[k].no
        rotate_left
        · have HL1 := Lib.hid (lins1_no (nums := nums) hk2 hno)
          rw [hno] at X9
          clear hno
          have HS := Lib.hid (linsP_succ nums ls k hlt)
          have hown2 := hown.below hB2
          have hfr2 := hfr.below hB2
          have hbw := hb.trans (hB2.mono hz)
          go_wp2_with fail
          go_roundw
          case rel => exact ⟨k + 1, fp, by omega, by go_num, by rw [HS.out, HL1.out, List.append_nil]; exact hown2, hfr2, hbw⟩
          case measure => simp [intOf]; omega
        rw [hno] at X9
        have hxa : TmR W ls[k].atom.a (.agg #[.string ls[k].atom.a.name, .slice a2 ls[k].atom.a.kids.length c2]) := TmR.mk m1 ⟨f2, m2.below hB2⟩
        have HK2 := Lib.hid hk2
        have HNO := Lib.hid hno
        clear hk2 hno
        go_wp2_with fail
        refine (termIndex_any nums ls[k].atom.a _ _ _ hnw hxa).mono ?_
        rintro e w2 ⟨⟨n, rfl, hpl⟩, hb2⟩
        have hBc := hB2.trans (hb2.mono hB2.size)
        by_cases hn0 : (0 : Int) ≤ n
        rotate_left
        · have hnb : decide ((0 : Int) ≤ n) = false := by simpa using hn0
          have hnot : ls[k].atom.a ∉ nums := hpl.neg.1 (by omega)
          have HL1 := Lib.hid (lins1_none (nums := nums) HK2.out hnot)
          clear hnot hpl
          have HS := Lib.hid (linsP_succ nums ls k hlt)
          have hown2 := hown.below hBc
          have hfr2 := hfr.below hBc
          have hbw := hb.trans (hBc.mono hz)
          go_wp2_with fail
          go_roundw
          case rel => exact ⟨k + 1, fp, by omega, by go_num, by rw [HS.out, HL1.out, List.append_nil]; exact hown2, hfr2, hbw⟩
          case measure => simp [intOf]; omega
        have hnb : decide ((0 : Int) ≤ n) = true := by simpa using hn0
        have hain : ls[k].atom.a ∈ nums := by
          rcases hpl with ⟨h1, _⟩ | ⟨j, hj, _, h2⟩
          · omega
          · exact List.mem_of_getElem? h2
        have hbin := hG.out.eqIn HK2.out hain
        have HL1 := Lib.hid (lins1_eq (nums := nums) HK2.out HNO.out hain)
        have HIN : Hid (∀ t ∈ [ls[k].atom.a, ls[k].atom.b], t ∈ nums) := Lib.hid (fun t ht => by simp at ht; rcases ht with rfl | rfl <;> assumption)
        have Y1 := cell_keep Y1 hb2
        have Y2 := cell_keep Y2 hb2
        have Y3 := cell_keep Y3 hb2
        have Y4 := cell_keep Y4 hb2
        clear hpl Y0 Y5 Y6 Y7 Y8 X9
        have hAb := below_alloc w2 (.cells #[.string ls[k].atom.a.name, .slice a2 ls[k].atom.a.kids.length c2, .string ls[k].atom.b.name, .slice a4 ls[k].atom.b.kids.length c4] 60)
        have hR := cell_new w2 #[.string ls[k].atom.a.name, .slice a2 ls[k].atom.a.kids.length c2, .string ls[k].atom.b.name, .slice a4 ls[k].atom.b.kids.length c4] 60
        obtain ⟨fm, hm2⟩ := two_rd (W := w2.alloc (.cells #[.string ls[k].atom.a.name, .slice a2 ls[k].atom.a.kids.length c2, .string ls[k].atom.b.name, .slice a4 ls[k].atom.b.kids.length c4] 60)) (a := ls[k].atom.a) (b := ls[k].atom.b) (g := w2.heap.size) (by exact (Tm.rdv m1 m2).below (hBc.trans (hAb.mono hBc.size))) (by exact (Tm.rdv m3 m4).below (hBc.trans (hAb.mono hBc.size))) (World.block_lt_of_cell? _ _ (hR 0)) (fun j u hj => by rw [hR j]; simpa using hj)
        have hBA := hBc.trans (hAb.mono hBc.size)
        have hnA := hnw.below (hb2.trans (hAb.mono hb2.size))
        have HSM1 : Hid (∀ x ∈ [(1 : Int), -1], -1000000000 ≤ x ∧ x ≤ 1000000000) := Lib.hid (by intro x hx; simp at hx; omega)
        have HSM2 : Hid (∀ x ∈ [(-1 : Int), 1], -1000000000 ≤ x ∧ x ≤ 1000000000) := Lib.hid (by intro x hx; simp at hx; omega)
        go_upto_region 13 with fail
        clear hR Y1 Y2 Y3 Y4 hxa
        generalize w2.alloc (.cells #[.string ls[k].atom.a.name, .slice a2 ls[k].atom.a.kids.length c2, .string ls[k].atom.b.name, .slice a4 ls[k].atom.b.kids.length c4] 60) = wA at *
        have hA1 := below_alloc wA (.cells #[.int .i64 1, .int .i64 (-1)] 3)
        obtain ⟨fi, hi1⟩ := ints2_rd (W := wA.alloc (.cells #[.int .i64 1, .int .i64 (-1)] 3)) (x := 1) (y := -1) (g := wA.heap.size) (by constructor <;> omega) (by constructor <;> omega) (by simp) (fun j u hj => by rw [cell_new]; simpa using hj)
        go_wp2_with fail
        refine (linOf_any nums [ls[k].atom.a, ls[k].atom.b] [1, -1] 0 false _ _ _ _ _ hnd hnl HIN rfl (by simp) HSM1 (by constructor <;> omega) (hnA.below hA1) ⟨fm, by exact hm2.below hA1⟩ (by exact hi1)).mono ?_
        rintro e w5 ⟨vs5, fq1, rfl, hr5, hf5, hb5⟩
        obtain ⟨b0, e0, g0, rfl, rfl, _, _⟩ := Ln.open hr5
        have hB5 := hBA.trans ((hA1.trans (hb5.mono hA1.size)).mono hBA.size)
        have hm5 := hm2.below (hA1.trans (hb5.mono hA1.size))
        have hn5 := hnA.below (hA1.trans (hb5.mono hA1.size))
        have hf5 := hf5.mono (lo' := wr.heap.size) (by have := hBA.size; have := hA1.size; omega)
        clear hi1 hb5 hm2 hnA hA1
        have hA2 := below_alloc w5 (.cells #[.int .i64 (-1), .int .i64 1] 3)
        obtain ⟨fj, hi2⟩ := ints2_rd (W := w5.alloc (.cells #[.int .i64 (-1), .int .i64 1] 3)) (x := -1) (y := 1) (g := w5.heap.size) (by constructor <;> omega) (by constructor <;> omega) (by simp) (fun j u hj => by rw [cell_new]; simpa using hj)
        go_wp2_with fail
        refine (linOf_any nums [ls[k].atom.a, ls[k].atom.b] [-1, 1] 0 false _ _ _ _ _ hnd hnl HIN rfl (by simp) HSM2 (by constructor <;> omega) (hn5.below hA2) ⟨fm, by exact hm5.below hA2⟩ (by exact hi2)).mono ?_
        rintro e w7 ⟨vs7, fq2, rfl, hr7, hf7, hb7⟩
        obtain ⟨b1, e1, g1, rfl, rfl, _, _⟩ := Ln.open hr7
        have h57 := hA2.trans (hb7.mono hA2.size)
        have hBW := hB5.trans (h57.mono hB5.size)
        have hr57 := hr5.below h57
        have hf57 := hf5.below h57
        have hlt5 := hf5.lt
        have hf7b := hf7.mono (lo' := w5.heap.size) hA2.size
        have hf3 : Fresh wr.heap.size w7 (fq1 ++ fq2) := hf57.app hlt5 hB5.size hf7b
        have HL1 : Hid (lins1 nums ls[k] = [Ln.mk (linC nums [ls[k].atom.a, ls[k].atom.b] [1, -1] [0, 0, 0, 0]) 0 false, Ln.mk (linC nums [ls[k].atom.a, ls[k].atom.b] [-1, 1] [0, 0, 0, 0]) 0 false]) := Lib.hid HL1.out
        clear hr5 hf5 hb7 hm5 hn5 hi2 hA2 h57 hf57 hf7b hf7 hlt5
        obtain ⟨q1, hq1⟩ : ∃ q1, q1 = linC nums [ls[k].atom.a, ls[k].atom.b] [1, -1] [0, 0, 0, 0] := ⟨_, rfl⟩
        obtain ⟨q2, hq2⟩ : ∃ q2, q2 = linC nums [ls[k].atom.a, ls[k].atom.b] [-1, 1] [0, 0, 0, 0] := ⟨_, rfl⟩
        rw [← hq1] at HL1 hr57 ⊢
        rw [← hq2] at HL1 hr7 ⊢
        clear hq1 hq2
        have hrr := hr57.app hr7
        have hALB := below_alloc w7 (.cells #[.slice b0 q1.length e0, .int .i64 0, .bool false, .slice b1 q2.length e1, .int .i64 0, .bool false] 69)
        have hBL := hBW.trans (hALB.mono hBW.size)
        have hown2 := hown.below hBL
        have hll9 : ((linsP nums (ls.take k)).map Ln.cd).length ≤ 2 * ls.length := by rw [List.length_map]; have := linsP_len nums (ls.take k); rw [List.length_take] at this; omega
        have hzW := hBW.size
        go_wp2_with (at_builtin; refine wpList_app slTyLinS rfl _ _ rfl w.heap.size _ _ fp rfl hown2 ⟨w7.heap.size, 0, none⟩ 2 2 [(Ln.mk q1 0 false).cd, (Ln.mk q2 0 false).cd] [.slice b0 q1.length e0, .int .i64 0, .bool false, .slice b1 q2.length e1, .int .i64 0, .bool false] (fq1 ++ fq2) rfl rfl ?rd ?k ?cells ?na ?bytes ?len ?base ?next)
        case rd => exact by simpa using hrr.below hALB
        case k => simp [Ln.cd_len]
        case cells => exact cells_new _ _ _
        case na => intro x hx e; have := (hf3.2 x hx).1; have := (hown.block e).2; omega
        case bytes => omega
        case len => omega
        case base => simp; omega
        case next =>
          intro v' w8 hown8 hg hv' hs8
          have hm8 := Moved.after hBL ⟨hg, fun b hb => by simpa using hv' b hb⟩
          have hb8 := hb.trans (hm8.toBelow (B := w.heap.size) hz (fun q hq => (hown.block hq).1))
          have hfr8 := ((Fresh.app (hfr.below hBW) (fun b hb => hfr.lt b hb) hz hf3).below hALB).same hs8
          have HS := Lib.hid (linsP_succ nums ls k hlt)
          go_wp2_with fail
          go_roundw
          case rel => exact ⟨k + 1, fp ++ (fq1 ++ fq2), by omega, by go_num, by rw [HS.out, HL1.out, List.map_append]; simpa using hown8, hfr8, hb8⟩
          case measure => simp [intOf]; omega
    · have he : ls.take k = ls := List.take_of_length_le (by omega)
      rw [he] at hown
      obtain ⟨oa, on, oc, rfl⟩ := hown.form'
      obtain ⟨fp', h1, h2, _⟩ := hown.fresh hfr
      clear he
      go_wp2_with fail
      go_ret
      exact ⟨_, fp', rfl, h1, h2, hb⟩
end Go.Proofs.YteclieenkephfaaGreat
