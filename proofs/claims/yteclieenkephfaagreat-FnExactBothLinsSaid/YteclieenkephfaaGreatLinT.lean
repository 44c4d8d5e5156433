/- What something told of a sum is: the reference's l8Lin. -/
import Derived.Deep.OwnRows
import Derived.Deep.RegionHeld3
import Derived.Test.YteclieenkephfaaGreatLinS
namespace Go.Proofs.YteclieenkephfaaGreat
open Go Go.RowKit
set_option linter.unusedVariables false
set_option linter.unusedSimpArgs false

def linT (nums : List Tm) (l : Lt) : Ln := if l.no = true then Ln.not ⟨linS nums l.atom.nums l.atom.times [0, 0, 0, 0], l.atom.bound, l.atom.strict⟩ else ⟨linS nums l.atom.nums l.atom.times [0, 0, 0, 0], l.atom.bound, l.atom.strict⟩
theorem linT_no {nums : List Tm} {l : Lt} (h : l.no = false) : linT nums l = ⟨linS nums l.atom.nums l.atom.times [0, 0, 0, 0], l.atom.bound, l.atom.strict⟩ := by unfold linT; rw [h]; rfl
theorem linT_yes {nums : List Tm} {l : Lt} (h : l.no = true) : linT nums l = Ln.not ⟨linS nums l.atom.nums l.atom.times [0, 0, 0, 0], l.atom.bound, l.atom.strict⟩ := by unfold linT; rw [h]; rfl
theorem lnVar_new1 (W : World) (n : Int) (s : Bool) (hn : I64 n) : LnVar ((W.alloc (.cells #[.int .i64 0, .int .i64 0, .int .i64 0, .int .i64 0] 3)).alloc (.cells #[.slice (some ⟨W.heap.size, 0, none⟩) 4 4, .int .i64 n, .bool s] 69)) (W.heap.size + 1) W.heap.size [0, 0, 0, 0] n s (.slice (some ⟨W.heap.size, 0, none⟩) 4 4) := by
  have hc := cell_new (W.alloc (.cells #[.int .i64 0, .int .i64 0, .int .i64 0, .int .i64 0] 3)) #[.slice (some ⟨W.heap.size, 0, none⟩) 4 4, .int .i64 n, .bool s] 69
  have hf := free_new (W.alloc (.cells #[.int .i64 0, .int .i64 0, .int .i64 0, .int .i64 0] 3)) #[.slice (some ⟨W.heap.size, 0, none⟩) 4 4, .int .i64 n, .bool s] 69
  simp only [World.size_alloc] at hc hf
  exact ⟨hc 0, hc 1, hc 2, hf, (irow_new W W.heap.size (Nat.le_refl _)).below (below_alloc _ _), by simp [Value.ownBlock], hn⟩
theorem lnVar_new2 (W : World) (n : Int) (s : Bool) (hn : I64 n) : LnVar ((W.alloc (.cells #[.slice (some ⟨W.heap.size + 1, 0, none⟩) 4 4, .int .i64 n, .bool s] 69)).alloc (.cells #[.int .i64 0, .int .i64 0, .int .i64 0, .int .i64 0] 3)) W.heap.size W.heap.size [0, 0, 0, 0] n s (.slice (some ⟨W.heap.size + 1, 0, none⟩) 4 4) := by
  have hb := below_alloc (W.alloc (.cells #[.slice (some ⟨W.heap.size + 1, 0, none⟩) 4 4, .int .i64 n, .bool s] 69)) (.cells #[.int .i64 0, .int .i64 0, .int .i64 0, .int .i64 0] 3)
  have hc := cells_later (cell_new W #[.slice (some ⟨W.heap.size + 1, 0, none⟩) 4 4, .int .i64 n, .bool s] 69) (by simp) hb
  have hf := free_later (free_new W #[.slice (some ⟨W.heap.size + 1, 0, none⟩) 4 4, .int .i64 n, .bool s] 69) (by simp) hb
  have hr := irow_new (W.alloc (.cells #[.slice (some ⟨W.heap.size + 1, 0, none⟩) 4 4, .int .i64 n, .bool s] 69)) W.heap.size (by simp)
  simp only [World.size_alloc] at hr
  exact ⟨hc 0, hc 1, hc 2, hf, hr, by simp [Value.ownBlock], hn⟩
theorem made4 : madeCells #[.int .i64 0] 4 = #[.int .i64 0, .int .i64 0, .int .i64 0, .int .i64 0] := by
  unfold madeCells
  rw [show Array.range 4 = #[0, 1, 2, 3] from rfl]
  simp
theorem mk_four (w : World) : (Instr.makeSlice 48 (.int .i64 4) (.int .i64 4)).run Tryz.prog w = .ok (.slice (some ⟨w.heap.size, 0, none⟩) 4 4) (w.alloc (.cells #[.int .i64 0, .int .i64 0, .int .i64 0, .int .i64 0] 3)) := by
  have h := run_make_row' (P := Tryz.prog) 48 3 (.int .i64 0) 8 Tryz.underlying48 (by kernel_rfl) rfl .i64 .i64 4 (by omega) (by omega) w
  rw [made4] at h
  exact h
set_option maxHeartbeats 4000000 in
theorem l8Lin_any (nums : List Tm) (l : Lt) (nv : Value) (us : List Value) (f : List Nat) (w : World) (hnd : Hid nums.Nodup) (hnl : nums.length ≤ 4) (hin : Hid (∀ t ∈ l.atom.nums, t ∈ nums)) (hlen : l.atom.times.length = l.atom.nums.length) (hll : l.atom.nums.length ≤ 1000) (hnv : TmsR w nums nv) (hv : RdVs w l.cd us f) :
    Calls Tryz.prog 39 #[nv, .agg us.toArray] w (ToOutV (linT nums l).cd w) := by
  obtain ⟨na, nc, rfl, _, _⟩ := hnv.form
  obtain ⟨a2, c2, f2, a4, c4, f4, a5, c5, f5, a6, c6, f6, rfl, _, m0, m1, m2, m3, m4, m5, m6, m7⟩ := Lt.open hv
  have HL := Lib.hid hlen
  clear hlen
  have hmk := mk_four
  go_enter Tryz.func39, Tryz.ntmps39
  go_wp2_with fail
  obtain ⟨X, Y, hz, hB⟩ := box2 (w := w) (wr := (w.alloc (.cells #[.int .i64 l.atom.kind, .string l.atom.a.name, .slice a2 l.atom.a.kids.length c2, .string l.atom.b.name, .slice a4 l.atom.b.kids.length c4, .slice a5 l.atom.nums.length c5, .slice a6 l.atom.times.length c6, .int .i64 l.atom.bound, .bool l.atom.strict, .bool l.no] 64)).alloc (.cells #[.slice none 0 0, .int .i64 0, .bool false] 69)) (Below.refl _ _)
  have hf2 := (fun j => (box2_free (w := w) (cs := #[.int .i64 l.atom.kind, .string l.atom.a.name, .slice a2 l.atom.a.kids.length c2, .string l.atom.b.name, .slice a4 l.atom.b.kids.length c4, .slice a5 l.atom.nums.length c5, .slice a6 l.atom.times.length c6, .int .i64 l.atom.bound, .bool l.atom.strict, .bool l.no]) (T := 64) (ds := #[.slice none 0 0, .int .i64 0, .bool false]) (U := 69) (Below.refl _ _) j).2)
  generalize (w.alloc (.cells #[.int .i64 l.atom.kind, .string l.atom.a.name, .slice a2 l.atom.a.kids.length c2, .string l.atom.b.name, .slice a4 l.atom.b.kids.length c4, .slice a5 l.atom.nums.length c5, .slice a6 l.atom.times.length c6, .int .i64 l.atom.bound, .bool l.atom.strict, .bool l.no] 64)).alloc (.cells #[.slice none 0 0, .int .i64 0, .bool false] 69) = W at *
  have X5 := X 5
  have X6 := X 6
  have X7 := X 7
  have X8 := X 8
  have X9 := X 9
  simp only [List.getElem?_toArray, List.getElem?_cons_zero, List.getElem?_cons_succ] at X5 X6 X7 X8 X9
  have hzw : w.heap.size < W.heap.size := by omega
  clear X
  go_cut [5] from 7 to 14 (fun s5 wx => ∃ ob g, s5 = .pointer (some ⟨ob, 0, none⟩) ∧ LnVar wx ob W.heap.size [0, 0, 0, 0] l.atom.bound l.atom.strict (.slice (some ⟨g, 0, none⟩) 4 4) ∧ Below W.heap.size W wx)
  case first =>
    go_region
    all_goals (go_wp2_with fail; go_meet)
    all_goals
      first
        | exact ⟨_, _, rfl, (lnVar_new1 W _ _ m7).below (below_drew _), ((below_alloc W _).alloc (by simp) _).drew⟩
        | exact ⟨_, _, rfl, (lnVar_new2 W _ _ m7).below (below_drew _), ((below_alloc W _).alloc (by simp) _).drew⟩
  case rest =>
  obtain ⟨ob, g, rfl, st0, hB0⟩ := hcut
  have hzw1 := hB0.size
  clear hmk
  go_wp2_with fail
  go_loopw [6] (fun i wr => ∃ (k : Nat) (c : List Int), k ≤ l.atom.nums.length ∧ i = .int .i64 k ∧ Hid (LinGs nums l.atom.nums l.atom.times (linS nums l.atom.nums l.atom.times [0, 0, 0, 0]) k c) ∧ Hid (c.length = 4) ∧ LnVar wr ob W.heap.size c l.atom.bound l.atom.strict (.slice (some ⟨g, 0, none⟩) 4 4) ∧ Below W.heap.size W wr) (fun i _ => l.atom.nums.length - (intOf i).toNat)
  case atStart => exact ⟨0, _, Nat.zero_le _, rfl, Lib.hid LinGs.start, Lib.hid rfl, st0, hB0⟩
  case round =>
    clear st0 hB0 hzw1
    obtain ⟨k, c, hk, rfl, hgv, hfo, st, hBw⟩ := hrel
    have hzr := hBw.size
    have x5 := cell_keep X5 hBw
    have x6 := cell_keep X6 hBw
    by_cases hlt : k < l.atom.nums.length
    · have hlx : k < l.atom.times.length := by rw [HL.out]; exact hlt
      obtain ⟨lb, loff, rfl, hlb, _⟩ := rd_addr m5 (by omega)
      obtain ⟨tb, toff, rfl, htb, _⟩ := rd_addr m6 (by omega)
      have hBww := hB.trans (hBw.mono (by omega))
      obtain ⟨ka, kc, kf, d0, d1, ks, kk, _⟩ := Tm.at (m5.below hBww) hlt
      obtain ⟨e0, ei⟩ := intCd_at (m6.below hBww) hlx
      have hbz1 : lb < wr.heap.size := by have := hBww.size; omega
      have hbz2 : tb < wr.heap.size := by have := hBww.size; omega
      have hwz : w.heap.size < wr.heap.size := by omega
      have hmem := hin.out _ (List.getElem_mem hlt)
      have hp := (Tm.pos_yes hmem).1
      have hpc : Tm.pos nums l.atom.nums[k] < c.length := by rw [hfo.out]; omega
      have y0 := st.c0
      have hob := st.lt
      have hxt : TmR wr l.atom.nums[k] (.agg #[.string l.atom.nums[k].name, .slice ka l.atom.nums[k].kids.length kc]) := TmR.mk ks ⟨kf, kk⟩
      have hnw := hnv.below hBww
      have HG := Lib.hid (hgv.out.step hlt hlx)
      have HF4 : Hid ((c.set (Tm.pos nums l.atom.nums[k]) l.atom.times[k]).length = 4) := Lib.hid (by rw [List.length_set]; exact hfo.out)
      have hp4 : ((Tm.pos nums l.atom.nums[k] : Nat) : Int) < 4 := by omega
      have hkx : ((k : Nat) : Int) < (l.atom.nums.length : Int) := by omega
      have hkt : ((k : Nat) : Int) < (l.atom.times.length : Int) := by omega
      go_wp2_with fail
      have hgB0 : W.heap.size ≤ g := (Own.block st.row (b := g) rfl).1
      have hlbW : lb < w.heap.size := hlb
      have htbW : tb < w.heap.size := htb
      have hobg : ob ≠ g := fun e => st.nr (by rw [e]; rfl)
      go_region_held3 (fun U => U.cell? ⟨ob, 0, none⟩ = some (.slice (some ⟨g, 0, none⟩) 4 4) ∧ U.cell? ⟨w.heap.size, 5, none⟩ = some (.slice (some ⟨lb, loff, none⟩) l.atom.nums.length c5) ∧ U.cell? ⟨lb, loff + k * 2, none⟩ = some (.string l.atom.nums[k].name) ∧ U.cell? ⟨lb, loff + k * 2 + 1, none⟩ = some (.slice ka l.atom.nums[k].kids.length kc) ∧ U.cell? ⟨w.heap.size, 6, none⟩ = some (.slice (some ⟨tb, toff, none⟩) l.atom.times.length c6) ∧ U.cell? ⟨tb, toff + k, none⟩ = some (.int .i64 l.atom.times[k]))
        (first | exact ⟨y0, x5, d0, d1, x6, e0⟩ | exact ⟨cell_keep y0 hb2, cell_keep x5 hb2, cell_keep d0 hb2, cell_keep d1 hb2, cell_keep x6 hb2, cell_keep e0 hb2⟩ | (refine ⟨?_, ?_, ?_, ?_, ?_, ?_⟩ <;> (refine (World.cell?_setCell_other _ _ _ _ (by intro e; simp only [Addr.mk.injEq] at e; omega)).trans (cell_keep ?_ hb2); assumption)))
        (first | (go_at_call 40; (with_reducible refine (l4Place_nd nums l.atom.nums[k] _ _ _ hnd.out hmem (by exact hnw.below (below_drew _)) (by exact hxt.below (below_drew _))).mono ?_); rintro e w2 ⟨rfl, hb2⟩; have hb2 := below_undrew' hb2; have st2 := st.below hb2; have cp := (IRow.cell st2.row (k := Tm.pos nums l.atom.nums[k]) hpc).1; have cf := IRow.free st2.row (Tm.pos nums l.atom.nums[k])))
      all_goals
        have st3 := st2.one (Tm.pos nums l.atom.nums[k]) ei
        have hgB : W.heap.size ≤ g := (Own.block st2.row (b := g) rfl).1
        have hB3 := (hBw.trans (hb2.mono hBw.size)).setCell (p := ⟨g, Tm.pos nums l.atom.nums[k], none⟩) hgB (.int .i64 l.atom.times[k])
        go_wp2_with fail
        go_roundw
        case rel => exact ⟨k + 1, _, by omega, by go_num, HG, HF4, st3, hB3⟩
        case measure => simp [intOf]; omega
    · have HR := Lib.hid (hgv.out.stop (by omega))
      have x9 := cell_keep X9 hBw
      have hBww := hB.trans (hBw.mono (by omega))
      have hwz : w.heap.size < wr.heap.size := by omega
      clear hgv hfo x6
      cases hno : l.no
      · have HM := Lib.hid (linT_no (nums := nums) hno)
        rw [hno] at x9
        obtain ⟨fq, hro, hfo9⟩ := st.out
        have hyw : ∀ j, wr.cell? ⟨w.heap.size + 1, j, none⟩ = (#[.slice none 0 0, .int .i64 0, .bool false] : Array Value)[j]? := cells_later Y (by omega) hBw
        have hfw : ∀ j, wr.frozen? ⟨w.heap.size + 1, j, none⟩ = false := free_later hf2 (by omega) hBw
        have y0' := hyw 0
        have y1' := hyw 1
        have y2' := hyw 2
        have g0' := hfw 0
        have g1' := hfw 1
        have g2' := hfw 2
        simp only [List.getElem?_toArray, List.getElem?_cons_zero, List.getElem?_cons_succ] at y0' y1' y2'
        have s0 := st.c0
        have s1 := st.c1
        have s2 := st.c2
        have hres := cells_sets (b := w.heap.size + 1) [(0, .slice (some ⟨g, 0, none⟩) 4 4), (1, .int .i64 l.atom.bound), (2, .bool l.atom.strict)] hyw (by simp)
        have r0 := hres 0
        have r1 := hres 1
        have r2 := hres 2
        simp only [setAt, updAll, List.set_cons_zero, List.set_cons_succ, List.getElem?_toArray, List.getElem?_cons_zero, List.getElem?_cons_succ] at r0 r1 r2
        have hne := hfo9.ne (b := w.heap.size + 1) (by omega)
        have hs3 := ((sameOn_set (a := ⟨w.heap.size + 1, 0, none⟩) (v := .slice (some ⟨g, 0, none⟩) 4 4) (w := wr) hne).trans (sameOn_set (a := ⟨w.heap.size + 1, 1, none⟩) (v := .int .i64 l.atom.bound) hne)).trans (sameOn_set (a := ⟨w.heap.size + 1, 2, none⟩) (v := .bool l.atom.strict) hne)
        have hro2 := hro.same _ hs3
        have hfo2 := hfo9.same hs3
        clear hres hyw hfw hs3
        go_wp2_with fail
        (try simp only [Exit.inBlock, Exit.then])
        refine bodyPost_ret (v := .agg #[.slice (some ⟨g, 0, none⟩) 4 4, .int .i64 l.atom.bound, .bool l.atom.strict]) (by simp [results, Tryz.results39, go_sem, r0, r1, r2]) rfl ?_
        exact ⟨[_, _, _], fq, rfl, by rw [HM.out, HR.out]; exact hro2, hfo2.mono (by omega), ((hBww.setCell (by simp) _).setCell (by simp) _).setCell (by simp) _⟩
      · have HM : Hid (linT nums l = Ln.not ⟨c, l.atom.bound, l.atom.strict⟩) := Lib.hid (by rw [linT_yes hno, HR.out])
        rw [hno] at x9
        have s0 := st.c0
        have s1 := st.c1
        have s2 := st.c2
        obtain ⟨fq, hro, _⟩ := st.out
        go_wp2_with fail
        refine (linNotS_any ⟨c, l.atom.bound, l.atom.strict⟩ _ _ _ (by exact hro)).mono ?_
        rintro e w4 ⟨vs, fp, rfl, hr4, hf4, hb4⟩
        obtain ⟨b0, e0, g0, rfl, _, n0, n1⟩ := Ln.open hr4
        generalize Ln.not ⟨c, l.atom.bound, l.atom.strict⟩ = y at *
        have hyw : ∀ j, w4.cell? ⟨w.heap.size + 1, j, none⟩ = (#[.slice none 0 0, .int .i64 0, .bool false] : Array Value)[j]? := cells_later (cells_later Y (by omega) hBw) (by omega) hb4
        have hfw : ∀ j, w4.frozen? ⟨w.heap.size + 1, j, none⟩ = false := free_later (free_later hf2 (by omega) hBw) (by omega) hb4
        have y0' := hyw 0
        have y1' := hyw 1
        have y2' := hyw 2
        have g0' := hfw 0
        have g1' := hfw 1
        have g2' := hfw 2
        simp only [List.getElem?_toArray, List.getElem?_cons_zero, List.getElem?_cons_succ] at y0' y1' y2'
        have hres := cells_sets (b := w.heap.size + 1) [(0, .slice b0 y.coefs.length e0), (1, .int .i64 y.bound), (2, .bool y.strict)] hyw (by simp)
        have r0 := hres 0
        have r1 := hres 1
        have r2 := hres 2
        simp only [setAt, updAll, List.set_cons_zero, List.set_cons_succ, List.getElem?_toArray, List.getElem?_cons_zero, List.getElem?_cons_succ] at r0 r1 r2
        have hne := hf4.ne (b := w.heap.size + 1) (by omega)
        have hs3 := ((sameOn_set (a := ⟨w.heap.size + 1, 0, none⟩) (v := .slice b0 y.coefs.length e0) (w := w4) hne).trans (sameOn_set (a := ⟨w.heap.size + 1, 1, none⟩) (v := .int .i64 y.bound) hne)).trans (sameOn_set (a := ⟨w.heap.size + 1, 2, none⟩) (v := .bool y.strict) hne)
        have hro2 := hr4.same _ hs3
        have hfo2 := hf4.same hs3
        have hB4 := hBww.trans (hb4.mono (by omega))
        clear hres hyw hfw hs3 hr4 hf4
        go_wp2_with fail
        (try simp only [Exit.inBlock, Exit.then])
        refine bodyPost_ret (v := .agg #[.slice b0 y.coefs.length e0, .int .i64 y.bound, .bool y.strict]) (by simp [results, Tryz.results39, go_sem, r0, r1, r2]) rfl ?_
        exact ⟨[_, _, _], fp, rfl, by rw [HM.out]; exact hro2, hfo2.mono (by omega), ((hB4.setCell (by simp) _).setCell (by simp) _).setCell (by simp) _⟩
end Go.Proofs.YteclieenkephfaaGreat
