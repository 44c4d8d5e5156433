/- The constraint of a sum of numbers: the program's linOf. -/
import Derived.Test.YteclieenkephfaaGreatLinQ
namespace Go.Proofs.YteclieenkephfaaGreat
open Go Go.RowKit
set_option linter.unusedVariables false
set_option linter.unusedSimpArgs false

def addAt (c : List Int) (p : Nat) (x : Int) : List Int := c.set p (c.getD p 0 + x)
def linC (nums : List Tm) : List Tm → List Int → List Int → List Int
  | t :: ts, x :: xs, c => linC nums ts xs (addAt c (Tm.pos nums t) x)
  | _, _, c => c
def LinGv (nums ts : List Tm) (xs R : List Int) (k : Nat) (c : List Int) : Prop := linC nums (ts.drop k) (xs.drop k) c = R
theorem LinGv.start {nums ts : List Tm} {xs c : List Int} : LinGv nums ts xs (linC nums ts xs c) 0 c := rfl
theorem LinGv.stop {nums ts : List Tm} {xs R c : List Int} {k : Nat} (h : LinGv nums ts xs R k c) (hk : ts.length ≤ k) : R = c := by
  unfold LinGv at h
  rw [List.drop_eq_nil_of_le hk] at h
  simpa [linC] using h.symm
theorem LinGv.step {nums ts : List Tm} {xs R c : List Int} {k : Nat} (h : LinGv nums ts xs R k c) (hk : k < ts.length) (hx : k < xs.length) : LinGv nums ts xs R (k + 1) (addAt c (Tm.pos nums ts[k]) xs[k]) := by
  unfold LinGv at h
  rw [List.drop_eq_getElem_cons hk, List.drop_eq_getElem_cons hx, linC] at h
  exact h
/-- Four numbers, each at most so many thousand millions. -/
def Four (c : List Int) (k : Nat) : Prop := c.length = 4 ∧ ∀ y ∈ c, -(1000000000 * (k : Int)) ≤ y ∧ y ≤ 1000000000 * (k : Int)
theorem Four.zero : Four [0, 0, 0, 0] 0 := ⟨rfl, by simp⟩
theorem Four.at {c : List Int} {k p : Nat} (h : Four c k) (hp : p < c.length) : -(1000000000 * (k : Int)) ≤ c[p] ∧ c[p] ≤ 1000000000 * (k : Int) := h.2 _ (List.getElem_mem hp)
theorem Four.set {c : List Int} {k p : Nat} {x : Int} (h : Four c k) (hx : -(1000000000 * ((k + 1 : Nat) : Int)) ≤ x ∧ x ≤ 1000000000 * ((k + 1 : Nat) : Int)) : Four (c.set p x) (k + 1) := by
  refine ⟨by rw [List.length_set]; exact h.1, fun y hy => ?_⟩
  rcases List.mem_or_eq_of_mem_set hy with hy | rfl
  · have := h.2 y hy; omega
  · exact hx
theorem addAt_eq {c : List Int} {p : Nat} {x : Int} (hp : p < c.length) : addAt c p x = c.set p (c[p] + x) := by
  unfold addAt; rw [List.getD_eq_getElem?_getD, List.getElem?_eq_getElem hp]; rfl
theorem termIndex_nd (l : List Tm) (t : Tm) (v x : Value) (w : World) (hn : l.Nodup) (ht : t ∈ l) (hv : TmsR w l v) (hx : TmR w t x) :
    Calls Tryz.prog 52 #[v, x] w fun e w' => e = .returned (.int .i64 (Tm.pos l t : Nat)) ∧ Below w.heap.size w w' := by
  refine (termIndex_any l t v x w hv hx).mono ?_
  rintro e w' ⟨⟨n, rfl, h⟩, hb⟩
  rw [h.pos hn ht]
  exact ⟨rfl, hb⟩
theorem l4Place_nd (l : List Tm) (t : Tm) (v x : Value) (w : World) (hn : l.Nodup) (ht : t ∈ l) (hv : TmsR w l v) (hx : TmR w t x) :
    Calls Tryz.prog 40 #[v, x] w fun e w' => e = .returned (.int .i64 (Tm.pos l t : Nat)) ∧ Below w.heap.size w w' := by
  refine (l4Place_any l t v x w hv hx).mono ?_
  rintro e w' ⟨⟨n, rfl, h⟩, hb⟩
  rw [h.pos hn ht]
  exact ⟨rfl, hb⟩
set_option maxHeartbeats 4000000 in
theorem linOf_any (nums ts : List Tm) (xs : List Int) (n : Int) (s : Bool) (nv lv tv : Value) (f : List Nat) (w : World) (hnd : Hid nums.Nodup) (hnl : nums.length ≤ 4) (hin : Hid (∀ t ∈ ts, t ∈ nums)) (hlen : xs.length = ts.length) (hll : ts.length ≤ 1000) (hM : Hid (∀ x ∈ xs, -1000000000 ≤ x ∧ x ≤ 1000000000)) (hn : I64 n)
    (hnv : TmsR w nums nv) (hlv : TmsR w ts lv) (htv : Rd w (.sl (xs.map intCd)) tv f) :
    Calls Tryz.prog 50 #[nv, lv, tv, .int .i64 n, .bool s] w (ToOutV (Ln.mk (linC nums ts xs [0, 0, 0, 0]) n s).cd w) := by
  obtain ⟨na, nc, rfl, _, _⟩ := hnv.form
  obtain ⟨la, lc, rfl, _, _⟩ := hlv.form
  obtain ⟨ta, tc, rfl, _, _⟩ := rd_sl_inv htv
  have hb0 := below_alloc w (.cells #[.slice none 0 0, .int .i64 0, .bool false] 69)
  have hy := cell_new w #[.slice none 0 0, .int .i64 0, .bool false] 69
  have hf2 := free_new w #[.slice none 0 0, .int .i64 0, .bool false] 69
  have hz0 : (w.alloc (.cells #[.slice none 0 0, .int .i64 0, .bool false] 69)).heap.size = w.heap.size + 1 := by simp
  go_enter Tryz.func50, Tryz.ntmps50
  go_wp2_with (at_make; refine wpList_mk slTyIntS _ rfl _ _ rfl (w.heap.size + 1) zIntS (fun w => zIntS_rd w) 4 rfl rfl (by omega) (by omega) (by simp) ?_)
  intro w1 hown0 hbl1 hz1
  have hz1 : w.heap.size + 1 < w1.heap.size := by simpa using hz1
  try simp only [World.size_alloc]
  have hrow0 : IRow w1 (w.heap.size + 1) (.slice (some ⟨w.heap.size + 1, 0, none⟩) 4 4) [0, 0, 0, 0] := hown0
  have hf0 : ∀ j, w1.frozen? ⟨w.heap.size, j, none⟩ = false := free_later hf2 (by simp) (by rw [hz0]; exact hbl1)
  have hy1 := cells_later hy (by simp) (by rw [hz0]; exact hbl1)
  clear hy hf2
  go_upto_region 2 with fail
  have hU := below_alloc w1 (.cells #[.slice (some ⟨w.heap.size + 1, 0, none⟩) 4 4, .int .i64 n, .bool s] 69)
  have hc := cell_new w1 #[.slice (some ⟨w.heap.size + 1, 0, none⟩) 4 4, .int .i64 n, .bool s] 69
  have st0 : LnVar (w1.alloc (.cells #[.slice (some ⟨w.heap.size + 1, 0, none⟩) 4 4, .int .i64 n, .bool s] 69)) w1.heap.size (w.heap.size + 1) [0, 0, 0, 0] n s (.slice (some ⟨w.heap.size + 1, 0, none⟩) 4 4) :=
    ⟨hc 0, hc 1, hc 2, fun j => free_new _ _ _ _, hrow0.below hU, by simp [Value.ownBlock]; omega, hn⟩
  have hB0 : Below (w.heap.size + 1) (w.alloc (.cells #[.slice none 0 0, .int .i64 0, .bool false] 69)) (w1.alloc (.cells #[.slice (some ⟨w.heap.size + 1, 0, none⟩) 4 4, .int .i64 n, .bool s] 69)) := hbl1.trans (hU.mono (by omega))
  clear hc hrow0 hown0
  go_wp2_with fail
  go_loopw [20] (fun i wr => ∃ (k : Nat) (c : List Int), k ≤ ts.length ∧ i = .int .i64 k ∧ Hid (LinGv nums ts xs (linC nums ts xs [0, 0, 0, 0]) k c) ∧ Hid (Four c k) ∧ LnVar wr w1.heap.size (w.heap.size + 1) c n s (.slice (some ⟨w.heap.size + 1, 0, none⟩) 4 4) ∧ Below (w.heap.size + 1) (w.alloc (.cells #[.slice none 0 0, .int .i64 0, .bool false] 69)) wr) (fun i _ => ts.length - (intOf i).toNat)
  case atStart => exact ⟨0, _, Nat.zero_le _, rfl, Lib.hid LinGv.start, Lib.hid Four.zero, st0, hB0⟩
  case round =>
    clear st0 hB0 hU
    obtain ⟨k, c, hk, rfl, hgv, hfo, st, hB⟩ := hrel
    obtain ⟨bx, hzz, hBw⟩ := box1 (by simpa using hB)
    by_cases hlt : k < ts.length
    · obtain ⟨lb, loff, rfl, hlb⟩ := hlv.addr (by omega)
      obtain ⟨tb, toff, rfl, htb, _⟩ := rd_addr htv (by omega)
      obtain ⟨ka, kc, d0, d1, ks, kk⟩ := (hlv.below hBw).at hlt
      have hlx : k < xs.length := by omega
      obtain ⟨e0, ei⟩ := intCd_at (htv.below hBw) hlx
      have hbz1 : lb < wr.heap.size := by have := hBw.size; omega
      have hbz2 : tb < wr.heap.size := by have := hBw.size; omega
      have hbk := below_alloc wr (.cells #[.string ts[k].name, .slice ka ts[k].kids.length kc] 60)
      go_upto_region 5 with fail
      have X := cell_new wr #[.string ts[k].name, .slice ka ts[k].kids.length kc] 60
      have X0 := X 0
      have X1 := X 1
      simp only [List.getElem?_toArray, List.getElem?_cons_zero, List.getElem?_cons_succ] at X0 X1
      have st1 := st.below hbk
      have hB1 := hB.trans (hbk.mono (by have := hB.size; simp at this; omega))
      have E0 := cell_keep e0 hbk
      have hxt : TmR _ ts[k] (.agg #[.string ts[k].name, .slice ka ts[k].kids.length kc]) := (TmR.mk ks kk).below hbk
      have hnw := (hnv.below hBw).below hbk
      clear X st d0 d1 e0 hB
      generalize wr.alloc (.cells #[.string ts[k].name, .slice ka ts[k].kids.length kc] 60) = W at *
      have hmem := hin.out _ (List.getElem_mem hlt)
      have hp := (Tm.pos_yes hmem).1
      have hpc : Tm.pos nums ts[k] < c.length := by rw [hfo.out.1]; omega
      have hMk := hM.out _ (List.getElem_mem hlx)
      have hF := hfo.out.at hpc
      have y0 := st1.c0
      have hwx : IntKind.i64.wrap (c[Tm.pos nums ts[k]] + xs[k]) = c[Tm.pos nums ts[k]] + xs[k] := IntWalk.i64_in _ (by omega)
      have hi2 : I64 (c[Tm.pos nums ts[k]] + xs[k]) := by constructor <;> omega
      have HG := Lib.hid (hgv.out.step hlt hlx)
      have HF4 := Lib.hid (hfo.out.set (p := Tm.pos nums ts[k]) (x := c[Tm.pos nums ts[k]] + xs[k]) (by omega))
      rw [addAt_eq hpc] at HG
      have hp4 : ((Tm.pos nums ts[k] : Nat) : Int) < 4 := by omega
      have hkx : ((k : Nat) : Int) < (ts.length : Int) := by omega
      have tok1 : True := trivial
      go_region_law (first
        | (have _t := tok1; clear _t tok1; go_simp; go_at_call 52; go_loud (refine (termIndex_nd nums ts[k] _ _ _ hnd.out hmem (by exact hnw.below (below_drew _)) (by exact hxt.below (below_drew _))).mono ?_); rintro e w2 ⟨rfl, hb2⟩; have hb2 := below_undrew' hb2; have st2 := st1.below hb2; have y2 := st2.c0; have E2 := cell_keep E0 hb2; have cp := (IRow.cell st2.row (k := Tm.pos nums ts[k]) hpc).1; have cf := IRow.free st2.row (Tm.pos nums ts[k])))
      all_goals
        have st3 := st2.one (Tm.pos nums ts[k]) hi2
        have hB3 := (hB1.trans (hb2.mono (by have := hB1.size; simp at this; omega))).setCell (p := ⟨w.heap.size + 1, Tm.pos nums ts[k], none⟩) (Nat.le_refl _) (.int .i64 (c[Tm.pos nums ts[k]] + xs[k]))
        clear hwx
        go_wp2_with fail
        go_roundw
        case rel => exact ⟨k + 1, _, by omega, by go_num, HG, HF4, st3, hB3⟩
        case measure => simp [intOf]; omega
    · have HR := Lib.hid (hgv.out.stop (by omega))
      have hfb : ∀ j, wr.frozen? ⟨w.heap.size, j, none⟩ = false := fun j => (hB.frozen (p := ⟨w.heap.size, j, none⟩) (by simp)).trans (free_new w _ _ j)
      clear hgv hfo
      obtain ⟨fq, hro, hfo9⟩ := st.out
      have hyw : ∀ j, wr.cell? ⟨w.heap.size, j, none⟩ = (#[.slice none 0 0, .int .i64 0, .bool false] : Array Value)[j]? := bx
      have hfw : ∀ j, wr.frozen? ⟨w.heap.size, j, none⟩ = false := hfb
      have y0' := hyw 0
      have y1' := hyw 1
      have y2' := hyw 2
      have g0' := hfw 0
      have g1' := hfw 1
      have g2' := hfw 2
      simp only [List.getElem?_toArray, List.getElem?_cons_zero, List.getElem?_cons_succ] at y0' y1' y2'
      have s0 := st.c0
      have s1 := st.c1
      have s2 := st.c2
      have hres := cells_sets (b := w.heap.size) [(0, .slice (some ⟨w.heap.size + 1, 0, none⟩) 4 4), (1, .int .i64 n), (2, .bool s)] hyw (by simp)
      have r0 := hres 0
      have r1 := hres 1
      have r2 := hres 2
      simp only [setAt, updAll, List.set_cons_zero, List.set_cons_succ, List.getElem?_toArray, List.getElem?_cons_zero, List.getElem?_cons_succ] at r0 r1 r2
      have hne := hfo9.ne (b := w.heap.size) (by omega)
      have hs3 := ((sameOn_set (a := ⟨w.heap.size, 0, none⟩) (v := .slice (some ⟨w.heap.size + 1, 0, none⟩) 4 4) (w := wr) hne).trans (sameOn_set (a := ⟨w.heap.size, 1, none⟩) (v := .int .i64 n) hne)).trans (sameOn_set (a := ⟨w.heap.size, 2, none⟩) (v := .bool s) hne)
      have hro2 := hro.same _ hs3
      have hfo2 := hfo9.same hs3
      clear hres hyw hfw hs3
      go_wp2_with fail
      (try simp only [Exit.inBlock, Exit.then])
      refine bodyPost_ret (v := .agg #[.slice (some ⟨w.heap.size + 1, 0, none⟩) 4 4, .int .i64 n, .bool s]) (by simp [results, Tryz.results50, go_sem, r0, r1, r2]) rfl ?_
      exact ⟨[_, _, _], fq, rfl, by rw [HR.out]; exact hro2, hfo2.mono (by omega), ((hBw.setCell (by simp) _).setCell (by simp) _).setCell (by simp) _⟩
end Go.Proofs.YteclieenkephfaaGreat
