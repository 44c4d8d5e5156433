/- A constraint in a variable, its numbers growing or turning; LinNot both sides. -/
import Derived.Test.YteclieenkephfaaGreatLinP
import Derived.Test.YteclieenkephfaaGreatSameLib
namespace Go.Proofs.YteclieenkephfaaGreat
open Go Go.RowKit
set_option linter.unusedVariables false
set_option linter.unusedSimpArgs false

/-- A constraint in block ob. -/
structure LnVar (w : World) (ob base : Nat) (c : List Int) (n : Int) (s : Bool) (cv : Value) : Prop where
  c0 : w.cell? ⟨ob, 0, none⟩ = some cv
  c1 : w.cell? ⟨ob, 1, none⟩ = some (.int .i64 n)
  c2 : w.cell? ⟨ob, 2, none⟩ = some (.bool s)
  fr : ∀ j, w.frozen? ⟨ob, j, none⟩ = false
  row : IRow w base cv c
  nr : cv.ownBlock ≠ some ob
  hn : I64 n
theorem LnVar.lt {w : World} {ob base : Nat} {c : List Int} {n : Int} {s : Bool} {cv : Value} (h : LnVar w ob base c n s cv) : ob < w.heap.size := World.block_lt_of_cell? w _ h.c0
theorem LnVar.below {w w2 : World} {ob base : Nat} {c : List Int} {n : Int} {s : Bool} {cv : Value} (h : LnVar w ob base c n s cv) (hb : Below w.heap.size w w2) : LnVar w2 ob base c n s cv :=
  ⟨cell_keep h.c0 hb, cell_keep h.c1 hb, cell_keep h.c2 hb, fun j => (free_of_block (hb.block ob h.lt)).trans (h.fr j), h.row.below hb, h.nr, h.hn⟩
theorem Own.set_apart2 {w : World} {base e k : Nat} {v : Value} {es : List (List CD)} (h : Own w base e k v es []) {b j : Nat} {u : Value} (ho : v.ownBlock ≠ some b) : Own (w.setCell ⟨b, j, none⟩ u) base e k v es [] :=
  h.same (fun x hx => by simp at hx) fun x hx => Below.heap_setCell _ _ _ _ (fun e : x = b => ho (e ▸ hx))
theorem LnVar.app {w w4 : World} {ob base : Nat} {c c' : List Int} {n : Int} {s : Bool} {cv cv' : Value} (h : LnVar w ob base c n s cv) (hown : IRow w4 base cv' c') (hm : Moved w cv w4 cv') : LnVar (w4.setCell ⟨ob, 0, none⟩ cv') ob base c' n s cv' := by
  have hcb := hm.block h.lt h.nr
  have hnr : cv'.ownBlock ≠ some ob := fun e => by
    rcases hm.2 ob e with h1 | h1
    · exact h.nr h1
    · have := h.lt; omega
  refine ⟨World.cell?_setCell_same _ _ _ (cell_block hcb h.c0), ?_, ?_, fun j => ?_, Own.set_apart2 hown hnr, hnr, h.hn⟩
  · rw [World.cell?_setCell_other _ _ _ _ (by simp)]; exact cell_block hcb h.c1
  · rw [World.cell?_setCell_other _ _ _ _ (by simp)]; exact cell_block hcb h.c2
  · rw [World.frozen?_setCell]; exact free_block hcb (h.fr j)
theorem LnVar.one {w : World} {ob base g m cp : Nat} {c : List Int} {n : Int} {s : Bool} (h : LnVar w ob base c n s (.slice (some ⟨g, 0, none⟩) m cp)) (k : Nat) {x : Int} (hx : I64 x) : LnVar (w.setCell ⟨g, k, none⟩ (.int .i64 x)) ob base (c.set k x) n s (.slice (some ⟨g, 0, none⟩) m cp) := by
  obtain ⟨h1, h2⟩ := h.row.set k hx
  have hcb := h2.block h.lt h.nr
  exact ⟨cell_block hcb h.c0, cell_block hcb h.c1, cell_block hcb h.c2, fun j => free_block hcb (h.fr j), h1, h.nr, h.hn⟩
theorem LnVar.out {w : World} {ob base : Nat} {c : List Int} {n : Int} {s : Bool} {cv : Value} (h : LnVar w ob base c n s cv) : ∃ fp, RdVs w (Ln.mk c n s).cd [cv, .int .i64 n, .bool s] fp ∧ Fresh base w fp := by
  obtain ⟨fp, h1, h2, _⟩ := Own.fresh h.row (Fresh.nil _ _)
  refine ⟨fp, ?_, h2⟩
  obtain ⟨a, c', hv, _, _⟩ := rd_sl_inv h1
  subst hv
  exact Ln.close (x := ⟨c, n, s⟩) h1 h.hn
def negs (c : List Int) (k : Nat) : List Int := (c.take k).map (fun n => -n)
theorem negs_succ (c : List Int) (k : Nat) (h : k < c.length) : negs c (k + 1) = negs c k ++ [-c[k]] := by
  unfold negs; rw [List.take_succ_eq_append_getElem h, List.map_append]; rfl
theorem negs_len (c : List Int) (k : Nat) (h : k ≤ c.length) : (negs c k).length = k := by simp [negs]; omega
set_option maxHeartbeats 4000000 in
theorem linNot_any (x : Ln) (vs : List Value) (f : List Nat) (w : World) (hv : RdVs w x.cd vs f) :
    Calls Tryz.prog 51 #[.agg vs.toArray] w (ToOutV x.not.cd w) := by
  obtain ⟨a0, c0, f0, rfl, _, m0, m1⟩ := Ln.open hv
  go_enter Tryz.func51, Tryz.ntmps51
  go_wp2_with fail
  refine (linOk_any x _ _ _ (by exact hv.below (((Below.refl _ _).alloc (Nat.le_refl _) _).alloc (by simp) _))).mono ?_
  rintro e w1 ⟨rfl, hb1⟩
  have hbb := below_size (n := w.heap.size + 1 + 1) hb1 (by simp)
  obtain ⟨hx, hy, hz, hBw⟩ := box2 (w := w) (wr := w1) (cs := #[.slice a0 x.coefs.length c0, .int .i64 x.bound, .bool x.strict]) (ds := #[.slice none 0 0, .int .i64 0, .bool false]) (T := 69) (U := 69) hbb
  have hf2 := fun j => (box2_free hbb j).2
  clear hb1 hbb
  have X0 := hx 0
  have X1 := hx 1
  have X2 := hx 2
  simp only [List.getElem?_toArray, List.getElem?_cons_zero, List.getElem?_cons_succ] at X0 X1 X2
  cases hok : x.okB
  · have HM := Lib.hid (Ln.not_no hok)
    clear hok
    have y0 := hy 0
    have y1 := hy 1
    have y2 := hy 2
    have g0 := hf2 0
    have g1 := hf2 1
    have g2 := hf2 2
    simp only [List.getElem?_toArray, List.getElem?_cons_zero, List.getElem?_cons_succ] at y0 y1 y2
    have hres := cells_sets (b := w.heap.size + 1) [(0, .slice none 0 0), (1, .int .i64 0), (2, .bool false)] hy (by simp)
    have r0 := hres 0
    have r1 := hres 1
    have r2 := hres 2
    simp only [setAt, updAll, List.set_cons_zero, List.set_cons_succ, List.getElem?_toArray, List.getElem?_cons_zero, List.getElem?_cons_succ] at r0 r1 r2
    clear hres hx hy hf2
    go_wp2_with fail
    (try simp only [Exit.inBlock, Exit.then])
    refine bodyPost_ret (v := .agg #[.slice none 0 0, .int .i64 0, .bool false]) (by simp [results, Tryz.results51, go_sem, r0, r1, r2]) rfl ?_
    exact ⟨[_, _, _], [], rfl, by rw [HM.out]; exact Ln.zero_rd _, Fresh.nil _ _, ((hBw.setCell (by simp) _).setCell (by simp) _).setCell (by simp) _⟩
  have HM := Lib.hid (Ln.not_yes hok)
  obtain ⟨h4, hcs, hb1, hb2⟩ := Ln.okB_coef hok
  have HCS := Lib.hid hcs
  have hwn : IntKind.i64.wrap (-x.bound) = -x.bound := IntWalk.i64_in _ (by omega)
  have hwz : w.heap.size < w1.heap.size := by omega
  clear hok hcs
  go_upto_region 4 with fail
  have hU := below_alloc w1 (.cells #[.slice none 0 0, .int .i64 (-x.bound), .bool (!x.strict)] 69)
  have hc := cell_new w1 #[.slice none 0 0, .int .i64 (-x.bound), .bool (!x.strict)] 69
  have st0 : LnVar (w1.alloc (.cells #[.slice none 0 0, .int .i64 (-x.bound), .bool (!x.strict)] 69)) w1.heap.size w1.heap.size [] (-x.bound) (!x.strict) (.slice none 0 0) :=
    ⟨hc 0, hc 1, hc 2, fun j => free_new _ _ _ _, Own.nil _ _ _ _, by simp [Value.ownBlock], by constructor <;> omega⟩
  have X0a := cell_keep X0 hU
  clear hc hwn
  go_wp2_with fail
  go_loopw [20] (fun i wr => ∃ (k : Nat) (cv : Value), k ≤ x.coefs.length ∧ i = .int .i64 k ∧ LnVar wr w1.heap.size w1.heap.size (negs x.coefs k) (-x.bound) (!x.strict) cv ∧ Below w1.heap.size w1 wr) (fun i _ => x.coefs.length - (intOf i).toNat)
  case atStart => exact ⟨0, _, Nat.zero_le _, rfl, st0, hU⟩
  case round =>
    clear st0 hU X0a
    obtain ⟨k, cv, hk, rfl, st, hB⟩ := hrel
    have x0 := cell_keep X0 hB
    have y0 := st.c0
    have hob := st.lt
    have hz1 := hB.size
    by_cases hlt : k < x.coefs.length
    · obtain ⟨b, off, rfl, hbs, _⟩ := rd_addr m0 (by omega)
      obtain ⟨d0, i0⟩ := intCd_at (m0.below (hBw.trans (hB.mono (by omega)))) hlt
      have hbz : b < wr.heap.size := by omega
      have hcb := HCS.out _ (List.getElem_mem hlt)
      have hwc : IntKind.i64.wrap (-x.coefs[k]) = -x.coefs[k] := IntWalk.i64_in _ (by omega)
      have ALB := below_alloc wr (.cells #[.int .i64 (-x.coefs[k])] 3)
      have hown2 := Own.below st.row ALB
      have hl : ((negs x.coefs k).map intCd).length = k := by rw [List.length_map, negs_len _ _ hk]
      go_wp2_with (at_builtin; refine wpList_app slTyIntS rfl _ _ rfl w1.heap.size _ _ _ rfl hown2 ⟨wr.heap.size, 0, none⟩ 1 1 [intCd (-x.coefs[k])] [.int .i64 (-x.coefs[k])] [] rfl rfl ?rd ?k ?cells ?na ?bytes ?len ?base ?next)
      case rd => exact by simpa using ints_rdv_mk [-x.coefs[k]] (by simp; constructor <;> omega)
      case k => simp [intCd_len]
      case cells => exact cells_new _ _ _
      case na => simp
      case bytes => omega
      case len => omega
      case base => simp; omega
      case next =>
        intro v' w4 hown4 hg hv' hs4
        have hm4 : Moved wr cv w4 v' := Moved.after ALB ⟨hg, fun b hb => by simpa using hv' b hb⟩
        have hblk := hm4.block st.lt st.nr
        have F0 := free_block hblk (st.fr 0)
        have D0 := cell_block hblk st.c0
        have st4 := st.app (c' := negs x.coefs (k + 1)) (by rw [negs_succ _ _ hlt]; unfold IRow; simpa using hown4) hm4
        have hb4 : Below w1.heap.size w1 (w4.setCell ⟨w1.heap.size, 0, none⟩ v') := (hB.trans (hm4.toBelow (B := w1.heap.size) hB.size (fun b hb => (Own.block st.row hb).1))).setCell (Nat.le_refl _) _
        obtain ⟨ta, tn, tc, rfl⟩ := Own.form' hown4
        clear st hown4 hm4 hg hv' hs4
        go_wp2_with fail
        go_roundw
        case rel => exact ⟨k + 1, _, by omega, by go_num, st4, hb4⟩
        case measure => simp [intOf]; omega
    · have he : negs x.coefs k = x.coefs.map (fun n => -n) := by unfold negs; rw [List.take_of_length_le (by omega)]
      rw [he] at st
      clear he
      obtain ⟨la, ln, lc, rfl⟩ := Own.form' st.row
      obtain ⟨fq, hro, hfo⟩ := st.out
      have hyw : ∀ j, wr.cell? ⟨w.heap.size + 1, j, none⟩ = (#[.slice none 0 0, .int .i64 0, .bool false] : Array Value)[j]? := cells_later hy (by omega) hB
      have hfw : ∀ j, wr.frozen? ⟨w.heap.size + 1, j, none⟩ = false := free_later hf2 (by omega) hB
      have y0' := hyw 0
      have y1' := hyw 1
      have y2' := hyw 2
      have g0' := hfw 0
      have g1' := hfw 1
      have g2' := hfw 2
      simp only [List.getElem?_toArray, List.getElem?_cons_zero, List.getElem?_cons_succ] at y0' y1' y2'
      have s1 := st.c1
      have s2 := st.c2
      have hres := cells_sets (b := w.heap.size + 1) [(0, .slice la ln lc), (1, .int .i64 (-x.bound)), (2, .bool (!x.strict))] hyw (by simp)
      have r0 := hres 0
      have r1 := hres 1
      have r2 := hres 2
      simp only [setAt, updAll, List.set_cons_zero, List.set_cons_succ, List.getElem?_toArray, List.getElem?_cons_zero, List.getElem?_cons_succ] at r0 r1 r2
      have hne := hfo.ne (b := w.heap.size + 1) (by omega)
      have hs3 := ((sameOn_set (a := ⟨w.heap.size + 1, 0, none⟩) (v := .slice la ln lc) (w := wr) hne).trans (sameOn_set (a := ⟨w.heap.size + 1, 1, none⟩) (v := .int .i64 (-x.bound)) hne)).trans (sameOn_set (a := ⟨w.heap.size + 1, 2, none⟩) (v := .bool (!x.strict)) hne)
      have hro2 := hro.same _ hs3
      have hfo2 := hfo.same hs3
      have hBe := hBw.trans (hB.mono (by omega))
      clear hres hyw hfw hs3
      go_wp2_with fail
      (try simp only [Exit.inBlock, Exit.then])
      refine bodyPost_ret (v := .agg #[.slice la ln lc, .int .i64 (-x.bound), .bool (!x.strict)]) (by simp [results, Tryz.results51, go_sem, r0, r1, r2]) rfl ?_
      exact ⟨[_, _, _], fq, rfl, by rw [HM.out]; exact hro2, hfo2.mono (by omega), ((hBe.setCell (by simp) _).setCell (by simp) _).setCell (by simp) _⟩
set_option maxHeartbeats 4000000 in
theorem linNotS_any (x : Ln) (vs : List Value) (f : List Nat) (w : World) (hv : RdVs w x.cd vs f) :
    Calls Tryz.prog 64 #[.agg vs.toArray] w (ToOutV x.not.cd w) := by
  obtain ⟨a0, c0, f0, rfl, _, m0, m1⟩ := Ln.open hv
  go_enter Tryz.func64, Tryz.ntmps64
  go_wp2_with fail
  refine (linOkS_any x _ _ _ (by exact hv.below (((Below.refl _ _).alloc (Nat.le_refl _) _).alloc (by simp) _))).mono ?_
  rintro e w1 ⟨rfl, hb1⟩
  have hbb := below_size (n := w.heap.size + 1 + 1) hb1 (by simp)
  obtain ⟨hx, hy, hz, hBw⟩ := box2 (w := w) (wr := w1) (cs := #[.slice a0 x.coefs.length c0, .int .i64 x.bound, .bool x.strict]) (ds := #[.slice none 0 0, .int .i64 0, .bool false]) (T := 69) (U := 69) hbb
  have hf2 := fun j => (box2_free hbb j).2
  clear hb1 hbb
  have X0 := hx 0
  have X1 := hx 1
  have X2 := hx 2
  simp only [List.getElem?_toArray, List.getElem?_cons_zero, List.getElem?_cons_succ] at X0 X1 X2
  cases hok : x.okB
  · have HM := Lib.hid (Ln.not_no hok)
    clear hok
    have y0 := hy 0
    have y1 := hy 1
    have y2 := hy 2
    have g0 := hf2 0
    have g1 := hf2 1
    have g2 := hf2 2
    simp only [List.getElem?_toArray, List.getElem?_cons_zero, List.getElem?_cons_succ] at y0 y1 y2
    have hres := cells_sets (b := w.heap.size + 1) [(0, .slice none 0 0), (1, .int .i64 0), (2, .bool false)] hy (by simp)
    have r0 := hres 0
    have r1 := hres 1
    have r2 := hres 2
    simp only [setAt, updAll, List.set_cons_zero, List.set_cons_succ, List.getElem?_toArray, List.getElem?_cons_zero, List.getElem?_cons_succ] at r0 r1 r2
    clear hres hx hy hf2
    go_wp2_with fail
    (try simp only [Exit.inBlock, Exit.then])
    refine bodyPost_ret (v := .agg #[.slice none 0 0, .int .i64 0, .bool false]) (by simp [results, Tryz.results64, go_sem, r0, r1, r2]) rfl ?_
    exact ⟨[_, _, _], [], rfl, by rw [HM.out]; exact Ln.zero_rd _, Fresh.nil _ _, ((hBw.setCell (by simp) _).setCell (by simp) _).setCell (by simp) _⟩
  have HM := Lib.hid (Ln.not_yes hok)
  obtain ⟨h4, hcs, hb1, hb2⟩ := Ln.okB_coef hok
  have HCS := Lib.hid hcs
  have hwn : IntKind.i64.wrap (-x.bound) = -x.bound := IntWalk.i64_in _ (by omega)
  have hwz : w.heap.size < w1.heap.size := by omega
  clear hok hcs
  go_upto_region 4 with fail
  have hU := below_alloc w1 (.cells #[.slice none 0 0, .int .i64 (-x.bound), .bool (!x.strict)] 69)
  have hc := cell_new w1 #[.slice none 0 0, .int .i64 (-x.bound), .bool (!x.strict)] 69
  have st0 : LnVar (w1.alloc (.cells #[.slice none 0 0, .int .i64 (-x.bound), .bool (!x.strict)] 69)) w1.heap.size w1.heap.size [] (-x.bound) (!x.strict) (.slice none 0 0) :=
    ⟨hc 0, hc 1, hc 2, fun j => free_new _ _ _ _, Own.nil _ _ _ _, by simp [Value.ownBlock], by constructor <;> omega⟩
  have X0a := cell_keep X0 hU
  clear hc hwn
  go_wp2_with fail
  go_loopw [4] (fun i wr => ∃ (k : Nat) (cv : Value), k ≤ x.coefs.length ∧ i = .int .i64 k ∧ LnVar wr w1.heap.size w1.heap.size (negs x.coefs k) (-x.bound) (!x.strict) cv ∧ Below w1.heap.size w1 wr) (fun i _ => x.coefs.length - (intOf i).toNat)
  case atStart => exact ⟨0, _, Nat.zero_le _, rfl, st0, hU⟩
  case round =>
    clear st0 hU X0a
    obtain ⟨k, cv, hk, rfl, st, hB⟩ := hrel
    have x0 := cell_keep X0 hB
    have y0 := st.c0
    have hob := st.lt
    have hz1 := hB.size
    by_cases hlt : k < x.coefs.length
    · obtain ⟨b, off, rfl, hbs, _⟩ := rd_addr m0 (by omega)
      obtain ⟨d0, i0⟩ := intCd_at (m0.below (hBw.trans (hB.mono (by omega)))) hlt
      have hbz : b < wr.heap.size := by omega
      have hcb := HCS.out _ (List.getElem_mem hlt)
      have hwc : IntKind.i64.wrap (-x.coefs[k]) = -x.coefs[k] := IntWalk.i64_in _ (by omega)
      have ALB := (below_alloc wr (.cells #[.int .i64 (-x.coefs[k])] 3)).drew
      have hown2 := Own.below st.row ALB
      have hl : ((negs x.coefs k).map intCd).length = k := by rw [List.length_map, negs_len _ _ hk]
      go_wp2_with fail
      go_region_law (first
        | (have _t := @hown2; go_loud (refine step_app slTyIntS rfl _ _ rfl w1.heap.size cv ((negs x.coefs k).map intCd) [] rfl (by exact hown2) ⟨wr.heap.size, 0, none⟩ 1 1 [intCd (-x.coefs[k])] [.int .i64 (-x.coefs[k])] [] rfl rfl (by exact by simpa using ints_rdv_mk [-x.coefs[k]] (by simp; constructor <;> omega)) (by simp [intCd_len]) (by exact cells_new wr _ _) (by simp) (by omega) (by omega) (by simp; omega) ?_); intro v' w4 hown4 hg hv' hs4; obtain ⟨a4', n4', c4', rfl⟩ := Own.form' hown4; have hm4 : Moved wr cv w4 _ := Moved.after ALB ⟨hg, fun b hb => by simpa using hv' b hb⟩; have hblk := hm4.block st.lt st.nr; have F0 := free_block hblk (st.fr 0); have D0 := cell_block hblk st.c0))
      all_goals
        have st4 := st.app (c' := negs x.coefs (k + 1)) (by rw [negs_succ _ _ hlt]; unfold IRow; simpa using hown4) hm4
        have hb4 : Below w1.heap.size w1 (w4.setCell ⟨w1.heap.size, 0, none⟩ (.slice a4' n4' c4')) := (hB.trans (hm4.toBelow (B := w1.heap.size) hB.size (fun b hb => (Own.block st.row hb).1))).setCell (Nat.le_refl _) _
        clear st hown4 hm4 hg hv' hs4
        go_wp2_with fail
        go_roundw
        case rel => exact ⟨k + 1, _, by omega, by go_num, st4, hb4⟩
        case measure => simp [intOf]; omega
    · have he : negs x.coefs k = x.coefs.map (fun n => -n) := by unfold negs; rw [List.take_of_length_le (by omega)]
      rw [he] at st
      clear he
      obtain ⟨la, ln, lc, rfl⟩ := Own.form' st.row
      obtain ⟨fq, hro, hfo⟩ := st.out
      have hyw : ∀ j, wr.cell? ⟨w.heap.size + 1, j, none⟩ = (#[.slice none 0 0, .int .i64 0, .bool false] : Array Value)[j]? := cells_later hy (by omega) hB
      have hfw : ∀ j, wr.frozen? ⟨w.heap.size + 1, j, none⟩ = false := free_later hf2 (by omega) hB
      have y0' := hyw 0
      have y1' := hyw 1
      have y2' := hyw 2
      have g0' := hfw 0
      have g1' := hfw 1
      have g2' := hfw 2
      simp only [List.getElem?_toArray, List.getElem?_cons_zero, List.getElem?_cons_succ] at y0' y1' y2'
      have s1 := st.c1
      have s2 := st.c2
      have hres := cells_sets (b := w.heap.size + 1) [(0, .slice la ln lc), (1, .int .i64 (-x.bound)), (2, .bool (!x.strict))] hyw (by simp)
      have r0 := hres 0
      have r1 := hres 1
      have r2 := hres 2
      simp only [setAt, updAll, List.set_cons_zero, List.set_cons_succ, List.getElem?_toArray, List.getElem?_cons_zero, List.getElem?_cons_succ] at r0 r1 r2
      have hne := hfo.ne (b := w.heap.size + 1) (by omega)
      have hs3 := ((sameOn_set (a := ⟨w.heap.size + 1, 0, none⟩) (v := .slice la ln lc) (w := wr) hne).trans (sameOn_set (a := ⟨w.heap.size + 1, 1, none⟩) (v := .int .i64 (-x.bound)) hne)).trans (sameOn_set (a := ⟨w.heap.size + 1, 2, none⟩) (v := .bool (!x.strict)) hne)
      have hro2 := hro.same _ hs3
      have hfo2 := hfo.same hs3
      have hBe := hBw.trans (hB.mono (by omega))
      clear hres hyw hfw hs3
      go_wp2_with fail
      (try simp only [Exit.inBlock, Exit.then])
      refine bodyPost_ret (v := .agg #[.slice la ln lc, .int .i64 (-x.bound), .bool (!x.strict)]) (by simp [results, Tryz.results64, go_sem, r0, r1, r2]) rfl ?_
      exact ⟨[_, _, _], fq, rfl, by rw [HM.out]; exact hro2, hfo2.mono (by omega), ((hBe.setCell (by simp) _).setCell (by simp) _).setCell (by simp) _⟩
end Go.Proofs.YteclieenkephfaaGreat
