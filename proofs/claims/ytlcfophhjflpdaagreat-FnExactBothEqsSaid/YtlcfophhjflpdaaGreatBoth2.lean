/- The numbers of literals: the program's DeleteFunc. -/
import Derived.Test.YtlcfophhjflpdaaGreatBoth1
namespace Go.Proofs.YtlcfophhjflpdaaGreat
open Go Go.RowKit
set_option linter.unusedVariables false
set_option linter.unusedSimpArgs false

theorem run_clear2 {P : Program} (w : World) (t e : TypeId) (z0 z1 : Value) (ht : P.underlying t = some (.slice e)) (hv : ∀ w, (zeroValue e).run P w = .ok (.agg #[z0, z1]) w) (h0 : z0.oneCell' = true) (h1 : z1.oneCell' = true) (b o n c : Nat) (hn : 0 < n)
    (hc : ∀ j, j < n * 2 → (w.cell? ⟨b, o + j, none⟩).isSome = true) (hf : ∀ j, w.frozen? ⟨b, j, none⟩ = false) :
    ∃ vs : List Value, vs.length = n * 2 ∧ ∀ ty, (Builtin.clear_ #[t] ty #[.slice (some ⟨b, o, none⟩) n c]).run P w = .ok (.tuple #[]) (w.setCells b o vs) := by
  have hl : (Builtin.zeroCells #[z0, z1] n).toList.length = n * 2 := by simp [Builtin.zeroCells]
  refine ⟨(Builtin.zeroCells #[z0, z1] n).toList, hl, fun ty => ?_⟩
  have hst := run_storeCells_cells (P := P) b o (Builtin.zeroCells #[z0, z1] n).toList 0 w (fun j hj => by rw [Nat.add_zero]; exact hc j (by omega)) (fun j hj => hf _) (by
    intro v hv'
    have : v = z0 ∨ v = z1 := by
      simp only [Builtin.zeroCells, Array.toList_map, List.mem_map] at hv'
      obtain ⟨i, _, rfl⟩ := hv'
      have h2 : i % 2 = 0 ∨ i % 2 = 1 := by omega
      rcases h2 with h | h
      · left; simp [h]
      · right; simp [h]
    rcases this with rfl | rfl
    · exact h0
    · exact h1)
  simp only [Nat.add_zero] at hst
  obtain ⟨m, rfl⟩ : ∃ m, n = m + 1 := ⟨n - 1, by omega⟩
  have hzc : (Value.agg #[z0, z1]).cells = #[z0, z1] := rfl
  simp only [Builtin.clear_]
  simp [run_underlying ht, hv, hst, hzc]

/-- In the midst of striking: the row has what is kept of the first j, and from j on what it had. -/
structure Kept (s : Sg) (l : List Tm) (w wr : World) (b off : Nat) (fr : List Nat) (fs : List (List Nat)) (i j : Nat) : Prop where
  le : j ≤ l.length
  many : i = ((l.take j).filter (Tm.isNum s)).length
  kept : ∃ us fp, RdVs w (((l.take j).filter (Tm.isNum s)).map Tm.cd).flatten us fp ∧ (∀ m u, us[m]? = some u → wr.cell? ⟨b, off + m, none⟩ = some u) ∧ (∀ y ∈ fp, y ∈ fr) ∧ fp.Sublist (fs.take j).flatten
  rest : ∀ m, j * 2 ≤ m → wr.cell? ⟨b, off + m, none⟩ = w.cell? ⟨b, off + m, none⟩
  free : ∀ m, wr.frozen? ⟨b, m, none⟩ = false
  ex : ∀ m, m < l.length * 2 → ∃ u, wr.cell? ⟨b, off + m, none⟩ = some u
  only : Only [b] w wr
  own : Free wr (b :: fr)
theorem RdVs.cutV {w : World} {ds es : List CD} {vs : List Value} {fp : List Nat} (h : RdVs w (ds ++ es) vs fp) {m : Nat} (hm : ds.length = m) : ∃ f g, fp = f ++ g ∧ RdVs w ds (vs.take m) f ∧ RdVs w es (vs.drop m) g := by
  obtain ⟨us, us', f, g, rfl, rfl, h1, h2⟩ := h.split
  have hl := h1.length
  refine ⟨f, g, rfl, ?_, ?_⟩
  · rw [List.take_left' (by omega)]; exact h1
  · rw [List.drop_left' (by omega)]; exact h2
theorem Only.sets {b : Nat} : ∀ (vs : List Value) (o : Nat) (w : World), Only [b] w (w.setCells b o vs)
  | [], _, w => Only.refl _ _
  | v :: r, o, w => (Only.set (a := ⟨b, o, none⟩) (by simp)).trans (Only.sets r (o + 1) _)
theorem only_cell {b : Nat} {w w' : World} (h : Only [b] w w') {c j : Nat} {u : Value} (hc : w.cell? ⟨c, j, none⟩ = some u) (hne : c ≠ b) : w'.cell? ⟨c, j, none⟩ = some u :=
  cell_block (h.block c (World.block_lt_of_cell? w _ hc) (by simpa using hne)) hc
theorem only_same {b : Nat} {w w' : World} (h : Only [b] w w') {fp : List Nat} (hl : ∀ y ∈ fp, y < w.heap.size) (hn : b ∉ fp) : SameOn fp w w' := h.same hl (fun y hy hy' => hn (by rw [List.mem_singleton] at hy'; rw [← hy']; exact hy))
theorem Kept.below {s : Sg} {l : List Tm} {w w1 w2 : World} {b off : Nat} {fr : List Nat} {fs : List (List Nat)} {i j : Nat} (h : Kept s l w w1 b off fr fs i j) (hb : b < w1.heap.size) (hw : Below w1.heap.size w1 w2) : Kept s l w w2 b off fr fs i j := by
  obtain ⟨h1, h2, ⟨us, fp, h3, h4, h5⟩, h6, h7, h8, h9, h10⟩ := h
  exact ⟨h1, h2, ⟨us, fp, h3, fun m u hm => cell_keep (h4 m u hm) hw, h5⟩, fun m hm => (hw.cell (p := ⟨b, off + m, none⟩) hb).trans (h6 m hm), fun m => (hw.frozen (p := ⟨b, m, none⟩) hb).trans (h7 m), fun m hm => by obtain ⟨u, hu⟩ := h8 m hm; exact ⟨u, cell_keep hu hw⟩, h9.trans (Only.below hw), h10.same (below_sameOn hw h10.lt)⟩
theorem Free.sets {b : Nat} {fp : List Nat} : ∀ (vs : List Value) (o : Nat) (w : World), Free w fp → Free (w.setCells b o vs) fp
  | [], _, w, h => h
  | v :: r, o, w, h => Free.sets r (o + 1) _ (h.set (a := ⟨b, o, none⟩) rfl)
/-- The rows of terms, each with its own. -/
theorem RdVs.rows {w : World} : ∀ {l : List Tm} {vs : List Value} {fr : List Nat}, RdVs w (l.map Tm.cd).flatten vs fr → ∃ fs : List (List Nat), fs.length = l.length ∧ fr = fs.flatten ∧ ∀ j (h : j < l.length) (h' : j < fs.length), (∃ tv, RdVs w l[j].cd tv fs[j] ∧ ∀ (m : Nat) u, tv[m]? = some u → vs[j * 2 + m]? = some u) ∧ ∃ us : List Value, RdVs w ((l.take j).map Tm.cd).flatten us (fs.take j).flatten ∧ ∀ (m : Nat) u, us[m]? = some u → vs[m]? = some u
  | [], vs, fr, h => by
    simp only [List.map_nil, List.flatten_nil, RdVs] at h
    exact ⟨[], rfl, h.2, fun j hj => absurd hj (by simp)⟩
  | t :: l, vs, fr, h => by
    rw [List.map_cons, List.flatten_cons] at h
    obtain ⟨us, us', f, g, rfl, rfl, h1, h2⟩ := h.split
    have hl := h1.length
    rw [Tm.cd_len] at hl
    obtain ⟨fs, e1, rfl, e3⟩ := RdVs.rows h2
    have hlo : ∀ (m : Nat) u, us[m]? = some u → (us ++ us')[m]? = some u := fun m u hm => by
      have : m < us.length := by
        rcases Nat.lt_or_ge m us.length with h | h
        · exact h
        · rw [List.getElem?_eq_none h] at hm; cases hm
      rw [List.getElem?_append_left this]; exact hm
    refine ⟨f :: fs, by simp [e1], by simp, fun j hj hj' => ?_⟩
    rcases j with _ | j
    · exact ⟨⟨us, by simpa using h1, fun m u hm => by rw [Nat.zero_mul, Nat.zero_add]; exact hlo m u hm⟩, [], by simp [RdVs], by simp⟩
    · obtain ⟨⟨tv, q1, q2⟩, us2, q3, q4⟩ := e3 j (by simpa using hj) (by simpa using hj')
      refine ⟨⟨tv, by simpa using q1, fun m u hm => ?_⟩, us ++ us2, ?_, fun m u hm => ?_⟩
      · rw [List.getElem?_append_right (by omega), hl, show (j + 1) * 2 + m - 2 = j * 2 + m by omega]
        exact q2 m u hm
      · rw [List.take_succ_cons, List.take_succ_cons, List.map_cons, List.flatten_cons, List.flatten_cons]
        exact h1.app q3
      · rcases Nat.lt_or_ge m us.length with h | h
        · rw [List.getElem?_append_left h] at hm; exact hlo m u hm
        · rw [List.getElem?_append_right h] at hm ⊢; exact q4 _ u hm
theorem flat_take_succ (fs : List (List Nat)) (j : Nat) (h : j < fs.length) : (fs.take (j + 1)).flatten = (fs.take j).flatten ++ fs[j] := by
  rw [List.take_succ_eq_append_getElem h, List.flatten_append]; simp
theorem flat_take_sub (fs : List (List Nat)) (j : Nat) : (fs.take j).flatten.Sublist fs.flatten := by
  have h : fs.flatten = (fs.take j).flatten ++ (fs.drop j).flatten := by rw [← List.flatten_append, List.take_append_drop]
  rw [h]; exact List.sublist_append_left _ _
theorem mem_flat_at {fs : List (List Nat)} {j : Nat} (h : j < fs.length) {y : Nat} (hy : y ∈ fs[j]) : y ∈ fs.flatten := List.mem_flatten.2 ⟨fs[j], List.getElem_mem h, hy⟩
theorem cell_set_at' {w : World} {b i : Nat} {v u : Value} (h : w.cell? ⟨b, i, none⟩ = some u) : (w.setCell ⟨b, i, none⟩ v).cell? ⟨b, i, none⟩ = some v := World.cell?_setCell_same w _ v h
theorem filter_take_le (s : Sg) (l : List Tm) (j : Nat) : ((l.take j).filter (Tm.isNum s)).length ≤ j := by
  have h1 := List.length_filter_le (Tm.isNum s) (l.take j)
  rw [List.length_take] at h1; omega
theorem filter_succ (s : Sg) (l : List Tm) (j : Nat) (h : j < l.length) : (l.take (j + 1)).filter (Tm.isNum s) = (l.take j).filter (Tm.isNum s) ++ (if l[j].isNum s = true then [l[j]] else []) := by
  rw [List.take_succ_eq_append_getElem h, List.filter_append]
  congr 1
  simp [List.filter_cons]
theorem filter_all (s : Sg) (l : List Tm) (h : l.all (fun t => !!t.isNum s) = true) : l.filter (Tm.isNum s) = l := by
  rw [List.filter_eq_self]
  intro t ht
  have := List.all_eq_true.1 h t ht
  simpa using this
theorem flat_len (l : List Tm) : (l.map Tm.cd).flatten.length = l.length * 2 := by
  induction l with
  | nil => rfl
  | cons t l ih => simp only [List.map_cons, List.flatten_cons, List.length_append, ih, Tm.cd_len, List.length_cons]; omega

set_option maxHeartbeats 4000000 in
theorem deleteNum_any (s : Sg) (l : List Tm) (v : Value) (f : List Nat) (pb : Nat) (a0 : Option Addr) (c0 : Nat) (f0 : List Nat) (w : World) (hp : w.cell? ⟨pb, 0, none⟩ = some (.slice a0 s.syms.length c0)) (hv : RdVs w s.cd [.slice a0 s.syms.length c0] f0)
    (hx : Rd w (.sl (l.map Tm.cd)) v f) (hnd : f.Nodup) (hfree : Free w f) (hpf : pb ∉ f) (hd : ∀ y ∈ f0, y ∉ f) :
    Calls Tryz.prog 119 #[v, .func (.func 120) #[] #[.pointer (some ⟨pb, 0, none⟩)]] w fun e w' => (∃ rv rf, e = .returned rv ∧ Rd w' (.sl ((l.filter (Tm.isNum s)).map Tm.cd)) rv rf ∧ rf.Nodup ∧ (∀ y ∈ rf, y ∈ f) ∧ Free w' f) ∧ Only f w w' := by
  obtain ⟨a, cap, rfl, hc1, hc2⟩ := rd_sl_inv hx
  go_enter Tryz.func119, Tryz.ntmps119
  go_wp2_with fail
  refine (firstNotN_any s l _ f pb a0 c0 f0 _ hp hv hx).mono ?_
  rintro e w1 ⟨⟨n, rfl, hn⟩, hb1⟩
  rcases hn with ⟨rfl, hall⟩ | ⟨k0, hk0, rfl, hno, hall⟩
  · have HF := Lib.hid (filter_all s l hall)
    clear hall
    go_wp2_with fail
    go_ret
    exact ⟨⟨_, f, rfl, by rw [HF.out]; exact hx.below hb1, hnd, fun y hy => hy, hfree.same (below_sameOn hb1 hfree.lt)⟩, Only.below hb1⟩
  · have HNO := Lib.hid (show l[k0].isNum s = false by simpa using hno)
    have HALL := Lib.hid (filter_all s (l.take k0) hall)
    clear hno hall
    have hzv : ∀ w, (zeroValue 45).run Tryz.prog w = .ok (.agg #[.string ByteArray.empty, .slice none 0 0]) w := fun w => by kernel_rfl
    obtain ⟨b, off, rfl, hbs, _⟩ := rd_addr hx (by omega)
    obtain ⟨fr, rfl, hrow⟩ : ∃ fr, f = b :: fr ∧ RdRows w b off (l.map Tm.cd) fr := by
      have h := hx
      simp only [Rd] at h
      obtain ⟨a', c', h1, _, _, h2 | ⟨_, b', off', fr, rfl, _, h3, h4⟩⟩ := h
      · exact absurd (List.map_eq_nil_iff.1 h2.1) (by rintro rfl; simp at hk0)
      · simp only [Value.slice.injEq, Option.some.injEq, Addr.mk.injEq] at h1
        obtain ⟨⟨rfl, rfl, _⟩, _⟩ := h1
        exact ⟨fr, h3, h4⟩
    obtain ⟨vs, hcells, hrv⟩ := hrow.flat
    have hbf : b ∉ fr := (List.nodup_cons.1 hnd).1
    have hlr := hrv.lt
    obtain ⟨fs, hfl, hff, hfs⟩ := RdVs.rows hrv
    have hndr : fr.Nodup := (List.nodup_cons.1 hnd).2
    have hlv := hv.lt
    have hpb : pb ≠ b := fun e => hpf (by simp [e])
    have hdb : b ∉ f0 := fun e => hd b e (by simp)
    have hvl : vs.length = l.length * 2 := by rw [hrv.length, flat_len]
    have hb1z := hb1.size
    have hfr0 : ∀ m, w1.frozen? ⟨b, m, none⟩ = false := fun m => (hb1.frozen (p := ⟨b, m, none⟩) hbs).trans (hfree.frozen (by simp))
    have hstart : Kept s l w w1 b off fr fs k0 (k0 + 1) := by
      refine ⟨by omega, ?_, ?_, fun m _ => hb1.cell (p := ⟨b, off + m, none⟩) hbs, hfr0, fun m hm => ?_, Only.below hb1, hfree.same (below_sameOn hb1 hfree.lt)⟩
      · rw [filter_succ s l k0 hk0, HALL.out, HNO.out]; simp; omega
      · obtain ⟨us, h1, h2⟩ := (hfs k0 hk0 (by omega)).2
        refine ⟨us, (fs.take k0).flatten, ?_, fun m u hm => ?_, fun y hy => by rw [hff]; exact (flat_take_sub fs k0).subset hy, by rw [flat_take_succ fs k0 (by omega)]; exact List.sublist_append_left _ _⟩
        · rw [filter_succ s l k0 hk0, HALL.out, HNO.out]; simpa using h1
        · exact cell_keep (hcells m u (h2 m u hm)) hb1
      · obtain ⟨u, hu⟩ : ∃ u, vs[m]? = some u := ⟨vs[m], List.getElem?_eq_getElem (by omega)⟩
        exact ⟨u, cell_keep (hcells m u hu) hb1⟩
    have hlen := rd_len hx
    clear hfr0
    go_wp2_with fail
    go_loopw [5, 6] (fun i j wr => ∃ (i' j' : Nat), i = .int .i64 i' ∧ j = .int .i64 j' ∧ Kept s l w wr b off fr fs i' j') (fun _ j _ => l.length - (intOf j).toNat)
    case atStart => exact ⟨k0, k0 + 1, rfl, by go_num, hstart⟩
    case round =>
      obtain ⟨i', j', rfl, rfl, st⟩ := hrel
      have hszo := st.only.size
      have hbz : b < wr.heap.size := by omega
      have hij : i' ≤ j' := by have h1 := st.many; have h2 := filter_take_le s l j'; omega
      have hjl := st.le
      by_cases hlt : j' < l.length
      · have hjf : j' < fs.length := by omega
        obtain ⟨h1, hh1'⟩ : ∃ h1, h1 = fs[j'] := ⟨_, rfl⟩
        obtain ⟨tv, htv, hcc⟩ := (hfs j' hlt hjf).1
        rw [← hh1'] at htv
        have hsub : ∀ y ∈ h1, y ∈ fr := fun y hy => by rw [hff]; exact mem_flat_at hjf (hh1' ▸ hy)
        obtain ⟨e1, g1, f1, rfl, rfl, t0, t1⟩ := Tm.open htv
        have d0 := (st.rest (j' * 2) (by omega)).trans (hcells _ _ (hcc 0 _ rfl))
        have d1 := (st.rest (j' * 2 + 1) (by omega)).trans (hcells _ _ (hcc 1 _ rfl))
        rw [← Nat.add_assoc] at d1
        have hh1 : b ∉ h1 := fun hb => hbf (hsub b hb)
        have t1r := t1.same _ (only_same st.only (t1.lt _) hh1)
        have hvr := hv.same _ (only_same st.only hlv hdb)
        have hpr := only_cell st.only hp hpb
        have TK : TmR wr l[j'] (.agg #[.string l[j'].name, .slice e1 l[j'].kids.length g1]) := TmR.mk t0 ⟨h1, t1r⟩
        have hbX := below_alloc wr (.cells #[.string l[j'].name, .slice e1 l[j'].kids.length g1] 45)
        go_wp2_with fail
        refine (notNumN_any s l[j'] _ pb a0 c0 _ _ (cell_keep hpr hbX) (hvr.below hbX) (TK.below hbX)).mono ?_
        rintro e w2 ⟨rfl, hb2⟩
        have hbw := hbX.trans (hb2.mono hbX.size)
        obtain ⟨hbx, _, _⟩ := box1 (w := wr) (wr := w2) (cs := #[.string l[j'].name, .slice e1 l[j'].kids.length g1]) (T := 45) (below_size hb2 (by simp))
        have x0 := hbx 0
        have x1 := hbx 1
        simp only [List.getElem?_toArray, List.getElem?_cons_zero, List.getElem?_cons_succ] at x0 x1
        clear hb2 hbX hbx
        have st2 := st.below hbz hbw
        have HSUC := Lib.hid (filter_succ s l j' hlt)
        cases hnum : l[j'].isNum s
        · have hst3 : Kept s l w w2 b off fr fs i' (j' + 1) := by
            have HS := HSUC.out
            rw [hnum] at HS
            simp only [Bool.false_eq_true, if_false, List.append_nil] at HS
            obtain ⟨q1, q2, ⟨us, fp, r1, r2, r3, r4⟩, q4, q5, q6, q7, q8⟩ := st2
            exact ⟨by omega, by rw [HS]; exact q2, by rw [HS]; exact ⟨us, fp, r1, r2, r3, r4.trans (by rw [flat_take_succ fs j' hjf]; exact List.sublist_append_left _ _)⟩, fun m hm => q4 m (by omega), q5, q6, q7, q8⟩
          simp only [Bool.not_false]
          clear hnum
          go_wp2_with fail
          go_roundw
          case rel => exact ⟨i', j' + 1, rfl, by go_num, hst3⟩
          case measure => simp [intOf]; omega
        · have hi2 : i' < l.length := by omega
          obtain ⟨u0, hu0⟩ := st2.ex (i' * 2) (by omega)
          obtain ⟨u1, hu1⟩ := st2.ex (i' * 2 + 1) (by omega)
          rw [← Nat.add_assoc] at hu1
          have z0 := st2.free (off + i' * 2)
          have z1 := st2.free (off + i' * 2 + 1)
          have hst3 : Kept s l w ((w2.setCell ⟨b, off + i' * 2, none⟩ (.string l[j'].name)).setCell ⟨b, off + i' * 2 + 1, none⟩ (.slice e1 l[j'].kids.length g1)) b off fr fs (i' + 1) (j' + 1) := by
            have HS := HSUC.out
            rw [hnum] at HS
            simp only [if_true] at HS
            obtain ⟨q1, q2, ⟨us, fp, r1, r2, r3, r4⟩, q4, q5, q6, q7, q8⟩ := st2
            have hul : us.length = i' * 2 := by rw [r1.length, flat_len, q2]
            have keepc : ∀ m u, m ≠ i' * 2 → m ≠ i' * 2 + 1 → w2.cell? ⟨b, off + m, none⟩ = u → ((w2.setCell ⟨b, off + i' * 2, none⟩ (.string l[j'].name)).setCell ⟨b, off + i' * 2 + 1, none⟩ (.slice e1 l[j'].kids.length g1)).cell? ⟨b, off + m, none⟩ = u := fun m u h1 h2 h => by
              rw [World.cell?_setCell_other _ _ _ _ (by simp; try omega), World.cell?_setCell_other _ _ _ _ (by simp; try omega)]; exact h
            have c0' : ((w2.setCell ⟨b, off + i' * 2, none⟩ (.string l[j'].name)).setCell ⟨b, off + i' * 2 + 1, none⟩ (.slice e1 l[j'].kids.length g1)).cell? ⟨b, off + i' * 2, none⟩ = some (.string l[j'].name) := by
              rw [World.cell?_setCell_other _ _ _ _ (by simp)]; exact cell_set_at' hu0
            have c1' : ((w2.setCell ⟨b, off + i' * 2, none⟩ (.string l[j'].name)).setCell ⟨b, off + i' * 2 + 1, none⟩ (.slice e1 l[j'].kids.length g1)).cell? ⟨b, off + i' * 2 + 1, none⟩ = some (.slice e1 l[j'].kids.length g1) :=
              cell_set_at' (by rw [World.cell?_setCell_other _ _ _ _ (by simp)]; exact hu1)
            refine ⟨by omega, by rw [HS, List.length_append, ← q2]; rfl, ⟨us ++ [.string l[j'].name, .slice e1 l[j'].kids.length g1], fp ++ h1, ?_, fun m u hm => ?_, fun y hy => ?_, by rw [flat_take_succ fs j' hjf, ← hh1']; exact r4.append (List.Sublist.refl _)⟩, fun m hm => keepc m _ (by omega) (by omega) (q4 m (by omega)), fun m => by rw [World.frozen?_setCell, World.frozen?_setCell]; exact q5 m, fun m hm => ?_, (q7.trans (Only.set (by simp))).trans (Only.set (by simp)), (q8.set rfl).set rfl⟩
            · rw [HS, List.map_append, List.flatten_append]; exact r1.app (by simpa using htv)
            · rcases Nat.lt_or_ge m us.length with h | h
              · rw [List.getElem?_append_left h] at hm
                exact keepc m _ (by omega) (by omega) (r2 m u hm)
              · rw [List.getElem?_append_right h] at hm
                by_cases e0 : m = i' * 2
                · subst e0; rw [hul, Nat.sub_self] at hm; simp at hm; subst hm; exact c0'
                · by_cases e1' : m = i' * 2 + 1
                  · subst e1'; rw [hul] at hm; simp at hm; subst hm; rw [← Nat.add_assoc]; exact c1'
                  · have : 2 ≤ m - us.length := by omega
                    rw [List.getElem?_eq_none (by simpa using this)] at hm; cases hm
            · rcases List.mem_append.1 hy with h | h
              · exact r3 y h
              · exact hsub y h
            · by_cases e0 : m = i' * 2
              · subst e0; exact ⟨_, c0'⟩
              · by_cases e1' : m = i' * 2 + 1
                · subst e1'; exact ⟨_, by rw [← Nat.add_assoc]; exact c1'⟩
                · obtain ⟨u, hu⟩ := q6 m hm
                  exact ⟨u, keepc m _ e0 e1' hu⟩
          simp only [Bool.not_true]
          clear hnum
          go_wp2_with fail
          go_roundw
          case rel => exact ⟨i' + 1, j' + 1, by go_num, by go_num, hst3⟩
          case measure => simp [intOf]; omega
      · have hje : j' = l.length := by omega
        have HM : Hid (i' = (l.filter (Tm.isNum s)).length) := Lib.hid (by have h := st.many; rwa [hje, List.take_length] at h)
        have hin : i' < l.length := by
          have h1 := HM.out
          have h2 : (l.filter (Tm.isNum s)).length < l.length := List.length_filter_lt_length_iff_exists.2 ⟨l[k0], List.getElem_mem hk0, by simp [HNO.out]⟩
          omega
        obtain ⟨us, fp, r1, r2, r3, r4⟩ := st.kept
        rw [hje, List.take_length] at r1
        obtain ⟨zs, hzl, hcl⟩ := run_clear2 (P := Tryz.prog) wr 43 45 (.string ByteArray.empty) (.slice none 0 0) Tryz.underlying43 hzv rfl rfl b (off + i' * 2) (l.length - i') (cap - i') (by omega) (fun m hm => by
          obtain ⟨u, hu⟩ := st.ex (i' * 2 + m) (by omega)
          rw [Nat.add_assoc, hu]; rfl) st.free
        have hO := (st.only.trans (Only.sets zs (off + i' * 2) wr)).mono (fq := b :: fr) (fun y hy => by rw [List.mem_singleton] at hy; simp [hy])
        have hO2 := st.only.trans (Only.sets zs (off + i' * 2) wr)
        have hul : us.length = i' * 2 := by rw [r1.length, flat_len, ← HM.out]
        have hfin : ∃ rf, Rd (wr.setCells b (off + i' * 2) zs) (.sl ((l.filter (Tm.isNum s)).map Tm.cd)) (.slice (some ⟨b, off, none⟩) i' cap) rf ∧ rf.Nodup ∧ ∀ y ∈ rf, y ∈ b :: fr := by
          have hcs : ∀ m u, us[m]? = some u → (wr.setCells b (off + i' * 2) zs).cell? ⟨b, off + m, none⟩ = some u := fun m u hm => by
            have hml : m < us.length := by
              rcases Nat.lt_or_ge m us.length with h | h
              · exact h
              · rw [List.getElem?_eq_none h] at hm; cases hm
            rw [World.cell?_setCells_out b zs _ wr _ (fun _ _ => .inl (by simp only; omega))]
            exact r2 m u hm
          have hbF : b ∉ fp := fun h => hbf (r3 b h)
          have hr2 := r1.same _ (only_same hO2 (r1.lt) hbF)
          have hnp : fp.Nodup := (r4.trans (flat_take_sub fs j')).nodup (hff ▸ hndr)
          simp only [Rd]
          rcases Nat.eq_zero_or_pos i' with h0 | h0
          · refine ⟨[], ⟨some ⟨b, off, none⟩, cap, ?_, ?_, by simpa [maxLen] using hc2, .inl ⟨?_, rfl⟩⟩, List.nodup_nil, by simp⟩
            · rw [List.length_map, ← HM.out]
            · rw [List.length_map, ← HM.out]; omega
            · have h1 := HM.out; rw [h0] at h1
              rw [List.eq_nil_of_length_eq_zero h1.symm]; rfl
          · refine ⟨b :: fp, ⟨some ⟨b, off, none⟩, cap, ?_, ?_, by simpa [maxLen] using hc2, .inr ⟨?_, b, off, fp, rfl, ?_, rfl, RdRows.mk (k := 2) hcs hr2⟩⟩, List.nodup_cons.2 ⟨hbF, hnp⟩, fun y hy => (List.mem_cons.1 hy).elim (fun e => by simp [e]) (fun h => by simp [r3 y h])⟩
            · rw [List.length_map, ← HM.out]
            · rw [List.length_map, ← HM.out]; omega
            · intro h; have h1 := HM.out; have h2 := congrArg List.length h; rw [List.length_map] at h2; simp only [List.length_nil] at h2; omega
            · have := hO2.size; omega
        have hown := Free.sets (b := b) zs (off + i' * 2) wr st.own
        clear hul r1 r2 r3 r4 hje hstart
        go_wp2_with fail
        go_ret
        obtain ⟨rf, hrf, hrn, hrs⟩ := hfin
        exact ⟨⟨_, rf, rfl, hrf, hrn, hrs, hown⟩, hO⟩
end Go.Proofs.YtlcfophhjflpdaaGreat
