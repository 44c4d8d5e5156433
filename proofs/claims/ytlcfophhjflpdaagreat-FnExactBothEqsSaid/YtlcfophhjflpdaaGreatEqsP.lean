/- BothEqs: both sides. -/
import Derived.Deep.RegionHeld3
import Derived.Test.YtlcfophhjflpdaaGreatBoth5
namespace Go.Proofs.YtlcfophhjflpdaaGreat
open Go Go.RowKit
set_option linter.unusedVariables false
set_option linter.unusedSimpArgs false

def Lt.isE (l : Lt) : Bool := (l.atom.kind == 1) && !l.no
def Lt.eqn (l : Lt) : Eqn := ⟨l.atom.a, l.atom.b⟩
def eqsL (ls : List Lt) : List Eqn := (ls.filter Lt.isE).map Lt.eqn
theorem eqsL_yes {ls : List Lt} {k : Nat} (h : k < ls.length) (hk : (ls[k].atom.kind == 1) = true) (hn : ls[k].no = false) : eqsL (ls.take (k + 1)) = eqsL (ls.take k) ++ [ls[k].eqn] := by
  have : ls[k].isE = true := by unfold Lt.isE; rw [hk, hn]; rfl
  rw [List.take_succ_eq_append_getElem h, eqsL, List.filter_append, List.map_append]; simp [eqsL, this]
theorem eqsL_not {ls : List Lt} {k : Nat} (h : k < ls.length) (hk : ls[k].isE = false) : eqsL (ls.take (k + 1)) = eqsL (ls.take k) := by
  rw [List.take_succ_eq_append_getElem h, eqsL, List.filter_append, List.map_append]; simp [eqsL, hk]
theorem eqsL_kind {ls : List Lt} {k : Nat} (h : k < ls.length) (hk : (ls[k].atom.kind == 1) = false) : eqsL (ls.take (k + 1)) = eqsL (ls.take k) := eqsL_not h (by unfold Lt.isE; rw [hk]; rfl)
theorem eqsL_no {ls : List Lt} {k : Nat} (h : k < ls.length) (hn : ls[k].no = true) : eqsL (ls.take (k + 1)) = eqsL (ls.take k) := eqsL_not h (by unfold Lt.isE; rw [hn]; simp)
theorem eqsL_len (ls : List Lt) : (eqsL ls).length ≤ ls.length := by unfold eqsL; rw [List.length_map]; exact List.length_filter_le _ _
theorem eqsL_tk (ls : List Lt) (k : Nat) : ((eqsL (ls.take k)).map Eqn.cd).length ≤ ls.length := by
  have := eqsL_len (ls.take k); simp only [List.length_map, List.length_take] at *; omega
theorem eqsL_small {ls : List Lt} (h : ∀ l ∈ ls, l.atom.small) : ∀ e ∈ eqsL ls, e.a.size ≤ 1100000 ∧ e.b.size ≤ 1100000 := by
  intro e he
  obtain ⟨l, hl, rfl⟩ := List.mem_map.1 he
  have h1 := h l (List.mem_filter.1 hl).1
  unfold Atm.small at h1
  simp only [Lt.eqn]; omega
def eqnsB (s : Sg) (ls : List Lt) : List Eqn := if bothB s ls = true then eqsL ls else []
theorem eqnsB_no {s : Sg} {ls : List Lt} (h : bothB s ls = false) : eqnsB s ls = [] := by unfold eqnsB; rw [h]; rfl
theorem eqnsB_yes {s : Sg} {ls : List Lt} (h : bothB s ls = true) : eqnsB s ls = eqsL ls := if_pos h

set_option maxRecDepth 100000 in
set_option maxHeartbeats 4000000 in
theorem eqsOf_any (ls : List Lt) (v : Value) (f : List Nat) (w : World) (hsm : ∀ l ∈ ls, l.atom.small) (hlen : ls.length ≤ 1048576) (hv : Rd w (.sl (ls.map Lt.cd)) v f) :
    Calls Tryz.prog 91 #[v] w (ToOut (.sl ((eqsL ls).map Eqn.cd)) w) := by
  obtain ⟨a, cap, rfl, hc1, hc2⟩ := rd_sl_inv hv
  have HSM := Lib.hid hsm
  clear hsm
  go_enter Tryz.func91, Tryz.ntmps91
  go_wp2_with fail
  go_loopw [3, 8] (fun ov i wr => ∃ (k : Nat) (fp : List Nat), k ≤ ls.length ∧ i = .int .i64 k ∧ Own wr w.heap.size 127 4 ov ((eqsL (ls.take k)).map Eqn.cd) fp ∧ Fresh w.heap.size wr fp ∧ Below w.heap.size w wr) (fun _ i _ => ls.length - (intOf i).toNat)
  case atStart => exact ⟨0, [], Nat.zero_le _, rfl, Own.nil _ _ _ _, Fresh.nil _ _, Below.refl _ _⟩
  case round =>
    obtain ⟨k, fp, hkl, rfl, hown, hfr, hb⟩ := hrel
    have hz := hb.size
    have hel := eqsL_tk ls k
    by_cases hlt : k < ls.length
    · obtain ⟨b, off, rfl, hbs, _⟩ := rd_addr hv (by omega)
      have hbz : b < wr.heap.size := by omega
      obtain ⟨a2, c2, f2, a4, c4, f4, a5, c5, f5, a6, c6, f6, d0', d1', d2', d3', d4', d5', d6', d7', d8', d9', m0, n1, m2, n3, m4, m5, m6, m7, hsub⟩ := Lt.at hv hlt
      have d0 := cell_keep d0' hb
      have d1 := cell_keep d1' hb
      have d2 := cell_keep d2' hb
      have d3 := cell_keep d3' hb
      have d4 := cell_keep d4' hb
      have d5 := cell_keep d5' hb
      have d6 := cell_keep d6' hb
      have d7 := cell_keep d7' hb
      have d8 := cell_keep d8' hb
      have d9 := cell_keep d9' hb
      clear d0' d1' d2' d3' d4' d5' d6' d7' d8' d9'
      have hsz := HSM.out _ (List.getElem_mem hlt)
      unfold Atm.small at hsz
      cases hk : (ls[k].atom.kind == 1)
      · have HT := Lib.hid (eqsL_kind hlt hk)
        go_wp2_with fail
        go_roundw
        case rel => exact ⟨k + 1, fp, by omega, by go_num, by rw [HT.out]; exact hown.below (below_alloc _ _), hfr.below (below_alloc _ _), hb.alloc hz _⟩
        case measure => simp [intOf]; omega
      by_cases hn : ls[k].no = true
      · have HT := Lib.hid (eqsL_no hlt hn)
        rw [hn] at d9
        go_wp2_with fail
        go_roundw
        case rel => exact ⟨k + 1, fp, by omega, by go_num, by rw [HT.out]; exact hown.below (below_alloc _ _), hfr.below (below_alloc _ _), hb.alloc hz _⟩
        case measure => simp [intOf]; omega
      · have hn' : ls[k].no = false := by simpa using hn
        have HT := Lib.hid (eqsL_yes hlt hk hn')
        clear hn
        rw [hn'] at d9
        have hbX := below_alloc wr (.cells #[.int .i64 ls[k].atom.kind, .string ls[k].atom.a.name, .slice a2 ls[k].atom.a.kids.length c2, .string ls[k].atom.b.name, .slice a4 ls[k].atom.b.kids.length c4, .slice a5 ls[k].atom.nums.length c5, .slice a6 ls[k].atom.times.length c6, .int .i64 ls[k].atom.bound, .bool ls[k].atom.strict, .bool false] 49)
        have hX := fun j => cell_new wr #[.int .i64 ls[k].atom.kind, .string ls[k].atom.a.name, .slice a2 ls[k].atom.a.kids.length c2, .string ls[k].atom.b.name, .slice a4 ls[k].atom.b.kids.length c4, .slice a5 ls[k].atom.nums.length c5, .slice a6 ls[k].atom.times.length c6, .int .i64 ls[k].atom.bound, .bool ls[k].atom.strict, .bool false] 49 j
        have E1 := hX 1
        have E2 := hX 2
        have E3 := hX 3
        have E4 := hX 4
        simp only [List.getElem?_toArray, List.getElem?_cons_zero, List.getElem?_cons_succ] at E1 E2 E3 E4
        clear hX
        have ta := ((TmR.mk n1 ⟨f2, m2⟩).below hb).below hbX
        have tb := ((TmR.mk n3 ⟨f4, m4⟩).below hb).below hbX
        go_wp2_with fail
        go_region_held3 (fun W => W.cell? ⟨wr.heap.size, 1, none⟩ = some (.string ls[k].atom.a.name) ∧ W.cell? ⟨wr.heap.size, 2, none⟩ = some (.slice a2 ls[k].atom.a.kids.length c2) ∧ W.cell? ⟨wr.heap.size, 3, none⟩ = some (.string ls[k].atom.b.name) ∧ W.cell? ⟨wr.heap.size, 4, none⟩ = some (.slice a4 ls[k].atom.b.kids.length c4))
          (first | exact ⟨G1, G2, G3, G4⟩ | exact ⟨E1, E2, E3, E4⟩ | exact ⟨cell_keep E1 (below_undrew' hb2), cell_keep E2 (below_undrew' hb2), cell_keep E3 (below_undrew' hb2), cell_keep E4 (below_undrew' hb2)⟩ | (refine ⟨?_, ?_, ?_, ?_⟩ <;> (refine cell_keep (cell_keep ?_ (below_undrew' hb2)) hb3; assumption)) | (refine ⟨?_, ?_, ?_, ?_⟩ <;> (refine cell_keep (cell_keep ?_ (below_undrew' hb2)) (hb3.alloc hb3.size _); assumption)))
          (first
            | (go_at_call 122; (with_reducible refine (ownTerm_any _ ls[k].atom.a _ _ (Nat.le_refl _) (by omega) (by exact ta.below (below_drew _))).mono ?_); rintro e w2 ⟨ka, fa, rfl, hra, hfa, hb2⟩; obtain ⟨aa, ca, rfl, ha1, ha2⟩ := rd_sl_inv hra)
            | (go_at_call 122; (with_reducible refine (ownTerm_any _ ls[k].atom.b _ _ (Nat.le_refl _) (by omega) (by exact tb.below (below_undrew' hb2))).mono ?_); rintro e w3 ⟨kb, fb, rfl, hrb, hfb, hb3⟩; obtain ⟨ab, cb, rfl, hb1, hb2x⟩ := rd_sl_inv hrb; have hbd := below_undrew' hb2; have hQ : Below wr.heap.size wr w3 := hbX.trans ((hbd.trans (hb3.mono hbd.size)).mono (by simp)); have hown3 := hown.below (hQ.alloc hQ.size (.cells #[.string ls[k].atom.a.name, .slice aa ls[k].atom.a.kids.length ca, .string ls[k].atom.b.name, .slice ab ls[k].atom.b.kids.length cb] 127)); have hfab : Fresh wr.heap.size w3 (fa ++ fb) := Fresh.app ((hfa.mono (by simp)).below hb3) (hra.lt _) (by have := hbd.size; first | omega | (simp at this; omega)) hfb; have hnw := ((Tm.rdv n1 (hra.below hb3)).app (Tm.rdv n3 hrb)).below (below_alloc w3 (.cells #[.string ls[k].atom.a.name, .slice aa ls[k].atom.a.kids.length ca, .string ls[k].atom.b.name, .slice ab ls[k].atom.b.kids.length cb] 127)))
            | (refine step_app slTyEqS rfl _ _ rfl w.heap.size _ _ fp rfl (by exact hown3) ⟨w3.heap.size, 0, none⟩ 1 1 [Eqn.cd ⟨ls[k].atom.a, ls[k].atom.b⟩] [.string ls[k].atom.a.name, .slice aa ls[k].atom.a.kids.length ca, .string ls[k].atom.b.name, .slice ab ls[k].atom.b.kids.length cb] (fa ++ fb) rfl rfl (by simpa [Eqn.cd] using hnw) (by simp [Eqn.cd_len]) (by exact cells_new _ _ _) (by exact hown.away (Nat.le_refl _) hfab) (by omega) (by omega) (by have := hQ.size; simp; omega) ?_; intro v' w4 hown4 hg hv' hs4; have G1 := grown_cell hg (cell_keep (cell_keep (cell_keep E1 (below_undrew' hb2)) hb3) (below_alloc w3 _)) (fun e => by have := (hown.block e).2; omega); have G2 := grown_cell hg (cell_keep (cell_keep (cell_keep E2 (below_undrew' hb2)) hb3) (below_alloc w3 _)) (fun e => by have := (hown.block e).2; omega); have G3 := grown_cell hg (cell_keep (cell_keep (cell_keep E3 (below_undrew' hb2)) hb3) (below_alloc w3 _)) (fun e => by have := (hown.block e).2; omega); have G4 := grown_cell hg (cell_keep (cell_keep (cell_keep E4 (below_undrew' hb2)) hb3) (below_alloc w3 _)) (fun e => by have := (hown.block e).2; omega)))
        have hfr4 := ((Fresh.app (hfr.below hQ) hfr.lt hz hfab).below (below_alloc w3 (.cells #[.string ls[k].atom.a.name, .slice aa ls[k].atom.a.kids.length ca, .string ls[k].atom.b.name, .slice ab ls[k].atom.b.kids.length cb] 127))).same hs4
        have hb4 := grown_below ((hb.trans (hQ.mono hz)).alloc (by have := hQ.size; omega) _) hg (by have := hQ.size; simp; omega) (fun q hq => (hown.block hq).1)
        clear hg hs4
        go_wp2_with fail
        go_roundw
        case rel => exact ⟨k + 1, fp ++ (fa ++ fb), by omega, by go_num, by rw [HT.out, List.map_append]; exact hown4, hfr4, hb4⟩
        case measure => simp [intOf]; omega
    · have he : ls.take k = ls := List.take_of_length_le (by omega)
      rw [he] at hown
      clear he
      obtain ⟨oa, on, oc, rfl⟩ := hown.form'
      obtain ⟨fp', hr, hf, _⟩ := hown.fresh hfr
      go_wp2_with fail
      go_ret
      exact ⟨_, fp', rfl, hr, hf, hb⟩

theorem bothEqs_any (s : Sg) (ls : List Lt) (us : List Value) (v : Value) (f f' : List Nat) (w : World) (hsm : ∀ l ∈ ls, l.atom.small) (hbig : Tm.sizes (litsT ls) ≤ 1000000000) (hlen : ls.length ≤ 1048576) (hv : RdVs w s.cd us f') (hx : Rd w (.sl (ls.map Lt.cd)) v f) :
    Calls Tryz.prog 44 #[.agg us.toArray, v] w (ToOut (.sl ((eqnsB s ls).map Eqn.cd)) w) := by
  obtain ⟨a0, c0, f0, rfl, _, n0⟩ := Sg.open hv
  have hb0 := below_alloc w (.cells #[.slice a0 s.syms.length c0] 41)
  go_enter Tryz.func44, Tryz.ntmps44
  go_wp2_with fail
  refine (bothOk_any s ls _ v _ _ _ hsm hbig (by exact hv.below hb0) (by exact hx.below hb0)).mono ?_
  rintro e w1 ⟨rfl, hb1⟩
  have hBL := hb0.trans (hb1.mono hb0.size)
  clear hb1
  cases h1 : bothB s ls
  · have HE := Lib.hid (eqnsB_no h1)
    clear h1
    go_wp2_with fail
    go_ret
    exact ⟨_, [], rfl, by rw [HE.out]; exact nil_rd _ _, Fresh.nil _ _, hBL⟩
  · have HE := Lib.hid (eqnsB_yes h1)
    clear h1
    go_wp2_with fail
    refine (eqsOf_any ls v _ _ hsm hlen (by exact hx.below hBL)).mono ?_
    rintro e w2 ⟨rv, rf, rfl, hr, hfr, hb2⟩
    rw [← HE.out] at hr
    go_wp2_with fail
    go_ret
    exact ⟨rv, rf, rfl, hr, hfr.mono hBL.size, hBL.trans (hb2.mono hBL.size)⟩
set_option maxRecDepth 100000 in
set_option maxHeartbeats 4000000 in
theorem l8Eqs_any (ls : List Lt) (v : Value) (f : List Nat) (w : World) (hlen : ls.length ≤ 1048576) (hv : Rd w (.sl (ls.map Lt.cd)) v f) :
    Calls Tryz.prog 89 #[v] w fun e w' => (∃ rv rf, e = .returned rv ∧ Rd w' (.sl ((eqsL ls).map Eqn.cd)) rv rf ∧ ∀ y ∈ rf, y ∈ f ∨ w.heap.size ≤ y) ∧ Below w.heap.size w w' := by
  obtain ⟨a, cap, rfl, hc1, hc2⟩ := rd_sl_inv hv
  have hfl := hv.lt _
  go_enter Tryz.func89, Tryz.ntmps89
  go_wp2_with fail
  go_loopw [3, 4] (fun ov i wr => ∃ (k : Nat) (fp : List Nat), k ≤ ls.length ∧ i = .int .i64 k ∧ Own wr w.heap.size 127 4 ov ((eqsL (ls.take k)).map Eqn.cd) fp ∧ (∀ y ∈ fp, y ∈ f) ∧ Below w.heap.size w wr) (fun _ i _ => ls.length - (intOf i).toNat)
  case atStart => exact ⟨0, [], Nat.zero_le _, rfl, Own.empty _ _ _ _ (Nat.le_refl _), by simp, below_alloc _ _⟩
  case round =>
    obtain ⟨k, fp, hkl, rfl, hown, hfp, hb⟩ := hrel
    have hz := hb.size
    have hel := eqsL_tk ls k
    by_cases hlt : k < ls.length
    · obtain ⟨b, off, rfl, hbs, _⟩ := rd_addr hv (by omega)
      have hbz : b < wr.heap.size := by omega
      obtain ⟨a2, c2, f2, a4, c4, f4, a5, c5, f5, a6, c6, f6, d0', d1', d2', d3', d4', d5', d6', d7', d8', d9', m0, n1, m2, n3, m4, m5, m6, m7, hsub⟩ := Lt.at hv hlt
      have d0 := cell_keep d0' hb
      have d1 := cell_keep d1' hb
      have d2 := cell_keep d2' hb
      have d3 := cell_keep d3' hb
      have d4 := cell_keep d4' hb
      have d5 := cell_keep d5' hb
      have d6 := cell_keep d6' hb
      have d7 := cell_keep d7' hb
      have d8 := cell_keep d8' hb
      have d9 := cell_keep d9' hb
      clear d0' d1' d2' d3' d4' d5' d6' d7' d8' d9'
      cases hk : (ls[k].atom.kind == 1)
      · have HT := Lib.hid (eqsL_kind hlt hk)
        go_wp2_with fail
        go_roundw
        case rel => exact ⟨k + 1, fp, by omega, by go_num, by rw [HT.out]; exact hown, hfp, hb⟩
        case measure => simp [intOf]; omega
      by_cases hn : ls[k].no = true
      · have HT := Lib.hid (eqsL_no hlt hn)
        rw [hn] at d9
        go_wp2_with fail
        go_roundw
        case rel => exact ⟨k + 1, fp, by omega, by go_num, by rw [HT.out]; exact hown, hfp, hb⟩
        case measure => simp [intOf]; omega
      · have hn' : ls[k].no = false := by simpa using hn
        have HT := Lib.hid (eqsL_yes hlt hk hn')
        clear hn
        rw [hn'] at d9
        have hna : ∀ y ∈ f2 ++ f4, u3.ownBlock ≠ some y := fun y hy e => by
          have h1 := (hown.block e).1
          have h2 := hfl y (hsub y (by rcases List.mem_append.1 hy with h | h <;> simp [h])); omega
        have hnw := ((Tm.rdv n1 m2).app (Tm.rdv n3 m4)).below hb
        have hQ := (below_alloc wr (.cells #[.string ls[k].atom.a.name, .slice a2 ls[k].atom.a.kids.length c2, .string ls[k].atom.b.name, .slice a4 ls[k].atom.b.kids.length c4] 127)).drew
        have hownD := hown.below hQ
        have hnwD := hnw.below hQ
        have D1 := cell_keep d1 hQ
        have D2 := cell_keep d2 hQ
        have D3 := cell_keep d3 hQ
        have D4 := cell_keep d4 hQ
        have hnb : u3.ownBlock ≠ some b := fun e => by have := (hown.block e).1; omega
        go_wp2_with fail
        go_region_held3 (fun W => W.cell? ⟨b, off + k * 10 + 1, none⟩ = some (.string ls[k].atom.a.name) ∧ W.cell? ⟨b, off + k * 10 + 2, none⟩ = some (.slice a2 ls[k].atom.a.kids.length c2) ∧ W.cell? ⟨b, off + k * 10 + 3, none⟩ = some (.string ls[k].atom.b.name) ∧ W.cell? ⟨b, off + k * 10 + 4, none⟩ = some (.slice a4 ls[k].atom.b.kids.length c4))
          (first | exact ⟨G1, G2, G3, G4⟩ | exact ⟨d1, d2, d3, d4⟩ | exact ⟨D1, D2, D3, D4⟩)
          (first
            | (refine step_app slTyEqS rfl _ _ rfl w.heap.size _ _ fp rfl (by exact hownD) ⟨wr.heap.size, 0, none⟩ 1 1 [ls[k].eqn.cd] [.string ls[k].atom.a.name, .slice a2 ls[k].atom.a.kids.length c2, .string ls[k].atom.b.name, .slice a4 ls[k].atom.b.kids.length c4] (f2 ++ f4) rfl rfl (by simpa [Eqn.cd, Lt.eqn] using hnwD) (by simp [Eqn.cd_len]) (by exact cells_new wr [.string ls[k].atom.a.name, .slice a2 ls[k].atom.a.kids.length c2, .string ls[k].atom.b.name, .slice a4 ls[k].atom.b.kids.length c4] 127) hna (by omega) (by omega) (by have := hQ.size; omega) ?_; intro v' w4 hown4 hg hv' hs4; have G1 := grown_cell hg D1 hnb; have G2 := grown_cell hg D2 hnb; have G3 := grown_cell hg D3 hnb; have G4 := grown_cell hg D4 hnb))
        have hb4 := grown_below (hb.trans (hQ.mono hz)) hg (by have := hQ.size; omega) (fun q hq => (hown.block hq).1)
        clear hg hs4
        go_wp2_with fail
        go_roundw
        case rel =>
          refine ⟨k + 1, fp ++ (f2 ++ f4), by omega, by go_num, by rw [HT.out, List.map_append]; exact hown4, ?_, hb4⟩
          intro y hy
          rcases List.mem_append.1 hy with h | h
          · exact hfp y h
          · exact hsub y (by rcases List.mem_append.1 h with h | h <;> simp [h])
        case measure => simp [intOf]; omega
    · have he : ls.take k = ls := List.take_of_length_le (by omega)
      rw [he] at hown
      clear he
      obtain ⟨oa, on, oc, rfl⟩ := hown.form'
      obtain ⟨fp', hr, hm⟩ := hown.rd
      go_wp2_with fail
      go_ret
      refine ⟨⟨_, fp', rfl, hr, fun y hy => ?_⟩, hb⟩
      rcases hm with ⟨_, _, rfl⟩ | ⟨g, c, _, rfl, _, hg, _⟩
      · simp at hy
      · rcases List.mem_cons.1 hy with rfl | h
        · exact .inr hg
        · exact .inl (hfp y h)

set_option maxRecDepth 100000 in
set_option maxHeartbeats 4000000 in
theorem bothEqsS_any (s : Sg) (ls : List Lt) (us : List Value) (v : Value) (f f' : List Nat) (w : World) (hsm : ∀ l ∈ ls, l.atom.small) (hbig : Tm.sizes (litsU ls) ≤ 1000000000) (hlen : ls.length ≤ 1048576) (hv : RdVs w s.cd us f') (hx : Rd w (.sl (ls.map Lt.cd)) v f) :
    Calls Tryz.prog 43 #[.agg us.toArray, v] w (ToOut (.sl ((eqnsB s ls).map Eqn.cd)) w) := by
  obtain ⟨a0, c0, f0, rfl, _, n0⟩ := Sg.open hv
  have hxl := hx.lt _
  have HES := Lib.hid (eqsL_small hsm)
  have hel := eqsL_len ls
  have HSM := Lib.hid hsm
  clear hsm
  have hOw : Own ((w.alloc (.cells #[.slice a0 s.syms.length c0] 41)).alloc (.cells #[] 127)) w.heap.size 127 4 (.slice (some ⟨w.heap.size + 1, 0, none⟩) 0 0) [] [] := by
    simpa using Own.empty (w.alloc (.cells #[.slice a0 s.syms.length c0] 41)) w.heap.size 127 4 (by simp)
  have hB0 : Below w.heap.size w ((w.alloc (.cells #[.slice a0 s.syms.length c0] 41)).alloc (.cells #[] 127)) := (below_alloc _ _).alloc (by simp) _
  have hZ0 : ((w.alloc (.cells #[.slice a0 s.syms.length c0] 41)).alloc (.cells #[] 127)).heap.size = w.heap.size + 2 := by simp
  go_enter Tryz.func43, Tryz.ntmps43
  go_wp2_with fail
  refine (bothOkS_any s ls _ v _ _ _ HSM.out hbig (by exact hv.below hB0) (by exact hx.below hB0)).mono ?_
  rintro e w1 ⟨rfl, hb1⟩
  have hOw1 := hOw.below hb1
  have hB := hB0.trans (hb1.mono hB0.size)
  have hz1 := hb1.size
  rw [hZ0] at hz1
  clear hOw hb1 hB0 hZ0
  cases h1 : bothB s ls
  · have HE := Lib.hid (eqnsB_no h1)
    clear h1
    obtain ⟨fp', hr, hf, _⟩ := hOw1.fresh (Fresh.nil _ _)
    go_wp2_with fail
    go_ret
    exact ⟨_, fp', rfl, by rw [HE.out]; exact hr, hf, hB⟩
  have HE := Lib.hid (eqnsB_yes h1)
  clear h1
  go_wp2_with fail
  refine (l8Eqs_any ls v _ _ hlen (by exact hx.below hB)).mono ?_
  rintro e w2 ⟨⟨lv, lf, rfl, hl, hlf⟩, hb2⟩
  have hOw2 := hOw1.below hb2
  have hB2 := hB.trans (hb2.mono hB.size)
  have hz2 := hb2.size
  clear hOw1 hB hb2
  have hne0 : ∀ y ∈ lf, (Value.slice (some ⟨w.heap.size + 1, 0, none⟩) 0 0).ownBlock ≠ some y := fun y hy e => by
    simp [Value.ownBlock] at e
    rcases hlf y hy with h | h
    · have := hxl y h; omega
    · omega
  generalize eqsL ls = es at *
  obtain ⟨p, q, rfl, hq1, hq2⟩ := rd_sl_inv hl
  have hll := hl.lt _
  have HNE := Lib.hid hne0
  clear hne0 hlf hxl hx hv n0
  go_wp2_with fail
  go_loopw [5, 7] (fun ov i wr => ∃ (k : Nat) (fp : List Nat), k ≤ es.length ∧ i = .int .i64 k ∧ Own wr w.heap.size 127 4 ov ((es.take k).map Eqn.cd) fp ∧ Fresh w.heap.size wr fp ∧ Moved w2 (.slice (some ⟨w.heap.size + 1, 0, none⟩) 0 0) wr ov) (fun _ i _ => es.length - (intOf i).toNat)
  case atStart => exact ⟨0, [], Nat.zero_le _, rfl, hOw2, Fresh.nil _ _, Moved.refl _ _⟩
  case round =>
    obtain ⟨k, fp, hkl, rfl, hown, hfr, hmv⟩ := hrel
    have hzm := hmv.size
    have hb := hB2.trans (hmv.toBelow (B := w.heap.size) (by omega) (fun g hg => (hOw2.block hg).1))
    have hz := hb.size
    have het : ((es.take k).map Eqn.cd).length ≤ es.length := by simp; omega
    by_cases hlt : k < es.length
    · obtain ⟨b, off, rfl, hbs, hbf⟩ := rd_addr hl (by omega)
      have haw := hmv.away hll HNE.out
      have hl3 := hl.same _ (hmv.same hll HNE.out)
      obtain ⟨a2, c2, f2, a4, c4, f4, E1, E2, E3, E4, n1, m2, n3, m4, hsub⟩ := Eqn.at hl3 hlt
      have hbz : b < wr.heap.size := by have := hll b hbf; omega
      have hsz := HES.out _ (List.getElem_mem hlt)
      have hnb : u5.ownBlock ≠ some b := haw b hbf
      have HAW := Lib.hid haw
      clear haw hl3
      have ta := TmR.mk n1 ⟨f2, m2⟩
      have tb := TmR.mk n3 ⟨f4, m4⟩
      go_wp2_with fail
      go_region_held3 (fun W => W.cell? ⟨b, off + k * 4, none⟩ = some (.string es[k].a.name) ∧ W.cell? ⟨b, off + k * 4 + 1, none⟩ = some (.slice a2 es[k].a.kids.length c2) ∧ W.cell? ⟨b, off + k * 4 + 2, none⟩ = some (.string es[k].b.name) ∧ W.cell? ⟨b, off + k * 4 + 3, none⟩ = some (.slice a4 es[k].b.kids.length c4))
        (first | exact ⟨G1, G2, G3, G4⟩ | exact ⟨E1, E2, E3, E4⟩ | exact ⟨cell_keep E1 (below_undrew' hb2), cell_keep E2 (below_undrew' hb2), cell_keep E3 (below_undrew' hb2), cell_keep E4 (below_undrew' hb2)⟩ | (refine ⟨?_, ?_, ?_, ?_⟩ <;> (refine cell_keep (cell_keep ?_ (below_undrew' hb2)) hb3; assumption)) | (refine ⟨?_, ?_, ?_, ?_⟩ <;> (refine cell_keep (cell_keep ?_ (below_undrew' hb2)) (hb3.alloc hb3.size _); assumption)))
        (first
          | (go_at_call 90; (with_reducible refine (l4Copy_any _ es[k].a _ _ (Nat.le_refl _) (by omega) (by exact ta.below (below_drew _))).mono ?_); rintro e w2 ⟨ka, fa, rfl, hra, hfa, hb2⟩; obtain ⟨aa, ca, rfl, ha1, ha2⟩ := rd_sl_inv hra)
          | (go_at_call 90; (with_reducible refine (l4Copy_any _ es[k].b _ _ (Nat.le_refl _) (by omega) (by exact tb.below (below_undrew' hb2))).mono ?_); rintro e w3 ⟨kb, fb, rfl, hrb, hfb, hb3⟩; obtain ⟨ab, cb, rfl, hb1, hb2x⟩ := rd_sl_inv hrb; have hbd := below_undrew' hb2; have hQ : Below wr.heap.size wr w3 := (hbd.trans (hb3.mono hbd.size)); have hown3 := hown.below (hQ.alloc hQ.size (.cells #[.string es[k].a.name, .slice aa es[k].a.kids.length ca, .string es[k].b.name, .slice ab es[k].b.kids.length cb] 127)); have hfab : Fresh wr.heap.size w3 (fa ++ fb) := Fresh.app ((hfa.mono (by simp)).below hb3) (hra.lt _) (by have := hbd.size; first | omega | (simp at this; omega)) hfb; have hnw := ((Tm.rdv n1 (hra.below hb3)).app (Tm.rdv n3 hrb)).below (below_alloc w3 (.cells #[.string es[k].a.name, .slice aa es[k].a.kids.length ca, .string es[k].b.name, .slice ab es[k].b.kids.length cb] 127)))
          | (refine step_app slTyEqS rfl _ _ rfl w.heap.size _ _ fp rfl (by exact hown3) ⟨w3.heap.size, 0, none⟩ 1 1 [Eqn.cd ⟨es[k].a, es[k].b⟩] [.string es[k].a.name, .slice aa es[k].a.kids.length ca, .string es[k].b.name, .slice ab es[k].b.kids.length cb] (fa ++ fb) rfl rfl (by simpa [Eqn.cd] using hnw) (by simp [Eqn.cd_len]) (by exact cells_new _ _ _) (by exact hown.away (Nat.le_refl _) hfab) (by omega) (by omega) (by have := hQ.size; simp; omega) ?_; intro v' w4 hown4 hg hv' hs4; have G1 := grown_cell hg (cell_keep (cell_keep (cell_keep E1 (below_undrew' hb2)) hb3) (below_alloc w3 _)) hnb; have G2 := grown_cell hg (cell_keep (cell_keep (cell_keep E2 (below_undrew' hb2)) hb3) (below_alloc w3 _)) hnb; have G3 := grown_cell hg (cell_keep (cell_keep (cell_keep E3 (below_undrew' hb2)) hb3) (below_alloc w3 _)) hnb; have G4 := grown_cell hg (cell_keep (cell_keep (cell_keep E4 (below_undrew' hb2)) hb3) (below_alloc w3 _)) hnb))
      have hfr4 := ((Fresh.app (hfr.below hQ) hfr.lt hz hfab).below (below_alloc w3 (.cells #[.string es[k].a.name, .slice aa es[k].a.kids.length ca, .string es[k].b.name, .slice ab es[k].b.kids.length cb] 127))).same hs4
      have hb4 := grown_below ((hb.trans (hQ.mono hz)).alloc (by have := hQ.size; omega) _) hg (by have := hQ.size; simp; omega) (fun q hq => (hown.block hq).1)
      have hm4 := Moved.after (hQ.alloc hQ.size _) ⟨hg, hv'⟩
      clear hg hs4
      go_wp2_with fail
      go_roundw
      case rel =>
        refine ⟨k + 1, fp ++ (fa ++ fb), by omega, by go_num, ?_, hfr4, hmv.trans hm4⟩
        rw [List.take_succ_eq_append_getElem hlt, List.map_append]; exact hown4
      case measure => simp [intOf]; omega
    · have he : es.take k = es := List.take_of_length_le (by omega)
      rw [he] at hown
      clear he
      obtain ⟨oa, on, oc, rfl⟩ := hown.form'
      obtain ⟨fp', hr, hf, _⟩ := hown.fresh hfr
      go_wp2_with fail
      go_ret
      exact ⟨_, fp', rfl, by rw [HE.out]; exact hr, hf, hb⟩

end Go.Proofs.YtlcfophhjflpdaaGreat
