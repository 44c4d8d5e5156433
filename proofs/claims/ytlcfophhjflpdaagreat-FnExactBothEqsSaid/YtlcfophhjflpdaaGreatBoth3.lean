/- BothOk, the program's. -/
import Derived.Test.YtlcfophhjflpdaaGreatBoth2
namespace Go.Proofs.YtlcfophhjflpdaaGreat
open Go Go.RowKit
set_option linter.unusedVariables false
set_option linter.unusedSimpArgs false

mutual
theorem Tm.shape_mono : ∀ (t : Tm) (d : Int), Tm.shape t d = true → Tm.shape t (d + 1) = true
  | .mk n ks, d, h => by
    simp only [Tm.shape, Bool.and_eq_true, decide_eq_true_eq] at h ⊢
    exact ⟨⟨⟨by omega, h.1.1.2⟩, h.1.2⟩, by have := Tm.shapes_mono ks (d - 1) h.2; rwa [show d - 1 + 1 = d + 1 - 1 by omega] at this⟩
theorem Tm.shapes_mono : ∀ (ts : List Tm) (d : Int), Tm.shapes ts d = true → Tm.shapes ts (d + 1) = true
  | [], d, _ => by simp [Tm.shapes]
  | t :: ts, d, h => by
    simp only [Tm.shapes, Bool.and_eq_true] at h ⊢
    exact ⟨Tm.shape_mono t d h.1, Tm.shapes_mono ts d h.2⟩
end
theorem Tm.wf_kid {t k : Tm} (h : t.wf = true) (hk : k ∈ t.kids) : k.wf = true := by
  have h1 := Tm.shape_kids (Tm.wf_shape h) k hk
  have h2 := Tm.wf_size h
  have h3 := Tm.size_kid_mem hk
  have h4 := Tm.shape_mono k _ h1
  simp only [Tm.wf, Bool.and_eq_true, decide_eq_true_eq]
  exact ⟨by simpa using h4, by omega⟩
mutual
theorem Tm.addP_wf : ∀ (t : Tm) (l : List Tm), t.wf = true → (∀ x ∈ l, x.wf = true) → ∀ x ∈ Tm.addP l t, x.wf = true
  | .mk n ks, l, h, hl, x, hx => by
    have h1 := Tm.addPs_wf ks l (fun k hk => Tm.wf_kid h hk) hl
    simp only [Tm.addP] at hx
    split at hx
    · exact h1 x hx
    · rcases List.mem_append.1 hx with h2 | h2
      · exact h1 x h2
      · obtain rfl := List.mem_singleton.1 h2; exact h
theorem Tm.addPs_wf : ∀ (ts l : List Tm), (∀ t ∈ ts, t.wf = true) → (∀ x ∈ l, x.wf = true) → ∀ x ∈ Tm.addPs l ts, x.wf = true
  | [], l, _, hl, x, hx => hl x (by simpa [Tm.addPs] using hx)
  | t :: ts, l, h, hl, x, hx => by
    simp only [Tm.addPs] at hx
    exact Tm.addPs_wf ts _ (fun k hk => h k (by simp [hk])) (Tm.addP_wf t l (h t (by simp)) hl) x hx
end
def bothB (s : Sg) (ls : List Lt) : Bool := decide (ls.length ≤ 6) && (ls.all (fun l => atomB s l.atom) && (s.okB && (decide ((Tm.addPs [] (litsT ls)).length ≤ 24) && decide (((Tm.addPs [] (litsT ls)).filter (Tm.isNum s)).length ≤ 4))))
theorem bothB_sig {s : Sg} {ls : List Lt} (h : s.okB = false) : bothB s ls = false := by simp [bothB, h]
theorem bothB_len {s : Sg} {ls : List Lt} (h : ¬ ls.length ≤ 6) : bothB s ls = false := by simp [bothB, h]
theorem bothB_one {s : Sg} {ls : List Lt} {k : Nat} (hk : k < ls.length) (h : atomB s ls[k].atom = false) : bothB s ls = false := by
  have : ls.all (fun l => atomB s l.atom) = false := by rw [List.all_eq_false]; exact ⟨ls[k], List.getElem_mem hk, by simp [h]⟩
  simp only [bothB, this, Bool.false_and, Bool.and_false]
theorem lits_succ {s : Sg} {ls : List Lt} {k : Nat} (hk : k < ls.length) (h : (ls.take k).all (fun l => atomB s l.atom) = true) (h' : atomB s ls[k].atom = true) : (ls.take (k + 1)).all (fun l => atomB s l.atom) = true := by
  rw [List.take_succ_eq_append_getElem hk, List.all_append, h]; simp [h']
theorem atomB_okB {s : Sg} {x : Atm} (h : atomB s x = true) : x.okB = true := by
  cases hk : x.okB with
  | true => rfl
  | false => rw [atomB_ok hk] at h; simp at h
theorem lits_wf {s : Sg} {ls : List Lt} (h : ls.all (fun l => atomB s l.atom) = true) : ∀ t ∈ litsT ls, t.wf = true := by
  intro t ht
  obtain ⟨l, hl, ht⟩ := List.mem_flatMap.1 ht
  exact Atm.tms_wf (atomB_okB (List.all_eq_true.1 h l hl)) t ht
theorem lits_parts {s : Sg} {ls : List Lt} (h : ls.all (fun l => atomB s l.atom) = true) : Tm.parts (litsT ls) = Tm.addPs [] (litsT ls) := by
  unfold Tm.parts; rw [if_pos]; rw [List.all_eq_true]; exact lits_wf h
theorem lits_same {s : Sg} : ∀ {ls : List Lt}, ls.all (fun l => atomB s l.atom) = true → litsU ls = litsT ls
  | [], _ => rfl
  | l :: ls, h => by
    simp only [List.all_cons, Bool.and_eq_true] at h
    have ih := lits_same (ls := ls) h.2
    simp only [litsU, litsT, List.flatMap_cons] at ih ⊢
    rw [ih, Lt.tms_yes (atomB_okB h.1)]
theorem lits_nums {s : Sg} {ls : List Lt} (hs : s.okB = true) (h : ls.all (fun l => atomB s l.atom) = true) : (Tm.addPs [] (litsT ls)).filter (fun t => (t.srt s).getD (-1) == 1) = (Tm.addPs [] (litsT ls)).filter (Tm.isNum s) := by
  refine List.filter_congr fun t ht => ?_
  have hw := Tm.addPs_wf (litsT ls) [] (lits_wf h) (by simp) t ht
  have h1 := Tm.tsrt_yes hs hw
  cases ho : t.srt s with
  | none => rw [Tm.isNum_none (h1.trans ho)]; rfl
  | some n => rw [Tm.isNum_some (h1.trans ho)]; rfl
theorem bothB_all {s : Sg} {ls : List Lt} (hs : s.okB = true) (hl : ls.length ≤ 6) (h : ls.all (fun l => atomB s l.atom) = true) : bothB s ls = (decide ((Tm.addPs [] (litsT ls)).length ≤ 24) && decide (((Tm.addPs [] (litsT ls)).filter (Tm.isNum s)).length ≤ 4)) := by
  rw [bothB, decide_eq_true hl, h, hs]; rfl

set_option maxHeartbeats 1000000 in
theorem numsOf_any (s : Sg) (ls : List Lt) (us : List Value) (v : Value) (f f' : List Nat) (w : World) (hbig : Tm.sizes (litsT ls) ≤ 1000000000) (hv : RdVs w s.cd us f') (hx : Rd w (.sl (ls.map Lt.cd)) v f) :
    Calls Tryz.prog 86 #[.agg us.toArray, v] w fun e w' => (∃ rv rf, e = .returned rv ∧ Rd w' (.sl (((Tm.parts (litsT ls)).filter (Tm.isNum s)).map Tm.cd)) rv rf ∧ Fresh w.heap.size w' rf) ∧ Below w.heap.size w w' := by
  obtain ⟨a0, c0, f0, rfl, _, n0⟩ := Sg.open hv
  have hlv := hv.lt
  go_enter Tryz.func86, Tryz.ntmps86
  go_wp2_with fail
  refine (termsOf_any ls v f _ hbig (by exact hx.below (below_alloc _ _))).mono ?_
  rintro e w1 ⟨pv, pf, rfl, hp, hpf, hb⟩
  obtain ⟨hs, hz, hB⟩ := box1 (w := w) (wr := w1) (cs := #[.slice a0 s.syms.length c0]) (T := 41) (below_size hb (by simp))
  have S0 := hs 0
  simp only [List.getElem?_toArray, List.getElem?_cons_zero, List.getElem?_cons_succ] at S0
  have hpf1 : Fresh (w.heap.size + 1) w1 pf := hpf.mono (by simp)
  clear hb hpf
  obtain ⟨pa, pc, rfl, hp1, hp2⟩ := rd_sl_inv hp
  go_wp2_with fail
  refine (deleteNum_any s (Tm.parts (litsT ls)) _ pf w.heap.size a0 c0 _ _ S0 (hv.below hB) hp hpf1.1 hpf1.free (fun h => by have := (hpf1.2 _ h).1; omega) (fun y hy h => by have := hlv y hy; have := (hpf1.2 _ h).1; omega)).mono ?_
  rintro e w2 ⟨⟨rv, rf, rfl, hr, hrn, hrs, hrw⟩, hO⟩
  go_wp2_with fail
  go_ret
  exact ⟨⟨rv, rf, rfl, hr, hrn, fun y hy => ⟨by have := (hpf1.2 _ (hrs y hy)).1; omega, hrw y (hrs y hy)⟩⟩, hB.trans (hO.toBelow hB.size (fun y hy => by have := (hpf1.2 _ hy).1; omega))⟩

set_option maxHeartbeats 2000000 in
theorem bothOk_any (s : Sg) (ls : List Lt) (us : List Value) (v : Value) (f f' : List Nat) (w : World) (hsm : ∀ l ∈ ls, l.atom.small) (hbig : Tm.sizes (litsT ls) ≤ 1000000000) (hv : RdVs w s.cd us f') (hx : Rd w (.sl (ls.map Lt.cd)) v f) :
    Calls Tryz.prog 62 #[.agg us.toArray, v] w fun e w' => e = .returned (.bool (bothB s ls)) ∧ Below w.heap.size w w' := by
  obtain ⟨a0, c0, f0, rfl, _, n0⟩ := Sg.open hv
  obtain ⟨a, cap, rfl, hc1, hc2⟩ := rd_sl_inv hx
  have hlen := rd_len hx
  have HSM := Lib.hid hsm
  clear hsm
  go_enter Tryz.func62, Tryz.ntmps62
  go_wp2_with fail
  refine (sigOk_any s _ _ _ (by exact hv.below (below_alloc _ _))).mono ?_
  rintro e w1 ⟨rfl, hb1⟩
  obtain ⟨hxL, hzL, hBL⟩ := box1 (w := w) (wr := w1) (cs := #[.slice a0 s.syms.length c0]) (T := 41) (below_size hb1 (by simp))
  have cx := hxL 0
  simp only [List.getElem?_toArray, List.getElem?_cons_zero, List.getElem?_cons_succ] at cx
  clear hxL hb1
  cases h1 : s.okB
  · have HF := Lib.hid (bothB_sig (ls := ls) h1)
    clear h1
    go_wp2_with fail
    go_ret
    exact ⟨retB HF.out.symm, hBL⟩
  have H1 := Lib.hid h1
  clear h1
  by_cases h2 : ls.length ≤ 6
  rotate_left
  · have HF := Lib.hid (bothB_len (s := s) h2)
    have t2 : decide ((6 : Int) < (ls.length : Int)) = true := by simp; omega
    go_wp2_with fail
    go_ret
    exact ⟨retB HF.out.symm, hBL⟩
  have t2 : decide ((6 : Int) < (ls.length : Int)) = false := by simp; omega
  go_wp2_with fail
  go_loopw [17] (fun i wq => ∃ k : Nat, k ≤ ls.length ∧ i = .int .i64 k ∧ Hid ((ls.take k).all (fun l => atomB s l.atom) = true) ∧ Below w1.heap.size w1 wq) (fun i _ => ls.length - (intOf i).toNat)
  case atStart => exact ⟨0, Nat.zero_le _, rfl, Lib.hid (by simp), Below.refl _ _⟩
  case round =>
    obtain ⟨k, hkl, rfl, hall, hM⟩ := hrel
    have hszm := hM.size
    have cxm := cell_keep cx hM
    have hBM := hBL.trans (hM.mono (by omega))
    by_cases hlt : k < ls.length
    · obtain ⟨b, off, rfl, hbs, _⟩ := rd_addr hx (by omega)
      have hbz : b < wr.heap.size := by omega
      have hz3 : w.heap.size < wr.heap.size := by omega
      obtain ⟨a2, c2, f2, a4, c4, f4, a5, c5, f5, a6, c6, f6, d0, d1, d2, d3, d4, d5, d6, d7, d8, d9, m0, m1, m2, m3, m4, m5, m6, m7, _⟩ := Lt.at (hx.below hBM) hlt
      have hat := Atm.close (x := ls[k].atom) m0 m1 m2 m3 m4 m5 m6 m7
      have hbk := below_alloc wr (.cells #[.int .i64 ls[k].atom.kind, .string ls[k].atom.a.name, .slice a2 ls[k].atom.a.kids.length c2, .string ls[k].atom.b.name, .slice a4 ls[k].atom.b.kids.length c4, .slice a5 ls[k].atom.nums.length c5, .slice a6 ls[k].atom.times.length c6, .int .i64 ls[k].atom.bound, .bool ls[k].atom.strict, .bool ls[k].no] 49)
      have hzk := hbk.size
      go_wp2_with fail
      refine (atomOkT_any s ls[k].atom _ _ _ _ _ (HSM.out _ (List.getElem_mem hlt)) (by exact hv.below (hBM.trans (hbk.mono hBM.size))) (by exact hat.below hbk)).mono ?_
      rintro e w4 ⟨rfl, hb4⟩
      have hb5 := hbk.trans (hb4.mono hzk)
      have hM5 := hM.trans (hb5.mono hszm)
      have hB5 := hBM.trans (hb5.mono hBM.size)
      clear hb4 hbk hzk
      cases ho : atomB s ls[k].atom
      · have HF := Lib.hid (bothB_one hlt ho)
        clear ho
        go_wp2_with fail
        go_ret
        exact ⟨retB HF.out.symm, hB5⟩
      · have HE := Lib.hid (lits_succ hlt hall.out ho)
        clear ho
        go_wp2_with fail
        go_roundw
        case rel => exact ⟨k + 1, by omega, by go_num, HE, hM5⟩
        case measure => simp [intOf]; omega
    · have HALL : Hid (ls.all (fun l => atomB s l.atom) = true) := Lib.hid (by have h := hall.out; rwa [List.take_of_length_le (by omega)] at h)
      have HF := Lib.hid (bothB_all H1.out h2 HALL.out)
      have HP := Lib.hid (lits_parts HALL.out)
      go_wp2_with fail
      refine (termsOf_any ls _ _ _ hbig (hx.below hBM)).mono ?_
      rintro e w4 ⟨pv, pf, rfl, hp, _, hb4⟩
      rw [HP.out] at hp
      obtain ⟨pa, pc, rfl, hl1, hl2⟩ := rd_sl_inv hp
      have hB4 := hBM.trans (hb4.mono hBM.size)
      have cx4 := cell_keep cxm hb4
      clear hb4
      by_cases g1 : (Tm.addPs [] (litsT ls)).length ≤ 24
      rotate_left
      · have t3 : decide (((Tm.addPs [] (litsT ls)).length : Int) ≤ 24) = false := by simp; omega
        have HG : Hid (bothB s ls = false) := Lib.hid (by rw [HF.out, decide_eq_false g1]; rfl)
        go_wp2_with fail
        go_ret
        exact ⟨retB HG.out.symm, hB4⟩
      have t3 : decide (((Tm.addPs [] (litsT ls)).length : Int) ≤ 24) = true := by simp; omega
      have HG := Lib.hid (HF.out.trans (by rw [decide_eq_true g1, Bool.true_and]))
      go_wp2_with fail
      refine (numsOf_any s ls _ _ _ _ _ hbig (hv.below hB4) (hx.below hB4)).mono ?_
      rintro e w5 ⟨⟨nv, nf, rfl, hn, _⟩, hb5⟩
      rw [HP.out] at hn
      obtain ⟨na, nc, rfl, hl3, hl4⟩ := rd_sl_inv hn
      have hB5 := hB4.trans (hb5.mono hB4.size)
      clear hb5
      go_wp2_with fail
      go_ret
      exact ⟨retB (by rw [HG.out]; simp; try omega), hB5⟩
end Go.Proofs.YtlcfophhjflpdaaGreat
