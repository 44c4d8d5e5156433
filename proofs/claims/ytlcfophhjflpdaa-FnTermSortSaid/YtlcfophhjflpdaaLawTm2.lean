/- The laws on terms that are drawn: FnTermKids, FnTermSort. -/
import Derived.Test.YtlcfophhjflpdaaRdr8
import Derived.Test.YtlcfophhjflpdaaLawTm
import Derived.Test.YtlcfophhjflpdaaSig4
namespace Go.Proofs.Ytlcfophhjflpdaa
open Go Go.RowKit
set_option linter.unusedVariables false
set_option linter.unusedSimpArgs false

theorem tms_one {w : World} {t : Tm} {ka : Option Addr} {kc b : Nat} (hn : t.name.size ≤ maxLen) (hk : TmsR w t.kids (.slice ka t.kids.length kc)) (h0 : w.cell? ⟨b, 0, none⟩ = some (.string t.name)) (h1 : w.cell? ⟨b, 1, none⟩ = some (.slice ka t.kids.length kc)) (hb : b < w.heap.size) :
    TmsR w [t] (.slice (some ⟨b, 0, none⟩) 1 1) := by
  obtain ⟨f, hk⟩ := hk
  refine ⟨_, rd_block (k := 2) (vs := [.string t.name, .slice ka t.kids.length kc]) (fun j u hu => ?_) (by simpa using Tm.rdvs hn hk) (by simp) (by simp) (by simp) (by omega) hb⟩
  match j, hu with
  | 0, hu => obtain rfl := Option.some.inj hu; exact h0
  | 1, hu => obtain rfl := Option.some.inj hu; exact h1
theorem Tm.parts_kids {t : Tm} (h : 0 < (Tm.parts [t]).length) : ∃ ks, Tm.parts t.kids = ks ∧ Tm.parts [t] = ks ++ [t] := by
  rw [Tm.parts_one] at h ⊢
  split at h
  · rename_i hw
    rw [if_pos hw]; exact ⟨_, rfl, rfl⟩
  · simp at h

set_option maxHeartbeats 4000000 in
theorem termKids_walk (v : Value) (w : World) (hv : Byts w v) :
    Calls Try.prog 8 #[v] w fun e w' => e = .returned (.bool true) ∧ Below w.heap.size w w' := by
  have hv0 := hv
  obtain ⟨a, n, cap, rfl, hn1, hn2, _⟩ := hv
  by_cases hlen : n ≤ 1048576
  rotate_left
  · have hlb : decide ((1048576 : Int) < (n : Int)) = true := by simp; omega
    go_enter Try.func8, Try.ntmps8
    go_wp2_with fail
    go_ret
    exact ⟨rfl, Below.refl _ _⟩
  have hlb : decide ((1048576 : Int) < (n : Int)) = false := by simp; omega
  go_enter Try.func8, Try.ntmps8
  go_wp2_with fail
  refine (drawTermSort_any _ _ hv0).mono ?_
  rintro e w1 ⟨⟨s, t, sa, sc, ka, kc, sf, fp, hsz, rfl, hrs, hnm, hrt⟩, hb1⟩
  have hdec : Tm.sizes t.kids + 1 = t.size := by rw [Tm.size_eq]; omega
  have HDEC : Tm.sizes t.kids ≤ 44 := by omega
  clear hdec
  have hkr : TmsR w1 t.kids (.slice ka t.kids.length kc) := ⟨fp, hrt⟩
  have hba : Below w1.heap.size w1 ((w1.alloc (.cells #[.slice sa s.syms.length sc] 72)).alloc (.cells #[.string t.name, .slice ka t.kids.length kc] 38)) := ((Below.refl _ _).alloc (Nat.le_refl _) _).alloc (by simp) _
  have x0 : ((w1.alloc (.cells #[.slice sa s.syms.length sc] 72)).alloc (.cells #[.string t.name, .slice ka t.kids.length kc] 38)).cell? ⟨w1.heap.size + 1, 0, none⟩ = some (.string t.name) := by
    have h := cells_new' (w1.alloc (.cells #[.slice sa s.syms.length sc] 72)) [.string t.name, .slice ka t.kids.length kc] 38 0 _ rfl
    rw [World.size_alloc] at h; exact h
  have x1 : ((w1.alloc (.cells #[.slice sa s.syms.length sc] 72)).alloc (.cells #[.string t.name, .slice ka t.kids.length kc] 38)).cell? ⟨w1.heap.size + 1, 1, none⟩ = some (.slice ka t.kids.length kc) := by
    have h := cells_new' (w1.alloc (.cells #[.slice sa s.syms.length sc] 72)) [.string t.name, .slice ka t.kids.length kc] 38 1 _ rfl
    rw [World.size_alloc] at h; exact h
  have hB := hb1.trans (hba.mono hb1.size)
  have hk2 := hkr.below hba
  have hsW : w1.heap.size + 2 ≤ ((w1.alloc (.cells #[.slice sa s.syms.length sc] 72)).alloc (.cells #[.string t.name, .slice ka t.kids.length kc] 38)).heap.size := by simp
  generalize hW : (w1.alloc (.cells #[.slice sa s.syms.length sc] 72)).alloc (.cells #[.string t.name, .slice ka t.kids.length kc] 38) = W at x0 x1 hB hk2 hsW
  have hone : ∀ (X : World), Below W.heap.size W X → TmsR (X.alloc (.cells #[.string t.name, .slice ka t.kids.length kc] 38)) [t] (.slice (some ⟨X.heap.size, 0, none⟩) 1 1) := fun X hX =>
    tms_one hnm ((hk2.below hX).below (below_alloc _ _)) (cells_new' X _ _ 0 _ rfl) (cells_new' X _ _ 1 _ rfl) (by simp)
  go_wp2_with fail
  refine (termParts_any [t] _ _ (by simp only [Tm.sizes]; omega) (hone W (Below.refl _ _))).mono ?_
  rintro e w2 ⟨va, fa, rfl, hra, hfa, hb2⟩
  obtain ⟨aa, ac, rfl, hac1, hac2⟩ := tms_form hra
  have hbW2 : Below W.heap.size W w2 := (below_alloc W _).trans (hb2.mono (by simp))
  have y0 := cell_keep x0 hbW2
  have y1 := cell_keep x1 hbW2
  have hz2 := hbW2.size
  clear hb2
  go_wp2_with fail
  refine (termPartsS_any [t] _ _ (by simp only [Tm.sizes]; omega) (hone w2 hbW2)).mono ?_
  rintro e w3 ⟨vs, fs, rfl, hrw, hfs, hb3⟩
  obtain ⟨wa, wc, rfl, hwc1, hwc2⟩ := tms_form hrw
  have hb23 : Below w2.heap.size w2 w3 := (below_alloc w2 _).trans (hb3.mono (by simp))
  have hbW3 := hbW2.trans (hb23.mono hz2)
  have hz3 := hbW3.size
  have z0 := cell_keep x0 hbW3
  have z1 := cell_keep x1 hbW3
  have hra3 : TmsR w3 (Tm.parts [t]) (.slice aa (Tm.parts [t]).length ac) := ⟨fa, hra.below hb23⟩
  have hk3 := hk2.below hbW3
  have hB3 := hB.trans (hbW3.mono hB.size)
  have hkid : 0 < (Tm.parts [t]).length → ∃ ks, Tm.parts t.kids = ks ∧ Tm.parts [t] = ks ++ [t] := Tm.parts_kids
  clear hra hrw hb3 hb23 hbW2 hone hW hba
  generalize Tm.parts [t] = ps at *
  have HKID := Lib.hid hkid
  clear hkid
  by_cases hp0 : ps.length = 0
  · have hd0 : ((ps.length : Int) == 0) = true := by rw [hp0]; rfl
    go_wp2_with fail
    go_ret
    exact ⟨retB (by simp), hB3⟩
  have hd0 : ((ps.length : Int) == 0) = false := beq_eq_false_iff_ne.2 (by omega)
  obtain ⟨ks, hks, hps⟩ := HKID.out (by omega)
  have hl1 : ps.length ≤ ks.length + 1 := by rw [hps]; simp
  have hl2 : ks.length + 1 ≤ ps.length := by rw [hps]; simp
  have HAT : Hid (∀ k (h : k < ks.length) (h' : k < ps.length), ks[k] = ps[k]) := Lib.hid (fun k h h' => by
    subst hps; rw [List.getElem_append_left h])
  obtain ⟨l, hll1, hll2⟩ : ∃ l : Nat, l + 1 ≤ ps.length ∧ ps.length ≤ l + 1 := ⟨ks.length, by omega, by omega⟩
  have HLAST : Hid (∀ (h' : l < ps.length), ps[l] = t) := Lib.hid (fun h' => by
    have hlk : l = ks.length := by omega
    subst hlk; subst hps; simp)
  have HKS := Lib.hid hks
  clear hps hks
  go_wp2_with fail
  refine (termParts_any t.kids _ _ (by omega) hk3).mono ?_
  rintro e w4 ⟨vk, fk, rfl, hrk, hfk, hb4⟩
  rw [HKS.out] at hrk
  obtain ⟨ba, bc, rfl, hbc1, hbc2⟩ := tms_form hrk
  have hra4 := hra3.below hb4
  have hk4 := hk3.below hb4
  have u0 := cell_keep z0 hb4
  have u1 := cell_keep z1 hb4
  have hB4 := hB3.trans (hb4.mono hB3.size)
  have hz4 := hb4.size
  obtain ⟨b1, off1, rfl, hbs1⟩ := hra4.addr (by omega)
  have hlt1 : l < ps.length := by omega
  obtain ⟨la, lc, c0, c1, hss, hkk⟩ := hra4.at hlt1
  have hself : ps[l].beq t = true := by rw [HLAST.out hlt1]; exact Tm.beq_self t
  have hwr : IntKind.i64.wrap ((ps.length : Int) - 1) = (l : Int) := by rw [IntKind.wrap_i64]; omega
  have hne : ((ks.length : Int) != (l : Int)) = false := by rw [bne_eq_false_iff_eq]; omega
  have hgt : (l : Int) < (ps.length : Int) := by omega
  go_wp2_with fail
  have q0 := cell_regrown c0
  have q1 := cell_regrown c1
  have qx := cell_regrown u0
  have qy := cell_regrown u1
  refine wp_region_quiet_below (by kernel_rfl) (by kernel_rfl) ?_
  repeat (quiet_step (refine Calls.regrown_of (termSame_any _ ps[l] t _ _ _ (Nat.le_refl _) ((TmR.mk hss hkk).below (below_regrown _ _ _)) ((TmR.mk hnm hk4).below (below_regrown _ _ _)))))
  refine wpQuiet_nil ?_
  intro w5 hw5
  obtain ⟨⟨dq, osq⟩, hw5⟩ := hw5
  have hb5 : Below w4.heap.size w4 w5 := hw5 ▸ below_regrown w4 dq osq
  clear hw5 q0 q1 qx qy
  have hB5 := hB4.trans (hb5.mono hB4.size)
  have hra5 := hra4.below hb5
  have hrk5 : TmsR w5 ks (.slice ba ks.length bc) := ⟨fk, hrk.below hb5⟩
  clear hra4 hk4 u0 u1 c0 c1 hkk hb5 hb4 hrk
  go_wp2_with fail
  go_loopw [8] (fun i wr => ∃ k : Nat, k ≤ ks.length ∧ i = .int .i64 k ∧ Below w5.heap.size w5 wr) (fun i _ => ks.length - (intOf i).toNat)
  case atStart => exact ⟨0, Nat.zero_le _, rfl, Below.refl _ _⟩
  case round =>
    obtain ⟨k, hkl, rfl, hb⟩ := hrel
    have hz := hb.size
    by_cases hlt : k < ks.length
    · obtain ⟨b2, off2, rfl, hbs2⟩ := hrk5.addr (by omega)
      have hltp : k < ps.length := by omega
      obtain ⟨ia, ic, c0, c1, hs1, hk1⟩ := (hra5.below hb).at hltp
      obtain ⟨ja, jc, d0, d1, hs2, hk2'⟩ := (hrk5.below hb).at hlt
      have hself2 : ks[k].beq ps[k] = true := by rw [HAT.out k hlt hltp]; exact Tm.beq_self _
      go_wp2_with fail
      have q0 := cell_regrown c0
      have q1 := cell_regrown c1
      have qx := cell_regrown d0
      have qy := cell_regrown d1
      refine wp_region_quiet_below (by kernel_rfl) (by kernel_rfl) ?_
      repeat (quiet_step (refine Calls.regrown_of (termSame_any _ ks[k] ps[k] _ _ _ (Nat.le_refl _) ((TmR.mk hs2 hk2').below (below_regrown _ _ _)) ((TmR.mk hs1 hk1).below (below_regrown _ _ _)))))
      refine wpQuiet_nil ?_
      intro w7 hw7
      obtain ⟨⟨dq, osq⟩, hw7⟩ := hw7
      have hb7 : Below wr.heap.size wr w7 := hw7 ▸ below_regrown wr dq osq
      clear hw7 q0 q1 qx qy
      go_wp2_with fail
      go_roundw
      case rel => exact ⟨k + 1, by omega, by go_num, hb.trans (hb7.mono hz)⟩
      case measure => simp [intOf]; omega
    · go_wp2_with fail
      go_ret
      exact ⟨rfl, hB5.trans (hb.mono hB5.size)⟩
theorem Tm.srt_kids {s : Sg} {t : Tm} (h : (t.srt s).isSome = true) : ∀ k ∈ t.kids, (k.srt s).isSome = true := by
  intro k hk
  rw [Tm.srt_eq] at h
  split at h
  · simp at h
  · split at h
    · rename_i x _ hs
      rw [Tm.srts_iff] at hs
      obtain ⟨j, hj, rfl⟩ := List.mem_iff_getElem.1 hk
      rw [hs.2 j hj (by omega)]; rfl
    · simp at h
theorem Tm.tsrt_parts {s : Sg} {t : Tm} {k : Int} (h : t.tsrt s = some k) : (∀ x ∈ Tm.parts [t], (x.tsrt s).isSome = true) ∧ 1 ≤ (Tm.parts [t]).length ∧ (Tm.parts [t]).length ≤ 12 ∧ (k = 0 ∨ k = 1) := by
  unfold Tm.tsrt at h
  split at h
  rotate_left
  · simp at h
  rename_i hc
  have hsz : t.size ≤ 12 := by
    have := hc.2; unfold Tm.wf at this; simp only [Bool.and_eq_true, decide_eq_true_eq] at this; exact this.2
  have hp1 : Tm.parts [t] = Tm.addPs [] [t] := by unfold Tm.parts; rw [if_pos (by simp [hc.2])]
  refine ⟨fun x hx => ?_, ?_, ?_, ?_⟩
  · rw [hp1] at hx
    have := Tm.addPs_pred (p := fun x => x.wf = true ∧ (x.srt s).isSome = true) (fun y hy q hq => ⟨Tm.wf_kid hy.1 hq, Tm.srt_kids hy.2 q hq⟩) [t] [] (fun y hy => by rw [List.mem_singleton.1 hy]; exact ⟨hc.2, by rw [h]; rfl⟩) (by simp) x hx
    rw [Tm.tsrt_yes hc.1 this.1]; exact this.2
  · have := ((Tm.allIn_eq _ _).1 ((Tm.allIns_iff _ _).1 (Tm.addPs_all [t] []) t (by simp))).1
    rw [← hp1] at this
    exact List.length_pos_of_mem this
  · have := Tm.parts_len [t]
    simp only [Tm.sizes] at this; omega
  · rw [Tm.srt_eq] at h
    split at h
    · simp at h
    · rename_i x hx
      split at h
      · obtain rfl := Option.some.inj h
        have := Sg.find_okB hc.1 hx
        simp only [Sy.okB, srtB, Bool.and_eq_true, Bool.or_eq_true, beq_iff_eq] at this
        exact this.2.2.1
      · simp at h
set_option maxHeartbeats 4000000 in
theorem termSort_walk (v : Value) (w : World) (hv : Byts w v) :
    Calls Try.prog 9 #[v] w fun e w' => e = .returned (.bool true) ∧ Below w.heap.size w w' := by
  have hv0 := hv
  obtain ⟨a, n, cap, rfl, hn1, hn2, _⟩ := hv
  by_cases hlen : n ≤ 1048576
  rotate_left
  · have hlb : decide ((1048576 : Int) < (n : Int)) = true := by simp; omega
    go_enter Try.func9, Try.ntmps9
    go_wp2_with fail
    go_ret
    exact ⟨rfl, Below.refl _ _⟩
  have hlb : decide ((1048576 : Int) < (n : Int)) = false := by simp; omega
  go_enter Try.func9, Try.ntmps9
  go_wp2_with fail
  refine (drawTermSort_any _ _ hv0).mono ?_
  rintro e w1 ⟨⟨s, t, sa, sc, ka, kc, sf, fp, hsz, rfl, hrs, hnm, hrt⟩, hb1⟩
  have hdec : Tm.sizes t.kids + 1 = t.size := by rw [Tm.size_eq]; omega
  have HDEC : Tm.sizes t.kids ≤ 44 := by omega
  clear hdec
  have hkr : TmsR w1 t.kids (.slice ka t.kids.length kc) := ⟨fp, hrt⟩
  have hba : Below w1.heap.size w1 ((w1.alloc (.cells #[.slice sa s.syms.length sc] 72)).alloc (.cells #[.string t.name, .slice ka t.kids.length kc] 38)) := ((Below.refl _ _).alloc (Nat.le_refl _) _).alloc (by simp) _
  have x0 : ((w1.alloc (.cells #[.slice sa s.syms.length sc] 72)).alloc (.cells #[.string t.name, .slice ka t.kids.length kc] 38)).cell? ⟨w1.heap.size + 1, 0, none⟩ = some (.string t.name) := by
    have h := cells_new' (w1.alloc (.cells #[.slice sa s.syms.length sc] 72)) [.string t.name, .slice ka t.kids.length kc] 38 0 _ rfl
    rw [World.size_alloc] at h; exact h
  have x1 : ((w1.alloc (.cells #[.slice sa s.syms.length sc] 72)).alloc (.cells #[.string t.name, .slice ka t.kids.length kc] 38)).cell? ⟨w1.heap.size + 1, 1, none⟩ = some (.slice ka t.kids.length kc) := by
    have h := cells_new' (w1.alloc (.cells #[.slice sa s.syms.length sc] 72)) [.string t.name, .slice ka t.kids.length kc] 38 1 _ rfl
    rw [World.size_alloc] at h; exact h
  have hB := hb1.trans (hba.mono hb1.size)
  have hk2 := hkr.below hba
  have hs2 := hrs.below hba
  have y0 : ((w1.alloc (.cells #[.slice sa s.syms.length sc] 72)).alloc (.cells #[.string t.name, .slice ka t.kids.length kc] 38)).cell? ⟨w1.heap.size, 0, none⟩ = some (.slice sa s.syms.length sc) := cell_ak (cells_new' w1 [.slice sa s.syms.length sc] 72 0 _ rfl)
  have hsW : w1.heap.size + 2 ≤ ((w1.alloc (.cells #[.slice sa s.syms.length sc] 72)).alloc (.cells #[.string t.name, .slice ka t.kids.length kc] 38)).heap.size := by simp
  generalize hW : (w1.alloc (.cells #[.slice sa s.syms.length sc] 72)).alloc (.cells #[.string t.name, .slice ka t.kids.length kc] 38) = W at x0 x1 y0 hB hk2 hs2 hsW
  obtain ⟨kf, hkf⟩ := hk2
  have htd : RdVs W t.cd [.string t.name, .slice ka t.kids.length kc] kf := Tm.rdv hnm hkf
  obtain ⟨o, ho⟩ : ∃ o, t.tsrt s = o := ⟨_, rfl⟩
  have HO := Lib.hid ho
  go_wp2_with fail
  refine (termSort_any s t _ _ _ _ _ (by exact hs2) (by exact htd)).mono ?_
  rintro e w2 ⟨rfl, hb2⟩
  rw [ho]
  have hz2 := hb2.size
  have hs3 := hs2.below hb2
  have htd2 := htd.below hb2
  have x02 := cell_keep x0 hb2
  have x12 := cell_keep x1 hb2
  have y02 := cell_keep y0 hb2
  go_wp2_with fail
  refine (termSortS_any s t (by omega) _ _ _ _ _ (by exact hs3) (by exact htd2)).mono ?_
  rintro e w3 ⟨rfl, hb3⟩
  rw [ho]
  have hb23 := hb2.trans (hb3.mono hz2)
  have hz3 := hb23.size
  have hB3 := hB.trans (hb23.mono hB.size)
  have hs4 := hs2.below hb23
  have hk4 : TmsR w3 t.kids (.slice ka t.kids.length kc) := ⟨kf, hkf.below hb23⟩
  have x03 := cell_keep x0 hb23
  have x13 := cell_keep x1 hb23
  have y03 := cell_keep y0 hb23
  clear ho hW x02 x12 y02 htd2 hs3 hb3 hb2
  cases o with
  | none =>
    simp only [Option.getD_none, Option.isSome_none]
    go_wp2_with fail
    go_ret
    exact ⟨rfl, hB3⟩
  | some q =>
    simp only [Option.getD_some, Option.isSome_some]
    obtain ⟨hall, hp1, hp2, hq01⟩ := Tm.tsrt_parts HO.out
    have hone : TmsR (w3.alloc (.cells #[.string t.name, .slice ka t.kids.length kc] 38)) [t] (.slice (some ⟨w3.heap.size, 0, none⟩) 1 1) :=
      tms_one hnm (hk4.below (below_alloc _ _)) (cells_new' w3 _ _ 0 _ rfl) (cells_new' w3 _ _ 1 _ rfl) (by simp)
    go_wp2_with fail
    refine (termParts_any [t] _ _ (by simp only [Tm.sizes]; omega) hone).mono ?_
    rintro e w4 ⟨va, fa, rfl, hra, hfa, hb4⟩
    obtain ⟨aa, ac, rfl, hac1, hac2⟩ := tms_form hra
    have hb34 : Below w3.heap.size w3 w4 := (below_alloc w3 _).trans (hb4.mono (by simp))
    have hz4 := hb34.size
    have hB4 := hB3.trans (hb34.mono hB3.size)
    have hs5 := hs4.below hb34
    have y04 := cell_keep y03 hb34
    have hra4 : TmsR w4 (Tm.parts [t]) (.slice aa (Tm.parts [t]).length ac) := ⟨fa, hra⟩
    clear hra hb4 hone
    generalize Tm.parts [t] = ps at *
    have HALL := Lib.hid hall
    clear hall
    have hT : w1.heap.size < w4.heap.size := by omega
    go_wp2_with fail
    go_loopw [10] (fun i wr => ∃ k : Nat, k ≤ ps.length ∧ i = .int .i64 k ∧ Below w4.heap.size w4 wr) (fun i _ => ps.length - (intOf i).toNat)
    case atStart => exact ⟨0, Nat.zero_le _, rfl, Below.refl _ _⟩
    case round =>
      obtain ⟨k, hkl, rfl, hb⟩ := hrel
      have hz := hb.size
      have y0r := cell_keep y04 hb
      by_cases hlt : k < ps.length
      · obtain ⟨b2, off2, rfl, hbs2⟩ := hra4.addr (by omega)
        obtain ⟨ia, ic, c0, c1, hs1, fk, hk1⟩ := (hra4.below hb).at hlt
        have hsr := hs5.below hb
        have hsome := HALL.out ps[k] (List.getElem_mem hlt)
        go_wp2_with fail
        have q0 := cell_regrown c0
        have q1 := cell_regrown c1
        have qx := cell_regrown y0r
        refine wp_region_quiet_below (by kernel_rfl) (by kernel_rfl) ?_
        repeat (quiet_step (refine Calls.regrown_of (termSort_any s ps[k] [.slice sa s.syms.length sc] [.string ps[k].name, .slice ia ps[k].kids.length ic] _ _ _ (hsr.below (below_regrown _ _ _)) ((Tm.rdv hs1 hk1).below (below_regrown _ _ _)))))
        refine wpQuiet_nil ?_
        intro w7 hw7
        obtain ⟨⟨dq, osq⟩, hw7⟩ := hw7
        have hb7 : Below wr.heap.size wr w7 := hw7 ▸ below_regrown wr dq osq
        clear hw7 q0 q1 qx
        go_wp2_with fail
        go_roundw
        case rel => exact ⟨k + 1, by omega, by go_num, hb.trans (hb7.mono hz)⟩
        case measure => simp [intOf]; omega
      · have hd1 : decide ((1 : Int) ≤ (ps.length : Int)) = true := decide_eq_true (by omega)
        have hd2 : decide ((ps.length : Int) ≤ 12) = true := decide_eq_true (by omega)
        rcases hq01 with rfl | rfl
        all_goals
          go_wp2_with fail
          go_ret
          exact ⟨rfl, hB4.trans (hb.mono hB4.size)⟩
end Go.Proofs.Ytlcfophhjflpdaa
