/- The terms and numbers of literals: both sides. -/
import Derived.Lib.SliceRun
import Derived.Test.YtlcfophhjflpdaaGreatNum
import Derived.Test.YtlcfophhjflpdaaGreatOwn
namespace Go.Proofs.YtlcfophhjflpdaaGreat
open Go Go.RowKit
set_option linter.unusedVariables false
set_option linter.unusedSimpArgs false

def litsT (ls : List Lt) : List Tm := ls.flatMap (fun l => l.atom.tms)
def litsU (ls : List Lt) : List Tm := ls.flatMap Lt.tms
theorem litsT_succ (ls : List Lt) (k : Nat) (h : k < ls.length) : litsT (ls.take (k + 1)) = litsT (ls.take k) ++ ls[k].atom.tms := by
  rw [List.take_succ_eq_append_getElem h, litsT, List.flatMap_append]; simp [litsT]
theorem litsU_succ (ls : List Lt) (k : Nat) (h : k < ls.length) : litsU (ls.take (k + 1)) = litsU (ls.take k) ++ ls[k].tms := by
  rw [List.take_succ_eq_append_getElem h, litsU, List.flatMap_append]; simp [litsU]
theorem litsT_take (ls : List Lt) (k : Nat) : Tm.sizes (litsT (ls.take k)) ≤ Tm.sizes (litsT ls) := by
  have h : litsT ls = litsT (ls.take k) ++ litsT (ls.drop k) := by rw [litsT, litsT, litsT, ← List.flatMap_append, List.take_append_drop]
  rw [h, Tm.sizes_append]; omega
theorem litsU_take (ls : List Lt) (k : Nat) : Tm.sizes (litsU (ls.take k)) ≤ Tm.sizes (litsU ls) := by
  have h : litsU ls = litsU (ls.take k) ++ litsU (ls.drop k) := by rw [litsU, litsU, litsU, ← List.flatMap_append, List.take_append_drop]
  rw [h, Tm.sizes_append]; omega

set_option maxHeartbeats 2000000 in
theorem termsOf_any (ls : List Lt) (v : Value) (f : List Nat) (w : World) (hbig : Tm.sizes (litsT ls) ≤ 1000000000) (hv : Rd w (.sl (ls.map Lt.cd)) v f) :
    Calls Tryz.prog 106 #[v] w (ToOut (.sl ((Tm.parts (litsT ls)).map Tm.cd)) w) := by
  obtain ⟨a, cap, rfl, hc1, hc2⟩ := rd_sl_inv hv
  have hfl := hv.lt _
  go_enter Tryz.func106, Tryz.ntmps106
  go_wp2_with fail
  go_loopw [3, 8] (fun ov i wr => ∃ (k : Nat) (fp : List Nat), k ≤ ls.length ∧ i = .int .i64 k ∧ Own wr w.heap.size 45 2 ov ((litsT (ls.take k)).map Tm.cd) fp ∧ Below w.heap.size w wr) (fun _ i _ => ls.length - (intOf i).toNat)
  case atStart => exact ⟨0, [], Nat.zero_le _, rfl, Own.nil _ _ _ _, Below.refl _ _⟩
  case round =>
    obtain ⟨k, fp, hkl, rfl, hown, hb⟩ := hrel
    have hz := hb.size
    by_cases hlt : k < ls.length
    · obtain ⟨b, off, rfl, hbs, _⟩ := rd_addr hv (by omega)
      have hbz : b < wr.heap.size := by omega
      obtain ⟨a2, c2, f2, a4, c4, f4, a5, c5, f5, a6, c6, f6, d0', d1', d2', d3', d4', d5', d6', d7', d8', d9', m0, m1, m2, m3, m4, m5, m6, m7, hsub⟩ := Lt.at hv hlt
      have d0 := cell_keep d0' hb
      have d1 := cell_keep d1' hb
      have d2 := cell_keep d2' hb
      have d3 := cell_keep d3' hb
      have d4 := cell_keep d4' hb
      have d5 := cell_keep d5' hb
      have d6 := cell_keep d6' hb
      have d7 := cell_keep d7' hb
      have d8 := cell_keep d8' hb
      have d9 := cell_keep d9' hb
      clear d0' d1' d2' d3' d4' d5' d6' d7' d8' d9'
      have hat := Atm.close (x := ls[k].atom) m0 m1 m2 m3 m4 m5 m6 m7
      have hs1 := litsT_succ ls k hlt
      have hs2 := litsT_take ls (k + 1)
      have hs3 := Tm.sizes_len (litsT (ls.take (k + 1)))
      rw [hs1, List.length_append] at hs3
      rw [hs1] at hs2
      have HS1 := Lib.hid hs1
      clear hs1
      have hbX := below_alloc wr (.cells #[.int .i64 ls[k].atom.kind, .string ls[k].atom.a.name, .slice a2 ls[k].atom.a.kids.length c2, .string ls[k].atom.b.name, .slice a4 ls[k].atom.b.kids.length c4, .slice a5 ls[k].atom.nums.length c5, .slice a6 ls[k].atom.times.length c6, .int .i64 ls[k].atom.bound, .bool ls[k].atom.strict, .bool ls[k].no] 49)
      have hzX := hbX.size
      go_wp2_with fail
      refine (terms_any ls[k].atom _ _ _ (by exact (hat.below hb).below hbX)).mono ?_
      rintro e w2 ⟨⟨tv, tf, rfl, ht, htf⟩, hb2⟩
      have hbw := hbX.trans (hb2.mono hzX)
      have hown2 := hown.below hbw
      clear hb2 hbX
      go_wp2_with (at_builtin; refine wpList_appAny slTerm rfl _ _ rfl w.heap.size _ _ _ rfl hown2 (ls[k].atom.tms.map Tm.cd) tv tf rfl ht ?k ?na ?bytes ?len ?base ?next)
      case k => simp only [List.mem_map]; rintro e ⟨t, _, rfl⟩; exact Tm.cd_len t
      case na =>
        intro y hy e
        have h1 := hown.block e
        rcases htf y hy with h | h
        · have h2 := hfl y (hsub y h); omega
        · omega
      case bytes => simp only [List.length_map]; omega
      case len => simp only [List.length_map]; omega
      case base => have := hbw.size; omega
      case next =>
        intro v' w4 nfp hnf hown4 hg hv' hs4
        have hb4 := grown_below (hb.trans (hbw.mono hz)) hg (by have := hbw.size; omega) (fun q hq => (hown.block hq).1)
        clear hg hs4
        go_wp2_with fail
        go_roundw
        case rel =>
          refine ⟨k + 1, fp ++ nfp, by omega, by go_num, ?_, hb4⟩
          rw [HS1.out, List.map_append]; exact hown4
        case measure => simp [intOf]; omega
    · have he : ls.take k = ls := List.take_of_length_le (by omega)
      rw [he] at hown
      clear he
      obtain ⟨oa, on, oc, rfl⟩ := hown.form'
      obtain ⟨fp', hr⟩ := hown.rd'
      go_wp2_with fail
      refine (termParts_any (litsT ls) _ _ hbig ⟨fp', hr⟩).mono ?_
      rintro e w5 ⟨pv, pf, rfl, hp, hpf, hb5⟩
      go_wp2_with fail
      go_ret
      exact ⟨pv, pf, rfl, hp, hpf.mono hz, hb.trans (hb5.mono hz)⟩

set_option maxHeartbeats 2000000 in
theorem l8Terms_any (ls : List Lt) (v : Value) (f : List Nat) (w : World) (hsm : ∀ l ∈ ls, l.atom.small) (hbig : Tm.sizes (litsU ls) ≤ 1000000000) (hlen : ls.length ≤ 1048576) (hv : Rd w (.sl (ls.map Lt.cd)) v f) :
    Calls Tryz.prog 85 #[v] w (ToOut (.sl ((Tm.addPs [] (litsU ls)).map Tm.cd)) w) := by
  obtain ⟨a, cap, rfl, hc1, hc2⟩ := rd_sl_inv hv
  have HSM := Lib.hid hsm
  clear hsm
  go_enter Tryz.func85, Tryz.ntmps85
  go_wp2_with fail
  go_loopw [3, 4] (fun ov i wr => ∃ (k : Nat) (fp : List Nat), k ≤ ls.length ∧ i = .int .i64 k ∧ Own wr w.heap.size 45 2 ov ((Tm.addPs [] (litsU (ls.take k))).map Tm.cd) fp ∧ Fresh w.heap.size wr fp ∧ Below w.heap.size w wr) (fun _ i _ => ls.length - (intOf i).toNat)
  case atStart => exact ⟨0, [], Nat.zero_le _, rfl, Own.empty _ _ _ _ (Nat.le_refl _), Fresh.nil _ _, below_alloc _ _⟩
  case round =>
    obtain ⟨k, fp, hkl, rfl, hown, hfr, hb⟩ := hrel
    have hz := hb.size
    by_cases hlt : k < ls.length
    · obtain ⟨b, off, rfl, hbs, _⟩ := rd_addr hv (by omega)
      have hbz : b < wr.heap.size := by omega
      obtain ⟨a2, c2, f2, a4, c4, f4, a5, c5, f5, a6, c6, f6, d0', d1', d2', d3', d4', d5', d6', d7', d8', d9', m0, m1, m2, m3, m4, m5, m6, m7, hsub⟩ := Lt.at hv hlt
      have d0 := cell_keep d0' hb
      have d1 := cell_keep d1' hb
      have d2 := cell_keep d2' hb
      have d3 := cell_keep d3' hb
      have d4 := cell_keep d4' hb
      have d5 := cell_keep d5' hb
      have d6 := cell_keep d6' hb
      have d7 := cell_keep d7' hb
      have d8 := cell_keep d8' hb
      have d9 := cell_keep d9' hb
      clear d0' d1' d2' d3' d4' d5' d6' d7' d8' d9'
      have hat := Lt.close (x := ls[k]) m0 m1 m2 m3 m4 m5 m6 m7
      have HS1 := Lib.hid (litsU_succ ls k hlt)
      have hs2 := litsU_take ls (k + 1)
      rw [HS1.out, Tm.sizes_append] at hs2
      have hln := Tm.addPs_len (litsU (ls.take k)) []
      simp only [List.length_nil, Nat.zero_add] at hln
      go_wp2_with fail
      refine (litTermsS_any ls[k] _ _ _ (HSM.out _ (List.getElem_mem hlt)) (by exact hat.below hb)).mono ?_
      rintro e w2 ⟨tv, tf, rfl, ht, htf, hb2⟩
      obtain ⟨ta, tc, rfl, ht1, ht2⟩ := rd_sl_inv ht
      have hown2 := hown.below hb2
      have hfr2 := hfr.below hb2
      have hB2 := hb.trans (hb2.mono hz)
      have hz2 := hB2.size
      have htl := ht.lt _
      have htr : ∀ y ∈ tf, wr.heap.size ≤ y := fun y hy => (htf.2 y hy).1
      clear hb2
      go_wp2_with fail
      go_loopw [3, 6] (fun uv i wq => ∃ (g : Nat) (gp : List Nat), g ≤ ls[k].tms.length ∧ i = .int .i64 g ∧ Own wq w.heap.size 45 2 uv ((Tm.addPs (Tm.addPs [] (litsU (ls.take k))) (ls[k].tms.take g)).map Tm.cd) gp ∧ Fresh w.heap.size wq gp ∧ Moved w2 u3 wq uv) (fun _ i _ => ls[k].tms.length - (intOf i).toNat)
      case atStart => exact ⟨0, fp, Nat.zero_le _, rfl, by simpa [Tm.addPs] using hown2, hfr2, Moved.refl _ _⟩
      case round =>
        obtain ⟨g, gp, hgl, rfl, hown3, hfr3, hmv⟩ := hrel
        have hzm := hmv.size
        have hne : ∀ y ∈ tf, (_ : Value).ownBlock ≠ some y := fun y hy e => by
          have h1 := (hown.block e).2
          have h2 := htr y hy
          omega
        by_cases hg : g < ls[k].tms.length
        · obtain ⟨b2, off2, rfl, hb2s, hb2f⟩ := rd_addr ht (by omega)
          have ht3 := ht.same _ (hmv.same htl hne)
          obtain ⟨e1, g1, h1, q0, q1, t0, t1, hsub1⟩ := Tm.at ht3 hg
          have hbz2 : b2 < wr.heap.size := by omega
          have haw := hmv.away htl hne
          have hln2 := Tm.addPs_len (ls[k].tms.take g) (Tm.addPs [] (litsU (ls.take k)))
          have hst := Tm.sizes_take ls[k].tms (g + 1)
          rw [List.take_succ_eq_append_getElem hg, Tm.sizes_append] at hst
          simp only [Tm.sizes] at hst
          have HSUC := Lib.hid (Tm.addPs_succ (Tm.addPs [] (litsU (ls.take k))) ls[k].tms g hg)
          go_wp2_with fail
          refine (l4Parts_any _ ls[k].tms[g] (Tm.addPs (Tm.addPs [] (litsU (ls.take k))) (ls[k].tms.take g)) _ _ gp w.heap.size _ (Nat.le_refl _) (by omega) (by omega) hown3 hfr3 (TmRa.mk t0 ⟨h1, t1, fun y hy => haw y (hsub1 y (by simp [hy]))⟩)).mono ?_
          rintro e w3 ⟨lv, fp3, rfl, hown4, hfr4, hm4⟩
          have hmm := hmv.trans hm4
          clear hm4 hmv
          go_wp2_with fail
          go_roundw
          case rel =>
            refine ⟨g + 1, fp3, by omega, by go_num, ?_, hfr4, hmm⟩
            rw [HSUC.out]; exact hown4
          case measure => simp [intOf]; omega
        · have he : ls[k].tms.take g = ls[k].tms := List.take_of_length_le (by omega)
          have HE := Lib.hid (Tm.addPs_append [] (litsU (ls.take k)) ls[k].tms)
          rw [he] at hown3
          clear he
          have hB5 := hB2.trans (hmv.toBelow (B := w.heap.size) (by omega) (fun q hq => (hown2.block hq).1))
          go_wp2_with fail
          go_roundw
          case rel =>
            refine ⟨k + 1, gp, by omega, by go_num, ?_, hfr3, hB5⟩
            rw [HS1.out, HE.out]; exact hown3
          case measure => simp [intOf]; omega
    · have he : ls.take k = ls := List.take_of_length_le (by omega)
      rw [he] at hown
      clear he
      obtain ⟨oa, on, oc, rfl⟩ := hown.form'
      obtain ⟨fp', hr, hf, _⟩ := hown.fresh hfr
      go_wp2_with fail
      go_ret
      exact ⟨_, fp', rfl, hr, hf, hb⟩
end Go.Proofs.YtlcfophhjflpdaaGreat
