/- Parts of the proof: RdrV. -/
import Derived.Deep.RegionHeld3
import Derived.Test.YtlefdhhnlbpbkaaGreatPv28
import Derived.Test.YtlefdhhnlbpbkaaGreatPv27
section
namespace Go.Proofs.YtlefdhhnlbpbkaaGreat
open Go Go.RowKit
set_option linter.unusedVariables false
set_option linter.unusedSimpArgs false
set_option maxRecDepth 100000
set_option maxHeartbeats 16000000
theorem cls_ok (s : Sg) (es : List Eqn) (ms : List Tm) : ∃ c : List Nat, zcd s es ms = nats c ∧ c.length ≤ (zx es ms).length ∧ c.length ≤ 24 ∧ ∀ k, k < c.length → Clo.cl c k ≤ k := by
 cases hm : zar s es ms with
 | false => rw [zcR hm]; exact ⟨[], rfl, by simp, by simp, by simp⟩
 | true =>
  rw [zce hm]
  have h3 := (zbB es ms).1
  exact ⟨cloC es ms, rfl, by omega, by have := (zaC hm).2; omega, fun k hk => ((zbB es ms).2 k (by omega)).1⟩
theorem d5_end {w W : World} {s : Sg} {es : List Eqn} {a b : Tm} {sa ka kb : Option Addr} {sc kc kd : Nat} {ev v0 v1 v2 v3 v4 : Value} {sf ef fa fb : List Nat} (hfew : s.few) (hel : es.length ≤ 13) (hes : ∀ q ∈ es, q.a.size ≤ 45 ∧ q.b.size ≤ 45) (ha : a.size ≤ 45) (hb : b.size ≤ 45)
  (hrs : RdVs W s.cd [.slice sa s.syms.length sc] sf) (hre : Rd W (.sl (es.map Eqn.cd)) ev ef) (hra : RdVs W a.cd [.string a.name, .slice ka a.kids.length kc] fa) (hrb : RdVs W b.cd [.string b.name, .slice kb b.kids.length kd] fb)
  (hown : ∀ x, x ∈ sf ∨ x ∈ ef ∨ x ∈ fa ∨ x ∈ fb → w.heap.size + 1 + 1 + 1 ≤ x) :
  Drawn5 w.heap.size (.returned (.tuple #[.agg #[.slice sa s.syms.length sc], ev, .agg #[.string a.name, .slice ka a.kids.length kc], .agg #[.string b.name, .slice kb b.kids.length kd]])) (((((W.setCell ⟨w.heap.size, 0, none⟩ v0).setCell ⟨w.heap.size + 1, 0, none⟩ v1).setCell ⟨w.heap.size + 1, 1, none⟩ v2).setCell ⟨w.heap.size + 1 + 1, 0, none⟩ v3).setCell ⟨w.heap.size + 1 + 1, 1, none⟩ v4) := by
 refine ⟨s, es, a, b, sa, sc, ev, ka, kc, kb, kd, sf, ef, fa, fb, hfew, hel, hes, ha, hb, rfl, hrs.same _ ?_, hre.same _ ?_, hra.same _ ?_, hrb.same _ ?_, fun x hx => by have := hown x hx; omega⟩
 all_goals exact fun x hx => by have := hown x (by simp [hx]); exact zaG x (by omega) (by omega) (by omega)
theorem Drawn5.drew {B : Nat} {e : Ending} {W : World} (h : Drawn5 B e W) : Drawn5 B e W.drew := by
 obtain ⟨s, es, a, b, sa, sc, ev, ka, kc, kb, kd, sf, ef, fa, fb, h1, h2, h3, h4, h5, h6, h7, h8, h9, h10, h11⟩ := h
 exact ⟨s, es, a, b, sa, sc, ev, ka, kc, kb, kd, sf, ef, fa, fb, h1, h2, h3, h4, h5, h6, h7.below (zi _), h8.below (zi _), h9.below (zi _), h10.below (zi _), h11⟩
theorem Res3.only {w W W' : World} {rb : Nat} (h : Res3 w W) (ho : Only [rb] W W') (hr : w.heap.size + 1 + 1 < rb) : Res3 w W' := by
 have hz := h.size
 have hs := ho.size
 exact ⟨ho.cellk h.r0 (by omega), ho.cellk h.r1 (by omega), ho.cellk h.r2 (by omega), ho.cellk h.r3 (by omega), ho.cellk h.r4 (by omega), ho.free h.f0 (by omega) (by omega), ho.free h.f1 (by omega) (by omega), ho.free h.f2 (by omega) (by omega), ho.free h.f3 (by omega) (by omega), ho.free h.f4 (by omega) (by omega), by omega⟩
theorem zbL (v : Value) (w : World) (hv : Byts w v) :
  Calls Tryz.prog 20 #[v] w fun e w' => Drawn5 w.heap.size e w' ∧ Below w.heap.size w w' := by
 have hR := res3_new w
 have hB0 := zeg w
 go_enter Tryz.func20, Tryz.ntmps20
 go_wp2_with fail
 refine (zef v _ (by exact hv.below hB0)).mono ?_
 rintro e u1 ⟨⟨s, es, a, b, sa, sc, ev, ka, kc, kb, kd, sf, ef, fa, fb, hfew, hel, hes, hsa, hsb, rfl, hrs, hre, hra, hrb, hown⟩, hb1⟩
 have hR1 := hR.below hb1
 have hz1 := hR1.size
 have hB1 := hB0.trans (hb1.mono hB0.size)
 have hown' : ∀ x, x ∈ sf ∨ x ∈ ef ∨ x ∈ fa ∨ x ∈ fb → w.heap.size + 1 + 1 + 1 ≤ x := fun x hx => by have := hown x hx; simp at this; omega
 have hlt' : ∀ x, x ∈ sf ∨ x ∈ ef ∨ x ∈ fa ∨ x ∈ fb → x < u1.heap.size := fun x hx => by
  rcases hx with h | h | h | h
  ·exact RdVs.lt _ hrs x h
  ·exact hre.lt _ x h
  ·exact RdVs.lt _ hra x h
  ·exact RdVs.lt _ hrb x h
 obtain ⟨E, hbb⟩ := env5_new 25 29 29 hrs hre hra hrb
 have hbig := big_of3 hel hes (a := a) (b := b) (by omega) (by omega)
 have HSM := Lib.hid (zdw hes hsa hsb)
 obtain ⟨c, hcl, hcp, hc24, hck⟩ := cls_ok s es [a, b]
 have HCK := Lib.hid hck
 have HES := Lib.hid hes
 have hR1' := hR1.below hbb
 have hB1' := hB1.trans (hbb.mono hB1.size)
 have hv1 := hv.below hB1'
 have hzW := hbb.size
 obtain ⟨evA, evC, rfl, hec1, hec2⟩ := zd hre
 have x0 := E.x0
 have y0 := E.y0
 have y1 := E.y1
 have k0 := E.k0
 have k1 := E.k1
 have hl1 : u1.heap.size + 1 + 1 < (((u1.alloc (.cells #[.slice sa s.syms.length sc] 25)).alloc (.cells #[.string a.name, .slice ka a.kids.length kc] 29)).alloc (.cells #[.string b.name, .slice kb b.kids.length kd] 29)).heap.size := by simp
 clear hrs hre hra hrb hb1 hB0 hR hR1 hB1 hbb hown hes hck hv
 go_wp2_with fail
 generalize ((u1.alloc (.cells #[.slice sa s.syms.length sc] 25)).alloc (.cells #[.string a.name, .slice ka a.kids.length kc] 29)).alloc (.cells #[.string b.name, .slice kb b.kids.length kd] 29) = W1 at *
 refine (zau v _ hv1).mono ?_
 rintro e u2 ⟨rfl, hu2, hb2⟩
 obtain ⟨rb, hrb⟩ : ∃ rb, rb = W1.heap.size := ⟨_, rfl⟩
 rw [← hrb] at hu2 hl1
 rw [← hrb]
 have E2 := E.below hb2
 have hR2 := hR1'.below hb2
 have hB2 := hB1'.trans (hb2.mono hB1'.size)
 have hl2 := hu2.lt
 have hwrb : w.heap.size + 1 + 1 < rb := by omega
 have hu1rb : u1.heap.size ≤ rb := by omega
 clear E hR1' hB1' hb2 x0 y0 y1 k0 k1 hzW hrb hv1
 have x0 := E2.x0
 have y0 := E2.y0
 have y1 := E2.y1
 have k0 := E2.k0
 have k1 := E2.k1
 have ba := zb u2 (.cells #[.string a.name, .slice ka a.kids.length kc, .string b.name, .slice kb b.kids.length kd] 29)
 go_wp2_with fail
 refine (zbV s es [a, b] _ _ _ _ _ _ _ (by omega) (by exact E2.hs.below ba) (by exact E2.he.below ba) (by exact zdO (E2.ha.below ba) (E2.hb.below ba) (by simp) (fun j u hu => zg u2 _ 29 j u hu))).mono ?_
 rintro e u3 ⟨cv, cf, rfl, hc, hcf, hb3'⟩
 have hb3 := ba.trans (hb3'.mono (by simp))
 have E3 := E2.below hb3
 have hR3 := hR2.below hb3
 have hB3 := hB2.trans (hb3.mono hB2.size)
 have hu3 := hu2.below hb3
 have hl3 := hu3.lt
 rw [hcl] at hc
 have hcg : ∀ x ∈ cf, rb < x := fun x h => by have := (hcf.2 _ h).1; simp at this; omega
 have hcnr : rb ∉ cf := fun h => by have := hcg _ h; omega
 obtain ⟨ca, cc, rfl, hcc1, hcc2⟩ := zd hc
 rw [zt] at hcc1
 rw [zt]
 clear E2 hR2 hB2 hu2 hb3 hb3' ba x0 y0 y1 k0 k1 hcl hcf
 have x0 := E3.x0
 have y0 := E3.y0
 have y1 := E3.y1
 have k0 := E3.k0
 have k1 := E3.k1
 have ba := zb u3 (.cells #[.string a.name, .slice ka a.kids.length kc, .string b.name, .slice kb b.kids.length kd] 29)
 go_wp2_with fail
 refine (zO es [a, b] _ _ _ _ _ (by omega) (by exact E3.he.below ba) (by exact zdO (E3.ha.below ba) (E3.hb.below ba) (by simp) (fun j u hu => zg u3 _ 29 j u hu))).mono ?_
 rintro e u4 ⟨⟨pv, pf, rfl, hp, hpf⟩, hb4'⟩
 change Rd u4 (.sl ((zx es [a, b]).map Tm.cd)) pv pf at hp
 have hb4 := ba.trans (hb4'.mono (by simp))
 have E4 := E3.below hb4
 have hR4 := hR3.below hb4
 have hB4 := hB3.trans (hb4.mono hB3.size)
 have hu4 := hu3.below hb4
 have hl4 := hu4.lt
 replace hc := hc.below hb4
 have hpg : ∀ x ∈ pf, rb < x := fun x h => by have := (hpf.2 _ h).1; simp at this; omega
 have hpnr : rb ∉ pf := fun h => by have := hpg _ h; omega
 obtain ⟨pa, pc, rfl, hpc1, hpc2⟩ := zd hp
 clear E3 hR3 hB3 hu3 hb4 hb4' ba x0 y0 y1 k0 k1 hpf
 generalize zx es [a, b] = ps at *
 go_wp2_with fail
 go_loopw [13] (fun i wr => ∃ k q : Nat, k ≤ c.length ∧ i = .int .i64 k ∧ q ≤ k ∧ Rdr wr rb q ∧ Only [rb] u4 wr) (fun i _ => c.length - (intOf i).toNat)
 case atStart => exact ⟨0, 0, Nat.zero_le _, rfl, Nat.le_refl _, hu4, Only.refl _ _⟩
 case round =>
  clear hu4
  obtain ⟨k, q, hkl, rfl, hqk, hr, hN⟩ := hrel
  have hsr : ∀ x, x ∈ sf ∨ x ∈ ef ∨ x ∈ fa ∨ x ∈ fb → x ≠ rb := fun x hx => by have := hlt' x hx; omega
  have x0 := hN.cellk E4.x0 (by omega)
  have hsw := E4.hs.only hN (fun h => hsr _ (by simp [h]) rfl)
  have hew := E4.he.only hN (fun h => hsr _ (by simp [h]) rfl)
  have hRw := hR4.only hN hwrb
  have hBw : Below w.heap.size w wr := hB4.trans (hN.toBelow hB4.size (fun b hb => by simp at hb; omega))
  have hcw := hc.only hN hcnr
  have hpw := hp.only hN hpnr
  have hlr := hr.lt
  by_cases hlt : k < c.length
  ·obtain ⟨b3, off3, rfl, hbs3, hb3m⟩ := zm hc (by rw [zt]; omega)
   have hb3g := hcg b3 hb3m
   obtain ⟨e0, _⟩ := zL hcw (k := k) (by rw [zt]; omega)
   rw [nats_at] at e0
   have hkc : (k : Int) < (c.length : Int) := by omega
   by_cases hck : Clo.cl c k = k
   ·have hq1 := len_of_eq hck
    go_wp2_with fail
    go_roundw
    case rel => exact ⟨k + 1, q, by omega, by go_num, by omega, hr, hN⟩
    case measure => simp [intOf]; omega
   have hq1 : (((Clo.cl c k : Nat) : Int) == (k : Int)) = false := beq_eq_false_iff_ne.2 (by omega)
   go_wp2_with fail
   refine (zE rb q 3 _ (by omega) (by omega) (by omega) hr).mono ?_
   rintro e w5 ⟨⟨m, hm, rfl⟩, hr5, ho5⟩
   have hN5 := hN.trans ho5
   by_cases hm0 : m = 0
   rotate_left
   ·have hq2 : ((m : Int) == 0) = false := beq_eq_false_iff_ne.2 (by omega)
    go_wp2_with fail
    go_roundw
    case rel => exact ⟨k + 1, q + 1, by omega, by go_num, by omega, hr5, hN5⟩
    case measure => simp [intOf]; omega
   subst hm0
   have hcc := HCK.out k hlt
   have hkp : k < ps.length := by omega
   have hcp' : Clo.cl c k < ps.length := by omega
   obtain ⟨b1, off1, rfl, hbs1, hb1m⟩ := zm hp (by omega)
   have hb1g := hpg b1 hb1m
   have hp5 := hp.only hN5 hpnr
   obtain ⟨la, lc, g1, c0, c1, n0, n1, sub1⟩ := Tm.at hp5 hkp
   obtain ⟨ma, mc, g2, d0, d1, n2, n3, sub2⟩ := Tm.at hp5 hcp'
   have hs1 := HSM.out _ (zes hkp)
   have hs2 := HSM.out _ (zes hcp')
   generalize ps[k] = t1 at *
   generalize ps[Clo.cl c k] = t2 at *
   have hs5 := E4.hs.only hN5 (fun h => hsr _ (by simp [h]) rfl)
   have he5 := E4.he.only hN5 (fun h => hsr _ (by simp [h]) rfl)
   replace x0 := hN5.cellk E4.x0 (by omega)
   replace e0 := ho5.cellk e0 (by omega)
   obtain ⟨r0, r1, r2, r3, r4, f0, f1, f2, f3, f4, hrz⟩ := hR4.only hN5 hwrb
   have hB5 : Below w.heap.size w w5 := hB4.trans (hN5.toBelow hB4.size (fun b hb => by simp at hb; omega))
   have hkp' : (k : Int) < (ps.length : Int) := by omega
   have hcp2 : ((Clo.cl c k : Nat) : Int) < (ps.length : Int) := by omega
   go_wp2_with fail
   go_region_held3 (fun U => U.cell? ⟨u1.heap.size, 0, none⟩ = some (.slice sa s.syms.length sc) ∧ U.cell? ⟨b1, off1 + k * 2, none⟩ = some (.string t1.name) ∧ U.cell? ⟨b1, off1 + k * 2 + 1, none⟩ = some (.slice la t1.kids.length lc) ∧ U.cell? ⟨b3, off3 + k, none⟩ = some (.int .i64 (Clo.cl c k : Nat)) ∧ U.cell? ⟨b1, off1 + Clo.cl c k * 2, none⟩ = some (.string t2.name) ∧ U.cell? ⟨b1, off1 + Clo.cl c k * 2 + 1, none⟩ = some (.slice ma t2.kids.length mc))
    ((refine ⟨?_, ?_, ?_, ?_, ?_, ?_⟩) <;> ((repeat (first | with_reducible assumption | with_reducible refine zaF ?_ | ((with_reducible refine (World.cell?_setCell_other _ _ _ _ ?_).trans ?_); (focus (intro e; simp only [Addr.mk.injEq] at e; omega))))); done))
    (fail)
   all_goals
    go_wp2_with fail
    refine bodyPost_ret (v := .tuple #[.agg #[.slice sa s.syms.length sc], .slice evA es.length evC, .agg #[.string t1.name, .slice la t1.kids.length lc], .agg #[.string t2.name, .slice ma t2.kids.length mc]]) ?_ rfl ?_
    ·simp [results, Tryz.results20, go_sem, r0, r1, r2, r3, r4]
    ·have hx9 : ∀ x, x ∈ sf ∨ x ∈ ef ∨ x ∈ g1 ∨ x ∈ g2 → w.heap.size + 1 + 1 + 1 ≤ x := fun x hx => by
      rcases hx with h | h | h | h
      ·exact hown' x (by simp [h])
      ·exact hown' x (by simp [h])
      ·have := hpg _ (sub1 _ h); omega
      ·have := hpg _ (sub2 _ h); omega
     exact ⟨(d5_end hfew hel HES.out hs1 hs2 hs5 he5 (Tm.rdv n0 n1) (Tm.rdv n2 n3) hx9).drew, (zcj hB5).drew⟩
  ·have y0 := hN.cellk E4.y0 (by omega)
   have y1 := hN.cellk E4.y1 (by omega)
   have k0 := hN.cellk E4.k0 (by omega)
   have k1 := hN.cellk E4.k1 (by omega)
   have haw := E4.ha.only hN (fun h => hsr _ (by simp [h]) rfl)
   have hbw := E4.hb.only hN (fun h => hsr _ (by simp [h]) rfl)
   obtain ⟨r0, r1, r2, r3, r4, f0, f1, f2, f3, f4, hrz⟩ := hRw
   go_wp2_with fail
   go_region_held3 (fun U => U.cell? ⟨u1.heap.size, 0, none⟩ = some (.slice sa s.syms.length sc) ∧ U.cell? ⟨u1.heap.size + 1, 0, none⟩ = some (.string a.name) ∧ U.cell? ⟨u1.heap.size + 1, 1, none⟩ = some (.slice ka a.kids.length kc) ∧ U.cell? ⟨u1.heap.size + 1 + 1, 0, none⟩ = some (.string b.name) ∧ U.cell? ⟨u1.heap.size + 1 + 1, 1, none⟩ = some (.slice kb b.kids.length kd))
    ((refine ⟨?_, ?_, ?_, ?_, ?_⟩) <;> ((repeat (first | with_reducible assumption | with_reducible refine zaF ?_ | ((with_reducible refine (World.cell?_setCell_other _ _ _ _ ?_).trans ?_); (focus (intro e; simp only [Addr.mk.injEq] at e; omega))))); done))
    (fail)
   all_goals
    go_wp2_with fail
    refine bodyPost_ret (v := .tuple #[.agg #[.slice sa s.syms.length sc], .slice evA es.length evC, .agg #[.string a.name, .slice ka a.kids.length kc], .agg #[.string b.name, .slice kb b.kids.length kd]]) ?_ rfl ?_
    ·simp [results, Tryz.results20, go_sem, r0, r1, r2, r3, r4]
    ·exact ⟨(d5_end hfew hel HES.out hsa hsb hsw hew haw hbw hown').drew, (zcj hBw).drew⟩
end Go.Proofs.YtlefdhhnlbpbkaaGreat
end
