/- The law FnExactTermParts returns true. -/
import Derived.Test.YtmmmcfhhblmdjaaMarkTm
import Derived.Test.YtmmmcfhhblmdjaaTermP
namespace Go.Proofs.Ytmmmcfhhblmdjaa
open Go Go.RowKit

theorem Tm.beqs_self (ts : List Tm) : Tm.beqs ts ts = true := (Tm.beqs_iff _ _).2 rfl

set_option maxHeartbeats 1000000 in
theorem exTermParts_walk (ts : List Tm) (v : Value) (w : World) (hv : TmsR w ts v) :
    Calls Try.prog 4 #[v] w fun e w' => e = .returned (.bool true) ∧ Below w.heap.size w w' := by
  by_cases hfit : Tm.wts ts ≤ 1048576
  · have hsz := Tm.sizes_wts ts
    have hps := Tm.parts_sizes ts (by omega)
    have HZ := Lib.hid (szr_ok (left := 1048576) (n := Tm.wts ts) (by omega))
    go_enter Try.func4, Try.ntmps4
    go_wp2_with fail
    refine (szTerms ts v _ _ (by omega) (by omega) hv).mono ?_
    rintro e w1 ⟨rfl, hb1⟩
    rw [HZ.out]
    have hv1 := hv.below hb1
    go_wp2_with fail
    refine (toTerms ts v _ hfit hv1).mono ?_
    rintro e w2 ⟨vc, fc, rfl, hrc, hfc, hb2⟩
    go_wp2_with fail
    refine (termPartsS_any ts vc _ (by omega) ⟨fc, hrc⟩).mono ?_
    rintro e w3 ⟨vs, fs, rfl, hrs, hfs, hb3⟩
    have hv3 := (hv1.below hb2).below hb3
    go_wp2_with fail
    refine (toTerms ts v _ hfit hv3).mono ?_
    rintro e w4 ⟨vx, fx, rfl, hrx, hfx, hb4⟩
    go_wp2_with fail
    refine (termParts_any ts vx _ (by omega) ⟨fx, hrx⟩).mono ?_
    rintro e w5 ⟨vg, fg, rfl, hrg, hfg, hb5⟩
    have hv5 := (hv3.below hb4).below hb5
    have hrs5 := (hrs.below hb4).below hb5
    have hrx5 := hrx.below hb5
    have hfx5 := hfx.below hb5
    have hz1 := hb1.size
    have hz2 := hb2.size
    have hz3 := hb3.size
    have hz4 := hb4.size
    have hz5 := hb5.size
    have hls : ∀ b ∈ fs, b < w3.heap.size := hrs.lt _
    have hlx : ∀ b ∈ fx, b < w4.heap.size := hrx.lt _
    have HB5 : Hid (Below w.heap.size w w5) := (((hb1.trans (hb2.mono (by omega))).trans (hb3.mono (by omega))).trans (hb4.mono (by omega))).trans (hb5.mono (by omega))
    clear hb1 hb2 hb3 hb4 hb5 hrc hfc
    have hself := Tm.beqs_self (Tm.parts ts)
    have hself2 := Tm.beqs_self ts
    go_wp2_with fail
    refine (eqTerms (Tm.parts ts) (Tm.parts ts) vg vs _ ⟨fg, hrg⟩ ⟨fs, hrs5⟩).mono ?_
    rintro e w6 ⟨rfl, hb6⟩
    rw [hself]
    go_wp2_with fail
    refine (toTerms ts v _ hfit (hv5.below hb6)).mono ?_
    rintro e w7 ⟨vy, fy, rfl, hry, hfy, hb7⟩
    go_wp2_with fail
    refine (eqTerms ts ts vx vy _ ⟨fx, (hrx5.below hb6).below hb7⟩ ⟨fy, hry⟩).mono ?_
    rintro e w8 ⟨rfl, hb8⟩
    rw [hself2]
    have hb58 : Below w5.heap.size w5 w8 := (hb6.trans (hb7.mono hb6.size)).trans (hb8.mono (by have := hb6.size; have := hb7.size; omega))
    clear hb6 hb7 hb8 hry hfy
    have hz8 := hb58.size
    go_wp2_with fail
    refine (markTermS_any _ ts vx fx _ _ (Nat.le_refl _) (by omega) (by omega) (hrx5.below hb58) (hfx5.below hb58).free hfx.1).mono ?_
    rintro e w9 ⟨rfl, hrx9, hfx9, ho9⟩
    have hrg9 := (hrg.below hb58).same _ (ho9.same (fun b hb => by have := hrg.lt _ b hb; omega) (fun b hb hx => by have := (hfg.2 b hb).1; have := hlx b hx; omega))
    have hrs9 := (hrs5.below hb58).same _ (ho9.same (fun b hb => by have := hrs5.lt _ b hb; omega) (fun b hb hx => by have := (hfx.2 b hx).1; have := hls b hb; omega))
    have hfg9 := (hfg.below hb58).same (ho9.same (fun b hb => by have := hrg.lt _ b hb; omega) (fun b hb hx => by have := (hfg.2 b hb).1; have := hlx b hx; omega))
    have HB9 : Hid (Below w.heap.size w w9) := (HB5.out.trans (hb58.mono (by omega))).trans (ho9.toBelow (by omega) (fun b hb => by have := (hfx.2 b hb).1; omega))
    have hz9 := ho9.size
    clear hb58 ho9 hrx9 hfx9 hrg hrs5 hrx5 hfx5 hrs hrx hv5 hv3 hv1
    go_wp2_with fail
    refine (eqTerms (Tm.parts ts) (Tm.parts ts) vg vs _ ⟨fg, hrg9⟩ ⟨fs, hrs9⟩).mono ?_
    rintro e w10 ⟨rfl, hb10⟩
    rw [hself]
    have hz10 := hb10.size
    go_wp2_with fail
    refine (markTermS_any _ (Tm.parts ts) vg fg _ _ (Nat.le_refl _) (by omega) (by omega) (hrg9.below hb10) (hfg9.below hb10).free hfg.1).mono ?_
    rintro e w11 ⟨rfl, hrg11, hfg11, ho11⟩
    have hrs11 := (hrs9.below hb10).same _ (ho11.same (fun b hb => by have := hrs9.lt _ b hb; omega) (fun b hb hx => by have := (hfg.2 b hx).1; have := hls b hb; omega))
    have HB11 : Hid (Below w.heap.size w w11) := (HB9.out.trans (hb10.mono (by omega))).trans (ho11.toBelow (by omega) (fun b hb => by have := (hfg.2 b hb).1; omega))
    have hz11 := ho11.size
    clear hb10 ho11 hrg9 hrs9
    go_wp2_with fail
    refine (heldTermS_any _ (Tm.parts ts) vg fg _ _ (Nat.le_refl _) (by omega) (by omega) hrg11).mono ?_
    rintro e w12 ⟨rfl, hb12⟩
    have hz12 := hb12.size
    go_wp2_with fail
    refine (toTerms ts v _ hfit (hv.below (HB11.out.trans (hb12.mono (by omega))))).mono ?_
    rintro e w13 ⟨vy, fy, rfl, hry, hfy, hb13⟩
    have hz13 := hb13.size
    go_wp2_with fail
    refine (termParts_any ts vy _ (by omega) ⟨fy, hry⟩).mono ?_
    rintro e w14 ⟨vh, fh, rfl, hrh, hfh, hb14⟩
    have hz14 := hb14.size
    go_wp2_with fail
    refine (eqTerms (Tm.parts ts) (Tm.parts ts) vh vs _ ⟨fh, hrh⟩ ⟨fs, ((hrs11.below hb12).below hb13).below hb14⟩).mono ?_
    rintro e w15 ⟨rfl, hb15⟩
    rw [hself]
    have hz15 := hb15.size
    go_wp2_with fail
    refine (heldTermS_any _ (Tm.parts ts) vg fg _ _ (Nat.le_refl _) (by omega) (by omega) ((((hrg11.below hb12).below hb13).below hb14).below hb15)).mono ?_
    rintro e w16 ⟨rfl, hb16⟩
    go_wp2_with fail
    go_ret
    exact ⟨rfl, ((((HB11.out.trans (hb12.mono (by omega))).trans (hb13.mono (by omega))).trans (hb14.mono (by omega))).trans (hb15.mono (by omega))).trans (hb16.mono (by omega))⟩
  · have HZ := Lib.hid (szr_no (left := 1048576) (n := Tm.wts ts) (by omega))
    go_enter Try.func4, Try.ntmps4
    go_wp2_with fail
    refine (szTerms ts v _ _ (by omega) (by omega) hv).mono ?_
    rintro e w1 ⟨rfl, hb1⟩
    rw [HZ.out]
    go_wp2_with fail
    go_ret
    exact ⟨rfl, hb1⟩
end Go.Proofs.Ytmmmcfhhblmdjaa
