/- The law FnSameIs. -/
import Derived.Deep.RegionHeld3
import Derived.BigQuiet
import Derived.Test.YtblbommhodondaaRdrE
import Derived.Test.YtblbommhodondaaSmP
import Derived.Test.YtblbommhodondaaCloY
namespace Go.Proofs.Ytblbommhodondaa
open Go Go.RowKit
set_option linter.unusedVariables false
set_option linter.unusedSimpArgs false

theorem moreB_aa {s : Sg} {es : List Eqn} {a b : Tm} (h : moreB s es [a, b] = true) : moreB s es [a, a] = true := by
  have hl := moreP_len_le (es := es) (fs := es) (ms := [a, a]) (ns := [a, b]) (fun e he => he) (by simp)
  simp only [moreB, Bool.and_eq_true, decide_eq_true_eq, List.all_cons, List.all_nil, Bool.and_true] at h ⊢
  have h3 := h.2.2
  change (moreP es [a, b]).length ≤ 24 at h3
  refine ⟨h.1, ⟨h.2.1.1, h.2.1.1⟩, ?_⟩
  change (moreP es [a, a]).length ≤ 24
  omega
theorem sameIs_moreB {s : Sg} {es : List Eqn} {a b : Tm} (h : sameIsB s es a b = true) : moreB s es [a, b] = true := by
  simp only [sameIsB, Bool.and_eq_true] at h; exact h.1
theorem big_of {es : List Eqn} {a b : Tm} (h1 : es.length ≤ 13) (h2 : ∀ q ∈ es, q.a.size ≤ 45 ∧ q.b.size ≤ 45) (ha : a.size ≤ 100) (hb : b.size ≤ 100) : Tm.sizes (sidesP es ++ [a, b]) ≤ 5000 := by
  have h := sides_few es 90 (fun e he => by have := h2 e he; omega)
  rw [Tm.sizes_append]; simp only [Tm.sizes]; omega
theorem sameIs_part {s : Sg} {es : List Eqn} {a b : Tm} (k : Nat) (h0 : (sameSt s es [a, b]).1.length ≠ 0) (h : sameIsB s es a b = false) : sameIsB s (es.take k) a b = false := by
  cases hk : sameIsB s (es.take k) a b with
  | false => rfl
  | true =>
    have hm : moreB s es [a, b] = true := by
      cases hm : moreB s es [a, b] with
      | true => rfl
      | false => rw [sameSt_no hm] at h0; simp at h0
    rw [sameIs_mono (fun e he => List.mem_of_mem_take he) hk hm] at h; simp at h
/-- What a law has drawn, in three boxes. -/
structure Env5 (W : World) (n : Nat) (s : Sg) (es : List Eqn) (a b : Tm) (sa : Option Addr) (sc : Nat) (ev : Value) (ka : Option Addr) (kc : Nat) (kb : Option Addr) (kd : Nat) (sf ef fa fb : List Nat) : Prop where
  x0 : W.cell? ⟨n, 0, none⟩ = some (.slice sa s.syms.length sc)
  y0 : W.cell? ⟨n + 1, 0, none⟩ = some (.string a.name)
  y1 : W.cell? ⟨n + 1, 1, none⟩ = some (.slice ka a.kids.length kc)
  k0 : W.cell? ⟨n + 1 + 1, 0, none⟩ = some (.string b.name)
  k1 : W.cell? ⟨n + 1 + 1, 1, none⟩ = some (.slice kb b.kids.length kd)
  hs : RdVs W s.cd [.slice sa s.syms.length sc] sf
  he : Rd W (.sl (es.map Eqn.cd)) ev ef
  ha : RdVs W a.cd [.string a.name, .slice ka a.kids.length kc] fa
  hb : RdVs W b.cd [.string b.name, .slice kb b.kids.length kd] fb
theorem Env5.below {W W' : World} {n : Nat} {s : Sg} {es : List Eqn} {a b : Tm} {sa : Option Addr} {sc : Nat} {ev : Value} {ka : Option Addr} {kc : Nat} {kb : Option Addr} {kd : Nat} {sf ef fa fb : List Nat} (h : Env5 W n s es a b sa sc ev ka kc kb kd sf ef fa fb) (hb : Below W.heap.size W W') : Env5 W' n s es a b sa sc ev ka kc kb kd sf ef fa fb :=
  ⟨cell_keep h.x0 hb, cell_keep h.y0 hb, cell_keep h.y1 hb, cell_keep h.k0 hb, cell_keep h.k1 hb, h.hs.below hb, h.he.below hb, h.ha.below hb, h.hb.below hb⟩
theorem env5_new {u : World} {s : Sg} {es : List Eqn} {a b : Tm} {sa : Option Addr} {sc : Nat} {ev : Value} {ka : Option Addr} {kc : Nat} {kb : Option Addr} {kd : Nat} {sf ef fa fb : List Nat} (T U V : TypeId) (hs : RdVs u s.cd [.slice sa s.syms.length sc] sf) (he : Rd u (.sl (es.map Eqn.cd)) ev ef) (ha : RdVs u a.cd [.string a.name, .slice ka a.kids.length kc] fa) (hb : RdVs u b.cd [.string b.name, .slice kb b.kids.length kd] fb) :
    Env5 (((u.alloc (.cells #[.slice sa s.syms.length sc] T)).alloc (.cells #[.string a.name, .slice ka a.kids.length kc] U)).alloc (.cells #[.string b.name, .slice kb b.kids.length kd] V)) u.heap.size s es a b sa sc ev ka kc kb kd sf ef fa fb ∧
    Below u.heap.size u (((u.alloc (.cells #[.slice sa s.syms.length sc] T)).alloc (.cells #[.string a.name, .slice ka a.kids.length kc] U)).alloc (.cells #[.string b.name, .slice kb b.kids.length kd] V)) := by
  obtain ⟨X, Y, K, hbb, hsz⟩ := box3_new u [.slice sa s.syms.length sc] [.string a.name, .slice ka a.kids.length kc] [.string b.name, .slice kb b.kids.length kd] T U V
  exact ⟨⟨X 0 _ rfl, Y 0 _ rfl, Y 1 _ rfl, K 0 _ rfl, K 1 _ rfl, hs.below hbb, he.below hbb, ha.below hbb, hb.below hbb⟩, hbb⟩
set_option maxRecDepth 100000 in
set_option maxHeartbeats 8000000 in
theorem sameIsL_walk (v v2 : Value) (w : World) (hv : Byts w v) (hv2 : Byts w v2) :
    Calls Try.prog 5 #[v, v2] w fun e w' => e = .returned (.bool true) ∧ Below w.heap.size w w' := by
  have hv0 := hv
  obtain ⟨a9, n, cap, rfl, hn1, hn2, _⟩ := hv
  obtain ⟨a8, m, cap8, rfl, hm1, hm2, _⟩ := hv2
  by_cases hlen : n ≤ 1048576
  rotate_left
  · have hlb : decide ((1048576 : Int) < (n : Int)) = true := decide_eq_true (by omega)
    go_enter Try.func5, Try.ntmps5
    go_wp2_with fail
    go_ret
    exact ⟨rfl, Below.refl _ _⟩
  have hlb : decide ((1048576 : Int) < (n : Int)) = false := decide_eq_false (by omega)
  by_cases hlen2 : m ≤ 1048576
  rotate_left
  · have hlb2 : decide ((1048576 : Int) < (m : Int)) = true := decide_eq_true (by omega)
    go_enter Try.func5, Try.ntmps5
    go_wp2_with fail
    go_ret
    exact ⟨rfl, Below.refl _ _⟩
  have hlb2 : decide ((1048576 : Int) < (m : Int)) = false := decide_eq_false (by omega)
  go_enter Try.func5, Try.ntmps5
  go_wp2_with fail
  refine (drawSameIs_any _ _ hv0).mono ?_
  rintro e u1 ⟨⟨s, es, a, b, sa, sc, ev, ka, kc, kb, kd, sf, ef, fa, fb, hfew, hel, hes, hsa, hsb, rfl, hrs, hre, hra, hrb, _⟩, hb1⟩
  obtain ⟨E, hbb⟩ := env5_new 25 37 37 hrs hre hra hrb
  have hbig := big_of hel hes (a := a) (b := b) (by omega) (by omega)
  have hbig2 := big_of hel hes (a := b) (b := a) (by omega) (by omega)
  have hbig3 := big_of hel hes (a := a) (b := a) (by omega) (by omega)
  have hsym := sameIs_symm s es b a
  have HES := Lib.hid hes
  have hB1 := hb1.trans (hbb.mono hb1.size)
  obtain ⟨evA, evC, rfl, hec1, hec2⟩ := rd_sl_inv hre
  clear hv0 hrs hre hra hrb hbb hb1 hes
  have x0 := E.x0
  have y0 := E.y0
  have y1 := E.y1
  have k0 := E.k0
  have k1 := E.k1
  go_wp2_with fail
  generalize ((u1.alloc (.cells #[.slice sa s.syms.length sc] 25)).alloc (.cells #[.string a.name, .slice ka a.kids.length kc] 37)).alloc (.cells #[.string b.name, .slice kb b.kids.length kd] 37) = W1 at *
  refine (sameIs_any s es a b _ _ _ _ _ _ _ _ _ (by omega) (by omega) (by exact E.hs) (by exact E.he) (by exact E.ha) (by exact E.hb)).mono ?_
  rintro e W2 ⟨rfl, hb2⟩
  have E2 := E.below hb2
  have hB2 := hB1.trans (hb2.mono hB1.size)
  clear E hb2 hB1 x0 y0 y1 k0 k1
  have x0 := E2.x0
  have y0 := E2.y0
  have y1 := E2.y1
  have k0 := E2.k0
  have k1 := E2.k1
  cases hx : sameIsB s es a b
  · rw [hx] at hsym
    have HX := Lib.hid hx
    have HS := Lib.hid hsym
    clear hx hsym
    go_wp2_with fail
    refine (sameIsS_any s es a b _ _ _ _ _ _ _ _ _ (by omega) (by exact E2.hs) (by exact E2.he) (by exact E2.ha) (by exact E2.hb)).mono ?_
    rintro e W3 ⟨rfl, hb3⟩
    have E3 := E2.below hb3
    have hB3 := hB2.trans (hb3.mono hB2.size)
    clear E2 hb3 hB2 x0 y0 y1 k0 k1
    have x0 := E3.x0
    have y0 := E3.y0
    have y1 := E3.y1
    have k0 := E3.k0
    have k1 := E3.k1
    rw [HX.out]
    go_wp2_with fail
    refine (sameIs_any s es b a _ _ _ _ _ _ _ _ _ (by omega) (by omega) (by exact E3.hs) (by exact E3.he) (by exact E3.hb) (by exact E3.ha)).mono ?_
    rintro e W4 ⟨rfl, hb4⟩
    have E4 := E3.below hb4
    have hB4 := hB3.trans (hb4.mono hB3.size)
    clear E3 hb4 hB3 x0 y0 y1 k0 k1
    have x0 := E4.x0
    have y0 := E4.y0
    have y1 := E4.y1
    have k0 := E4.k0
    have k1 := E4.k1
    rw [HS.out]
    have ba := below_alloc W4 (.cells #[.string a.name, .slice ka a.kids.length kc, .string b.name, .slice kb b.kids.length kd] 37)
    go_wp2_with fail
    refine (sameSteps_any s es [a, b] _ _ _ _ _ _ _ (by omega) (by omega) (by exact E4.hs.below ba) (by exact E4.he.below ba) (by exact tms2_rdf (E4.ha.below ba) (E4.hb.below ba) (by simp) (fun j u hu => cells_new' W4 _ 37 j u hu))).mono ?_
    rintro e W5 ⟨pv, sv, fp, fs, rfl, hpr, hsr, _, hb5'⟩
    have hb5 := ba.trans (hb5'.mono (by simp))
    have E5 := E4.below hb5
    have hB5 := hB4.trans (hb5.mono hB4.size)
    clear E4 hb5 hb5' hB4 x0 y0 y1 k0 k1 ba
    have x0 := E5.x0
    have y0 := E5.y0
    have y1 := E5.y1
    have k0 := E5.k0
    have k1 := E5.k1
    obtain ⟨pa, pc, rfl, hpc1, hpc2⟩ := rd_sl_inv hpr
    obtain ⟨sva, svc, rfl, hsc1, hsc2⟩ := rd_sl_inv hsr
    clear hpr hsr
    have hkd : (es.length : Int) + 1 ≠ 0 := by omega
    have HP := Lib.hid (sameIs_part (s := s) (es := es) (a := a) (b := b) (m % (es.length + 1)))
    generalize hpl : (sameSt s es [a, b]).1.length = pl at *
    have hk : (m : Int) % ((es.length : Int) + 1) = ((m % (es.length + 1) : Nat) : Int) := rfl
    have hkl : m % (es.length + 1) ≤ es.length := by have := Nat.mod_lt m (show 0 < es.length + 1 by omega); omega
    go_upto_region 9 with fail
    rw [hk]
    clear hk
    generalize m % (es.length + 1) = k at *
    by_cases hp0 : pl = 0
    · have hpd : ((pl : Int) == 0) = true := by rw [hp0]; rfl
      go_wp2_with fail
      refine wp_region_quiet_below (by kernel_rfl) (by kernel_rfl) ?_
      repeat (go_big_quiet_step (fail))
      refine wpQuiet_nil ?_
      intro w6 hw6
      obtain ⟨⟨dq, osq⟩, hw6⟩ := hw6
      have hb6 : Below W5.heap.size W5 w6 := hw6 ▸ below_regrown W5 dq osq
      clear hw6
      go_wp2_with fail
      go_ret
      exact ⟨rfl, hB5.trans (hb6.mono hB5.size)⟩
    · have hpd : ((pl : Int) == 0) = false := beq_eq_false_iff_ne.2 (by omega)
      have HQ := Lib.hid (HP.out hp0 HX.out)
      clear HP hp0
      have hk1 : (k : Int) ≤ (evC : Int) := by omega
      have hk2 : (0 : Int) ≤ (k : Int) := by omega
      have hk3 : ¬ ((evC : Int) < (k : Int)) := by omega
      have hk4 : decide ((k : Int) < 0) = false := decide_eq_false (by omega)
      have hk5 : decide ((evC : Int) < (k : Int)) = false := decide_eq_false (by omega)
      have hbigk := big_of (es := es.take k) (a := a) (b := b) (by rw [List.length_take]; omega) (fun q hq => HES.out q (List.mem_of_mem_take hq)) (by omega) (by omega)
      have hlk : (es.take k).length ≤ 13 := by rw [List.length_take]; omega
      obtain ⟨fq, het, _⟩ := E5.he.take (i := k) (by rw [List.length_map]; omega)
      rw [← List.map_take] at het
      have hsE := E5.hs
      have haE := E5.ha
      have hbE := E5.hb
      go_wp2_with fail
      have q0 := cell_regrown x0
      have q1 := cell_regrown y0
      have q2 := cell_regrown y1
      have q3 := cell_regrown k0
      have q4 := cell_regrown k1
      refine wp_region_quiet_below (by kernel_rfl) (by kernel_rfl) ?_
      repeat (go_big_quiet_step (with_reducible refine Calls.regrown_of (sameIs_any s (es.take k) a b _ _ _ _ _ _ _ _ _ (by omega) (by omega) (hsE.below (below_regrown _ _ _)) (het.below (below_regrown _ _ _)) (haE.below (below_regrown _ _ _)) (hbE.below (below_regrown _ _ _)))))
      refine wpQuiet_nil ?_
      intro w6 hw6
      obtain ⟨⟨dq, osq⟩, hw6⟩ := hw6
      have hb6 : Below W5.heap.size W5 w6 := hw6 ▸ below_regrown W5 dq osq
      clear hw6 q0 q1 q2 q3 q4
      rw [HQ.out]
      go_wp2_with fail
      go_ret
      exact ⟨rfl, hB5.trans (hb6.mono hB5.size)⟩
  · rw [hx] at hsym
    have HX := Lib.hid hx
    have HS := Lib.hid hsym
    clear hx hsym
    go_wp2_with fail
    refine (sameIsS_any s es a b _ _ _ _ _ _ _ _ _ (by omega) (by exact E2.hs) (by exact E2.he) (by exact E2.ha) (by exact E2.hb)).mono ?_
    rintro e W3 ⟨rfl, hb3⟩
    have E3 := E2.below hb3
    have hB3 := hB2.trans (hb3.mono hB2.size)
    clear E2 hb3 hB2 x0 y0 y1 k0 k1
    have x0 := E3.x0
    have y0 := E3.y0
    have y1 := E3.y1
    have k0 := E3.k0
    have k1 := E3.k1
    rw [HX.out]
    go_wp2_with fail
    refine (sameIs_any s es b a _ _ _ _ _ _ _ _ _ (by omega) (by omega) (by exact E3.hs) (by exact E3.he) (by exact E3.hb) (by exact E3.ha)).mono ?_
    rintro e W4 ⟨rfl, hb4⟩
    have E4 := E3.below hb4
    have hB4 := hB3.trans (hb4.mono hB3.size)
    clear E3 hb4 hB3 x0 y0 y1 k0 k1
    have x0 := E4.x0
    have y0 := E4.y0
    have y1 := E4.y1
    have k0 := E4.k0
    have k1 := E4.k1
    rw [HS.out]
    have ba := below_alloc W4 (.cells #[.string a.name, .slice ka a.kids.length kc, .string b.name, .slice kb b.kids.length kd] 37)
    go_wp2_with fail
    refine (sameSteps_any s es [a, b] _ _ _ _ _ _ _ (by omega) (by omega) (by exact E4.hs.below ba) (by exact E4.he.below ba) (by exact tms2_rdf (E4.ha.below ba) (E4.hb.below ba) (by simp) (fun j u hu => cells_new' W4 _ 37 j u hu))).mono ?_
    rintro e W5 ⟨pv, sv, fp, fs, rfl, hpr, hsr, _, hb5'⟩
    have hb5 := ba.trans (hb5'.mono (by simp))
    have E5 := E4.below hb5
    have hB5 := hB4.trans (hb5.mono hB4.size)
    clear E4 hb5 hb5' hB4 x0 y0 y1 k0 k1 ba
    have x0 := E5.x0
    have y0 := E5.y0
    have y1 := E5.y1
    have k0 := E5.k0
    have k1 := E5.k1
    obtain ⟨pa, pc, rfl, hpc1, hpc2⟩ := rd_sl_inv hpr
    obtain ⟨sva, svc, rfl, hsc1, hsc2⟩ := rd_sl_inv hsr
    clear hpr hsr
    have hkd : (es.length : Int) + 1 ≠ 0 := by omega
    have HP := Lib.hid (sameIs_part (s := s) (es := es) (a := a) (b := b) (m % (es.length + 1)))
    generalize (sameSt s es [a, b]).1.length = pl at *
    have HM := Lib.hid (sameIs_moreB HX.out)
    obtain ⟨sn, hta, htb⟩ := sameIs_sort HX.out
    have HTA := Lib.hid hta
    have HTB := Lib.hid htb
    have HAA := Lib.hid (sameIs_refl (moreB_aa HM.out))
    clear hta htb HP
    have hsn : (sn == sn) = true := by simp
    go_wp2_with fail
    refine (termSort_any s a _ _ _ _ _ (by exact E5.hs) (by exact E5.ha)).mono ?_
    rintro e W6 ⟨rfl, hb6⟩
    rw [HTA.out]
    simp only [Option.getD_some, Option.isSome_some]
    have E6 := E5.below hb6
    have hB6 := hB5.trans (hb6.mono hB5.size)
    clear E5 hb6 hB5 x0 y0 y1 k0 k1
    have x0 := E6.x0
    have y0 := E6.y0
    have y1 := E6.y1
    have k0 := E6.k0
    have k1 := E6.k1
    go_wp2_with fail
    refine (termSort_any s b _ _ _ _ _ (by exact E6.hs) (by exact E6.hb)).mono ?_
    rintro e W7 ⟨rfl, hb7⟩
    rw [HTB.out]
    simp only [Option.getD_some, Option.isSome_some]
    have E7 := E6.below hb7
    have hB7 := hB6.trans (hb7.mono hB6.size)
    clear E6 hb7 hB6 x0 y0 y1 k0 k1
    have x0 := E7.x0
    have y0 := E7.y0
    have y1 := E7.y1
    go_wp2_with fail
    refine (sameIs_any s es a a _ _ _ _ _ _ _ _ _ (by omega) (by omega) (by exact E7.hs) (by exact E7.he) (by exact E7.ha) (by exact E7.ha)).mono ?_
    rintro e W8 ⟨rfl, hb8⟩
    rw [HAA.out]
    go_wp2_with fail
    go_ret
    exact ⟨rfl, hB7.trans (hb8.mono hB7.size)⟩
end Go.Proofs.Ytblbommhodondaa
