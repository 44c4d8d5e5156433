/- Parts of the proof: StkO. -/
import Derived.BigQuiet
import Derived.Lib.Hide
import Derived.Test.YticlgpkjdmcnaaaPa33
import Derived.Test.YticlgpkjdmcnaaaPa25
import Derived.Deep.RegionHeld3
import Derived.Test.YticlgpkjdmcnaaaPa31
import Derived.Test.YticlgpkjdmcnaaaPa29
/- Well-formed forms in a language: both sides. -/
namespace Go.Proofs.Yticlgpkjdmcnaaa
open Go Go.RowKit
set_option linter.unusedVariables false
set_option linter.unusedSimpArgs false
def zcB (x : Atm) : Lt := ⟨x, false⟩
def zab (l : List Atm) : List Lt := l.map zcB
theorem zc3 (l : List Atm) (k : Nat) (h : k < l.length) : zab (l.take (k + 1)) = zab (l.take k) ++ [zcB l[k]] := by
 unfold zab; rw [zd4 h, zd8]; rfl
theorem litOf_wt (x : Atm) : wtV (zcB x).cd = wtV x.cd := (Lt.wt_atom (zcB x)).symm
theorem zbW : ∀ (l : List Atm), wtR ((zab l).map Lt.cd) = wtR (l.map Atm.cd)
 | [] => rfl
 | x :: l => by
  have h1 := zbW l
  have h2 := litOf_wt x
  simp only [zab, List.map_cons, zZ] at h1 ⊢
  omega
theorem zcC {l : List Atm} (h : wtR (l.map Atm.cd) ≤ 1048576) : ∀ x ∈ zab l, x.atom.small := fun x hx => by
 have := zchU (cd := Lt.cd) hx
 rw [zbW] at this
 exact Lt.small_of (by omega)
theorem litsOf_U (l : List Atm) : Tm.sizes (zah (zab l)) ≤ 2 * l.length + wtR (l.map Atm.cd) := by
 have h := zdn (zab l)
 rw [zbW] at h
 simpa [zab] using h
def zcj (s : Sg) (fs : List Fm) : Bool := s.okB && (zaS fs && za2 s (zab (zaj fs)))
theorem fmsIn_sig {s : Sg} {fs : List Fm} (h : s.okB = false) : zcj s fs = false := by unfold zcj; rw [h]; rfl
theorem fmsIn_no {s : Sg} {fs : List Fm} (h : zaS fs = false) : zcj s fs = false := by unfold zcj; rw [h]; simp
theorem fmsIn_yes {s : Sg} {fs : List Fm} (h : s.okB = true) (h' : zaS fs = true) : zcj s fs = za2 s (zab (zaj fs)) := by unfold zcj; rw [h, h']; rfl
theorem zc4 (fs : List Fm) : wtR ((zaj fs).map Atm.cd) ≤ wtR (fs.map Fm.cd) ∧ (zaj fs).length ≤ 6 := by
 unfold zaj
 split
 ·rename_i h
  have h1 := Fm.adds_wt fs []
  simp only [zaS, zeb, decide_eq_true_eq] at h
  simp only [List.map_nil, wtR, Nat.zero_add] at h1
  exact ⟨h1, h.2.2⟩
 ·simp [wtR]
theorem zdM {fs : List Fm} (h : zaS fs = true) : Fm.tells [] fs = zaj fs := by
 rw [zcw h]
 simp only [zaS, zeb] at h
 exact (Fm.ok_adds fs [] h.2.1).symm
set_option maxRecDepth 100000 in
set_option maxHeartbeats 1000000 in
theorem zaZ (l : List Atm) (v : Value) (g : List Nat) (w : World) (hlen : l.length ≤ 1000000000) (hv : Rd w (.sl (l.map Atm.cd)) v g) :
  Calls Try.prog 39 #[v] w fun e w' => (∃ rv rf, e = .returned rv ∧ Rd w' (.sl ((zab l).map Lt.cd)) rv rf) ∧ Below w.heap.size w w' := by
 obtain ⟨a, cap, rfl, hc1, hc2⟩ := zi hv
 have hfl := hv.lt _
 go_enter Try.func39, Try.ntmps39
 go_wp2_with fail
 go_loopw [3, 4] (fun ov i wr => ∃ (k : Nat) (fp : List Nat), k ≤ l.length ∧ i = .int .i64 k ∧ Own wr w.heap.size 50 10 ov ((zab (l.take k)).map Lt.cd) fp ∧ Below w.heap.size w wr) (fun _ i _ => l.length - (intOf i).toNat)
 case atStart => exact ⟨0, [], Nat.zero_le _, rfl, Own.empty _ _ _ _ (Nat.le_refl _), zb _ _⟩
 case round =>
  obtain ⟨k, fp, hkl, rfl, hown, hb⟩ := hrel
  have hz := hb.size
  by_cases hlt : k < l.length
  ·obtain ⟨b, off, rfl, hbs, _⟩ := zp hv (by omega)
   have hbz : b < wr.heap.size := by omega
   obtain ⟨a2, c2, f2, a4, c4, f4, a5, c5, f5, a6, c6, f6, d0, d1, d2, d3, d4, d5, d6, d7, d8, n0, n1, n2, n3, n4, n5, n6, n7, hsub⟩ := Atm.at (hv.below hb) hlt
   have hBA : Below wr.heap.size wr (wr.alloc (.cells #[.int .i64 l[k].kind, .string l[k].a.name, .slice a2 l[k].a.kids.length c2, .string l[k].b.name, .slice a4 l[k].b.kids.length c4, .slice a5 l[k].nums.length c5, .slice a6 l[k].times.length c6, .int .i64 l[k].bound, .bool l[k].strict, .bool false] 50)) := zb _ _
   have hB2 := hb.trans (hBA.mono hz)
   have hl : ((zab (l.take k)).map Lt.cd).length = k := by simp [zab]; omega
   have hnews : RdVs wr [(zcB l[k]).cd].flatten [.int .i64 l[k].kind, .string l[k].a.name, .slice a2 l[k].a.kids.length c2, .string l[k].b.name, .slice a4 l[k].b.kids.length c4, .slice a5 l[k].nums.length c5, .slice a6 l[k].times.length c6, .int .i64 l[k].bound, .bool l[k].strict, .bool false] (f2 ++ (f4 ++ (f5 ++ f6))) := by
    have := Lt.close (x := zcB l[k]) n0 n1 n2 n3 n4 n5 n6 n7
    simpa [zcB] using this
   have hne : ∀ y ∈ f2 ++ (f4 ++ (f5 ++ f6)), u3.ownBlock ≠ some y := fun y hy e => by have h1 := (hown.block e).1; have h2 := hfl y (hsub y hy); omega
   have HT := Lib.hid (zc3 l k hlt)
   go_wp2_with (at_builtin; refine zH slTyLitS rfl _ _ rfl w.heap.size _ _ _ rfl (hown.below hBA) ⟨wr.heap.size, 0, none⟩ 1 1 [(zcB l[k]).cd] [.int .i64 l[k].kind, .string l[k].a.name, .slice a2 l[k].a.kids.length c2, .string l[k].b.name, .slice a4 l[k].b.kids.length c4, .slice a5 l[k].nums.length c5, .slice a6 l[k].times.length c6, .int .i64 l[k].bound, .bool l[k].strict, .bool false] (f2 ++ (f4 ++ (f5 ++ f6))) rfl rfl (hnews.below hBA) ?k ?cells ?na ?bytes ?len ?base ?next)
   case k => simp [Lt.cd, Atm.cd_len]
   case cells =>
    intro j u hj
    have := zr wr [.int .i64 l[k].kind, .string l[k].a.name, .slice a2 l[k].a.kids.length c2, .string l[k].b.name, .slice a4 l[k].b.kids.length c4, .slice a5 l[k].nums.length c5, .slice a6 l[k].times.length c6, .int .i64 l[k].bound, .bool l[k].strict, .bool false] 50 j u hj
    simpa using this
   case na => exact hne
   case bytes => rw [hl]; omega
   case len => rw [hl]; omega
   case base => simp; omega
   case next =>
    intro v' w4 hown4 hg hv' hs4
    have hb4 := zk hB2 hg (by simp; omega) (fun q hq => (hown.block hq).1)
    clear hl
    go_wp2_with fail
    go_roundw
    case rel =>
     refine ⟨k + 1, fp ++ (f2 ++ (f4 ++ (f5 ++ f6))), by omega, by go_num, ?_, hb4⟩
     rw [HT.out, zd8]; exact hown4
    case measure => simp [intOf]; omega
  ·have he : l.take k = l := List.take_of_length_le (by omega)
   rw [he] at hown
   obtain ⟨oa, on, oc, rfl⟩ := hown.form'
   obtain ⟨fp', hr⟩ := hown.rd'
   clear he
   go_wp2_with fail
   go_ret
   exact ⟨⟨_, fp', rfl, hr⟩, hb⟩
theorem zbX (s : Sg) (b : Bool) (hs : s.okB = b) (vs : List Value) (f : List Nat) (w : World) (hv : RdVs w s.cd vs f) :
  Calls Try.prog 41 #[.agg vs.toArray] w fun e w' => e = .returned (.bool b) ∧ Below w.heap.size w w' := by subst hs; exact zaY s vs f w hv
theorem zbY (fs : List Fm) (b : Bool) (hf : zaS fs = b) (v : Value) (ff : List Nat) (w : World) (hbig : fs.length + wtR (fs.map Fm.cd) ≤ 1048576) (hv : Rd w (.sl (fs.map Fm.cd)) v ff) :
  Calls Try.prog 57 #[v] w fun e w' => e = .returned (.bool b) ∧ Below w.heap.size w w' := by subst hf; exact zcy fs v ff w hbig hv
theorem told0_any (fs : List Fm) (hf : zaS fs = true) (v : Value) (ff : List Nat) (w : World) (hbig : fs.length + wtR (fs.map Fm.cd) ≤ 1048576) (hv : Rd w (.sl (fs.map Fm.cd)) v ff) :
  Calls Try.prog 58 #[v] w fun e w' => (∃ rv rf, e = .returned rv ∧ Rd w' (.sl ((zaj fs).map Atm.cd)) rv rf) ∧ Below w.heap.size w w' :=
 (zbV fs v ff w hbig hv).mono fun e w' ⟨rv, fp, h1, h2, _, h4⟩ => by
  rw [zdM hf] at h2
  obtain ⟨fp', h5⟩ := h2.rd'
  exact ⟨⟨rv, fp', h1, h5⟩, h4⟩
set_option maxRecDepth 100000 in
set_option maxHeartbeats 4000000 in
theorem zcD (s : Sg) (fs : List Fm) (us : List Value) (v : Value) (f0 ff : List Nat) (w : World) (hbig : fs.length + wtR (fs.map Fm.cd) ≤ 1048576) (hs : RdVs w s.cd us f0) (hv : Rd w (.sl (fs.map Fm.cd)) v ff) :
  Calls Try.prog 43 #[.agg us.toArray, v] w fun e w' => e = .returned (.bool (zcj s fs)) ∧ Below w.heap.size w w' := by
 obtain ⟨a0, c0, g0, rfl, _, n0⟩ := Sg.open hs
 obtain ⟨p1, q1, rfl, hc1, hd1⟩ := zi hv
 clear n0
 obtain ⟨hwt, hwl⟩ := zc4 fs
 have hsm := zcC (l := zaj fs) (by omega)
 have hbg := litsOf_U (zaj fs)
 have X0 := zy w #[.slice a0 s.syms.length c0] 25
 have hB := zb w (.cells #[.slice a0 s.syms.length c0] 25)
 have hz0 := hB.size
 have hlX0 : w.heap.size < (w.alloc (.cells #[.slice a0 s.syms.length c0] 25)).heap.size := by simp
 go_enter Try.func43, Try.ntmps43
 go_wp2_with fail
 cases hso : s.okB
 ·have HE := Lib.hid (fmsIn_sig (fs := fs) hso)
  generalize hWW : w.alloc (.cells #[.slice a0 s.syms.length c0] 25) = W0 at *
  clear hWW
  have HL0 := Lib.hid (fun (W' : World) (hb' : Below W0.heap.size W0 W') => zbX s false hso _ _ W' (hs.below (hB.trans (hb'.mono hB.size))))
  have C0_0 := X0 0
  simp only [zd2, zd0, zd1] at C0_0
  clear X0
  have qC0_0 := cell_regrown C0_0
  clear C0_0
  refine wp_region_quiet_below (by kernel_rfl) (by kernel_rfl) ?_
  repeat (first | go_big_quiet_skip | quiet_step (first | (go_at_call 41; with_reducible refine Calls.regrown_of (HL0.out _ (below_regrown _ _ _)))))
  refine wpQuiet_nil ?_
  intro w9 hw2
  obtain ⟨⟨dq, osq⟩, hw2⟩ := hw2
  have hb9 : Below (W0).heap.size (W0) w9 := hw2 ▸ below_regrown (W0) dq osq
  clear hw2 qC0_0
  go_wp2_with fail
  go_ret
  exact ⟨retB HE.out.symm, hB.trans (hb9.mono hz0)⟩
 ·cases hfo : zaS fs
  ·have HE := Lib.hid (fmsIn_no (s := s) hfo)
   generalize hWW : w.alloc (.cells #[.slice a0 s.syms.length c0] 25) = W0 at *
   clear hWW
   have HL0 := Lib.hid (fun (W' : World) (hb' : Below W0.heap.size W0 W') => zbX s true hso _ _ W' (hs.below (hB.trans (hb'.mono hB.size))))
   have HL1 := Lib.hid (fun (W' : World) (hb' : Below W0.heap.size W0 W') => zbY fs false hfo _ _ W' hbig (hv.below (hB.trans (hb'.mono hB.size))))
   have C0_0 := X0 0
   simp only [zd2, zd0, zd1] at C0_0
   clear X0
   have qC0_0 := cell_regrown C0_0
   clear C0_0
   refine wp_region_quiet_below (by kernel_rfl) (by kernel_rfl) ?_
   repeat (first | go_big_quiet_skip | quiet_step (first | (go_at_call 41; with_reducible refine Calls.regrown_of (HL0.out _ (below_regrown _ _ _))) | (go_at_call 57; with_reducible refine Calls.regrown_of (HL1.out _ (below_regrown _ _ _)))))
   refine wpQuiet_nil ?_
   intro w9 hw2
   obtain ⟨⟨dq, osq⟩, hw2⟩ := hw2
   have hb9 : Below (W0).heap.size (W0) w9 := hw2 ▸ below_regrown (W0) dq osq
   clear hw2 qC0_0
   go_wp2_with fail
   go_ret
   exact ⟨retB HE.out.symm, hB.trans (hb9.mono hz0)⟩
  ·have HE := Lib.hid (fmsIn_yes hso hfo)
   have C0_0 := X0 0
   simp only [zd2, zd0, zd1] at C0_0
   first | go_region_held3 (fun W => W.cell? ⟨w.heap.size, 0, none⟩ = some (.slice a0 s.syms.length c0) ∧ Below w.heap.size w W)
    (first | exact ⟨C0_0, hB.drew⟩ | (refine ⟨?_, (hB).trans ((zc hbR0).mono (hB).size)⟩ <;> (refine (za ?_ (zc hbR0)); assumption)) | (refine (za ?_ (zc hbR0)); assumption) | exact (hB).trans ((zc hbR0).mono (hB).size) | (refine ⟨?_, ((hB).trans ((zc hbR0).mono (hB).size)).trans (hbR1.mono ((hB).trans ((zc hbR0).mono (hB).size)).size)⟩ <;> (refine (za (za ?_ (zc hbR0)) hbR1); assumption)) | (refine (za (za ?_ (zc hbR0)) hbR1); assumption) | exact ((hB).trans ((zc hbR0).mono (hB).size)).trans (hbR1.mono ((hB).trans ((zc hbR0).mono (hB).size)).size) | (refine ⟨?_, (((hB).trans ((zc hbR0).mono (hB).size)).trans (hbR1.mono ((hB).trans ((zc hbR0).mono (hB).size)).size)).trans (hbR2.mono (((hB).trans ((zc hbR0).mono (hB).size)).trans (hbR1.mono ((hB).trans ((zc hbR0).mono (hB).size)).size)).size)⟩ <;> (refine (za (za (za ?_ (zc hbR0)) hbR1) hbR2); assumption)) | (refine (za (za (za ?_ (zc hbR0)) hbR1) hbR2); assumption) | exact (((hB).trans ((zc hbR0).mono (hB).size)).trans (hbR1.mono ((hB).trans ((zc hbR0).mono (hB).size)).size)).trans (hbR2.mono (((hB).trans ((zc hbR0).mono (hB).size)).trans (hbR1.mono ((hB).trans ((zc hbR0).mono (hB).size)).size)).size) | (refine ⟨?_, ((((hB).trans ((zc hbR0).mono (hB).size)).trans (hbR1.mono ((hB).trans ((zc hbR0).mono (hB).size)).size)).trans (hbR2.mono (((hB).trans ((zc hbR0).mono (hB).size)).trans (hbR1.mono ((hB).trans ((zc hbR0).mono (hB).size)).size)).size)).trans (hbR3.mono ((((hB).trans ((zc hbR0).mono (hB).size)).trans (hbR1.mono ((hB).trans ((zc hbR0).mono (hB).size)).size)).trans (hbR2.mono (((hB).trans ((zc hbR0).mono (hB).size)).trans (hbR1.mono ((hB).trans ((zc hbR0).mono (hB).size)).size)).size)).size)⟩ <;> (refine (za (za (za (za ?_ (zc hbR0)) hbR1) hbR2) hbR3); assumption)) | (refine (za (za (za (za ?_ (zc hbR0)) hbR1) hbR2) hbR3); assumption) | exact ((((hB).trans ((zc hbR0).mono (hB).size)).trans (hbR1.mono ((hB).trans ((zc hbR0).mono (hB).size)).size)).trans (hbR2.mono (((hB).trans ((zc hbR0).mono (hB).size)).trans (hbR1.mono ((hB).trans ((zc hbR0).mono (hB).size)).size)).size)).trans (hbR3.mono ((((hB).trans ((zc hbR0).mono (hB).size)).trans (hbR1.mono ((hB).trans ((zc hbR0).mono (hB).size)).size)).trans (hbR2.mono (((hB).trans ((zc hbR0).mono (hB).size)).trans (hbR1.mono ((hB).trans ((zc hbR0).mono (hB).size)).size)).size)).size) | (refine ⟨?_, (((((hB).trans ((zc hbR0).mono (hB).size)).trans (hbR1.mono ((hB).trans ((zc hbR0).mono (hB).size)).size)).trans (hbR2.mono (((hB).trans ((zc hbR0).mono (hB).size)).trans (hbR1.mono ((hB).trans ((zc hbR0).mono (hB).size)).size)).size)).trans (hbR3.mono ((((hB).trans ((zc hbR0).mono (hB).size)).trans (hbR1.mono ((hB).trans ((zc hbR0).mono (hB).size)).size)).trans (hbR2.mono (((hB).trans ((zc hbR0).mono (hB).size)).trans (hbR1.mono ((hB).trans ((zc hbR0).mono (hB).size)).size)).size)).size)).trans (hbR4.mono (((((hB).trans ((zc hbR0).mono (hB).size)).trans (hbR1.mono ((hB).trans ((zc hbR0).mono (hB).size)).size)).trans (hbR2.mono (((hB).trans ((zc hbR0).mono (hB).size)).trans (hbR1.mono ((hB).trans ((zc hbR0).mono (hB).size)).size)).size)).trans (hbR3.mono ((((hB).trans ((zc hbR0).mono (hB).size)).trans (hbR1.mono ((hB).trans ((zc hbR0).mono (hB).size)).size)).trans (hbR2.mono (((hB).trans ((zc hbR0).mono (hB).size)).trans (hbR1.mono ((hB).trans ((zc hbR0).mono (hB).size)).size)).size)).size)).size)⟩ <;> (refine (za (za (za (za (za ?_ (zc hbR0)) hbR1) hbR2) hbR3) hbR4); assumption)) | (refine (za (za (za (za (za ?_ (zc hbR0)) hbR1) hbR2) hbR3) hbR4); assumption) | exact (((((hB).trans ((zc hbR0).mono (hB).size)).trans (hbR1.mono ((hB).trans ((zc hbR0).mono (hB).size)).size)).trans (hbR2.mono (((hB).trans ((zc hbR0).mono (hB).size)).trans (hbR1.mono ((hB).trans ((zc hbR0).mono (hB).size)).size)).size)).trans (hbR3.mono ((((hB).trans ((zc hbR0).mono (hB).size)).trans (hbR1.mono ((hB).trans ((zc hbR0).mono (hB).size)).size)).trans (hbR2.mono (((hB).trans ((zc hbR0).mono (hB).size)).trans (hbR1.mono ((hB).trans ((zc hbR0).mono (hB).size)).size)).size)).size)).trans (hbR4.mono (((((hB).trans ((zc hbR0).mono (hB).size)).trans (hbR1.mono ((hB).trans ((zc hbR0).mono (hB).size)).size)).trans (hbR2.mono (((hB).trans ((zc hbR0).mono (hB).size)).trans (hbR1.mono ((hB).trans ((zc hbR0).mono (hB).size)).size)).size)).trans (hbR3.mono ((((hB).trans ((zc hbR0).mono (hB).size)).trans (hbR1.mono ((hB).trans ((zc hbR0).mono (hB).size)).size)).trans (hbR2.mono (((hB).trans ((zc hbR0).mono (hB).size)).trans (hbR1.mono ((hB).trans ((zc hbR0).mono (hB).size)).size)).size)).size)).size))
    (first | (go_at_call 41; (with_reducible refine (zbX s true hso _ _ _ (by exact hs.below (hB.drew))).mono ?_); rintro e wR0 ⟨rfl, hbR0⟩) | (go_at_call 57; (with_reducible refine (zbY fs true hfo _ _ _ hbig (by exact hv.below ((hB).trans ((zc hbR0).mono (hB).size)))).mono ?_); rintro e wR1 ⟨rfl, hbR1⟩) | (go_at_call 58; (with_reducible refine (told0_any fs hfo _ _ _ hbig (by exact hv.below (((hB).trans ((zc hbR0).mono (hB).size)).trans (hbR1.mono ((hB).trans ((zc hbR0).mono (hB).size)).size)))).mono ?_); rintro e wR2 ⟨⟨av, af, rfl, ar⟩, hbR2⟩) | (go_at_call 39; (with_reducible refine (zaZ (zaj fs) _ _ _ (by omega) (by exact ar)).mono ?_); rintro e wR3 ⟨⟨lv, lf, rfl, lr⟩, hbR3⟩) | (go_at_call 38; (with_reducible refine (zaP s (zab (zaj fs)) _ _ _ _ _ hsm (by omega) (by exact hs.below (((((hB).trans ((zc hbR0).mono (hB).size)).trans (hbR1.mono ((hB).trans ((zc hbR0).mono (hB).size)).size)).trans (hbR2.mono (((hB).trans ((zc hbR0).mono (hB).size)).trans (hbR1.mono ((hB).trans ((zc hbR0).mono (hB).size)).size)).size)).trans (hbR3.mono ((((hB).trans ((zc hbR0).mono (hB).size)).trans (hbR1.mono ((hB).trans ((zc hbR0).mono (hB).size)).size)).trans (hbR2.mono (((hB).trans ((zc hbR0).mono (hB).size)).trans (hbR1.mono ((hB).trans ((zc hbR0).mono (hB).size)).size)).size)).size))) (by exact lr)).mono ?_); rintro e wR4 ⟨rfl, hbR4⟩)) | fail
   have hb := zc hbR0
   clear hbR0
   replace X0 := zd X0 hlX0 hb
   replace hB := hB.trans (hb.mono hz0)
   have hzn := hb.size
   replace hlX0 := zd3 hlX0 hzn
   replace hz0 := Nat.le_trans hz0 hzn
   clear hb hzn
   have hb := hbR1
   clear hbR1
   replace X0 := zd X0 hlX0 hb
   replace hB := hB.trans (hb.mono hz0)
   have hzn := hb.size
   replace hlX0 := zd3 hlX0 hzn
   replace hz0 := Nat.le_trans hz0 hzn
   clear hb hzn
   have hb := hbR2
   clear hbR2
   replace X0 := zd X0 hlX0 hb
   replace hB := hB.trans (hb.mono hz0)
   have hzn := hb.size
   replace hlX0 := zd3 hlX0 hzn
   replace hz0 := Nat.le_trans hz0 hzn
   clear hb hzn
   have hb := hbR3
   clear hbR3
   replace X0 := zd X0 hlX0 hb
   replace hB := hB.trans (hb.mono hz0)
   have hzn := hb.size
   replace hlX0 := zd3 hlX0 hzn
   replace hz0 := Nat.le_trans hz0 hzn
   clear hb hzn
   have hb := hbR4
   clear hbR4
   replace X0 := zd X0 hlX0 hb
   replace hB := hB.trans (hb.mono hz0)
   have hzn := hb.size
   replace hlX0 := zd3 hlX0 hzn
   replace hz0 := Nat.le_trans hz0 hzn
   clear hb hzn
   clear C0_0
   go_wp2_with fail
   go_ret
   exact ⟨retB HE.out.symm, hB⟩
end Go.Proofs.Yticlgpkjdmcnaaa
/- StackOk: both sides. -/
namespace Go.Proofs.Yticlgpkjdmcnaaa
open Go Go.RowKit
set_option linter.unusedVariables false
set_option linter.unusedSimpArgs false
theorem flat_wt : ∀ (ls : List (List Fm)), ls.flatten.length + wtR (ls.flatten.map Fm.cd) ≤ wtR (ls.map zx)
 | [] => by simp [wtR]
 | l :: ls => by
  have h := flat_wt ls
  simp only [List.flatten_cons, zd7, zd8, zU, List.map_cons, zZ, zx, zao] at h ⊢
  omega
theorem Stk.flat_big {k : Stk} (h : wtV k.cd ≤ 1048576) : k.levels.flatten.length + wtR (k.levels.flatten.map Fm.cd) ≤ 1048576 := by
 have h1 := flat_wt k.levels
 simp only [Stk.cd, zF, zao] at h
 omega
theorem flat_succ (ls : List (List Fm)) (k : Nat) (h : k < ls.length) : (ls.take (k + 1)).flatten = (ls.take k).flatten ++ ls[k] := by
 rw [zd4 h, List.flatten_append]; simp
theorem lvl_len (ls : List (List Fm)) (k : Nat) : (ls.take k).flatten.length ≤ ls.flatten.length := by
 have h : ls.flatten = (ls.take k).flatten ++ (ls.drop k).flatten := by rw [← List.flatten_append, List.take_append_drop]
 rw [h, zd7]; omega
def Stk.okK (k : Stk) : Bool := (decide ((1 : Int) ≤ (k.levels.length : Int)) && decide ((k.levels.length : Int) ≤ 4)) && zcj k.sig k.levels.flatten
theorem Stk.okK_no {k : Stk} (h : (decide ((1 : Int) ≤ (k.levels.length : Int)) && decide ((k.levels.length : Int) ≤ 4)) = false) : k.okK = false := by unfold Stk.okK; rw [h]; rfl
theorem Stk.okK_yes {k : Stk} (h : (decide ((1 : Int) ≤ (k.levels.length : Int)) && decide ((k.levels.length : Int) ≤ 4)) = true) : k.okK = zcj k.sig k.levels.flatten := by unfold Stk.okK; rw [h]; rfl
theorem zbE {B k : Nat} {a w : World} (h : Below B a w) : Below B a (w.drewN k) := ⟨h.os, h.tape, h.output, h.size, h.block⟩
set_option maxHeartbeats 2000000 in
theorem zcE (k : Stk) (vs : List Value) (f : List Nat) (w : World) (hbig : k.levels.flatten.length + wtR (k.levels.flatten.map Fm.cd) ≤ 1048576) (hv : RdVs w k.cd vs f) :
  Calls Try.prog 44 #[.agg vs.toArray] w fun e w' => (∃ rv rf, e = .returned rv ∧ Rd w' (.sl (k.levels.flatten.map Fm.cd)) rv rf) ∧ Below w.heap.size w w' := by
 obtain ⟨a0, c0, f0, a1, c1, f1, rfl, _, m0, m1⟩ := Stk.open hv
 obtain ⟨ls, hls⟩ : ∃ ls, ls = k.levels := ⟨_, rfl⟩
 rw [← hls] at m1 hbig ⊢
 have HLS := Lib.hid hls
 have hlen := zap m1
 have hfl := m1.lt _
 have hb0 := zb w (.cells #[.slice a0 k.sig.syms.length c0, .slice a1 ls.length c1] 28)
 clear hls
 go_enter Try.func44, Try.ntmps44
 go_wp2_with fail
 go_loopw [3, 4] (fun ov i wr => ∃ (j : Nat) (fp : List Nat), j ≤ ls.length ∧ i = .int .i64 j ∧ Own wr (w.heap.size + 1) 52 12 ov ((ls.take j).flatten.map Fm.cd) fp ∧ Below (w.heap.size + 1) (w.alloc (.cells #[.slice a0 k.sig.syms.length c0, .slice a1 ls.length c1] 28)) wr) (fun _ i _ => ls.length - (intOf i).toNat)
 case atStart => exact ⟨0, [], Nat.zero_le _, rfl, by simpa using Own.empty (w.alloc (.cells #[.slice a0 k.sig.syms.length c0, .slice a1 ls.length c1] 28)) (w.heap.size + 1) 52 12 (by simp), (Below.refl _ _).alloc (by simp) _⟩
 case round =>
  obtain ⟨j, fp, hjl, rfl, hown, hbx⟩ := hrel
  obtain ⟨X0, hzz, hb⟩ := box1 (w := w) (wr := wr) (cs := #[.slice a0 k.sig.syms.length c0, .slice a1 ls.length c1]) (T := 28) hbx
  have C0 := X0 0
  have C1 := X0 1
  simp only [zd2, zd0, zd1] at C0 C1
  clear X0
  have hz := hb.size
  obtain ⟨es, hes⟩ : ∃ es, es = (ls.take j).flatten := ⟨_, rfl⟩
  rw [← hes] at hown
  by_cases hlt : j < ls.length
  ·obtain ⟨b, off, rfl, hbs, _⟩ := zp m1 (by omega)
   have hbz : b < wr.heap.size := by omega
   obtain ⟨ga, gc, gf, gd, gr, gsub⟩ := zaN (m1.below hb) hlt
   have HT := Lib.hid (flat_succ ls j hlt)
   have hl1 := lvl_len ls (j + 1)
   rw [HT.out, zd7, ← hes] at hl1
   have HEQ := Lib.hid hes
   clear hes
   go_wp2_with (at_builtin; refine zar zai rfl _ _ rfl (w.heap.size + 1) _ _ _ rfl hown (ls[j].map Fm.cd) _ gf rfl gr ?k ?na ?bytes ?len ?base ?next)
   case k => simp only [List.mem_map]; rintro e ⟨t, _, rfl⟩; exact Fm.cd_len t
   case na =>
    intro y hy e
    have h1 := (hown.block e).1
    have h2 := hfl y (gsub y hy)
    omega
   case bytes => simp only [zea]; omega
   case len => simp only [zea]; omega
   case base => omega
   case next =>
    intro v' w4 nfp hnf hown4 hg hv' hs4
    have hb4 := zk hbx hg (by omega) (fun q hq => (hown.block hq).1)
    clear hg hs4 hv'
    go_wp2_with fail
    go_roundw
    case rel =>
     refine ⟨j + 1, fp ++ nfp, by omega, by go_num, ?_, hb4⟩
     rw [HT.out, zd8, ← HEQ.out]; exact hown4
    case measure => simp [intOf]; omega
  ·have he : ls.take j = ls := List.take_of_length_le (by omega)
   rw [hes, he] at hown
   clear he hes
   obtain ⟨oa, on, oc, rfl⟩ := hown.form'
   obtain ⟨fp', hr⟩ := hown.rd'
   go_wp2_with fail
   go_ret
   exact ⟨⟨_, fp', rfl, hr⟩, hb⟩
set_option maxRecDepth 100000 in
set_option maxHeartbeats 4000000 in
theorem zaJ (k : Stk) (vs : List Value) (f : List Nat) (w : World) (hbig : wtV k.cd ≤ 1048576) (hv : RdVs w k.cd vs f) :
  Calls Try.prog 26 #[.agg vs.toArray] w fun e w' => e = .returned (.bool k.okK) ∧ Below w.heap.size w w' := by
 have hv0 := hv
 obtain ⟨a0, c0, f0, a1, c1, f1, rfl, _, m0, m1⟩ := Stk.open hv
 have hs := Sg.close m0
 have hfb := Stk.flat_big hbig
 have hlen := zap m1
 clear hv m0 m1
 have X0 := zy w #[.slice a0 k.sig.syms.length c0, .slice a1 k.levels.length c1] 28
 have hB := zb w (.cells #[.slice a0 k.sig.syms.length c0, .slice a1 k.levels.length c1] 28)
 have hz0 := hB.size
 have hlX0 : w.heap.size < (w.alloc (.cells #[.slice a0 k.sig.syms.length c0, .slice a1 k.levels.length c1] 28)).heap.size := by simp
 go_enter Try.func26, Try.ntmps26
 go_wp2_with fail
 by_cases h1 : 1 ≤ k.levels.length
 ·have d1 : decide ((1 : Int) ≤ (k.levels.length : Int)) = true := by simp; omega
  by_cases h2 : k.levels.length ≤ 4
  ·have d2 : decide ((k.levels.length : Int) ≤ 4) = true := by simp; omega
   have HE := Lib.hid (Stk.okK_yes (k := k) (by rw [d1, d2]; rfl))
   have C0_0 := X0 0
   have C0_1 := X0 1
   simp only [zd2, zd0, zd1] at C0_0 C0_1
   first | go_region_held3 (fun W => W.cell? ⟨w.heap.size, 0, none⟩ = some (.slice a0 k.sig.syms.length c0) ∧ W.cell? ⟨w.heap.size, 1, none⟩ = some (.slice a1 k.levels.length c1) ∧ Below w.heap.size w W)
    (first | exact ⟨C0_0, C0_1, hB.drew⟩ | (refine ⟨?_, ?_, (hB).trans ((zc hbR0).mono (hB).size)⟩ <;> (refine (za ?_ (zc hbR0)); assumption)) | (refine (za ?_ (zc hbR0)); assumption) | exact (hB).trans ((zc hbR0).mono (hB).size) | (refine ⟨?_, ?_, ((hB).trans ((zc hbR0).mono (hB).size)).trans (hbR1.mono ((hB).trans ((zc hbR0).mono (hB).size)).size)⟩ <;> (refine (za (za ?_ (zc hbR0)) hbR1); assumption)) | (refine (za (za ?_ (zc hbR0)) hbR1); assumption) | exact ((hB).trans ((zc hbR0).mono (hB).size)).trans (hbR1.mono ((hB).trans ((zc hbR0).mono (hB).size)).size))
    (first | (go_at_call 44; (with_reducible refine (zcE k _ _ _ hfb (by exact hv0.below (hB.drew))).mono ?_); rintro e wR0 ⟨⟨av, af, rfl, ar⟩, hbR0⟩) | (go_at_call 43; (with_reducible refine (zcD k.sig k.levels.flatten _ _ _ _ _ hfb (by exact hs.below ((hB).trans ((zc hbR0).mono (hB).size))) (by exact ar)).mono ?_); rintro e wR1 ⟨rfl, hbR1⟩)) | fail
   have hb := zc hbR0
   clear hbR0
   replace X0 := zd X0 hlX0 hb
   replace hB := hB.trans (hb.mono hz0)
   have hzn := hb.size
   replace hlX0 := zd3 hlX0 hzn
   replace hz0 := Nat.le_trans hz0 hzn
   clear hb hzn
   have hb := hbR1
   clear hbR1
   replace X0 := zd X0 hlX0 hb
   replace hB := hB.trans (hb.mono hz0)
   have hzn := hb.size
   replace hlX0 := zd3 hlX0 hzn
   replace hz0 := Nat.le_trans hz0 hzn
   clear hb hzn
   clear C0_0 C0_1
   go_wp2_with fail
   go_ret
   exact ⟨retB HE.out.symm, hB⟩
  ·have d2 : decide ((k.levels.length : Int) ≤ 4) = false := by simp; omega
   have HE := Lib.hid (Stk.okK_no (k := k) (by rw [d1, d2]; rfl))
   generalize hWW : w.alloc (.cells #[.slice a0 k.sig.syms.length c0, .slice a1 k.levels.length c1] 28) = W0 at *
   clear hWW
   have C0_0 := X0 0
   have C0_1 := X0 1
   simp only [zd2, zd0, zd1] at C0_0 C0_1
   clear X0
   go_quiet (fail)
   go_wp2_with fail
   go_ret
   exact ⟨retB HE.out.symm, zbE hB⟩
 ·have d1 : decide ((1 : Int) ≤ (k.levels.length : Int)) = false := by simp; omega
  have HE := Lib.hid (Stk.okK_no (k := k) (by rw [d1]; rfl))
  generalize hWW : w.alloc (.cells #[.slice a0 k.sig.syms.length c0, .slice a1 k.levels.length c1] 28) = W0 at *
  clear hWW
  have C0_0 := X0 0
  have C0_1 := X0 1
  simp only [zd2, zd0, zd1] at C0_0 C0_1
  clear X0
  go_quiet (fail)
  go_wp2_with fail
  go_ret
  exact ⟨retB HE.out.symm, zbE hB⟩
end Go.Proofs.Yticlgpkjdmcnaaa
/- The reference's copies of forms. -/
namespace Go.Proofs.Yticlgpkjdmcnaaa
open Go Go.RowKit
set_option linter.unusedVariables false
set_option linter.unusedSimpArgs false
/-- Behind the region: the copy's box, its parts still none. -/
structure FCopyAt (x : Fm) (w u : World) (a3 : Option Addr) (c3 : Nat) (a5 : Option Addr) (c5 : Nat) (a6 : Option Addr) (c6 : Nat) (a7 : Option Addr) (c7 : Nat) (a11 : Option Addr) (c11 : Nat) (b : Nat) (d3 : Option Addr) (e3 : Nat) (d5 : Option Addr) (e5 : Nat) (d6 : Option Addr) (e6 : Nat) (d7 : Option Addr) (e7 : Nat) (fA : List Nat) : Prop where
 bel : Below w.heap.size w u
 size : w.heap.size + 1 + 1 ≤ u.heap.size
 lo : w.heap.size + 1 + 1 ≤ b
 hi : b < u.heap.size
 par : ∀ j, u.cell? ⟨w.heap.size, j, none⟩ = (#[.int .i64 x.kind, .int .i64 x.lit.atom.kind, .string x.lit.atom.a.name, .slice a3 x.lit.atom.a.kids.length c3, .string x.lit.atom.b.name, .slice a5 x.lit.atom.b.kids.length c5, .slice a6 x.lit.atom.nums.length c6, .slice a7 x.lit.atom.times.length c7, .int .i64 x.lit.atom.bound, .bool x.lit.atom.strict, .bool x.lit.no, .slice a11 x.kids.length c11] : Array Value)[j]?
 res : ∀ j, u.cell? ⟨w.heap.size + 1, j, none⟩ = (#[.int .i64 0, .int .i64 0, .string ⟨#[]⟩, .slice none 0 0, .string ⟨#[]⟩, .slice none 0 0, .slice none 0 0, .slice none 0 0, .int .i64 0, .bool false, .bool false, .slice none 0 0] : Array Value)[j]?
 rfree : ∀ j, u.frozen? ⟨w.heap.size + 1, j, none⟩ = false
 box : ∀ j, u.cell? ⟨b, j, none⟩ = (#[.int .i64 x.kind, .int .i64 x.lit.atom.kind, .string x.lit.atom.a.name, .slice d3 x.lit.atom.a.kids.length e3, .string x.lit.atom.b.name, .slice d5 x.lit.atom.b.kids.length e5, .slice d6 x.lit.atom.nums.length e6, .slice d7 x.lit.atom.times.length e7, .int .i64 x.lit.atom.bound, .bool x.lit.atom.strict, .bool x.lit.no, .slice none 0 0] : Array Value)[j]?
 free : ∀ j, u.frozen? ⟨b, j, none⟩ = false
 rA : RdVs u x.lit.atom.cd [.int .i64 x.lit.atom.kind, .string x.lit.atom.a.name, .slice d3 x.lit.atom.a.kids.length e3, .string x.lit.atom.b.name, .slice d5 x.lit.atom.b.kids.length e5, .slice d6 x.lit.atom.nums.length e6, .slice d7 x.lit.atom.times.length e7, .int .i64 x.lit.atom.bound, .bool x.lit.atom.strict] fA
 fresh : Fresh (w.heap.size + 1 + 1) u fA
 away : ∀ y ∈ fA, y ≠ b
theorem zcc {x : Fm} {w u : World} {a3 : Option Addr} {c3 : Nat} {a5 : Option Addr} {c5 : Nat} {a6 : Option Addr} {c6 : Nat} {a7 : Option Addr} {c7 : Nat} {a11 : Option Addr} {c11 : Nat} {b : Nat} {d3 : Option Addr} {e3 : Nat} {d5 : Option Addr} {e5 : Nat} {d6 : Option Addr} {e6 : Nat} {d7 : Option Addr} {e7 : Nat} {fA : List Nat} {ups : List (Nat × Value)}
  (bel : Below w.heap.size w u) (size : w.heap.size + 1 + 1 ≤ u.heap.size) (lo : w.heap.size + 1 + 1 ≤ b) (hi : b < u.heap.size) (par : ∀ j, u.cell? ⟨w.heap.size, j, none⟩ = (#[.int .i64 x.kind, .int .i64 x.lit.atom.kind, .string x.lit.atom.a.name, .slice a3 x.lit.atom.a.kids.length c3, .string x.lit.atom.b.name, .slice a5 x.lit.atom.b.kids.length c5, .slice a6 x.lit.atom.nums.length c6, .slice a7 x.lit.atom.times.length c7, .int .i64 x.lit.atom.bound, .bool x.lit.atom.strict, .bool x.lit.no, .slice a11 x.kids.length c11] : Array Value)[j]?) (res : ∀ j, u.cell? ⟨w.heap.size + 1, j, none⟩ = (#[.int .i64 0, .int .i64 0, .string ⟨#[]⟩, .slice none 0 0, .string ⟨#[]⟩, .slice none 0 0, .slice none 0 0, .slice none 0 0, .int .i64 0, .bool false, .bool false, .slice none 0 0] : Array Value)[j]?) (rfree : ∀ j, u.frozen? ⟨w.heap.size + 1, j, none⟩ = false)
  (box : ∀ j, (zo b ups u).cell? ⟨b, j, none⟩ = (#[.int .i64 x.kind, .int .i64 x.lit.atom.kind, .string x.lit.atom.a.name, .slice d3 x.lit.atom.a.kids.length e3, .string x.lit.atom.b.name, .slice d5 x.lit.atom.b.kids.length e5, .slice d6 x.lit.atom.nums.length e6, .slice d7 x.lit.atom.times.length e7, .int .i64 x.lit.atom.bound, .bool x.lit.atom.strict, .bool x.lit.no, .slice none 0 0] : Array Value)[j]?) (free : ∀ j, (zo b ups u).frozen? ⟨b, j, none⟩ = false)
  (rA : RdVs u x.lit.atom.cd [.int .i64 x.lit.atom.kind, .string x.lit.atom.a.name, .slice d3 x.lit.atom.a.kids.length e3, .string x.lit.atom.b.name, .slice d5 x.lit.atom.b.kids.length e5, .slice d6 x.lit.atom.nums.length e6, .slice d7 x.lit.atom.times.length e7, .int .i64 x.lit.atom.bound, .bool x.lit.atom.strict] fA) (fresh : Fresh (w.heap.size + 1 + 1) u fA) (away : ∀ y ∈ fA, y ≠ b) (hL : Loc b (b + 1) u (zo b ups u)) : FCopyAt x w (zo b ups u) a3 c3 a5 c5 a6 c6 a7 c7 a11 c11 b d3 e3 d5 e5 d6 e6 d7 e7 fA := by
 have hs : ∀ q, q < u.heap.size → q ≠ b → (zo b ups u).heap[q]? = u.heap[q]? := fun q hq hn => hL.block q hq (by omega)
 have hsz := hL.size
 have hal : SameOn fA u (zo b ups u) := fun y hy => hs y (fresh.lt y hy) (away y hy)
 refine ⟨bel.trans (hL.toBelow (by omega) (by omega)), by omega, lo, by omega, fun j => ?_, fun j => ?_, fun j => ?_, box, free, rA.same _ hal, fresh.same hal, away⟩
 ·exact (World.cell?_of_block (w := u) (a := ⟨w.heap.size, j, none⟩) (hs w.heap.size (by omega) (by omega))).trans (par j)
 ·exact (World.cell?_of_block (w := u) (a := ⟨w.heap.size + 1, j, none⟩) (hs (w.heap.size + 1) (by omega) (by omega))).trans (res j)
 ·exact (zh (hs (w.heap.size + 1) (by omega) (by omega))).trans (rfree j)
set_option maxHeartbeats 40000000 in
set_option maxRecDepth 100000 in
theorem zcF (n : Nat) : ∀ (x : Fm) (vs : List Value) (f : List Nat) (w : World), ndV x.cd ≤ n → wtV x.cd ≤ 1048576 → RdVs w x.cd vs f → Calls Try.prog 28 #[.agg vs.toArray] w (zb9 x.cd w) := by
 induction n with
 | zero => intro x vs f w hn; have h : 0 < ndV x.cd := (by rw [Fm.cd_eq]; simp [ndV, ndC]; try omega); omega
 | succ n ih =>
  intro x vs f w hn hbig hv
  have HK : Hid (∀ k ∈ x.kids, ndV k.cd ≤ n) := fun k hk => by have := Fm.kid_nd hk; omega
  have IH := Lib.hid ih
  clear ih
  obtain ⟨a3, c3, f3, a5, c5, f5, a6, c6, f6, a7, c7, f7, a11, c11, f11, rfl, -, m0, m1, m2, m3, m4, m5, m6, m7, m8, m9⟩ := Fm.open hv
  have hw : wtV x.cd = wtV x.lit.cd + (x.kids.length + wtR (x.kids.map Fm.cd)) := by rw [Fm.cd_eq]; simp only [zF, zaO, zav, zce, zao]; try omega
  rw [hw] at hbig
  clear hw hv hn
  have hat := Atm.close m1 m2 m3 m4 m5 m6 m7 m8
  have hsmall : x.lit.atom.small := Lt.small_of (x := x.lit) (by omega)
  have htimes := Lt.times_ok (x := x.lit) (by omega)
  have hkw : x.kids.length + wtR (x.kids.map Fm.cd) ≤ 1048576 := by omega
  clear hbig m1 m2 m3 m4 m5 m6 m7 m8
  have hbb : Below (w.heap.size + 1 + 1) ((w.alloc (.cells #[.int .i64 x.kind, .int .i64 x.lit.atom.kind, .string x.lit.atom.a.name, .slice a3 x.lit.atom.a.kids.length c3, .string x.lit.atom.b.name, .slice a5 x.lit.atom.b.kids.length c5, .slice a6 x.lit.atom.nums.length c6, .slice a7 x.lit.atom.times.length c7, .int .i64 x.lit.atom.bound, .bool x.lit.atom.strict, .bool x.lit.no, .slice a11 x.kids.length c11] 52)).alloc (.cells #[.int .i64 0, .int .i64 0, .string ⟨#[]⟩, .slice none 0 0, .string ⟨#[]⟩, .slice none 0 0, .slice none 0 0, .slice none 0 0, .int .i64 0, .bool false, .bool false, .slice none 0 0] 52)) ((w.alloc (.cells #[.int .i64 x.kind, .int .i64 x.lit.atom.kind, .string x.lit.atom.a.name, .slice a3 x.lit.atom.a.kids.length c3, .string x.lit.atom.b.name, .slice a5 x.lit.atom.b.kids.length c5, .slice a6 x.lit.atom.nums.length c6, .slice a7 x.lit.atom.times.length c7, .int .i64 x.lit.atom.bound, .bool x.lit.atom.strict, .bool x.lit.no, .slice a11 x.kids.length c11] 52)).alloc (.cells #[.int .i64 0, .int .i64 0, .string ⟨#[]⟩, .slice none 0 0, .string ⟨#[]⟩, .slice none 0 0, .slice none 0 0, .slice none 0 0, .int .i64 0, .bool false, .bool false, .slice none 0 0] 52)) := Below.refl _ _
  obtain ⟨hx, hy, hz, hB⟩ := box2 hbb
  have hf2 := fun j => (zaa hbb j).2
  clear hbb
  obtain ⟨W, hW⟩ : ∃ W, W = ((w.alloc (.cells #[.int .i64 x.kind, .int .i64 x.lit.atom.kind, .string x.lit.atom.a.name, .slice a3 x.lit.atom.a.kids.length c3, .string x.lit.atom.b.name, .slice a5 x.lit.atom.b.kids.length c5, .slice a6 x.lit.atom.nums.length c6, .slice a7 x.lit.atom.times.length c7, .int .i64 x.lit.atom.bound, .bool x.lit.atom.strict, .bool x.lit.no, .slice a11 x.kids.length c11] 52)).alloc (.cells #[.int .i64 0, .int .i64 0, .string ⟨#[]⟩, .slice none 0 0, .string ⟨#[]⟩, .slice none 0 0, .slice none 0 0, .slice none 0 0, .int .i64 0, .bool false, .bool false, .slice none 0 0] 52)) := ⟨_, rfl⟩
  go_enter Try.func28, Try.ntmps28
  go_wp2_with fail
  rw [← hW] at hx hy hz hB hf2 ⊢
  clear hW
  have C0 := hx 0
  have C1 := hx 1
  have C2 := hx 2
  have C3 := hx 3
  have C4 := hx 4
  have C5 := hx 5
  have C6 := hx 6
  have C7 := hx 7
  have C8 := hx 8
  have C9 := hx 9
  have C10 := hx 10
  have C11 := hx 11
  simp only [zd2, zd0, zd1] at C0 C1 C2 C3 C4 C5 C6 C7 C8 C9 C10 C11
  have hF : (fun U : World => (U.cell? ⟨w.heap.size, 0, none⟩ = some (.int .i64 x.kind) ∧ U.cell? ⟨w.heap.size, 1, none⟩ = some (.int .i64 x.lit.atom.kind) ∧ U.cell? ⟨w.heap.size, 2, none⟩ = some (.string x.lit.atom.a.name) ∧ U.cell? ⟨w.heap.size, 3, none⟩ = some (.slice a3 x.lit.atom.a.kids.length c3) ∧ U.cell? ⟨w.heap.size, 4, none⟩ = some (.string x.lit.atom.b.name) ∧ U.cell? ⟨w.heap.size, 5, none⟩ = some (.slice a5 x.lit.atom.b.kids.length c5) ∧ U.cell? ⟨w.heap.size, 6, none⟩ = some (.slice a6 x.lit.atom.nums.length c6) ∧ U.cell? ⟨w.heap.size, 7, none⟩ = some (.slice a7 x.lit.atom.times.length c7) ∧ U.cell? ⟨w.heap.size, 8, none⟩ = some (.int .i64 x.lit.atom.bound) ∧ U.cell? ⟨w.heap.size, 9, none⟩ = some (.bool x.lit.atom.strict) ∧ U.cell? ⟨w.heap.size, 10, none⟩ = some (.bool x.lit.no) ∧ U.cell? ⟨w.heap.size, 11, none⟩ = some (.slice a11 x.kids.length c11))) W.drew := ⟨C0, C1, C2, C3, C4, C5, C6, C7, C8, C9, C10, C11⟩
  clear C0 C1 C2 C3 C4 C5 C6 C7 C8 C9 C10 C11
  replace hx : ∀ j, W.drew.cell? ⟨w.heap.size, j, none⟩ = (#[.int .i64 x.kind, .int .i64 x.lit.atom.kind, .string x.lit.atom.a.name, .slice a3 x.lit.atom.a.kids.length c3, .string x.lit.atom.b.name, .slice a5 x.lit.atom.b.kids.length c5, .slice a6 x.lit.atom.nums.length c6, .slice a7 x.lit.atom.times.length c7, .int .i64 x.lit.atom.bound, .bool x.lit.atom.strict, .bool x.lit.no, .slice a11 x.kids.length c11] : Array Value)[j]? := hx
  replace hy : ∀ j, W.drew.cell? ⟨w.heap.size + 1, j, none⟩ = (#[.int .i64 0, .int .i64 0, .string ⟨#[]⟩, .slice none 0 0, .string ⟨#[]⟩, .slice none 0 0, .slice none 0 0, .slice none 0 0, .int .i64 0, .bool false, .bool false, .slice none 0 0] : Array Value)[j]? := hy
  replace hf2 : ∀ j, W.drew.frozen? ⟨w.heap.size + 1, j, none⟩ = false := hf2
  replace hz : w.heap.size + 1 + 1 ≤ W.drew.heap.size := hz
  have hBc := hB.drew
  clear hB
  refine zbU (fun ac u => ∃ (b : Nat) (d3 : Option Addr) (e3 : Nat) (d5 : Option Addr) (e5 : Nat) (d6 : Option Addr) (e6 : Nat) (d7 : Option Addr) (e7 : Nat) (fA : List Nat) (u5 u6 u7 u8 u9 u10 u11 u12 u13 u14 u15 : Value), ac = ⟨#[.agg #[.int .i64 x.kind, .int .i64 x.lit.atom.kind, .string x.lit.atom.a.name, .slice a3 x.lit.atom.a.kids.length c3, .string x.lit.atom.b.name, .slice a5 x.lit.atom.b.kids.length c5, .slice a6 x.lit.atom.nums.length c6, .slice a7 x.lit.atom.times.length c7, .int .i64 x.lit.atom.bound, .bool x.lit.atom.strict, .bool x.lit.no, .slice a11 x.kids.length c11], .pointer (some ⟨w.heap.size, 0, none⟩), .pointer (some ⟨w.heap.size + 1, 0, none⟩), .pointer (some ⟨b, 0, none⟩), undef, u5, u6, u7, u8, u9, u10, u11, u12, u13, u14, u15, undef, undef, undef, undef, undef, undef, undef, undef, undef, undef, undef, undef, undef, undef, undef, undef, undef, undef, undef], []⟩ ∧ FCopyAt x w u a3 c3 a5 c5 a6 c6 a7 c7 a11 c11 b d3 e3 d5 e5 d6 e6 d7 e7 fA) ?_ ?_
  ·intro ac u hT
   obtain ⟨b, d3, e3, d5, e5, d6, e6, d7, e7, fA, u5, u6, u7, u8, u9, u10, u11, u12, u13, u14, u15, rfl, st⟩ := hT
   clear hF hx hy hz hf2 hBc
   have ST := Lib.hid st
   have hlo := st.lo
   have hhi := st.hi
   have hszu := st.size
   clear st hat
   go_wp2_with fail
   go_loopw [4] (fun i wr => ∃ (k : Nat) (fp : List Nat) (ov : Value), k ≤ x.kids.length ∧ i = .int .i64 k ∧ Own wr u.heap.size 52 12 ov ((x.kids.take k).map Fm.cd) fp ∧ Fresh u.heap.size wr fp ∧
    (∀ j, wr.cell? ⟨b, j, none⟩ = (#[.int .i64 x.kind, .int .i64 x.lit.atom.kind, .string x.lit.atom.a.name, .slice d3 x.lit.atom.a.kids.length e3, .string x.lit.atom.b.name, .slice d5 x.lit.atom.b.kids.length e5, .slice d6 x.lit.atom.nums.length e6, .slice d7 x.lit.atom.times.length e7, .int .i64 x.lit.atom.bound, .bool x.lit.atom.strict, .bool x.lit.no, ov] : Array Value)[j]?) ∧ (∀ j, wr.frozen? ⟨b, j, none⟩ = false) ∧ u.heap.size ≤ wr.heap.size ∧ (∀ q, q < u.heap.size → q ≠ b → wr.heap[q]? = u.heap[q]?) ∧ Below w.heap.size w wr) (fun i _ => x.kids.length - (intOf i).toNat)
   case atStart => exact ⟨0, [], .slice none 0 0, Nat.zero_le _, rfl, Own.nil _ _ _ _, Fresh.nil _ _, ST.out.box, ST.out.free, Nat.le_refl _, fun _ _ _ => rfl, ST.out.bel⟩
   case round =>
    obtain ⟨k, fp, ov, hkl, rfl, hown, hfr, hcb, hfb, hz, hsm, hbw⟩ := hrel
    have x11 : wr.cell? ⟨w.heap.size, 11, none⟩ = some (.slice a11 x.kids.length c11) := zg (hsm w.heap.size (by omega) (by omega)) (ST.out.par 11)
    have y11 : wr.cell? ⟨b, 11, none⟩ = some ov := hcb 11
    have g11 : wr.frozen? ⟨b, 11, none⟩ = false := hfb 11
    by_cases hlt : k < x.kids.length
    ·have m9w := m9.below hbw
     obtain ⟨bk, off, rfl, hbs, _⟩ := zp m9w (by omega)
     obtain ⟨s3, t3, r3, s5, t5, r5, s6, t6, r6, s7, t7, r7, s11, t11, r11, D0, D1, D2, D3, D4, D5, D6, D7, D8, D9, D10, D11, N0, N1, N2, N3, N4, N5, N6, N7, N8, N9, _⟩ := Fm.at m9w hlt
     have hkd := Fm.close N0 N1 N2 N3 N4 N5 N6 N7 N8 N9
     have hle := zJ Fm.cd x.kids (k + 1)
     rw [zP Fm.cd x.kids k hlt] at hle
     clear m9w N0 N1 N2 N3 N4 N5 N6 N7 N8 N9
     go_wp2_with fail
     have tok1 : True := trivial
     go_region_law (first
      | (have _t := @hown2; refine zR zai rfl _ _ rfl u.heap.size _ _ fp rfl (by exact hown2) ⟨w2.heap.size, 0, none⟩ 1 1 [x.kids[k].cd] [.int .i64 x.kids[k].kind, .int .i64 x.kids[k].lit.atom.kind, .string x.kids[k].lit.atom.a.name, .slice p3 x.kids[k].lit.atom.a.kids.length q3, .string x.kids[k].lit.atom.b.name, .slice p5 x.kids[k].lit.atom.b.kids.length q5, .slice p6 x.kids[k].lit.atom.nums.length q6, .slice p7 x.kids[k].lit.atom.times.length q7, .int .i64 x.kids[k].lit.atom.bound, .bool x.kids[k].lit.atom.strict, .bool x.kids[k].lit.no, .slice p11 x.kids[k].kids.length q11] fp3 rfl rfl (by simpa using hr3') (by simp [Fm.cd_len]) (by exact zr _ _ _) (by exact hown.away (Nat.le_refl _) hf3) (by have hl := zac Fm.cd x.kids k; omega) (by have hl := zac Fm.cd x.kids k; omega) (by simp; omega) ?_; intro v' w4 hown4 hg hv' hs4; obtain ⟨a4', n4', c4', rfl⟩ := hown4.form'; have hcb4 := fun q (hq : q < u.heap.size) => za8 hb3 hg (b := q) (by omega) (hown.row_ne hq); have y11' := zg (hcb4 b hhi) y11; have g11' := zl (hcb4 b hhi) g11)
      | (have _t := tok1; clear _t tok1; go_simp; go_at_call 28; refine (IH.out x.kids[k] _ _ _ (HK.out _ (zd6 hlt)) (by omega) (by exact hkd.below (zm _))).mono ?_; rintro e w2 ⟨kv3, fp3, rfl, hr3, hf3, hb3⟩; obtain ⟨p3, q3, j3, p5, q5, j5, p6, q6, j6, p7, q7, j7, p11, q11, j11, rfl, -, _, _, _, _, _, _, _, _, _, _⟩ := Fm.open hr3; have hb3 := zc hb3; have hz2 := hb3.size; have hlz : b < w2.heap.size := (by omega); have hbk := hb3.block b (by omega); have y11w := zg hbk y11; have g11w := zl hbk g11; clear hbk; have hown2 := hown.below (hb3.alloc hb3.size (.cells #[.int .i64 x.kids[k].kind, .int .i64 x.kids[k].lit.atom.kind, .string x.kids[k].lit.atom.a.name, .slice p3 x.kids[k].lit.atom.a.kids.length q3, .string x.kids[k].lit.atom.b.name, .slice p5 x.kids[k].lit.atom.b.kids.length q5, .slice p6 x.kids[k].lit.atom.nums.length q6, .slice p7 x.kids[k].lit.atom.times.length q7, .int .i64 x.kids[k].lit.atom.bound, .bool x.kids[k].lit.atom.strict, .bool x.kids[k].lit.no, .slice p11 x.kids[k].kids.length q11] 52)); have hr3' := hr3.below (zb w2 (.cells #[.int .i64 x.kids[k].kind, .int .i64 x.kids[k].lit.atom.kind, .string x.kids[k].lit.atom.a.name, .slice p3 x.kids[k].lit.atom.a.kids.length q3, .string x.kids[k].lit.atom.b.name, .slice p5 x.kids[k].lit.atom.b.kids.length q5, .slice p6 x.kids[k].lit.atom.nums.length q6, .slice p7 x.kids[k].lit.atom.times.length q7, .int .i64 x.kids[k].lit.atom.bound, .bool x.kids[k].lit.atom.strict, .bool x.kids[k].lit.no, .slice p11 x.kids[k].kids.length q11] 52))))
     all_goals
      have hfr4 := ((Fresh.app (hfr.below hb3) hfr.lt hz hf3).below (zb w2 (.cells #[.int .i64 x.kids[k].kind, .int .i64 x.kids[k].lit.atom.kind, .string x.kids[k].lit.atom.a.name, .slice p3 x.kids[k].lit.atom.a.kids.length q3, .string x.kids[k].lit.atom.b.name, .slice p5 x.kids[k].lit.atom.b.kids.length q5, .slice p6 x.kids[k].lit.atom.nums.length q6, .slice p7 x.kids[k].lit.atom.times.length q7, .int .i64 x.kids[k].lit.atom.bound, .bool x.kids[k].lit.atom.strict, .bool x.kids[k].lit.no, .slice p11 x.kids[k].kids.length q11] 52))).same hs4
      have hsz4 := hg.size
      simp only [World.size_alloc] at hsz4
      have hown5 := hown4.set_other hfr4 (b := b) (j := 11) (u := .slice a4' n4' c4') hhi
      have hfr5 := hfr4.same (zv (a := ⟨b, 11, none⟩) (v := .slice a4' n4' c4') (hfr4.ne (by exact hhi)))
      have hc5 := zC (b := b) [(11, .slice a4' n4' c4')] (fun j => (World.cell?_of_block (w := wr) (a := ⟨b, j, none⟩) (hcb4 b hhi)).trans (hcb j)) (by simp)
      have hf5 := zaG (b := b) (b' := b) [(11, .slice a4' n4' c4')] (fun j => (zh (hcb4 b hhi)).trans (hfb j))
      have hL := Loc.sets (b := b) (lo := b) (hi := b + 1) (Nat.le_refl _) (Nat.lt_succ_self _) [(11, .slice a4' n4' c4')] (Loc.refl _ _ w4)
      have hsm5 : ∀ q, q < u.heap.size → q ≠ b → (w4.setCell ⟨b, 11, none⟩ (.slice a4' n4' c4')).heap[q]? = u.heap[q]? := fun q hq hn => ((hL.block q (by omega) (by omega)).trans (hcb4 q hq)).trans (hsm q hq hn)
      have hb5 : Below w.heap.size w (w4.setCell ⟨b, 11, none⟩ (.slice a4' n4' c4')) := (zk ((hbw.trans (hb3.mono (by omega))).alloc (by omega) _) hg (by simp; omega) (fun q hq => by have := (hown.block hq).1; omega)).setCell (by simp; omega) _
      have hzz := hL.size
      clear hL
      simp only [zo, zaq, zdY, zdZ] at hc5 hf5 hzz
      go_wp2_with fail
      go_roundw
      case rel => exact ⟨k + 1, fp ++ fp3, .slice a4' n4' c4', by omega, by go_num, by rw [zd4 hlt, zd8]; simpa using hown5, hfr5, hc5, hf5, by omega, hsm5, hb5⟩
      case measure => simp [intOf]; omega
    ·have he : x.kids.take k = x.kids := List.take_of_length_le (by omega)
     rw [he] at hown
     obtain ⟨fp', hr', hf', _⟩ := hown.fresh hfr
     obtain ⟨oa, oc, rfl, _, _⟩ := zi hr'
     have st := ST.out
     have hal : SameOn fA u wr := fun q hq => hsm q (st.fresh.lt q hq) (st.away q hq)
     have hrA := st.rA.same _ hal
     have hfx := Fresh.app (st.fresh.same hal) st.fresh.lt hszu hf'
     have hrx : RdVs wr x.cd [.int .i64 x.kind, .int .i64 x.lit.atom.kind, .string x.lit.atom.a.name, .slice d3 x.lit.atom.a.kids.length e3, .string x.lit.atom.b.name, .slice d5 x.lit.atom.b.kids.length e5, .slice d6 x.lit.atom.nums.length e6, .slice d7 x.lit.atom.times.length e7, .int .i64 x.lit.atom.bound, .bool x.lit.atom.strict, .bool x.lit.no, .slice oa x.kids.length oc] (fA ++ fp') := by
      rw [Fm.cd_eq]
      exact ((zaE m0).app ((Lt.of_atom hrA).app (RdVs.single hr')))
     have yx : ∀ j, wr.cell? ⟨w.heap.size + 1, j, none⟩ = (#[.int .i64 0, .int .i64 0, .string ⟨#[]⟩, .slice none 0 0, .string ⟨#[]⟩, .slice none 0 0, .slice none 0 0, .slice none 0 0, .int .i64 0, .bool false, .bool false, .slice none 0 0] : Array Value)[j]? := fun j => (World.cell?_of_block (w := u) (a := ⟨w.heap.size + 1, j, none⟩) (hsm (w.heap.size + 1) (by omega) (by omega))).trans (st.res j)
     have fx : ∀ j, wr.frozen? ⟨w.heap.size + 1, j, none⟩ = false := fun j => (zh (hsm (w.heap.size + 1) (by omega) (by omega))).trans (st.rfree j)
     clear st hal hrA hr' hf' hown hfr hsm ST y11 g11
     have X0 := hcb 0
     have Y0 := yx 0
     have Z0 := fx 0
     have X1 := hcb 1
     have Y1 := yx 1
     have Z1 := fx 1
     have X2 := hcb 2
     have Y2 := yx 2
     have Z2 := fx 2
     have X3 := hcb 3
     have Y3 := yx 3
     have Z3 := fx 3
     have X4 := hcb 4
     have Y4 := yx 4
     have Z4 := fx 4
     have X5 := hcb 5
     have Y5 := yx 5
     have Z5 := fx 5
     have X6 := hcb 6
     have Y6 := yx 6
     have Z6 := fx 6
     have X7 := hcb 7
     have Y7 := yx 7
     have Z7 := fx 7
     have X8 := hcb 8
     have Y8 := yx 8
     have Z8 := fx 8
     have X9 := hcb 9
     have Y9 := yx 9
     have Z9 := fx 9
     have X10 := hcb 10
     have Y10 := yx 10
     have Z10 := fx 10
     have X11 := hcb 11
     have Y11 := yx 11
     have Z11 := fx 11
     simp only [zd2, zd0, zd1] at X0 Y0 X1 Y1 X2 Y2 X3 Y3 X4 Y4 X5 Y5 X6 Y6 X7 Y7 X8 Y8 X9 Y9 X10 Y10 X11 Y11
     have hres := zC (b := w.heap.size + 1) [(0, .int .i64 x.kind), (1, .int .i64 x.lit.atom.kind), (2, .string x.lit.atom.a.name), (3, .slice d3 x.lit.atom.a.kids.length e3), (4, .string x.lit.atom.b.name), (5, .slice d5 x.lit.atom.b.kids.length e5), (6, .slice d6 x.lit.atom.nums.length e6), (7, .slice d7 x.lit.atom.times.length e7), (8, .int .i64 x.lit.atom.bound), (9, .bool x.lit.atom.strict), (10, .bool x.lit.no), (11, .slice oa x.kids.length oc)] yx (by simp)
     have R0 := hres 0
     have R1 := hres 1
     have R2 := hres 2
     have R3 := hres 3
     have R4 := hres 4
     have R5 := hres 5
     have R6 := hres 6
     have R7 := hres 7
     have R8 := hres 8
     have R9 := hres 9
     have R10 := hres 10
     have R11 := hres 11
     simp only [zo, zaq, zdY, zdZ, zd2, zd0, zd1] at R0 R1 R2 R3 R4 R5 R6 R7 R8 R9 R10 R11
     clear hres fx hcb yx hfb
     have hL2 := Loc.sets (b := w.heap.size + 1) (lo := w.heap.size) (hi := w.heap.size + 1 + 1) (by omega) (by omega) [(0, .int .i64 x.kind), (1, .int .i64 x.lit.atom.kind), (2, .string x.lit.atom.a.name), (3, .slice d3 x.lit.atom.a.kids.length e3), (4, .string x.lit.atom.b.name), (5, .slice d5 x.lit.atom.b.kids.length e5), (6, .slice d6 x.lit.atom.nums.length e6), (7, .slice d7 x.lit.atom.times.length e7), (8, .int .i64 x.lit.atom.bound), (9, .bool x.lit.atom.strict), (10, .bool x.lit.no), (11, .slice oa x.kids.length oc)] (Loc.refl _ _ wr)
     have hB2 := hbw.trans (hL2.toBelow (B := w.heap.size) (by omega) (Nat.le_refl _))
     have hr2 := hrx.same _ (hL2.same (w0 := w) hfx)
     have hf2x := hfx.same (hL2.same (w0 := w) hfx)
     simp only [zo] at hB2 hr2 hf2x
     clear hL2 hbw hrx hfx
     go_wp2_with fail
     refine bodyPost_ret (v := .agg #[.int .i64 x.kind, .int .i64 x.lit.atom.kind, .string x.lit.atom.a.name, .slice d3 x.lit.atom.a.kids.length e3, .string x.lit.atom.b.name, .slice d5 x.lit.atom.b.kids.length e5, .slice d6 x.lit.atom.nums.length e6, .slice d7 x.lit.atom.times.length e7, .int .i64 x.lit.atom.bound, .bool x.lit.atom.strict, .bool x.lit.no, .slice oa x.kids.length oc]) (by simp [results, Try.results28, go_sem, R0, R1, R2, R3, R4, R5, R6, R7, R8, R9, R10, R11]) rfl ?_
     exact ⟨[.int .i64 x.kind, .int .i64 x.lit.atom.kind, .string x.lit.atom.a.name, .slice d3 x.lit.atom.a.kids.length e3, .string x.lit.atom.b.name, .slice d5 x.lit.atom.b.kids.length e5, .slice d6 x.lit.atom.nums.length e6, .slice d7 x.lit.atom.times.length e7, .int .i64 x.lit.atom.bound, .bool x.lit.atom.strict, .bool x.lit.no, .slice oa x.kids.length oc], _, rfl, hr2, hf2x.mono (by omega), hB2⟩
  refine Till.start (F := fun U => (U.cell? ⟨w.heap.size, 0, none⟩ = some (.int .i64 x.kind) ∧ U.cell? ⟨w.heap.size, 1, none⟩ = some (.int .i64 x.lit.atom.kind) ∧ U.cell? ⟨w.heap.size, 2, none⟩ = some (.string x.lit.atom.a.name) ∧ U.cell? ⟨w.heap.size, 3, none⟩ = some (.slice a3 x.lit.atom.a.kids.length c3) ∧ U.cell? ⟨w.heap.size, 4, none⟩ = some (.string x.lit.atom.b.name) ∧ U.cell? ⟨w.heap.size, 5, none⟩ = some (.slice a5 x.lit.atom.b.kids.length c5) ∧ U.cell? ⟨w.heap.size, 6, none⟩ = some (.slice a6 x.lit.atom.nums.length c6) ∧ U.cell? ⟨w.heap.size, 7, none⟩ = some (.slice a7 x.lit.atom.times.length c7) ∧ U.cell? ⟨w.heap.size, 8, none⟩ = some (.int .i64 x.lit.atom.bound) ∧ U.cell? ⟨w.heap.size, 9, none⟩ = some (.bool x.lit.atom.strict) ∧ U.cell? ⟨w.heap.size, 10, none⟩ = some (.bool x.lit.no) ∧ U.cell? ⟨w.heap.size, 11, none⟩ = some (.slice a11 x.kids.length c11))) (s0 := 12) (by kernel_rfl) ?_
  obtain ⟨vv, hV⟩ : ∃ v, v = W.drew := ⟨_, rfl⟩
  rw [← hV] at hx hy hz hBc hf2 hF ⊢
  clear hV
  refine Till.take (i := 0) (v := .pointer (some ⟨w.heap.size, 0, none⟩)) rfl (by kernel_rfl) (by kernel_rfl) (by kernel_rfl) (fun _ _ _ h => h) (by kernel_rfl) (Or.inl ⟨by rfl, fun U hU => ?_⟩) hF ?_
  ·obtain ⟨g0, g1, g2, g3, g4, g5, g6, g7, g8, g9, g10, g11⟩ := hU
   go_simp
  try simp only [Act.put, zdX, zdY, zdZ]
  refine Till.take (i := 1) (v := .int .i64 x.kind) rfl (by kernel_rfl) (by kernel_rfl) (by kernel_rfl) (fun _ _ _ h => h) (by kernel_rfl) (Or.inl ⟨by rfl, fun U hU => ?_⟩) hF ?_
  ·obtain ⟨g0, g1, g2, g3, g4, g5, g6, g7, g8, g9, g10, g11⟩ := hU
   go_simp
  try simp only [Act.put, zdX, zdY, zdZ]
  refine Till.take (i := 2) (v := .pointer (some ⟨w.heap.size, 1, none⟩)) rfl (by kernel_rfl) (by kernel_rfl) (by kernel_rfl) (fun _ _ _ h => h) (by kernel_rfl) (Or.inl ⟨by rfl, fun U hU => ?_⟩) hF ?_
  ·obtain ⟨g0, g1, g2, g3, g4, g5, g6, g7, g8, g9, g10, g11⟩ := hU
   go_simp
  try simp only [Act.put, zdX, zdY, zdZ]
  refine Till.take (i := 3) (v := .pointer (some ⟨w.heap.size, 1, none⟩)) rfl (by kernel_rfl) (by kernel_rfl) (by kernel_rfl) (fun _ _ _ h => h) (by kernel_rfl) (Or.inl ⟨by rfl, fun U hU => ?_⟩) hF ?_
  ·obtain ⟨g0, g1, g2, g3, g4, g5, g6, g7, g8, g9, g10, g11⟩ := hU
   go_simp
  try simp only [Act.put, zdX, zdY, zdZ]
  refine Till.take (i := 4) (v := .agg #[.int .i64 x.lit.atom.kind, .string x.lit.atom.a.name, .slice a3 x.lit.atom.a.kids.length c3, .string x.lit.atom.b.name, .slice a5 x.lit.atom.b.kids.length c5, .slice a6 x.lit.atom.nums.length c6, .slice a7 x.lit.atom.times.length c7, .int .i64 x.lit.atom.bound, .bool x.lit.atom.strict]) rfl (by kernel_rfl) (by kernel_rfl) (by kernel_rfl) (fun _ _ _ h => h) (by kernel_rfl) (Or.inl ⟨by rfl, fun U hU => ?_⟩) hF ?_
  ·obtain ⟨g0, g1, g2, g3, g4, g5, g6, g7, g8, g9, g10, g11⟩ := hU
   go_simp
  try simp only [Act.put, zdX, zdY, zdZ]
  refine Till.take (i := 6) (v := .pointer (some ⟨w.heap.size, 1, none⟩)) rfl (by kernel_rfl) (by kernel_rfl) (by kernel_rfl) (fun _ _ _ h => h) (by kernel_rfl) (Or.inl ⟨by rfl, fun U hU => ?_⟩) hF ?_
  ·obtain ⟨g0, g1, g2, g3, g4, g5, g6, g7, g8, g9, g10, g11⟩ := hU
   go_simp
  try simp only [Act.put, zdX, zdY, zdZ]
  refine Till.take (i := 7) (v := .pointer (some ⟨w.heap.size, 10, none⟩)) rfl (by kernel_rfl) (by kernel_rfl) (by kernel_rfl) (fun _ _ _ h => h) (by kernel_rfl) (Or.inl ⟨by rfl, fun U hU => ?_⟩) hF ?_
  ·obtain ⟨g0, g1, g2, g3, g4, g5, g6, g7, g8, g9, g10, g11⟩ := hU
   go_simp
  try simp only [Act.put, zdX, zdY, zdZ]
  refine Till.take (i := 8) (v := .bool x.lit.no) rfl (by kernel_rfl) (by kernel_rfl) (by kernel_rfl) (fun _ _ _ h => h) (by kernel_rfl) (Or.inl ⟨by rfl, fun U hU => ?_⟩) hF ?_
  ·obtain ⟨g0, g1, g2, g3, g4, g5, g6, g7, g8, g9, g10, g11⟩ := hU
   go_simp
  try simp only [Act.put, zdX, zdY, zdZ]
  refine Till.two (i := 5) (j := 11) (by kernel_rfl) rfl rfl (fun K hK => ?_) (fun K hK => ?_)
  ·skip
   go_simp
   go_wp2_with (go_at_call 46; refine (zcb x.lit.atom _ _ _ hsmall htimes (by exact hat.below hBc)).mono ?_; rintro e v0 ⟨us, fA, rfl, hrA, hfA, hb⟩)
   obtain ⟨d3, e3, h3, d5, e5, h5, d6, e6, h6, d7, e7, h7, rfl, _, _, _, _, _, _, _, _, _⟩ := Atm.open hrA
   have hge : ∀ y ∈ fA, vv.heap.size ≤ y := fun y hy => (hfA.2 y hy).1
   have hFP : Fresh (w.heap.size + 1 + 1) v0 fA := hfA.mono hz
   have hzn := hb.size
   replace hBc := hBc.trans (hb.mono (by omega))
   replace hF : (fun U : World => (U.cell? ⟨w.heap.size, 0, none⟩ = some (.int .i64 x.kind) ∧ U.cell? ⟨w.heap.size, 1, none⟩ = some (.int .i64 x.lit.atom.kind) ∧ U.cell? ⟨w.heap.size, 2, none⟩ = some (.string x.lit.atom.a.name) ∧ U.cell? ⟨w.heap.size, 3, none⟩ = some (.slice a3 x.lit.atom.a.kids.length c3) ∧ U.cell? ⟨w.heap.size, 4, none⟩ = some (.string x.lit.atom.b.name) ∧ U.cell? ⟨w.heap.size, 5, none⟩ = some (.slice a5 x.lit.atom.b.kids.length c5) ∧ U.cell? ⟨w.heap.size, 6, none⟩ = some (.slice a6 x.lit.atom.nums.length c6) ∧ U.cell? ⟨w.heap.size, 7, none⟩ = some (.slice a7 x.lit.atom.times.length c7) ∧ U.cell? ⟨w.heap.size, 8, none⟩ = some (.int .i64 x.lit.atom.bound) ∧ U.cell? ⟨w.heap.size, 9, none⟩ = some (.bool x.lit.atom.strict) ∧ U.cell? ⟨w.heap.size, 10, none⟩ = some (.bool x.lit.no) ∧ U.cell? ⟨w.heap.size, 11, none⟩ = some (.slice a11 x.kids.length c11))) v0 := ⟨za hF.1 hb, za hF.2.1 hb, za hF.2.2.1 hb, za hF.2.2.2.1 hb, za hF.2.2.2.2.1 hb, za hF.2.2.2.2.2.1 hb, za hF.2.2.2.2.2.2.1 hb, za hF.2.2.2.2.2.2.2.1 hb, za hF.2.2.2.2.2.2.2.2.1 hb, za hF.2.2.2.2.2.2.2.2.2.1 hb, za hF.2.2.2.2.2.2.2.2.2.2.1 hb, za hF.2.2.2.2.2.2.2.2.2.2.2 hb⟩
   replace hx := zd hx (by omega) hb
   replace hy := zd hy (by omega) hb
   replace hf2 := zj hf2 (by omega) hb
   replace hz := Nat.le_trans hz hzn
   clear hb hzn
   clear hge hfA
   refine hK.out _ _ (fun _ => hF) ?_
   clear hK
   try simp only [Act.put, zdX, zdY, zdZ]
   refine Till.free (i := 9) (v := .agg #[.int .i64 x.lit.atom.kind, .string x.lit.atom.a.name, .slice d3 x.lit.atom.a.kids.length e3, .string x.lit.atom.b.name, .slice d5 x.lit.atom.b.kids.length e5, .slice d6 x.lit.atom.nums.length e6, .slice d7 x.lit.atom.times.length e7, .int .i64 x.lit.atom.bound, .bool x.lit.atom.strict, .bool x.lit.no]) rfl (by kernel_rfl) (by kernel_rfl) (by kernel_rfl) (fun _ _ _ h => h) (by kernel_rfl) (Or.inl ⟨by rfl, fun U _ => ?_⟩) (fun _ => hF) ?_
   ·go_simp
   try simp only [Act.put, zdX, zdY, zdZ]
   refine Till.free (i := 10) (v := .agg #[.int .i64 x.kind, .int .i64 x.lit.atom.kind, .string x.lit.atom.a.name, .slice d3 x.lit.atom.a.kids.length e3, .string x.lit.atom.b.name, .slice d5 x.lit.atom.b.kids.length e5, .slice d6 x.lit.atom.nums.length e6, .slice d7 x.lit.atom.times.length e7, .int .i64 x.lit.atom.bound, .bool x.lit.atom.strict, .bool x.lit.no, .slice none 0 0]) rfl (by kernel_rfl) (by kernel_rfl) (by kernel_rfl) (fun _ _ _ h => h) (by kernel_rfl) (Or.inl ⟨by rfl, fun U _ => ?_⟩) (fun _ => hF) ?_
   ·go_simp
   try simp only [Act.put, zdX, zdY, zdZ]
   refine Till.one (i := 11) (by kernel_rfl) rfl (fun K hK => ?_)
   go_simp
   have hb := zb v0 (.cells #[.int .i64 0, .int .i64 0, .string ⟨#[]⟩, .slice none 0 0, .string ⟨#[]⟩, .slice none 0 0, .slice none 0 0, .slice none 0 0, .int .i64 0, .bool false, .bool false, .slice none 0 0] 52)
   have hsn := asz2 v0 (.cells #[.int .i64 0, .int .i64 0, .string ⟨#[]⟩, .slice none 0 0, .string ⟨#[]⟩, .slice none 0 0, .slice none 0 0, .slice none 0 0, .int .i64 0, .bool false, .bool false, .slice none 0 0] 52)
   have hcB := zy v0 #[.int .i64 0, .int .i64 0, .string ⟨#[]⟩, .slice none 0 0, .string ⟨#[]⟩, .slice none 0 0, .slice none 0 0, .slice none 0 0, .int .i64 0, .bool false, .bool false, .slice none 0 0] 52
   have hfB := zW v0 #[.int .i64 0, .int .i64 0, .string ⟨#[]⟩, .slice none 0 0, .string ⟨#[]⟩, .slice none 0 0, .slice none 0 0, .slice none 0 0, .int .i64 0, .bool false, .bool false, .slice none 0 0] 52
   have hnB : ∀ y ∈ fA, y ≠ v0.heap.size := fun y hy => Nat.ne_of_lt (hFP.lt y hy)
   have hB1 : v0.heap.size < (v0.alloc (.cells #[.int .i64 0, .int .i64 0, .string ⟨#[]⟩, .slice none 0 0, .string ⟨#[]⟩, .slice none 0 0, .slice none 0 0, .slice none 0 0, .int .i64 0, .bool false, .bool false, .slice none 0 0] 52)).heap.size := by omega
   have hloB : w.heap.size + 1 + 1 ≤ v0.heap.size := hz
   obtain ⟨v1, hnew⟩ : ∃ v1, v1 = v0.alloc (.cells #[.int .i64 0, .int .i64 0, .string ⟨#[]⟩, .slice none 0 0, .string ⟨#[]⟩, .slice none 0 0, .slice none 0 0, .slice none 0 0, .int .i64 0, .bool false, .bool false, .slice none 0 0] 52) := ⟨_, rfl⟩
   rw [← hnew] at hb hcB hfB hB1 hsn ⊢
   clear hnew hsn
   have hzn := hb.size
   replace hBc := hBc.trans (hb.mono (by omega))
   replace hF : (fun U : World => (U.cell? ⟨w.heap.size, 0, none⟩ = some (.int .i64 x.kind) ∧ U.cell? ⟨w.heap.size, 1, none⟩ = some (.int .i64 x.lit.atom.kind) ∧ U.cell? ⟨w.heap.size, 2, none⟩ = some (.string x.lit.atom.a.name) ∧ U.cell? ⟨w.heap.size, 3, none⟩ = some (.slice a3 x.lit.atom.a.kids.length c3) ∧ U.cell? ⟨w.heap.size, 4, none⟩ = some (.string x.lit.atom.b.name) ∧ U.cell? ⟨w.heap.size, 5, none⟩ = some (.slice a5 x.lit.atom.b.kids.length c5) ∧ U.cell? ⟨w.heap.size, 6, none⟩ = some (.slice a6 x.lit.atom.nums.length c6) ∧ U.cell? ⟨w.heap.size, 7, none⟩ = some (.slice a7 x.lit.atom.times.length c7) ∧ U.cell? ⟨w.heap.size, 8, none⟩ = some (.int .i64 x.lit.atom.bound) ∧ U.cell? ⟨w.heap.size, 9, none⟩ = some (.bool x.lit.atom.strict) ∧ U.cell? ⟨w.heap.size, 10, none⟩ = some (.bool x.lit.no) ∧ U.cell? ⟨w.heap.size, 11, none⟩ = some (.slice a11 x.kids.length c11))) v1 := ⟨za hF.1 hb, za hF.2.1 hb, za hF.2.2.1 hb, za hF.2.2.2.1 hb, za hF.2.2.2.2.1 hb, za hF.2.2.2.2.2.1 hb, za hF.2.2.2.2.2.2.1 hb, za hF.2.2.2.2.2.2.2.1 hb, za hF.2.2.2.2.2.2.2.2.1 hb, za hF.2.2.2.2.2.2.2.2.2.1 hb, za hF.2.2.2.2.2.2.2.2.2.2.1 hb, za hF.2.2.2.2.2.2.2.2.2.2.2 hb⟩
   replace hx := zd hx (by omega) hb
   replace hy := zd hy (by omega) hb
   replace hf2 := zj hf2 (by omega) hb
   replace hrA := hrA.below hb
   replace hFP := hFP.below hb
   replace hz := Nat.le_trans hz hzn
   clear hb hzn
   refine hK.out _ _ (fun _ => hF) ?_
   clear hK
   try simp only [Act.put, zdX, zdY, zdZ]
   refine Till.one (i := 12) (by kernel_rfl) rfl (fun K hK => ?_)
   have P0 := hcB 0
   have Q0 := hfB 0
   have P1 := hcB 1
   have Q1 := hfB 1
   have P2 := hcB 2
   have Q2 := hfB 2
   have P3 := hcB 3
   have Q3 := hfB 3
   have P4 := hcB 4
   have Q4 := hfB 4
   have P5 := hcB 5
   have Q5 := hfB 5
   have P6 := hcB 6
   have Q6 := hfB 6
   have P7 := hcB 7
   have Q7 := hfB 7
   have P8 := hcB 8
   have Q8 := hfB 8
   have P9 := hcB 9
   have Q9 := hfB 9
   have P10 := hcB 10
   have Q10 := hfB 10
   have P11 := hcB 11
   have Q11 := hfB 11
   simp only [zd2, zd0, zd1] at P0 P1 P2 P3 P4 P5 P6 P7 P8 P9 P10 P11
   have hcS := zC (b := v0.heap.size) [(0, .int .i64 x.kind), (1, .int .i64 x.lit.atom.kind), (2, .string x.lit.atom.a.name), (3, .slice d3 x.lit.atom.a.kids.length e3), (4, .string x.lit.atom.b.name), (5, .slice d5 x.lit.atom.b.kids.length e5), (6, .slice d6 x.lit.atom.nums.length e6), (7, .slice d7 x.lit.atom.times.length e7), (8, .int .i64 x.lit.atom.bound), (9, .bool x.lit.atom.strict), (10, .bool x.lit.no), (11, .slice none 0 0)] hcB (by simp)
   have hL := Loc.sets (b := v0.heap.size) (lo := v0.heap.size) (hi := v0.heap.size + 1) (Nat.le_refl _) (Nat.lt_succ_self _) [(0, .int .i64 x.kind), (1, .int .i64 x.lit.atom.kind), (2, .string x.lit.atom.a.name), (3, .slice d3 x.lit.atom.a.kids.length e3), (4, .string x.lit.atom.b.name), (5, .slice d5 x.lit.atom.b.kids.length e5), (6, .slice d6 x.lit.atom.nums.length e6), (7, .slice d7 x.lit.atom.times.length e7), (8, .int .i64 x.lit.atom.bound), (9, .bool x.lit.atom.strict), (10, .bool x.lit.no), (11, .slice none 0 0)] (Loc.refl _ _ v1)
   have hfS := zaG (b := v0.heap.size) (b' := v0.heap.size) [(0, .int .i64 x.kind), (1, .int .i64 x.lit.atom.kind), (2, .string x.lit.atom.a.name), (3, .slice d3 x.lit.atom.a.kids.length e3), (4, .string x.lit.atom.b.name), (5, .slice d5 x.lit.atom.b.kids.length e5), (6, .slice d6 x.lit.atom.nums.length e6), (7, .slice d7 x.lit.atom.times.length e7), (8, .int .i64 x.lit.atom.bound), (9, .bool x.lit.atom.strict), (10, .bool x.lit.no), (11, .slice none 0 0)] hfB
   have hend := zcc hBc hz hloB hB1 hx hy hf2 hcS hfS hrA hFP hnB hL
   clear hcS hL hfS hx hy hf2 hcB hfB hFP hnB hrA hBc
   simp only [zo] at hend
   go_simp
   refine hK.out _ _ (fun h => absurd h (by decide)) ?_
   clear hK
   try simp only [Act.put, zdX, zdY, zdZ]
   refine Till.done (by kernel_rfl) ?_ _
   exact ⟨_, _, _, _, _, _, _, _, _, _, _, _, _, _, _, _, _, _, _, _, _, rfl, hend⟩
  ·skip
   go_simp
   have hb := zb vv (.cells #[.int .i64 0, .int .i64 0, .string ⟨#[]⟩, .slice none 0 0, .string ⟨#[]⟩, .slice none 0 0, .slice none 0 0, .slice none 0 0, .int .i64 0, .bool false, .bool false, .slice none 0 0] 52)
   have hsn := asz2 vv (.cells #[.int .i64 0, .int .i64 0, .string ⟨#[]⟩, .slice none 0 0, .string ⟨#[]⟩, .slice none 0 0, .slice none 0 0, .slice none 0 0, .int .i64 0, .bool false, .bool false, .slice none 0 0] 52)
   have hcB := zy vv #[.int .i64 0, .int .i64 0, .string ⟨#[]⟩, .slice none 0 0, .string ⟨#[]⟩, .slice none 0 0, .slice none 0 0, .slice none 0 0, .int .i64 0, .bool false, .bool false, .slice none 0 0] 52
   have hfB := zW vv #[.int .i64 0, .int .i64 0, .string ⟨#[]⟩, .slice none 0 0, .string ⟨#[]⟩, .slice none 0 0, .slice none 0 0, .slice none 0 0, .int .i64 0, .bool false, .bool false, .slice none 0 0] 52
   have hB1 : vv.heap.size < (vv.alloc (.cells #[.int .i64 0, .int .i64 0, .string ⟨#[]⟩, .slice none 0 0, .string ⟨#[]⟩, .slice none 0 0, .slice none 0 0, .slice none 0 0, .int .i64 0, .bool false, .bool false, .slice none 0 0] 52)).heap.size := by omega
   have hloB : w.heap.size + 1 + 1 ≤ vv.heap.size := hz
   obtain ⟨v0, hnew⟩ : ∃ v0, v0 = vv.alloc (.cells #[.int .i64 0, .int .i64 0, .string ⟨#[]⟩, .slice none 0 0, .string ⟨#[]⟩, .slice none 0 0, .slice none 0 0, .slice none 0 0, .int .i64 0, .bool false, .bool false, .slice none 0 0] 52) := ⟨_, rfl⟩
   rw [← hnew] at hb hcB hfB hB1 hsn ⊢
   clear hnew hsn
   have hzn := hb.size
   replace hBc := hBc.trans (hb.mono (by omega))
   replace hF : (fun U : World => (U.cell? ⟨w.heap.size, 0, none⟩ = some (.int .i64 x.kind) ∧ U.cell? ⟨w.heap.size, 1, none⟩ = some (.int .i64 x.lit.atom.kind) ∧ U.cell? ⟨w.heap.size, 2, none⟩ = some (.string x.lit.atom.a.name) ∧ U.cell? ⟨w.heap.size, 3, none⟩ = some (.slice a3 x.lit.atom.a.kids.length c3) ∧ U.cell? ⟨w.heap.size, 4, none⟩ = some (.string x.lit.atom.b.name) ∧ U.cell? ⟨w.heap.size, 5, none⟩ = some (.slice a5 x.lit.atom.b.kids.length c5) ∧ U.cell? ⟨w.heap.size, 6, none⟩ = some (.slice a6 x.lit.atom.nums.length c6) ∧ U.cell? ⟨w.heap.size, 7, none⟩ = some (.slice a7 x.lit.atom.times.length c7) ∧ U.cell? ⟨w.heap.size, 8, none⟩ = some (.int .i64 x.lit.atom.bound) ∧ U.cell? ⟨w.heap.size, 9, none⟩ = some (.bool x.lit.atom.strict) ∧ U.cell? ⟨w.heap.size, 10, none⟩ = some (.bool x.lit.no) ∧ U.cell? ⟨w.heap.size, 11, none⟩ = some (.slice a11 x.kids.length c11))) v0 := ⟨za hF.1 hb, za hF.2.1 hb, za hF.2.2.1 hb, za hF.2.2.2.1 hb, za hF.2.2.2.2.1 hb, za hF.2.2.2.2.2.1 hb, za hF.2.2.2.2.2.2.1 hb, za hF.2.2.2.2.2.2.2.1 hb, za hF.2.2.2.2.2.2.2.2.1 hb, za hF.2.2.2.2.2.2.2.2.2.1 hb, za hF.2.2.2.2.2.2.2.2.2.2.1 hb, za hF.2.2.2.2.2.2.2.2.2.2.2 hb⟩
   replace hx := zd hx (by omega) hb
   replace hy := zd hy (by omega) hb
   replace hf2 := zj hf2 (by omega) hb
   replace hz := Nat.le_trans hz hzn
   clear hb hzn
   refine hK.out _ _ (fun _ => hF) ?_
   clear hK
   try simp only [Act.put, zdX, zdY, zdZ]
   refine Till.one (i := 5) (by kernel_rfl) rfl (fun K hK => ?_)
   go_simp
   go_wp2_with (go_at_call 46; refine (zcb x.lit.atom _ _ _ hsmall htimes (by exact hat.below hBc)).mono ?_; rintro e v1 ⟨us, fA, rfl, hrA, hfA, hb⟩)
   obtain ⟨d3, e3, h3, d5, e5, h5, d6, e6, h6, d7, e7, h7, rfl, _, _, _, _, _, _, _, _, _⟩ := Atm.open hrA
   have hge : ∀ y ∈ fA, v0.heap.size ≤ y := fun y hy => (hfA.2 y hy).1
   have hFP : Fresh (w.heap.size + 1 + 1) v1 fA := hfA.mono hz
   have hnB : ∀ y ∈ fA, y ≠ vv.heap.size := fun y hy => by have := hge y hy; omega
   have hzn := hb.size
   replace hBc := hBc.trans (hb.mono (by omega))
   replace hF : (fun U : World => (U.cell? ⟨w.heap.size, 0, none⟩ = some (.int .i64 x.kind) ∧ U.cell? ⟨w.heap.size, 1, none⟩ = some (.int .i64 x.lit.atom.kind) ∧ U.cell? ⟨w.heap.size, 2, none⟩ = some (.string x.lit.atom.a.name) ∧ U.cell? ⟨w.heap.size, 3, none⟩ = some (.slice a3 x.lit.atom.a.kids.length c3) ∧ U.cell? ⟨w.heap.size, 4, none⟩ = some (.string x.lit.atom.b.name) ∧ U.cell? ⟨w.heap.size, 5, none⟩ = some (.slice a5 x.lit.atom.b.kids.length c5) ∧ U.cell? ⟨w.heap.size, 6, none⟩ = some (.slice a6 x.lit.atom.nums.length c6) ∧ U.cell? ⟨w.heap.size, 7, none⟩ = some (.slice a7 x.lit.atom.times.length c7) ∧ U.cell? ⟨w.heap.size, 8, none⟩ = some (.int .i64 x.lit.atom.bound) ∧ U.cell? ⟨w.heap.size, 9, none⟩ = some (.bool x.lit.atom.strict) ∧ U.cell? ⟨w.heap.size, 10, none⟩ = some (.bool x.lit.no) ∧ U.cell? ⟨w.heap.size, 11, none⟩ = some (.slice a11 x.kids.length c11))) v1 := ⟨za hF.1 hb, za hF.2.1 hb, za hF.2.2.1 hb, za hF.2.2.2.1 hb, za hF.2.2.2.2.1 hb, za hF.2.2.2.2.2.1 hb, za hF.2.2.2.2.2.2.1 hb, za hF.2.2.2.2.2.2.2.1 hb, za hF.2.2.2.2.2.2.2.2.1 hb, za hF.2.2.2.2.2.2.2.2.2.1 hb, za hF.2.2.2.2.2.2.2.2.2.2.1 hb, za hF.2.2.2.2.2.2.2.2.2.2.2 hb⟩
   replace hx := zd hx (by omega) hb
   replace hy := zd hy (by omega) hb
   replace hf2 := zj hf2 (by omega) hb
   replace hcB := zd hcB hB1 hb
   replace hfB := zj hfB hB1 hb
   replace hB1 := zd3 hB1 hzn
   replace hz := Nat.le_trans hz hzn
   clear hb hzn
   clear hge hfA
   refine hK.out _ _ (fun _ => hF) ?_
   clear hK
   try simp only [Act.put, zdX, zdY, zdZ]
   refine Till.free (i := 9) (v := .agg #[.int .i64 x.lit.atom.kind, .string x.lit.atom.a.name, .slice d3 x.lit.atom.a.kids.length e3, .string x.lit.atom.b.name, .slice d5 x.lit.atom.b.kids.length e5, .slice d6 x.lit.atom.nums.length e6, .slice d7 x.lit.atom.times.length e7, .int .i64 x.lit.atom.bound, .bool x.lit.atom.strict, .bool x.lit.no]) rfl (by kernel_rfl) (by kernel_rfl) (by kernel_rfl) (fun _ _ _ h => h) (by kernel_rfl) (Or.inl ⟨by rfl, fun U _ => ?_⟩) (fun _ => hF) ?_
   ·go_simp
   try simp only [Act.put, zdX, zdY, zdZ]
   refine Till.free (i := 10) (v := .agg #[.int .i64 x.kind, .int .i64 x.lit.atom.kind, .string x.lit.atom.a.name, .slice d3 x.lit.atom.a.kids.length e3, .string x.lit.atom.b.name, .slice d5 x.lit.atom.b.kids.length e5, .slice d6 x.lit.atom.nums.length e6, .slice d7 x.lit.atom.times.length e7, .int .i64 x.lit.atom.bound, .bool x.lit.atom.strict, .bool x.lit.no, .slice none 0 0]) rfl (by kernel_rfl) (by kernel_rfl) (by kernel_rfl) (fun _ _ _ h => h) (by kernel_rfl) (Or.inl ⟨by rfl, fun U _ => ?_⟩) (fun _ => hF) ?_
   ·go_simp
   try simp only [Act.put, zdX, zdY, zdZ]
   refine Till.one (i := 12) (by kernel_rfl) rfl (fun K hK => ?_)
   have P0 := hcB 0
   have Q0 := hfB 0
   have P1 := hcB 1
   have Q1 := hfB 1
   have P2 := hcB 2
   have Q2 := hfB 2
   have P3 := hcB 3
   have Q3 := hfB 3
   have P4 := hcB 4
   have Q4 := hfB 4
   have P5 := hcB 5
   have Q5 := hfB 5
   have P6 := hcB 6
   have Q6 := hfB 6
   have P7 := hcB 7
   have Q7 := hfB 7
   have P8 := hcB 8
   have Q8 := hfB 8
   have P9 := hcB 9
   have Q9 := hfB 9
   have P10 := hcB 10
   have Q10 := hfB 10
   have P11 := hcB 11
   have Q11 := hfB 11
   simp only [zd2, zd0, zd1] at P0 P1 P2 P3 P4 P5 P6 P7 P8 P9 P10 P11
   have hcS := zC (b := vv.heap.size) [(0, .int .i64 x.kind), (1, .int .i64 x.lit.atom.kind), (2, .string x.lit.atom.a.name), (3, .slice d3 x.lit.atom.a.kids.length e3), (4, .string x.lit.atom.b.name), (5, .slice d5 x.lit.atom.b.kids.length e5), (6, .slice d6 x.lit.atom.nums.length e6), (7, .slice d7 x.lit.atom.times.length e7), (8, .int .i64 x.lit.atom.bound), (9, .bool x.lit.atom.strict), (10, .bool x.lit.no), (11, .slice none 0 0)] hcB (by simp)
   have hL := Loc.sets (b := vv.heap.size) (lo := vv.heap.size) (hi := vv.heap.size + 1) (Nat.le_refl _) (Nat.lt_succ_self _) [(0, .int .i64 x.kind), (1, .int .i64 x.lit.atom.kind), (2, .string x.lit.atom.a.name), (3, .slice d3 x.lit.atom.a.kids.length e3), (4, .string x.lit.atom.b.name), (5, .slice d5 x.lit.atom.b.kids.length e5), (6, .slice d6 x.lit.atom.nums.length e6), (7, .slice d7 x.lit.atom.times.length e7), (8, .int .i64 x.lit.atom.bound), (9, .bool x.lit.atom.strict), (10, .bool x.lit.no), (11, .slice none 0 0)] (Loc.refl _ _ v1)
   have hfS := zaG (b := vv.heap.size) (b' := vv.heap.size) [(0, .int .i64 x.kind), (1, .int .i64 x.lit.atom.kind), (2, .string x.lit.atom.a.name), (3, .slice d3 x.lit.atom.a.kids.length e3), (4, .string x.lit.atom.b.name), (5, .slice d5 x.lit.atom.b.kids.length e5), (6, .slice d6 x.lit.atom.nums.length e6), (7, .slice d7 x.lit.atom.times.length e7), (8, .int .i64 x.lit.atom.bound), (9, .bool x.lit.atom.strict), (10, .bool x.lit.no), (11, .slice none 0 0)] hfB
   have hend := zcc hBc hz hloB hB1 hx hy hf2 hcS hfS hrA hFP hnB hL
   clear hcS hL hfS hx hy hf2 hcB hfB hFP hnB hrA hBc
   simp only [zo] at hend
   go_simp
   refine hK.out _ _ (fun h => absurd h (by decide)) ?_
   clear hK
   try simp only [Act.put, zdX, zdY, zdZ]
   refine Till.done (by kernel_rfl) ?_ _
   exact ⟨_, _, _, _, _, _, _, _, _, _, _, _, _, _, _, _, _, _, _, _, _, rfl, hend⟩
theorem zbq (x : Fm) (vs : List Value) (f : List Nat) (w : World) (hbig : wtV x.cd ≤ 1048576) (hv : RdVs w x.cd vs f) :
  Calls Try.prog 28 #[.agg vs.toArray] w (zb9 x.cd w) := zcF _ x vs f w (Nat.le_refl _) hbig hv
theorem zdN (n : Nat) (ih : ∀ (x : Fm) (vs : List Value) (fp : List Nat) (w : World), ndV x.cd ≤ n → wtV x.cd ≤ 1048576 → RdVs w x.cd vs fp → Calls Try.prog 28 #[.agg vs.toArray] w (zb9 x.cd w))
  (xs : List Fm) (v : Value) (fp0 : List Nat) (w : World) (hn : ∀ x ∈ xs, ndV x.cd ≤ n) (hbig : xs.length + wtR (xs.map Fm.cd) ≤ 1048576) (hv : Rd w (.sl (xs.map Fm.cd)) v fp0) :
  Calls Try.prog 45 #[v] w (ToOut (.sl (xs.map Fm.cd)) w) := by
 obtain ⟨a, cap, rfl, hc1, hc2⟩ := zi hv
 have IH := Lib.hid ih
 have HN := Lib.hid hn
 clear ih hn
 go_enter Try.func45, Try.ntmps45
 go_wp2_with fail
 go_loopw [3, 4] (fun ov i wr => ∃ (k : Nat) (fp : List Nat), k ≤ xs.length ∧ i = .int .i64 k ∧ Own wr w.heap.size 52 12 ov ((xs.take k).map Fm.cd) fp ∧ Fresh w.heap.size wr fp ∧ Below w.heap.size w wr) (fun _ i _ => xs.length - (intOf i).toNat)
 case atStart => first | exact ⟨0, [], Nat.zero_le _, rfl, Own.nil _ _ _ _, Fresh.nil _ _, Below.refl _ _⟩ | exact ⟨0, [], Nat.zero_le _, rfl, by exact Own.empty _ _ _ _ (Nat.le_refl _), Fresh.nil _ _, (Below.refl _ _).alloc (Nat.le_refl _) _⟩
 case round =>
  obtain ⟨k, fp, hkl, rfl, hown, hfr, hb⟩ := hrel
  have hz := hb.size
  by_cases hlt : k < xs.length
  ·obtain ⟨b, off, rfl, hbs, _⟩ := zp hv (by omega)
   obtain ⟨a3, c3, f3, a5, c5, f5, a6, c6, f6, a7, c7, f7, a11, c11, f11, d0, d1, d2, d3, d4, d5, d6, d7, d8, d9, d10, d11, m0, m1, m2, m3, m4, m5, m6, m7, m8, m9, _⟩ := Fm.at (hv.below hb) hlt
   have hbz : b < wr.heap.size := by omega
   have hle := zJ Fm.cd xs (k + 1)
   rw [zP Fm.cd xs k hlt] at hle
   go_wp2_with fail
   refine (IH.out xs[k] _ _ _ (HN.out _ (zd6 hlt)) (by omega) (by exact Fm.close m0 m1 m2 m3 m4 m5 m6 m7 m8 m9)).mono ?_
   rintro e w2 ⟨kv, fk, rfl, hrk, hfk, hb2⟩
   obtain ⟨b3, e3, g3, b5, e5, g5, b6, e6, g6, b7, e7, g7, b11, e11, g11, rfl, -, n0, n1, n2, n3, n4, n5, n6, n7, n8, n9⟩ := Fm.open hrk
   have hbw : Below wr.heap.size wr w2 := hb2
   have hz2 := hbw.size
   have hown2 := (hown.below (hbw.alloc hz2 (.cells #[.int .i64 xs[k].kind, .int .i64 xs[k].lit.atom.kind, .string xs[k].lit.atom.a.name, .slice b3 xs[k].lit.atom.a.kids.length e3, .string xs[k].lit.atom.b.name, .slice b5 xs[k].lit.atom.b.kids.length e5, .slice b6 xs[k].lit.atom.nums.length e6, .slice b7 xs[k].lit.atom.times.length e7, .int .i64 xs[k].lit.atom.bound, .bool xs[k].lit.atom.strict, .bool xs[k].lit.no, .slice b11 xs[k].kids.length e11] 52)))
   have hrk2 := hrk.below (zb w2 (.cells #[.int .i64 xs[k].kind, .int .i64 xs[k].lit.atom.kind, .string xs[k].lit.atom.a.name, .slice b3 xs[k].lit.atom.a.kids.length e3, .string xs[k].lit.atom.b.name, .slice b5 xs[k].lit.atom.b.kids.length e5, .slice b6 xs[k].lit.atom.nums.length e6, .slice b7 xs[k].lit.atom.times.length e7, .int .i64 xs[k].lit.atom.bound, .bool xs[k].lit.atom.strict, .bool xs[k].lit.no, .slice b11 xs[k].kids.length e11] 52))
   have hl : ((xs.take k).map Fm.cd).length ≤ xs.length := by simp; omega
   go_wp2_with (at_builtin; refine zH zai rfl _ _ rfl w.heap.size _ _ _ rfl hown2 ⟨w2.heap.size, 0, none⟩ 1 1 [xs[k].cd] [.int .i64 xs[k].kind, .int .i64 xs[k].lit.atom.kind, .string xs[k].lit.atom.a.name, .slice b3 xs[k].lit.atom.a.kids.length e3, .string xs[k].lit.atom.b.name, .slice b5 xs[k].lit.atom.b.kids.length e5, .slice b6 xs[k].lit.atom.nums.length e6, .slice b7 xs[k].lit.atom.times.length e7, .int .i64 xs[k].lit.atom.bound, .bool xs[k].lit.atom.strict, .bool xs[k].lit.no, .slice b11 xs[k].kids.length e11] fk rfl rfl ?rd ?k ?cells ?na ?bytes ?len ?base ?next)
   case rd => simpa using hrk2
   case k => simp [Fm.cd_len]
   case cells => exact zr _ _ _
   case na => exact hown.away (Nat.le_refl _) hfk
   case bytes => omega
   case len => omega
   case base => simp; omega
   case next =>
    intro v' w4 hown4 hg hv' hs4
    go_wp2_with fail
    go_roundw
    case rel =>
     refine ⟨k + 1, fp ++ fk, by omega, by go_num, ?_, ?_, ?_⟩
     ·rw [zd4 hlt, zd8]; simpa using hown4
     ·exact ((Fresh.app (hfr.below hbw) hfr.lt hz hfk).below (zb _ _)).same hs4
     ·exact zk ((hb.trans (hbw.mono hz)).alloc (by omega) _) hg (by simp; omega) (fun k hk => (hown.block hk).1)
    case measure => simp [intOf]; omega
  ·have he : xs.take k = xs := List.take_of_length_le (by omega)
   rw [he] at hown
   go_wp2_with fail
   go_ret
   obtain ⟨fp', h1, h2, _⟩ := hown.fresh hfr
   exact ⟨_, fp', rfl, h1, h2, hb⟩
theorem zdO (xs : List Fm) (v : Value) (fp0 : List Nat) (w : World) (hbig : xs.length + wtR (xs.map Fm.cd) ≤ 1048576) (hv : Rd w (.sl (xs.map Fm.cd)) v fp0) :
  Calls Try.prog 45 #[v] w (ToOut (.sl (xs.map Fm.cd)) w) :=
 zdN (ndR (xs.map Fm.cd)) (zcF _) xs v fp0 w (fun x hx => Nat.le_of_lt (zcS (List.mem_map_of_mem hx))) hbig hv
end Go.Proofs.Yticlgpkjdmcnaaa
