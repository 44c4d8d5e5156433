/- Parts of the proof: StkO. -/
import Derived.BigQuiet
import Derived.Lib.Hide
import Derived.Test.YtbfinjiledfpcaaGreatPT14
import Derived.Test.YtbfinjiledfpcaaGreatPT9
import Derived.Deep.RegionHeld3
import Derived.Test.YtbfinjiledfpcaaGreatPT13
/- Well-formed forms in a language: both sides. -/
namespace Go.Proofs.YtbfinjiledfpcaaGreat
open Go Go.RowKit
set_option linter.unusedVariables false
set_option linter.unusedSimpArgs false
def zck (x : Atm) : Lt := ⟨x, false⟩
def zY (l : List Atm) : List Lt := l.map zck
theorem zcK (l : List Atm) (k : Nat) (h : k < l.length) : zY (l.take (k + 1)) = zY (l.take k) ++ [zck l[k]] := by
 unfold zY; rw [zgf h, zgj]; rfl
theorem litOf_wt (x : Atm) : wtV (zck x).cd = wtV x.cd := (Lt.wt_atom (zck x)).symm
theorem zbO : ∀ (l : List Atm), wtR ((zY l).map Lt.cd) = wtR (l.map Atm.cd)
 | [] => rfl
 | x :: l => by
  have h1 := zbO l; have h2 := litOf_wt x; simp only [zY, List.map_cons, zX] at h1 ⊢; omega
theorem zce {l : List Atm} (h : wtR (l.map Atm.cd) ≤ 1048576) : ∀ x ∈ zY l, x.M.small := fun x hx => by
 have := zcEU (cd := Lt.cd) hx; rw [zbO] at this; exact Lt.small_of (by omega)
theorem litsOf_T (l : List Atm) : Tm.sizes (zad (zY l)) ≤ 2 * l.length + wtR (l.map Atm.cd) := by
 have h := ze6 (zY l); rw [zbO] at h
 simpa [zY] using h
theorem litsOf_U (l : List Atm) : Tm.sizes (zau (zY l)) ≤ 2 * l.length + wtR (l.map Atm.cd) := by
 have h := ze7 (zY l); rw [zbO] at h
 simpa [zY] using h
def zdd (s : Sg) (fs : List Fm) : Bool := s.okB && (zaC fs && zbd s (zY (zab fs)))
theorem zcL {s : Sg} {fs : List Fm} (h : s.okB = false) : zdd s fs = false := by unfold zdd; rw [h]; rfl
theorem ze8 {s : Sg} {fs : List Fm} (h : zaC fs = false) : zdd s fs = false := by unfold zdd; rw [h]; simp
theorem zei {s : Sg} {fs : List Fm} (h : s.okB = true) (h' : zaC fs = true) : zdd s fs = zbd s (zY (zab fs)) := by unfold zdd; rw [h, h']; rfl
theorem zcM (fs : List Fm) : wtR ((zab fs).map Atm.cd) ≤ wtR (fs.map Fm.cd) ∧ (zab fs).length ≤ 6 := by
 unfold zab
 split
 ·rename_i h
  have h1 := Fm.adds_wt fs []; simp only [zaC, zgm, decide_eq_true_eq] at h; simp only [List.map_nil, wtR, Nat.zero_add] at h1; exact ⟨h1, h.2.2⟩
 ·simp [wtR]
theorem zfJ {fs : List Fm} (h : zaC fs = true) : Fm.tells [] fs = zab fs := by
 rw [zcb h]; simp only [zaC, zgm] at h; exact (Fm.ok_adds fs [] h.2.1).symm
set_option maxRecDepth 100000 in
set_option maxHeartbeats 1000000 in
theorem plain_any (l : List Atm) (v : Value) (g : List Nat) (w : World) (hlen : l.length ≤ 1000000000) (hv : Rd w (.sl (l.map Atm.cd)) v g) :
  Calls Tryz.prog 43 #[v] w fun e w' => (∃ rv rf, e = .returned rv ∧ Rd w' (.sl ((zY l).map Lt.cd)) rv rf) ∧ Below w.heap.size w w' := by
 obtain ⟨a, cap, rfl, hc1, hc2⟩ := zg hv; have hfl := hv.lt _; go_enter Tryz.func43, Tryz.ntmps43; go_wp2_with fail
 go_loopw [3, 8] (fun ov i wr => ∃ (k : Nat) (fp : List Nat), k ≤ l.length ∧ i = .int .i64 k ∧ Own wr w.heap.size 33 10 ov ((zY (l.take k)).map Lt.cd) fp ∧ Below w.heap.size w wr) (fun _ i _ => l.length - (intOf i).toNat)
 case atStart => exact ⟨0, [], zgx _, rfl, Own.nil _ _ _ _, zgz _ _⟩
 case round =>
  obtain ⟨k, fp, hkl, rfl, hown, hb⟩ := hrel; have hz := hb.size
  by_cases hlt : k < l.length
  ·obtain ⟨b, off, rfl, hbs, _⟩ := zl hv (by omega)
   have hbz : b < wr.heap.size := by omega
   obtain ⟨a2, c2, f2, a4, c4, f4, a5, c5, f5, a6, c6, f6, d0, d1, d2, d3, d4, d5, d6, d7, d8, n0, n1, n2, n3, n4, n5, n6, n7, hsub⟩ := Atm.at (hv.below hb) hlt; have hBA : Below wr.heap.size wr ((wr.alloc (.cells (yNa l[k] a2 c2 a4 c4 a5 c5 a6 c6) 31)).alloc (.cells #[.int .i64 l[k].kind, .string l[k].a.name, .slice a2 l[k].a.K.length c2, .string l[k].b.name, .slice a4 l[k].b.K.length c4, .slice a5 l[k].N.length c5, .slice a6 l[k].T.length c6, .int .i64 l[k].O, .bool l[k].C, .bool false] 33)) := ((zgz _ _).alloc (zgo _) _).alloc (by simp) _; have hB2 := hb.trans (hBA.mono hz)
   have hl : ((zY (l.take k)).map Lt.cd).length = k := by simp [zY]; omega
   have hnews : RdVs wr [(zck l[k]).cd].flatten [.int .i64 l[k].kind, .string l[k].a.name, .slice a2 l[k].a.K.length c2, .string l[k].b.name, .slice a4 l[k].b.K.length c4, .slice a5 l[k].N.length c5, .slice a6 l[k].T.length c6, .int .i64 l[k].O, .bool l[k].C, .bool false] (f2 ++ (f4 ++ (f5 ++ f6))) := by
    have := Lt.close (x := zck l[k]) n0 n1 n2 n3 n4 n5 n6 n7
    simpa [zck] using this
   have hne : ∀ y ∈ f2 ++ (f4 ++ (f5 ++ f6)), u3.ownBlock ≠ some y := fun y hy e => by have h1 := (hown.block e).1; have h2 := hfl y (hsub y hy); omega
   have HT := zgn (zcK l k hlt); go_wp2_with (at_builtin; refine zz ze2 rfl _ _ rfl w.heap.size _ _ _ rfl (hown.below hBA) ⟨wr.heap.size + 1, 0, none⟩ 1 1 [(zck l[k]).cd] [.int .i64 l[k].kind, .string l[k].a.name, .slice a2 l[k].a.K.length c2, .string l[k].b.name, .slice a4 l[k].b.K.length c4, .slice a5 l[k].N.length c5, .slice a6 l[k].T.length c6, .int .i64 l[k].O, .bool l[k].C, .bool false] (f2 ++ (f4 ++ (f5 ++ f6))) rfl rfl (hnews.below hBA) ?k ?cells ?na ?bytes ?len ?base ?next)
   case k => simp [Lt.cd, Atm.cd_len]
   case cells =>
    intro j u hj; have := zq (wr.alloc (.cells (yNa l[k] a2 c2 a4 c4 a5 c5 a6 c6) 31)) [.int .i64 l[k].kind, .string l[k].a.name, .slice a2 l[k].a.K.length c2, .string l[k].b.name, .slice a4 l[k].b.K.length c4, .slice a5 l[k].N.length c5, .slice a6 l[k].T.length c6, .int .i64 l[k].O, .bool l[k].C, .bool false] 33 j u hj
    simpa using this
   case na => exact hne
   case bytes => rw [hl]; omega
   case len => rw [hl]; omega
   case base => simp; omega
   case next =>
    intro v' w4 hown4 hg hv' hs4; have hb4 := zo hB2 hg (by simp; omega) (fun q hq => (hown.block hq).1); clear hl; go_wp2_with fail; go_roundw
    case rel =>
     refine ⟨k + 1, fp ++ (f2 ++ (f4 ++ (f5 ++ f6))), by omega, by go_num, ?_, hb4⟩; rw [HT.out, zgj]; exact hown4
    case measure => simp [intOf]; omega
  ·have he : l.take k = l := zgq (by omega)
   rw [he] at hown; obtain ⟨oa, on, oc, rfl⟩ := hown.form'; obtain ⟨fp', hr⟩ := hown.rd'; clear he; go_wp2_with fail; go_ret; exact ⟨⟨_, fp', rfl, hr⟩, hb⟩
set_option maxRecDepth 100000 in
set_option maxHeartbeats 1000000 in
theorem zbo (l : List Atm) (v : Value) (g : List Nat) (w : World) (hlen : l.length ≤ 1000000000) (hv : Rd w (.sl (l.map Atm.cd)) v g) :
  Calls Tryz.prog 45 #[v] w fun e w' => (∃ rv rf, e = .returned rv ∧ Rd w' (.sl ((zY l).map Lt.cd)) rv rf) ∧ Below w.heap.size w w' := by
 obtain ⟨a, cap, rfl, hc1, hc2⟩ := zg hv; have hfl := hv.lt _; go_enter Tryz.func45, Tryz.ntmps45; go_wp2_with fail
 go_loopw [3, 4] (fun ov i wr => ∃ (k : Nat) (fp : List Nat), k ≤ l.length ∧ i = .int .i64 k ∧ Own wr w.heap.size 33 10 ov ((zY (l.take k)).map Lt.cd) fp ∧ Below w.heap.size w wr) (fun _ i _ => l.length - (intOf i).toNat)
 case atStart => exact ⟨0, [], zgx _, rfl, Own.empty _ _ _ _ (zgo _), zb _ _⟩
 case round =>
  obtain ⟨k, fp, hkl, rfl, hown, hb⟩ := hrel; have hz := hb.size
  by_cases hlt : k < l.length
  ·obtain ⟨b, off, rfl, hbs, _⟩ := zl hv (by omega)
   have hbz : b < wr.heap.size := by omega
   obtain ⟨a2, c2, f2, a4, c4, f4, a5, c5, f5, a6, c6, f6, d0, d1, d2, d3, d4, d5, d6, d7, d8, n0, n1, n2, n3, n4, n5, n6, n7, hsub⟩ := Atm.at (hv.below hb) hlt; have hBA : Below wr.heap.size wr (wr.alloc (.cells #[.int .i64 l[k].kind, .string l[k].a.name, .slice a2 l[k].a.K.length c2, .string l[k].b.name, .slice a4 l[k].b.K.length c4, .slice a5 l[k].N.length c5, .slice a6 l[k].T.length c6, .int .i64 l[k].O, .bool l[k].C, .bool false] 33)) := zb _ _; have hB2 := hb.trans (hBA.mono hz)
   have hl : ((zY (l.take k)).map Lt.cd).length = k := by simp [zY]; omega
   have hnews : RdVs wr [(zck l[k]).cd].flatten [.int .i64 l[k].kind, .string l[k].a.name, .slice a2 l[k].a.K.length c2, .string l[k].b.name, .slice a4 l[k].b.K.length c4, .slice a5 l[k].N.length c5, .slice a6 l[k].T.length c6, .int .i64 l[k].O, .bool l[k].C, .bool false] (f2 ++ (f4 ++ (f5 ++ f6))) := by
    have := Lt.close (x := zck l[k]) n0 n1 n2 n3 n4 n5 n6 n7
    simpa [zck] using this
   have hne : ∀ y ∈ f2 ++ (f4 ++ (f5 ++ f6)), u3.ownBlock ≠ some y := fun y hy e => by have h1 := (hown.block e).1; have h2 := hfl y (hsub y hy); omega
   have HT := zgn (zcK l k hlt); go_wp2_with (at_builtin; refine zz ze2 rfl _ _ rfl w.heap.size _ _ _ rfl (hown.below hBA) ⟨wr.heap.size, 0, none⟩ 1 1 [(zck l[k]).cd] [.int .i64 l[k].kind, .string l[k].a.name, .slice a2 l[k].a.K.length c2, .string l[k].b.name, .slice a4 l[k].b.K.length c4, .slice a5 l[k].N.length c5, .slice a6 l[k].T.length c6, .int .i64 l[k].O, .bool l[k].C, .bool false] (f2 ++ (f4 ++ (f5 ++ f6))) rfl rfl (hnews.below hBA) ?k ?cells ?na ?bytes ?len ?base ?next)
   case k => simp [Lt.cd, Atm.cd_len]
   case cells =>
    intro j u hj; have := zq wr [.int .i64 l[k].kind, .string l[k].a.name, .slice a2 l[k].a.K.length c2, .string l[k].b.name, .slice a4 l[k].b.K.length c4, .slice a5 l[k].N.length c5, .slice a6 l[k].T.length c6, .int .i64 l[k].O, .bool l[k].C, .bool false] 33 j u hj
    simpa using this
   case na => exact hne
   case bytes => rw [hl]; omega
   case len => rw [hl]; omega
   case base => simp; omega
   case next =>
    intro v' w4 hown4 hg hv' hs4; have hb4 := zo hB2 hg (by simp; omega) (fun q hq => (hown.block hq).1); clear hl; go_wp2_with fail; go_roundw
    case rel =>
     refine ⟨k + 1, fp ++ (f2 ++ (f4 ++ (f5 ++ f6))), by omega, by go_num, ?_, hb4⟩; rw [HT.out, zgj]; exact hown4
    case measure => simp [intOf]; omega
  ·have he : l.take k = l := zgq (by omega)
   rw [he] at hown; obtain ⟨oa, on, oc, rfl⟩ := hown.form'; obtain ⟨fp', hr⟩ := hown.rd'; clear he; go_wp2_with fail; go_ret; exact ⟨⟨_, fp', rfl, hr⟩, hb⟩
theorem zcm (s : Sg) (b : Bool) (hs : s.okB = b) (vs : List Value) (f : List Nat) (w : World) (hv : RdVs w s.cd vs f) :
  Calls Tryz.prog 49 #[.agg vs.toArray] w fun e w' => e = .returned (.bool b) ∧ Below w.heap.size w w' := by subst hs; exact zbJ s vs f w hv
theorem zcN (s : Sg) (b : Bool) (hs : s.okB = b) (vs : List Value) (f : List Nat) (w : World) (hv : RdVs w s.cd vs f) :
  Calls Tryz.prog 55 #[.agg vs.toArray] w fun e w' => e = .returned (.bool b) ∧ Below w.heap.size w w' := by subst hs; exact zbl s vs f w hv
theorem zcO (fs : List Fm) (b : Bool) (hf : zaC fs = b) (v : Value) (ff : List Nat) (w : World) (hbig : fs.length + wtR (fs.map Fm.cd) ≤ 1048576) (hv : Rd w (.sl (fs.map Fm.cd)) v ff) :
  Calls Tryz.prog 56 #[v] w fun e w' => e = .returned (.bool b) ∧ Below w.heap.size w w' := by subst hf; exact zd7 fs v ff w hbig hv
theorem told0_any (fs : List Fm) (hf : zaC fs = true) (v : Value) (ff : List Nat) (w : World) (hbig : fs.length + wtR (fs.map Fm.cd) ≤ 1048576) (hv : Rd w (.sl (fs.map Fm.cd)) v ff) :
  Calls Tryz.prog 57 #[v] w fun e w' => (∃ rv rf, e = .returned rv ∧ Rd w' (.sl ((zab fs).map Atm.cd)) rv rf) ∧ Below w.heap.size w w' :=
 (zcF fs v ff w hbig hv).mono fun e w' ⟨rv, fp, h1, h2, _, h4⟩ => by
  rw [zfJ hf] at h2; obtain ⟨fp', h5⟩ := h2.rd'; exact ⟨⟨rv, fp', h1, h5⟩, h4⟩
set_option maxRecDepth 100000 in
set_option maxHeartbeats 4000000 in
theorem zeQ (s : Sg) (fs : List Fm) (us : List Value) (v : Value) (f0 ff : List Nat) (w : World) (hbig : fs.length + wtR (fs.map Fm.cd) ≤ 1048576) (hs : RdVs w s.cd us f0) (hv : Rd w (.sl (fs.map Fm.cd)) v ff) :
  Calls Tryz.prog 17 #[.agg us.toArray, v] w fun e w' => e = .returned (.bool (zdd s fs)) ∧ Below w.heap.size w w' := by
 obtain ⟨a0, c0, g0, rfl, _, n0⟩ := Sg.open hs; obtain ⟨p1, q1, rfl, hc1, hd1⟩ := zg hv; clear n0; obtain ⟨hwt, hwl⟩ := zcM fs; have hsm := zce (l := zab fs) (by omega); have hbg := litsOf_T (zab fs); have X0 := zt w #[.slice a0 s.Y.length c0] 25; have hB := zb w (.cells #[.slice a0 s.Y.length c0] 25); have hz0 := hB.size
 have hlX0 : w.heap.size < (w.alloc (.cells #[.slice a0 s.Y.length c0] 25)).heap.size := by simp
 go_enter Tryz.func17, Tryz.ntmps17; go_wp2_with fail; refine (zdb fs _ _ _ hbig (by exact hv.below hB)).mono ?_; rintro e wA ⟨av, af, rfl, ar, _, hb⟩; replace X0 := zh X0 hlX0 hb; replace hB := hB.trans (hb.mono hz0); have hzn := hb.size; replace hlX0 := zge hlX0 hzn; replace hz0 := zgy hz0 hzn; clear hb hzn
 cases hso : s.okB
 ·cases hfo : zaC fs
  ·have HE := zgn (zcL (fs := fs) hso)
   go_wp2_with fail; have HL0 := zgn (fun (W' : World) (hb' : Below wA.heap.size wA W') => zcm s false hso _ _ W' (hs.below (hB.trans (hb'.mono hB.size)))); have C0_0 := X0 0; simp only [zgd, zgb, zgc] at C0_0; clear X0; have qC0_0 := cell_regrown C0_0; clear C0_0; refine wp_region_quiet_below (by kernel_rfl) (by kernel_rfl) ?_
   repeat (first | go_big_quiet_skip | quiet_step (first | (go_at_call 49; with_reducible refine zgr (HL0.out _ (below_regrown _ _ _)))))
   refine wpQuiet_nil ?_; intro w9 hw2; obtain ⟨⟨dq, osq⟩, hw2⟩ := hw2; have hb9 : Below (wA).heap.size (wA) w9 := hw2 ▸ below_regrown (wA) dq osq; clear hw2 qC0_0; go_wp2_with fail; go_ret; exact ⟨retB HE.out.symm, hB.trans (hb9.mono hz0)⟩
  ·have HE := zgn (zcL (fs := fs) hso)
   go_wp2_with fail; have HL0 := zgn (fun (W' : World) (hb' : Below wA.heap.size wA W') => zcm s false hso _ _ W' (hs.below (hB.trans (hb'.mono hB.size)))); have C0_0 := X0 0; simp only [zgd, zgb, zgc] at C0_0; clear X0; have qC0_0 := cell_regrown C0_0; clear C0_0; refine wp_region_quiet_below (by kernel_rfl) (by kernel_rfl) ?_
   repeat (first | go_big_quiet_skip | quiet_step (first | (go_at_call 49; with_reducible refine zgr (HL0.out _ (below_regrown _ _ _)))))
   refine wpQuiet_nil ?_; intro w9 hw2; obtain ⟨⟨dq, osq⟩, hw2⟩ := hw2; have hb9 : Below (wA).heap.size (wA) w9 := hw2 ▸ below_regrown (wA) dq osq; clear hw2 qC0_0; go_wp2_with fail; go_ret; exact ⟨retB HE.out.symm, hB.trans (hb9.mono hz0)⟩
 ·cases hfo : zaC fs
  ·have HE := zgn (ze8 (s := s) hfo)
   go_wp2_with fail; have HL0 := zgn (fun (W' : World) (hb' : Below wA.heap.size wA W') => zcm s true hso _ _ W' (hs.below (hB.trans (hb'.mono hB.size)))); have C0_0 := X0 0; simp only [zgd, zgb, zgc] at C0_0; clear X0; have qC0_0 := cell_regrown C0_0; clear C0_0; refine wp_region_quiet_below (by kernel_rfl) (by kernel_rfl) ?_
   repeat (first | go_big_quiet_skip | quiet_step (first | (go_at_call 49; with_reducible refine zgr (HL0.out _ (below_regrown _ _ _)))))
   refine wpQuiet_nil ?_; intro w9 hw2; obtain ⟨⟨dq, osq⟩, hw2⟩ := hw2; have hb9 : Below (wA).heap.size (wA) w9 := hw2 ▸ below_regrown (wA) dq osq; clear hw2 qC0_0; go_wp2_with fail; go_ret; exact ⟨retB HE.out.symm, hB.trans (hb9.mono hz0)⟩
  ·have HE := zgn (zei hso hfo)
   go_wp2_with fail; have C0_0 := X0 0; simp only [zgd, zgb, zgc] at C0_0
   first | go_region_held3 (fun W => W.cell? ⟨w.heap.size, 0, none⟩ = some (.slice a0 s.Y.length c0) ∧ Below w.heap.size w W)
    (first | exact ⟨C0_0, hB.drew⟩ | (refine ⟨?_, (hB).trans ((zc hbR0).mono (hB).size)⟩ <;> (refine (za ?_ (zc hbR0)); assumption)) | (refine (za ?_ (zc hbR0)); assumption) | exact (hB).trans ((zc hbR0).mono (hB).size) | (refine ⟨?_, ((hB).trans ((zc hbR0).mono (hB).size)).trans (hbR1.mono ((hB).trans ((zc hbR0).mono (hB).size)).size)⟩ <;> (refine (za (za ?_ (zc hbR0)) hbR1); assumption)) | (refine (za (za ?_ (zc hbR0)) hbR1); assumption) | exact ((hB).trans ((zc hbR0).mono (hB).size)).trans (hbR1.mono ((hB).trans ((zc hbR0).mono (hB).size)).size) | (refine ⟨?_, (((hB).trans ((zc hbR0).mono (hB).size)).trans (hbR1.mono ((hB).trans ((zc hbR0).mono (hB).size)).size)).trans (hbR2.mono (((hB).trans ((zc hbR0).mono (hB).size)).trans (hbR1.mono ((hB).trans ((zc hbR0).mono (hB).size)).size)).size)⟩ <;> (refine (za (za (za ?_ (zc hbR0)) hbR1) hbR2); assumption)) | (refine (za (za (za ?_ (zc hbR0)) hbR1) hbR2); assumption) | exact (((hB).trans ((zc hbR0).mono (hB).size)).trans (hbR1.mono ((hB).trans ((zc hbR0).mono (hB).size)).size)).trans (hbR2.mono (((hB).trans ((zc hbR0).mono (hB).size)).trans (hbR1.mono ((hB).trans ((zc hbR0).mono (hB).size)).size)).size))
    (first | (go_at_call 49; (with_reducible refine (zcm s true hso _ _ _ (by exact hs.below (hB.drew))).mono ?_); rintro e wR0 ⟨rfl, hbR0⟩) | (go_at_call 43; (with_reducible refine (plain_any (zab fs) _ _ _ (by omega) (by exact ar.below ((zc hbR0)))).mono ?_); rintro e wR1 ⟨⟨lv, lf, rfl, lr⟩, hbR1⟩) | (go_at_call 15; (with_reducible refine (zfH s (zY (zab fs)) _ _ _ _ _ hsm (by omega) (by exact hs.below (((hB).trans ((zc hbR0).mono (hB).size)).trans (hbR1.mono ((hB).trans ((zc hbR0).mono (hB).size)).size))) (by exact lr)).mono ?_); rintro e wR2 ⟨rfl, hbR2⟩)) | fail
   have hb := zc hbR0; clear hbR0; replace X0 := zh X0 hlX0 hb; replace hB := hB.trans (hb.mono hz0); have hzn := hb.size; replace hlX0 := zge hlX0 hzn; replace hz0 := zgy hz0 hzn; clear hb hzn; have hb := hbR1; clear hbR1; replace X0 := zh X0 hlX0 hb; replace hB := hB.trans (hb.mono hz0); have hzn := hb.size; replace hlX0 := zge hlX0 hzn; replace hz0 := zgy hz0 hzn; clear hb hzn; have hb := hbR2; clear hbR2; replace X0 := zh X0 hlX0 hb; replace hB := hB.trans (hb.mono hz0); have hzn := hb.size; replace hlX0 := zge hlX0 hzn; replace hz0 := zgy hz0 hzn; clear hb hzn; clear C0_0; go_wp2_with fail; go_ret; exact ⟨retB HE.out.symm, hB⟩
set_option maxRecDepth 100000 in
set_option maxHeartbeats 4000000 in
theorem zej (s : Sg) (fs : List Fm) (us : List Value) (v : Value) (f0 ff : List Nat) (w : World) (hbig : fs.length + wtR (fs.map Fm.cd) ≤ 1048576) (hs : RdVs w s.cd us f0) (hv : Rd w (.sl (fs.map Fm.cd)) v ff) :
  Calls Tryz.prog 18 #[.agg us.toArray, v] w fun e w' => e = .returned (.bool (zdd s fs)) ∧ Below w.heap.size w w' := by
 obtain ⟨a0, c0, g0, rfl, _, n0⟩ := Sg.open hs; obtain ⟨p1, q1, rfl, hc1, hd1⟩ := zg hv; clear n0; obtain ⟨hwt, hwl⟩ := zcM fs; have hsm := zce (l := zab fs) (by omega); have hbg := litsOf_U (zab fs); have X0 := zt w #[.slice a0 s.Y.length c0] 25; have hB := zb w (.cells #[.slice a0 s.Y.length c0] 25); have hz0 := hB.size
 have hlX0 : w.heap.size < (w.alloc (.cells #[.slice a0 s.Y.length c0] 25)).heap.size := by simp
 go_enter Tryz.func18, Tryz.ntmps18; go_wp2_with fail
 cases hso : s.okB
 ·have HE := zgn (zcL (fs := fs) hso)
  generalize hWW : w.alloc (.cells #[.slice a0 s.Y.length c0] 25) = W0 at *; clear hWW; have HL0 := zgn (fun (W' : World) (hb' : Below W0.heap.size W0 W') => zcN s false hso _ _ W' (hs.below (hB.trans (hb'.mono hB.size)))); have C0_0 := X0 0; simp only [zgd, zgb, zgc] at C0_0; clear X0; have qC0_0 := cell_regrown C0_0; clear C0_0; refine wp_region_quiet_below (by kernel_rfl) (by kernel_rfl) ?_
  repeat (first | go_big_quiet_skip | quiet_step (first | (go_at_call 55; with_reducible refine zgr (HL0.out _ (below_regrown _ _ _)))))
  refine wpQuiet_nil ?_; intro w9 hw2; obtain ⟨⟨dq, osq⟩, hw2⟩ := hw2; have hb9 : Below (W0).heap.size (W0) w9 := hw2 ▸ below_regrown (W0) dq osq; clear hw2 qC0_0; go_wp2_with fail; go_ret; exact ⟨retB HE.out.symm, hB.trans (hb9.mono hz0)⟩
 ·cases hfo : zaC fs
  ·have HE := zgn (ze8 (s := s) hfo)
   generalize hWW : w.alloc (.cells #[.slice a0 s.Y.length c0] 25) = W0 at *; clear hWW; have HL0 := zgn (fun (W' : World) (hb' : Below W0.heap.size W0 W') => zcN s true hso _ _ W' (hs.below (hB.trans (hb'.mono hB.size)))); have HL1 := zgn (fun (W' : World) (hb' : Below W0.heap.size W0 W') => zcO fs false hfo _ _ W' hbig (hv.below (hB.trans (hb'.mono hB.size)))); have C0_0 := X0 0; simp only [zgd, zgb, zgc] at C0_0; clear X0; have qC0_0 := cell_regrown C0_0; clear C0_0; refine wp_region_quiet_below (by kernel_rfl) (by kernel_rfl) ?_
   repeat (first | go_big_quiet_skip | quiet_step (first | (go_at_call 55; with_reducible refine zgr (HL0.out _ (below_regrown _ _ _))) | (go_at_call 56; with_reducible refine zgr (HL1.out _ (below_regrown _ _ _)))))
   refine wpQuiet_nil ?_; intro w9 hw2; obtain ⟨⟨dq, osq⟩, hw2⟩ := hw2; have hb9 : Below (W0).heap.size (W0) w9 := hw2 ▸ below_regrown (W0) dq osq; clear hw2 qC0_0; go_wp2_with fail; go_ret; exact ⟨retB HE.out.symm, hB.trans (hb9.mono hz0)⟩
  ·have HE := zgn (zei hso hfo)
   have C0_0 := X0 0; simp only [zgd, zgb, zgc] at C0_0
   first | go_region_held3 (fun W => W.cell? ⟨w.heap.size, 0, none⟩ = some (.slice a0 s.Y.length c0) ∧ Below w.heap.size w W)
    (first | exact ⟨C0_0, hB.drew⟩ | (refine ⟨?_, (hB).trans ((zc hbR0).mono (hB).size)⟩ <;> (refine (za ?_ (zc hbR0)); assumption)) | (refine (za ?_ (zc hbR0)); assumption) | exact (hB).trans ((zc hbR0).mono (hB).size) | (refine ⟨?_, ((hB).trans ((zc hbR0).mono (hB).size)).trans (hbR1.mono ((hB).trans ((zc hbR0).mono (hB).size)).size)⟩ <;> (refine (za (za ?_ (zc hbR0)) hbR1); assumption)) | (refine (za (za ?_ (zc hbR0)) hbR1); assumption) | exact ((hB).trans ((zc hbR0).mono (hB).size)).trans (hbR1.mono ((hB).trans ((zc hbR0).mono (hB).size)).size) | (refine ⟨?_, (((hB).trans ((zc hbR0).mono (hB).size)).trans (hbR1.mono ((hB).trans ((zc hbR0).mono (hB).size)).size)).trans (hbR2.mono (((hB).trans ((zc hbR0).mono (hB).size)).trans (hbR1.mono ((hB).trans ((zc hbR0).mono (hB).size)).size)).size)⟩ <;> (refine (za (za (za ?_ (zc hbR0)) hbR1) hbR2); assumption)) | (refine (za (za (za ?_ (zc hbR0)) hbR1) hbR2); assumption) | exact (((hB).trans ((zc hbR0).mono (hB).size)).trans (hbR1.mono ((hB).trans ((zc hbR0).mono (hB).size)).size)).trans (hbR2.mono (((hB).trans ((zc hbR0).mono (hB).size)).trans (hbR1.mono ((hB).trans ((zc hbR0).mono (hB).size)).size)).size) | (refine ⟨?_, ((((hB).trans ((zc hbR0).mono (hB).size)).trans (hbR1.mono ((hB).trans ((zc hbR0).mono (hB).size)).size)).trans (hbR2.mono (((hB).trans ((zc hbR0).mono (hB).size)).trans (hbR1.mono ((hB).trans ((zc hbR0).mono (hB).size)).size)).size)).trans (hbR3.mono ((((hB).trans ((zc hbR0).mono (hB).size)).trans (hbR1.mono ((hB).trans ((zc hbR0).mono (hB).size)).size)).trans (hbR2.mono (((hB).trans ((zc hbR0).mono (hB).size)).trans (hbR1.mono ((hB).trans ((zc hbR0).mono (hB).size)).size)).size)).size)⟩ <;> (refine (za (za (za (za ?_ (zc hbR0)) hbR1) hbR2) hbR3); assumption)) | (refine (za (za (za (za ?_ (zc hbR0)) hbR1) hbR2) hbR3); assumption) | exact ((((hB).trans ((zc hbR0).mono (hB).size)).trans (hbR1.mono ((hB).trans ((zc hbR0).mono (hB).size)).size)).trans (hbR2.mono (((hB).trans ((zc hbR0).mono (hB).size)).trans (hbR1.mono ((hB).trans ((zc hbR0).mono (hB).size)).size)).size)).trans (hbR3.mono ((((hB).trans ((zc hbR0).mono (hB).size)).trans (hbR1.mono ((hB).trans ((zc hbR0).mono (hB).size)).size)).trans (hbR2.mono (((hB).trans ((zc hbR0).mono (hB).size)).trans (hbR1.mono ((hB).trans ((zc hbR0).mono (hB).size)).size)).size)).size) | (refine ⟨?_, (((((hB).trans ((zc hbR0).mono (hB).size)).trans (hbR1.mono ((hB).trans ((zc hbR0).mono (hB).size)).size)).trans (hbR2.mono (((hB).trans ((zc hbR0).mono (hB).size)).trans (hbR1.mono ((hB).trans ((zc hbR0).mono (hB).size)).size)).size)).trans (hbR3.mono ((((hB).trans ((zc hbR0).mono (hB).size)).trans (hbR1.mono ((hB).trans ((zc hbR0).mono (hB).size)).size)).trans (hbR2.mono (((hB).trans ((zc hbR0).mono (hB).size)).trans (hbR1.mono ((hB).trans ((zc hbR0).mono (hB).size)).size)).size)).size)).trans (hbR4.mono (((((hB).trans ((zc hbR0).mono (hB).size)).trans (hbR1.mono ((hB).trans ((zc hbR0).mono (hB).size)).size)).trans (hbR2.mono (((hB).trans ((zc hbR0).mono (hB).size)).trans (hbR1.mono ((hB).trans ((zc hbR0).mono (hB).size)).size)).size)).trans (hbR3.mono ((((hB).trans ((zc hbR0).mono (hB).size)).trans (hbR1.mono ((hB).trans ((zc hbR0).mono (hB).size)).size)).trans (hbR2.mono (((hB).trans ((zc hbR0).mono (hB).size)).trans (hbR1.mono ((hB).trans ((zc hbR0).mono (hB).size)).size)).size)).size)).size)⟩ <;> (refine (za (za (za (za (za ?_ (zc hbR0)) hbR1) hbR2) hbR3) hbR4); assumption)) | (refine (za (za (za (za (za ?_ (zc hbR0)) hbR1) hbR2) hbR3) hbR4); assumption) | exact (((((hB).trans ((zc hbR0).mono (hB).size)).trans (hbR1.mono ((hB).trans ((zc hbR0).mono (hB).size)).size)).trans (hbR2.mono (((hB).trans ((zc hbR0).mono (hB).size)).trans (hbR1.mono ((hB).trans ((zc hbR0).mono (hB).size)).size)).size)).trans (hbR3.mono ((((hB).trans ((zc hbR0).mono (hB).size)).trans (hbR1.mono ((hB).trans ((zc hbR0).mono (hB).size)).size)).trans (hbR2.mono (((hB).trans ((zc hbR0).mono (hB).size)).trans (hbR1.mono ((hB).trans ((zc hbR0).mono (hB).size)).size)).size)).size)).trans (hbR4.mono (((((hB).trans ((zc hbR0).mono (hB).size)).trans (hbR1.mono ((hB).trans ((zc hbR0).mono (hB).size)).size)).trans (hbR2.mono (((hB).trans ((zc hbR0).mono (hB).size)).trans (hbR1.mono ((hB).trans ((zc hbR0).mono (hB).size)).size)).size)).trans (hbR3.mono ((((hB).trans ((zc hbR0).mono (hB).size)).trans (hbR1.mono ((hB).trans ((zc hbR0).mono (hB).size)).size)).trans (hbR2.mono (((hB).trans ((zc hbR0).mono (hB).size)).trans (hbR1.mono ((hB).trans ((zc hbR0).mono (hB).size)).size)).size)).size)).size))
    (first | (go_at_call 55; (with_reducible refine (zcN s true hso _ _ _ (by exact hs.below (hB.drew))).mono ?_); rintro e wR0 ⟨rfl, hbR0⟩) | (go_at_call 56; (with_reducible refine (zcO fs true hfo _ _ _ hbig (by exact hv.below ((hB).trans ((zc hbR0).mono (hB).size)))).mono ?_); rintro e wR1 ⟨rfl, hbR1⟩) | (go_at_call 57; (with_reducible refine (told0_any fs hfo _ _ _ hbig (by exact hv.below (((hB).trans ((zc hbR0).mono (hB).size)).trans (hbR1.mono ((hB).trans ((zc hbR0).mono (hB).size)).size)))).mono ?_); rintro e wR2 ⟨⟨av, af, rfl, ar⟩, hbR2⟩) | (go_at_call 45; (with_reducible refine (zbo (zab fs) _ _ _ (by omega) (by exact ar)).mono ?_); rintro e wR3 ⟨⟨lv, lf, rfl, lr⟩, hbR3⟩) | (go_at_call 44; (with_reducible refine (za8 s (zY (zab fs)) _ _ _ _ _ hsm (by omega) (by exact hs.below (((((hB).trans ((zc hbR0).mono (hB).size)).trans (hbR1.mono ((hB).trans ((zc hbR0).mono (hB).size)).size)).trans (hbR2.mono (((hB).trans ((zc hbR0).mono (hB).size)).trans (hbR1.mono ((hB).trans ((zc hbR0).mono (hB).size)).size)).size)).trans (hbR3.mono ((((hB).trans ((zc hbR0).mono (hB).size)).trans (hbR1.mono ((hB).trans ((zc hbR0).mono (hB).size)).size)).trans (hbR2.mono (((hB).trans ((zc hbR0).mono (hB).size)).trans (hbR1.mono ((hB).trans ((zc hbR0).mono (hB).size)).size)).size)).size))) (by exact lr)).mono ?_); rintro e wR4 ⟨rfl, hbR4⟩)) | fail
   have hb := zc hbR0; clear hbR0; replace X0 := zh X0 hlX0 hb; replace hB := hB.trans (hb.mono hz0); have hzn := hb.size; replace hlX0 := zge hlX0 hzn; replace hz0 := zgy hz0 hzn; clear hb hzn; have hb := hbR1; clear hbR1; replace X0 := zh X0 hlX0 hb; replace hB := hB.trans (hb.mono hz0); have hzn := hb.size; replace hlX0 := zge hlX0 hzn; replace hz0 := zgy hz0 hzn; clear hb hzn; have hb := hbR2; clear hbR2; replace X0 := zh X0 hlX0 hb; replace hB := hB.trans (hb.mono hz0); have hzn := hb.size; replace hlX0 := zge hlX0 hzn; replace hz0 := zgy hz0 hzn; clear hb hzn; have hb := hbR3; clear hbR3; replace X0 := zh X0 hlX0 hb; replace hB := hB.trans (hb.mono hz0); have hzn := hb.size; replace hlX0 := zge hlX0 hzn; replace hz0 := zgy hz0 hzn; clear hb hzn; have hb := hbR4; clear hbR4; replace X0 := zh X0 hlX0 hb; replace hB := hB.trans (hb.mono hz0); have hzn := hb.size; replace hlX0 := zge hlX0 hzn; replace hz0 := zgy hz0 hzn; clear hb hzn; clear C0_0; go_wp2_with fail; go_ret; exact ⟨retB HE.out.symm, hB⟩
end Go.Proofs.YtbfinjiledfpcaaGreat
/- StackOk: both sides. -/
namespace Go.Proofs.YtbfinjiledfpcaaGreat
open Go Go.RowKit
set_option linter.unusedVariables false
set_option linter.unusedSimpArgs false
theorem flat_wt : ∀ (ls : List (List Fm)), ls.flatten.length + wtR (ls.flatten.map Fm.cd) ≤ wtR (ls.map zG)
 | [] => by simp [wtR]
 | l :: ls => by
  have h := flat_wt ls; simp only [List.flatten_cons, zgi, zgj, zW, List.map_cons, zX, zG, zaj] at h ⊢; omega
theorem Stk.flat_big {k : Stk} (h : wtV k.cd ≤ 1048576) : k.E.flatten.length + wtR (k.E.flatten.map Fm.cd) ≤ 1048576 := by
 have h1 := flat_wt k.E; simp only [Stk.cd, zI, zaj] at h; omega
theorem zek (ls : List (List Fm)) (k : Nat) (h : k < ls.length) : (ls.take (k + 1)).flatten = (ls.take k).flatten ++ ls[k] := by
 rw [zgf h, List.flatten_append]; simp
theorem lvl_len (ls : List (List Fm)) (k : Nat) : (ls.take k).flatten.length ≤ ls.flatten.length := by
 have h : ls.flatten = (ls.take k).flatten ++ (ls.drop k).flatten := by rw [← List.flatten_append, List.take_append_drop]
 rw [h, zgi]; omega
def Stk.okK (k : Stk) : Bool := (decide ((1 : Int) ≤ (k.E.length : Int)) && decide ((k.E.length : Int) ≤ 4)) && zdd k.sig k.E.flatten
theorem Stk.okK_no {k : Stk} (h : (decide ((1 : Int) ≤ (k.E.length : Int)) && decide ((k.E.length : Int) ≤ 4)) = false) : k.okK = false := by unfold Stk.okK; rw [h]; rfl
theorem Stk.okK_yes {k : Stk} (h : (decide ((1 : Int) ≤ (k.E.length : Int)) && decide ((k.E.length : Int) ≤ 4)) = true) : k.okK = zdd k.sig k.E.flatten := by unfold Stk.okK; rw [h]; rfl
theorem zcf {B k : Nat} {a w : World} (h : Below B a w) : Below B a (w.drewN k) := ⟨h.os, h.tape, h.output, h.size, h.block⟩
set_option maxHeartbeats 2000000 in
theorem zel (k : Stk) (vs : List Value) (f : List Nat) (w : World) (hbig : k.E.flatten.length + wtR (k.E.flatten.map Fm.cd) ≤ 1048576) (hv : RdVs w k.cd vs f) :
  Calls Tryz.prog 60 #[.agg vs.toArray] w fun e w' => (∃ rv rf, e = .returned rv ∧ Rd w' (.sl (k.E.flatten.map Fm.cd)) rv rf) ∧ Below w.heap.size w w' := by
 obtain ⟨a0, c0, f0, a1, c1, f1, rfl, _, m0, m1⟩ := Stk.open hv; obtain ⟨ls, hls⟩ : ∃ ls, ls = k.E := ⟨_, rfl⟩; rw [← hls] at m1 hbig ⊢; have HLS := zgn hls; have hlen := zao m1; have hfl := m1.lt _; have hb0 := zb w (.cells #[.slice a0 k.sig.Y.length c0, .slice a1 ls.length c1] 53); clear hls; go_enter Tryz.func60, Tryz.ntmps60; go_wp2_with fail
 go_loopw [3, 9] (fun ov i wr => ∃ (j : Nat) (fp : List Nat), j ≤ ls.length ∧ i = .int .i64 j ∧ Own wr (w.heap.size + 1) 36 12 ov ((ls.take j).flatten.map Fm.cd) fp ∧ Below (w.heap.size + 1) (w.alloc (.cells #[.slice a0 k.sig.Y.length c0, .slice a1 ls.length c1] 53)) wr) (fun _ i _ => ls.length - (intOf i).toNat)
 case atStart => exact ⟨0, [], zgx _, rfl, by simpa using Own.nil _ _ _ _, zgz _ _⟩
 case round =>
  obtain ⟨j, fp, hjl, rfl, hown, hbx⟩ := hrel; obtain ⟨X0, hzz, hb⟩ := box1 (w := w) (wr := wr) (cs := #[.slice a0 k.sig.Y.length c0, .slice a1 ls.length c1]) (T := 53) hbx; have C0 := X0 0; have C1 := X0 1; simp only [zgd, zgb, zgc] at C0 C1; clear X0; have hz := hb.size; obtain ⟨es, hes⟩ : ∃ es, es = (ls.take j).flatten := ⟨_, rfl⟩; rw [← hes] at hown
  by_cases hlt : j < ls.length
  ·obtain ⟨b, off, rfl, hbs, _⟩ := zl m1 (by omega)
   have hbz : b < wr.heap.size := by omega
   obtain ⟨ga, gc, gf, gd, gr, gsub⟩ := za4 (m1.below hb) hlt; have HT := zgn (zek ls j hlt); have hl1 := lvl_len ls (j + 1); rw [HT.out, zgi, ← hes] at hl1; have HEQ := zgn hes; clear hes; go_wp2_with (at_builtin; refine zar zM rfl _ _ rfl (w.heap.size + 1) _ _ _ rfl hown (ls[j].map Fm.cd) _ gf rfl gr ?k ?na ?bytes ?len ?base ?next)
   case k => simp only [List.mem_map]; rintro e ⟨t, _, rfl⟩; exact Fm.cd_len t
   case na =>
    intro y hy e; have h1 := (hown.block e).1; have h2 := hfl y (gsub y hy); omega
   case bytes => simp only [zgl]; omega
   case len => simp only [zgl]; omega
   case base => omega
   case next =>
    intro v' w4 nfp hnf hown4 hg hv' hs4; have hb4 := zo hbx hg (by omega) (fun q hq => (hown.block hq).1); clear hg hs4 hv'; go_wp2_with fail; go_roundw
    case rel =>
     refine ⟨j + 1, fp ++ nfp, by omega, by go_num, ?_, hb4⟩; rw [HT.out, zgj, ← HEQ.out]; exact hown4
    case measure => simp [intOf]; omega
  ·have he : ls.take j = ls := zgq (by omega)
   rw [hes, he] at hown; clear he hes; obtain ⟨oa, on, oc, rfl⟩ := hown.form'; obtain ⟨fp', hr⟩ := hown.rd'; go_wp2_with fail; go_ret; exact ⟨⟨_, fp', rfl, hr⟩, hb⟩
set_option maxHeartbeats 2000000 in
theorem zem (k : Stk) (vs : List Value) (f : List Nat) (w : World) (hbig : k.E.flatten.length + wtR (k.E.flatten.map Fm.cd) ≤ 1048576) (hv : RdVs w k.cd vs f) :
  Calls Tryz.prog 62 #[.agg vs.toArray] w fun e w' => (∃ rv rf, e = .returned rv ∧ Rd w' (.sl (k.E.flatten.map Fm.cd)) rv rf) ∧ Below w.heap.size w w' := by
 obtain ⟨a0, c0, f0, a1, c1, f1, rfl, _, m0, m1⟩ := Stk.open hv; obtain ⟨ls, hls⟩ : ∃ ls, ls = k.E := ⟨_, rfl⟩; rw [← hls] at m1 hbig ⊢; have HLS := zgn hls; have hlen := zao m1; have hfl := m1.lt _; have hb0 := zb w (.cells #[.slice a0 k.sig.Y.length c0, .slice a1 ls.length c1] 53); clear hls; go_enter Tryz.func62, Tryz.ntmps62; go_wp2_with fail
 go_loopw [3, 4] (fun ov i wr => ∃ (j : Nat) (fp : List Nat), j ≤ ls.length ∧ i = .int .i64 j ∧ Own wr (w.heap.size + 1) 36 12 ov ((ls.take j).flatten.map Fm.cd) fp ∧ Below (w.heap.size + 1) (w.alloc (.cells #[.slice a0 k.sig.Y.length c0, .slice a1 ls.length c1] 53)) wr) (fun _ i _ => ls.length - (intOf i).toNat)
 case atStart => exact ⟨0, [], zgx _, rfl, by simpa using Own.empty (w.alloc (.cells #[.slice a0 k.sig.Y.length c0, .slice a1 ls.length c1] 53)) (w.heap.size + 1) 36 12 (by simp), (zgz _ _).alloc (by simp) _⟩
 case round =>
  obtain ⟨j, fp, hjl, rfl, hown, hbx⟩ := hrel; obtain ⟨X0, hzz, hb⟩ := box1 (w := w) (wr := wr) (cs := #[.slice a0 k.sig.Y.length c0, .slice a1 ls.length c1]) (T := 53) hbx; have C0 := X0 0; have C1 := X0 1; simp only [zgd, zgb, zgc] at C0 C1; clear X0; have hz := hb.size; obtain ⟨es, hes⟩ : ∃ es, es = (ls.take j).flatten := ⟨_, rfl⟩; rw [← hes] at hown
  by_cases hlt : j < ls.length
  ·obtain ⟨b, off, rfl, hbs, _⟩ := zl m1 (by omega)
   have hbz : b < wr.heap.size := by omega
   obtain ⟨ga, gc, gf, gd, gr, gsub⟩ := za4 (m1.below hb) hlt; have HT := zgn (zek ls j hlt); have hl1 := lvl_len ls (j + 1); rw [HT.out, zgi, ← hes] at hl1; have HEQ := zgn hes; clear hes; go_wp2_with (at_builtin; refine zar zM rfl _ _ rfl (w.heap.size + 1) _ _ _ rfl hown (ls[j].map Fm.cd) _ gf rfl gr ?k ?na ?bytes ?len ?base ?next)
   case k => simp only [List.mem_map]; rintro e ⟨t, _, rfl⟩; exact Fm.cd_len t
   case na =>
    intro y hy e; have h1 := (hown.block e).1; have h2 := hfl y (gsub y hy); omega
   case bytes => simp only [zgl]; omega
   case len => simp only [zgl]; omega
   case base => omega
   case next =>
    intro v' w4 nfp hnf hown4 hg hv' hs4; have hb4 := zo hbx hg (by omega) (fun q hq => (hown.block hq).1); clear hg hs4 hv'; go_wp2_with fail; go_roundw
    case rel =>
     refine ⟨j + 1, fp ++ nfp, by omega, by go_num, ?_, hb4⟩; rw [HT.out, zgj, ← HEQ.out]; exact hown4
    case measure => simp [intOf]; omega
  ·have he : ls.take j = ls := zgq (by omega)
   rw [hes, he] at hown; clear he hes; obtain ⟨oa, on, oc, rfl⟩ := hown.form'; obtain ⟨fp', hr⟩ := hown.rd'; go_wp2_with fail; go_ret; exact ⟨⟨_, fp', rfl, hr⟩, hb⟩
theorem zen (n lo hi : Int) (b : Bool) (h : (decide (lo ≤ n) && decide (n ≤ hi)) = b) (w : World) : Calls Tryz.prog 75 #[.int .i64 n, .int .i64 lo, .int .i64 hi] w fun e w' => e = .returned (.bool b) ∧ Below w.heap.size w w' := by
 refine (zZ n lo hi w).mono ?_; rintro e w' ⟨rfl, rfl⟩; exact ⟨retB h, zgz _ _⟩
set_option maxRecDepth 100000 in
set_option maxHeartbeats 4000000 in
theorem zaV (k : Stk) (vs : List Value) (f : List Nat) (w : World) (hbig : wtV k.cd ≤ 1048576) (hv : RdVs w k.cd vs f) :
  Calls Tryz.prog 35 #[.agg vs.toArray] w fun e w' => e = .returned (.bool k.okK) ∧ Below w.heap.size w w' := by
 have hv0 := hv; obtain ⟨a0, c0, f0, a1, c1, f1, rfl, _, m0, m1⟩ := Stk.open hv; have hs := Sg.close m0; have hfb := Stk.flat_big hbig; have hlen := zao m1; clear hv m0 m1; have X0 := zt w #[.slice a0 k.sig.Y.length c0, .slice a1 k.E.length c1] 53; have hB := zb w (.cells #[.slice a0 k.sig.Y.length c0, .slice a1 k.E.length c1] 53); have hz0 := hB.size
 have hlX0 : w.heap.size < (w.alloc (.cells #[.slice a0 k.sig.Y.length c0, .slice a1 k.E.length c1] 53)).heap.size := by simp
 go_enter Tryz.func35, Tryz.ntmps35; go_wp2_with fail
 cases hin : (decide ((1 : Int) ≤ (k.E.length : Int)) && decide ((k.E.length : Int) ≤ 4))
 ·have HE := zgn (Stk.okK_no (k := k) hin)
  generalize hWW : w.alloc (.cells #[.slice a0 k.sig.Y.length c0, .slice a1 k.E.length c1] 53) = W0 at *; clear hWW; have HL0 := zgn (fun (W' : World) (hb' : Below W0.heap.size W0 W') => zen (k.E.length : Int) 1 4 false hin W'); have C0_0 := X0 0; have C0_1 := X0 1; simp only [zgd, zgb, zgc] at C0_0 C0_1; clear X0; have qC0_0 := cell_regrown C0_0; have qC0_1 := cell_regrown C0_1; clear C0_0 C0_1; refine wp_region_quiet_below (by kernel_rfl) (by kernel_rfl) ?_
  repeat (first | go_big_quiet_skip | quiet_step (first | (go_at_call 75; with_reducible refine zgr (HL0.out _ (below_regrown _ _ _)))))
  refine wpQuiet_nil ?_; intro w9 hw2; obtain ⟨⟨dq, osq⟩, hw2⟩ := hw2; have hb9 : Below (W0).heap.size (W0) w9 := hw2 ▸ below_regrown (W0) dq osq; clear hw2 qC0_0 qC0_1; go_wp2_with fail; go_ret; exact ⟨retB HE.out.symm, hB.trans (hb9.mono hz0)⟩
 ·have HE := zgn (Stk.okK_yes (k := k) hin)
  have C0_0 := X0 0; have C0_1 := X0 1; simp only [zgd, zgb, zgc] at C0_0 C0_1
  first | go_region_held3 (fun W => W.cell? ⟨w.heap.size, 0, none⟩ = some (.slice a0 k.sig.Y.length c0) ∧ W.cell? ⟨w.heap.size, 1, none⟩ = some (.slice a1 k.E.length c1) ∧ Below w.heap.size w W)
   (first | exact ⟨C0_0, C0_1, hB.drew⟩ | (refine ⟨?_, ?_, (hB).trans ((zc hbR0).mono (hB).size)⟩ <;> (refine (za ?_ (zc hbR0)); assumption)) | (refine (za ?_ (zc hbR0)); assumption) | exact (hB).trans ((zc hbR0).mono (hB).size) | (refine ⟨?_, ?_, ((hB).trans ((zc hbR0).mono (hB).size)).trans (hbR1.mono ((hB).trans ((zc hbR0).mono (hB).size)).size)⟩ <;> (refine (za (za ?_ (zc hbR0)) hbR1); assumption)) | (refine (za (za ?_ (zc hbR0)) hbR1); assumption) | exact ((hB).trans ((zc hbR0).mono (hB).size)).trans (hbR1.mono ((hB).trans ((zc hbR0).mono (hB).size)).size) | (refine ⟨?_, ?_, (((hB).trans ((zc hbR0).mono (hB).size)).trans (hbR1.mono ((hB).trans ((zc hbR0).mono (hB).size)).size)).trans (hbR2.mono (((hB).trans ((zc hbR0).mono (hB).size)).trans (hbR1.mono ((hB).trans ((zc hbR0).mono (hB).size)).size)).size)⟩ <;> (refine (za (za (za ?_ (zc hbR0)) hbR1) hbR2); assumption)) | (refine (za (za (za ?_ (zc hbR0)) hbR1) hbR2); assumption) | exact (((hB).trans ((zc hbR0).mono (hB).size)).trans (hbR1.mono ((hB).trans ((zc hbR0).mono (hB).size)).size)).trans (hbR2.mono (((hB).trans ((zc hbR0).mono (hB).size)).trans (hbR1.mono ((hB).trans ((zc hbR0).mono (hB).size)).size)).size))
   (first | (go_at_call 75; (with_reducible refine (zen (k.E.length : Int) 1 4 true hin _).mono ?_); rintro e wR0 ⟨rfl, hbR0⟩) | (go_at_call 60; (with_reducible refine (zel k _ _ _ hfb (by exact hv0.below ((hB).trans ((zc hbR0).mono (hB).size)))).mono ?_); rintro e wR1 ⟨⟨av, af, rfl, ar⟩, hbR1⟩) | (go_at_call 17; (with_reducible refine (zeQ k.sig k.E.flatten _ _ _ _ _ hfb (by exact hs.below (((hB).trans ((zc hbR0).mono (hB).size)).trans (hbR1.mono ((hB).trans ((zc hbR0).mono (hB).size)).size))) (by exact ar)).mono ?_); rintro e wR2 ⟨rfl, hbR2⟩)) | fail
  have hb := zc hbR0; clear hbR0; replace X0 := zh X0 hlX0 hb; replace hB := hB.trans (hb.mono hz0); have hzn := hb.size; replace hlX0 := zge hlX0 hzn; replace hz0 := zgy hz0 hzn; clear hb hzn; have hb := hbR1; clear hbR1; replace X0 := zh X0 hlX0 hb; replace hB := hB.trans (hb.mono hz0); have hzn := hb.size; replace hlX0 := zge hlX0 hzn; replace hz0 := zgy hz0 hzn; clear hb hzn; have hb := hbR2; clear hbR2; replace X0 := zh X0 hlX0 hb; replace hB := hB.trans (hb.mono hz0); have hzn := hb.size; replace hlX0 := zge hlX0 hzn; replace hz0 := zgy hz0 hzn; clear hb hzn; clear C0_0 C0_1; go_wp2_with fail; go_ret; exact ⟨retB HE.out.symm, hB⟩
set_option maxRecDepth 100000 in
set_option maxHeartbeats 4000000 in
theorem zaO (k : Stk) (vs : List Value) (f : List Nat) (w : World) (hbig : wtV k.cd ≤ 1048576) (hv : RdVs w k.cd vs f) :
  Calls Tryz.prog 24 #[.agg vs.toArray] w fun e w' => e = .returned (.bool k.okK) ∧ Below w.heap.size w w' := by
 have hv0 := hv; obtain ⟨a0, c0, f0, a1, c1, f1, rfl, _, m0, m1⟩ := Stk.open hv; have hs := Sg.close m0; have hfb := Stk.flat_big hbig; have hlen := zao m1; clear hv m0 m1; have X0 := zt w #[.slice a0 k.sig.Y.length c0, .slice a1 k.E.length c1] 53; have hB := zb w (.cells #[.slice a0 k.sig.Y.length c0, .slice a1 k.E.length c1] 53); have hz0 := hB.size
 have hlX0 : w.heap.size < (w.alloc (.cells #[.slice a0 k.sig.Y.length c0, .slice a1 k.E.length c1] 53)).heap.size := by simp
 go_enter Tryz.func24, Tryz.ntmps24; go_wp2_with fail
 by_cases h1 : 1 ≤ k.E.length
 ·have d1 : decide ((1 : Int) ≤ (k.E.length : Int)) = true := by simp; omega
  by_cases h2 : k.E.length ≤ 4
  ·have d2 : decide ((k.E.length : Int) ≤ 4) = true := by simp; omega
   have HE := zgn (Stk.okK_yes (k := k) (by rw [d1, d2]; rfl)); have C0_0 := X0 0; have C0_1 := X0 1; simp only [zgd, zgb, zgc] at C0_0 C0_1
   first | go_region_held3 (fun W => W.cell? ⟨w.heap.size, 0, none⟩ = some (.slice a0 k.sig.Y.length c0) ∧ W.cell? ⟨w.heap.size, 1, none⟩ = some (.slice a1 k.E.length c1) ∧ Below w.heap.size w W)
    (first | exact ⟨C0_0, C0_1, hB.drew⟩ | (refine ⟨?_, ?_, (hB).trans ((zc hbR0).mono (hB).size)⟩ <;> (refine (za ?_ (zc hbR0)); assumption)) | (refine (za ?_ (zc hbR0)); assumption) | exact (hB).trans ((zc hbR0).mono (hB).size) | (refine ⟨?_, ?_, ((hB).trans ((zc hbR0).mono (hB).size)).trans (hbR1.mono ((hB).trans ((zc hbR0).mono (hB).size)).size)⟩ <;> (refine (za (za ?_ (zc hbR0)) hbR1); assumption)) | (refine (za (za ?_ (zc hbR0)) hbR1); assumption) | exact ((hB).trans ((zc hbR0).mono (hB).size)).trans (hbR1.mono ((hB).trans ((zc hbR0).mono (hB).size)).size))
    (first | (go_at_call 62; (with_reducible refine (zem k _ _ _ hfb (by exact hv0.below (hB.drew))).mono ?_); rintro e wR0 ⟨⟨av, af, rfl, ar⟩, hbR0⟩) | (go_at_call 18; (with_reducible refine (zej k.sig k.E.flatten _ _ _ _ _ hfb (by exact hs.below ((hB).trans ((zc hbR0).mono (hB).size))) (by exact ar)).mono ?_); rintro e wR1 ⟨rfl, hbR1⟩)) | fail
   have hb := zc hbR0; clear hbR0; replace X0 := zh X0 hlX0 hb; replace hB := hB.trans (hb.mono hz0); have hzn := hb.size; replace hlX0 := zge hlX0 hzn; replace hz0 := zgy hz0 hzn; clear hb hzn; have hb := hbR1; clear hbR1; replace X0 := zh X0 hlX0 hb; replace hB := hB.trans (hb.mono hz0); have hzn := hb.size; replace hlX0 := zge hlX0 hzn; replace hz0 := zgy hz0 hzn; clear hb hzn; clear C0_0 C0_1; go_wp2_with fail; go_ret; exact ⟨retB HE.out.symm, hB⟩
  ·have d2 : decide ((k.E.length : Int) ≤ 4) = false := by simp; omega
   have HE := zgn (Stk.okK_no (k := k) (by rw [d1, d2]; rfl)); generalize hWW : w.alloc (.cells #[.slice a0 k.sig.Y.length c0, .slice a1 k.E.length c1] 53) = W0 at *; clear hWW; have C0_0 := X0 0; have C0_1 := X0 1; simp only [zgd, zgb, zgc] at C0_0 C0_1; clear X0
   go_quiet (fail)
   go_wp2_with fail; go_ret; exact ⟨retB HE.out.symm, zcf hB⟩
 ·have d1 : decide ((1 : Int) ≤ (k.E.length : Int)) = false := by simp; omega
  have HE := zgn (Stk.okK_no (k := k) (by rw [d1]; rfl)); generalize hWW : w.alloc (.cells #[.slice a0 k.sig.Y.length c0, .slice a1 k.E.length c1] 53) = W0 at *; clear hWW; have C0_0 := X0 0; have C0_1 := X0 1; simp only [zgd, zgb, zgc] at C0_0 C0_1; clear X0
  go_quiet (fail)
  go_wp2_with fail; go_ret; exact ⟨retB HE.out.symm, zcf hB⟩
end Go.Proofs.YtbfinjiledfpcaaGreat
/- The reference's copies of forms. -/
namespace Go.Proofs.YtbfinjiledfpcaaGreat
open Go Go.RowKit
set_option linter.unusedVariables false
set_option linter.unusedSimpArgs false
/-- Behind the region: the copy's box, its parts still none. -/
structure FCopyAt (x : Fm) (w u : World) (a3 : Option Addr) (c3 : Nat) (a5 : Option Addr) (c5 : Nat) (a6 : Option Addr) (c6 : Nat) (a7 : Option Addr) (c7 : Nat) (a11 : Option Addr) (c11 : Nat) (b : Nat) (d3 : Option Addr) (e3 : Nat) (d5 : Option Addr) (e5 : Nat) (d6 : Option Addr) (e6 : Nat) (d7 : Option Addr) (e7 : Nat) (fA : List Nat) : Prop where
 bel : Below w.heap.size w u
 size : w.heap.size + 1 + 1 ≤ u.heap.size
 lo : w.heap.size + 1 + 1 ≤ b
 hi : b < u.heap.size
 par : ∀ j, u.cell? ⟨w.heap.size, j, none⟩ = ((yTa x a3 c3 a5 c5 a6 c6 a7 c7 a11 c11) : Array Value)[j]?
 res : ∀ j, u.cell? ⟨w.heap.size + 1, j, none⟩ = (yYa : Array Value)[j]?
 rfree : ∀ j, u.frozen? ⟨w.heap.size + 1, j, none⟩ = false
 box : ∀ j, u.cell? ⟨b, j, none⟩ = (#[.int .i64 x.kind, .int .i64 x.L.M.kind, .string x.L.M.a.name, .slice d3 x.L.M.a.K.length e3, .string x.L.M.b.name, .slice d5 x.L.M.b.K.length e5, .slice d6 x.L.M.N.length e6, .slice d7 x.L.M.T.length e7, .int .i64 x.L.M.O, .bool x.L.M.C, .bool x.L.no, .slice none 0 0] : Array Value)[j]?
 free : ∀ j, u.frozen? ⟨b, j, none⟩ = false
 rA : RdVs u x.L.M.cd (yNl x.L.M d3 e3 d5 e5 d6 e6 d7 e7) fA
 fresh : Fresh (w.heap.size + 1 + 1) u fA
 away : ∀ y ∈ fA, y ≠ b
theorem zdr {x : Fm} {w u : World} {a3 a5 a6 a7 a11 d3 d5 d6 d7 : Option Addr} {c3 c5 c6 c7 c11 b e3 e5 e6 e7 : Nat} {fA : List Nat} {ups : List (Nat × Value)}
  (bel : Below w.heap.size w u) (size : w.heap.size + 1 + 1 ≤ u.heap.size) (lo : w.heap.size + 1 + 1 ≤ b) (hi : b < u.heap.size) (par : ∀ j, u.cell? ⟨w.heap.size, j, none⟩ = ((yTa x a3 c3 a5 c5 a6 c6 a7 c7 a11 c11) : Array Value)[j]?) (res : ∀ j, u.cell? ⟨w.heap.size + 1, j, none⟩ = (yYa : Array Value)[j]?) (rfree : ∀ j, u.frozen? ⟨w.heap.size + 1, j, none⟩ = false)
  (box : ∀ j, (zi b ups u).cell? ⟨b, j, none⟩ = (#[.int .i64 x.kind, .int .i64 x.L.M.kind, .string x.L.M.a.name, .slice d3 x.L.M.a.K.length e3, .string x.L.M.b.name, .slice d5 x.L.M.b.K.length e5, .slice d6 x.L.M.N.length e6, .slice d7 x.L.M.T.length e7, .int .i64 x.L.M.O, .bool x.L.M.C, .bool x.L.no, .slice none 0 0] : Array Value)[j]?) (free : ∀ j, (zi b ups u).frozen? ⟨b, j, none⟩ = false)
  (rA : RdVs u x.L.M.cd (yNl x.L.M d3 e3 d5 e5 d6 e6 d7 e7) fA) (fresh : Fresh (w.heap.size + 1 + 1) u fA) (away : ∀ y ∈ fA, y ≠ b) (hL : Loc b (b + 1) u (zi b ups u)) : FCopyAt x w (zi b ups u) a3 c3 a5 c5 a6 c6 a7 c7 a11 c11 b d3 e3 d5 e5 d6 e6 d7 e7 fA := by
 have hs : ∀ q, q < u.heap.size → q ≠ b → (zi b ups u).heap[q]? = u.heap[q]? := fun q hq hn => hL.block q hq (by omega); have hsz := hL.size; have hal : SameOn fA u (zi b ups u) := fun y hy => hs y (fresh.lt y hy) (away y hy); refine ⟨bel.trans (hL.toBelow (by omega) (by omega)), by omega, lo, by omega, fun j => ?_, fun j => ?_, fun j => ?_, box, free, rA.same _ hal, fresh.same hal, away⟩
 ·exact (zgv (w := u) (a := ⟨w.heap.size, j, none⟩) (hs w.heap.size (by omega) (by omega))).trans (par j)
 ·exact (zgv (w := u) (a := ⟨w.heap.size + 1, j, none⟩) (hs (w.heap.size + 1) (by omega) (by omega))).trans (res j)
 ·exact (zk (hs (w.heap.size + 1) (by omega) (by omega))).trans (rfree j)
set_option maxHeartbeats 40000000 in
set_option maxRecDepth 100000 in
theorem zeo (n : Nat) : ∀ (x : Fm) (vs : List Value) (f : List Nat) (w : World), ndV x.cd ≤ n → wtV x.cd ≤ 1048576 → RdVs w x.cd vs f → Calls Tryz.prog 74 #[.agg vs.toArray] w (zbg x.cd w) := by
 induction n with
 | zero => intro x vs f w hn; have h : 0 < ndV x.cd := (by rw [Fm.cd_eq]; simp [ndV, ndC]; try omega); omega
 | succ n ih =>
  intro x vs f w hn hbig hv
  have HK : Hid (∀ k ∈ x.K, ndV k.cd ≤ n) := fun k hk => by have := Fm.kid_nd hk; omega
  have IH := zgn ih; clear ih; obtain ⟨a3, c3, f3, a5, c5, f5, a6, c6, f6, a7, c7, f7, a11, c11, f11, rfl, -, m0, m1, m2, m3, m4, m5, m6, m7, m8, m9⟩ := Fm.open hv
  have hw : wtV x.cd = wtV x.L.cd + (x.K.length + wtR (x.K.map Fm.cd)) := by rw [Fm.cd_eq]; simp only [zI, zaS, zav, zb0, zaj]; try omega
  rw [hw] at hbig; clear hw hv hn; have hat := Atm.close m1 m2 m3 m4 m5 m6 m7 m8; have hsmall : x.L.M.small := Lt.small_of (x := x.L) (by omega); have htimes := Lt.times_ok (x := x.L) (by omega)
  have hkw : x.K.length + wtR (x.K.map Fm.cd) ≤ 1048576 := by omega
  clear hbig m1 m2 m3 m4 m5 m6 m7 m8; have hbb : Below (w.heap.size + 1 + 1) ((w.alloc (.cells (yTa x a3 c3 a5 c5 a6 c6 a7 c7 a11 c11) 36)).alloc (.cells yYa 36)) ((w.alloc (.cells (yTa x a3 c3 a5 c5 a6 c6 a7 c7 a11 c11) 36)).alloc (.cells yYa 36)) := zgz _ _; obtain ⟨hx, hy, hz, hB⟩ := box2 hbb; have hf2 := fun j => (zJ hbb j).2; clear hbb; obtain ⟨W, hW⟩ : ∃ W, W = ((w.alloc (.cells (yTa x a3 c3 a5 c5 a6 c6 a7 c7 a11 c11) 36)).alloc (.cells yYa 36)) := ⟨_, rfl⟩; go_enter Tryz.func74, Tryz.ntmps74; go_wp2_with fail; rw [← hW] at hx hy hz hB hf2 ⊢; clear hW; obtain ⟨C0, C1, C2, C3, C4, C5, C6, C7, C8, C9, C10, C11⟩ := yQ12 hx; simp only [zgd, zgb, zgc] at C0 C1 C2 C3 C4 C5 C6 C7 C8 C9 C10 C11; have hF : (fun U : World => ((yTd x a3 c3 a5 c5 a6 c6 a7 c7 a11 c11 U w.heap.size))) W.drew := ⟨C0, C1, C2, C3, C4, C5, C6, C7, C8, C9, C10, C11⟩; clear C0 C1 C2 C3 C4 C5 C6 C7 C8 C9 C10 C11; replace hx : ∀ j, W.drew.cell? ⟨w.heap.size, j, none⟩ = ((yTa x a3 c3 a5 c5 a6 c6 a7 c7 a11 c11) : Array Value)[j]? := hx; replace hy : ∀ j, W.drew.cell? ⟨w.heap.size + 1, j, none⟩ = (yYa : Array Value)[j]? := hy; replace hf2 : ∀ j, W.drew.frozen? ⟨w.heap.size + 1, j, none⟩ = false := hf2; replace hz : w.heap.size + 1 + 1 ≤ W.drew.heap.size := hz; have hBc := hB.drew; clear hB; refine zcD (fun ac u => ∃ (b : Nat) (d3 : Option Addr) (e3 : Nat) (d5 : Option Addr) (e5 : Nat) (d6 : Option Addr) (e6 : Nat) (d7 : Option Addr) (e7 : Nat) (fA : List Nat) (u5 u6 u7 u8 u9 u10 u11 u12 u13 u14 u15 : Value), ac = ⟨#[.agg (yTa x a3 c3 a5 c5 a6 c6 a7 c7 a11 c11), .pointer (some ⟨w.heap.size, 0, none⟩), .pointer (some ⟨w.heap.size + 1, 0, none⟩), .pointer (some ⟨b, 0, none⟩), undef, u5, u6, u7, u8, u9, u10, u11, u12, u13, u14, u15, undef, undef, undef, undef, undef, undef, undef, undef, undef, undef, undef, undef, undef, undef, undef, undef, undef, undef, undef], []⟩ ∧ FCopyAt x w u a3 c3 a5 c5 a6 c6 a7 c7 a11 c11 b d3 e3 d5 e5 d6 e6 d7 e7 fA) ?_ ?_
  ·intro ac u hT
   obtain ⟨b, d3, e3, d5, e5, d6, e6, d7, e7, fA, u5, u6, u7, u8, u9, u10, u11, u12, u13, u14, u15, rfl, st⟩ := hT; clear hF hx hy hz hf2 hBc; have ST := zgn st; have hlo := st.lo; have hhi := st.hi; have hszu := st.size; clear st hat; go_wp2_with fail
   go_loopw [4] (fun i wr => ∃ (k : Nat) (fp : List Nat) (ov : Value), k ≤ x.K.length ∧ i = .int .i64 k ∧ Own wr u.heap.size 36 12 ov ((x.K.take k).map Fm.cd) fp ∧ Fresh u.heap.size wr fp ∧
    (∀ j, wr.cell? ⟨b, j, none⟩ = (#[.int .i64 x.kind, .int .i64 x.L.M.kind, .string x.L.M.a.name, .slice d3 x.L.M.a.K.length e3, .string x.L.M.b.name, .slice d5 x.L.M.b.K.length e5, .slice d6 x.L.M.N.length e6, .slice d7 x.L.M.T.length e7, .int .i64 x.L.M.O, .bool x.L.M.C, .bool x.L.no, ov] : Array Value)[j]?) ∧ (∀ j, wr.frozen? ⟨b, j, none⟩ = false) ∧ u.heap.size ≤ wr.heap.size ∧ (∀ q, q < u.heap.size → q ≠ b → wr.heap[q]? = u.heap[q]?) ∧ Below w.heap.size w wr) (fun i _ => x.K.length - (intOf i).toNat)
   case atStart => exact ⟨0, [], .slice none 0 0, zgx _, rfl, Own.nil _ _ _ _, Fresh.nil _ _, ST.out.box, ST.out.free, zgo _, fun _ _ _ => rfl, ST.out.bel⟩
   case round =>
    obtain ⟨k, fp, ov, hkl, rfl, hown, hfr, hcb, hfb, hz, hsm, hbw⟩ := hrel; have x11 : wr.cell? ⟨w.heap.size, 11, none⟩ = some (.slice a11 x.K.length c11) := ze (hsm w.heap.size (by omega) (by omega)) (ST.out.par 11); have y11 : wr.cell? ⟨b, 11, none⟩ = some ov := hcb 11; have g11 : wr.frozen? ⟨b, 11, none⟩ = false := hfb 11
    by_cases hlt : k < x.K.length
    ·have m9w := m9.below hbw
     obtain ⟨bk, off, rfl, hbs, _⟩ := zl m9w (by omega); obtain ⟨s3, t3, r3, s5, t5, r5, s6, t6, r6, s7, t7, r7, s11, t11, r11, D0, D1, D2, D3, D4, D5, D6, D7, D8, D9, D10, D11, N0, N1, N2, N3, N4, N5, N6, N7, N8, N9, _⟩ := Fm.at m9w hlt; have hkd := Fm.close N0 N1 N2 N3 N4 N5 N6 N7 N8 N9; have hle := zu Fm.cd x.K (k + 1); rw [zC Fm.cd x.K k hlt] at hle; clear m9w N0 N1 N2 N3 N4 N5 N6 N7 N8 N9; go_wp2_with fail; have tok1 : True := trivial
     go_region_law (first
      | (have _t := @hown2; refine zO zM rfl _ _ rfl u.heap.size _ _ fp rfl (by exact hown2) ⟨w2.heap.size, 0, none⟩ 1 1 [x.K[k].cd] (yTl x.K[k] p3 q3 p5 q5 p6 q6 p7 q7 p11 q11) fp3 rfl rfl (by simpa using hr3') (by simp [Fm.cd_len]) (by exact zq _ _ _) (by exact hown.away (zgo _) hf3) (by have hl := zai Fm.cd x.K k; omega) (by have hl := zai Fm.cd x.K k; omega) (by simp; omega) ?_; intro v' w4 hown4 hg hv' hs4; obtain ⟨a4', n4', c4', rfl⟩ := hown4.form'; have hcb4 := fun q (hq : q < u.heap.size) => zbw hb3 hg (b := q) (by omega) (hown.row_ne hq); have y11' := ze (hcb4 b hhi) y11; have g11' := zp (hcb4 b hhi) g11)
      | (have _t := tok1; clear _t tok1; go_simp; go_at_call 74; refine (IH.out x.K[k] _ _ _ (HK.out _ (zgh hlt)) (by omega) (by exact hkd.below (zj _))).mono ?_; rintro e w2 ⟨kv3, fp3, rfl, hr3, hf3, hb3⟩; obtain ⟨p3, q3, j3, p5, q5, j5, p6, q6, j6, p7, q7, j7, p11, q11, j11, rfl, -, _, _, _, _, _, _, _, _, _, _⟩ := Fm.open hr3; have hb3 := zc hb3; have hz2 := hb3.size; have hlz : b < w2.heap.size := (by omega); have hbk := hb3.block b (by omega); have y11w := ze hbk y11; have g11w := zp hbk g11; clear hbk; have hown2 := hown.below (hb3.alloc hb3.size (.cells (yTa x.K[k] p3 q3 p5 q5 p6 q6 p7 q7 p11 q11) 36)); have hr3' := hr3.below (zb w2 (.cells (yTa x.K[k] p3 q3 p5 q5 p6 q6 p7 q7 p11 q11) 36))))
     all_goals
      have hfr4 := ((Fresh.app (hfr.below hb3) hfr.lt hz hf3).below (zb w2 (.cells (yTa x.K[k] p3 q3 p5 q5 p6 q6 p7 q7 p11 q11) 36))).same hs4; have hsz4 := hg.size; simp only [zgs] at hsz4; have hown5 := hown4.set_other hfr4 (b := b) (j := 11) (u := .slice a4' n4' c4') hhi; have hfr5 := hfr4.same (zD (a := ⟨b, 11, none⟩) (v := .slice a4' n4' c4') (hfr4.ne (by exact hhi))); have hc5 := zw (b := b) [(11, .slice a4' n4' c4')] (fun j => (zgv (w := wr) (a := ⟨b, j, none⟩) (hcb4 b hhi)).trans (hcb j)) (by simp); have hf5 := zak (b := b) (b' := b) [(11, .slice a4' n4' c4')] (fun j => (zk (hcb4 b hhi)).trans (hfb j)); have hL := Loc.sets (b := b) (lo := b) (hi := b + 1) (zgo _) (Nat.lt_succ_self _) [(11, .slice a4' n4' c4')] (Loc.refl _ _ w4); have hsm5 : ∀ q, q < u.heap.size → q ≠ b → (w4.setCell ⟨b, 11, none⟩ (.slice a4' n4' c4')).heap[q]? = u.heap[q]? := fun q hq hn => ((hL.block q (by omega) (by omega)).trans (hcb4 q hq)).trans (hsm q hq hn); have hb5 : Below w.heap.size w (w4.setCell ⟨b, 11, none⟩ (.slice a4' n4' c4')) := (zo ((hbw.trans (hb3.mono (by omega))).alloc (by omega) _) hg (by simp; omega) (fun q hq => by have := (hown.block hq).1; omega)).setCell (by simp; omega) _; have hzz := hL.size; clear hL; simp only [zi, zag, zfZ, zga] at hc5 hf5 hzz; go_wp2_with fail; go_roundw
      case rel => exact ⟨k + 1, fp ++ fp3, .slice a4' n4' c4', by omega, by go_num, by rw [zgf hlt, zgj]; simpa using hown5, hfr5, hc5, hf5, by omega, hsm5, hb5⟩
      case measure => simp [intOf]; omega
    ·have he : x.K.take k = x.K := zgq (by omega)
     rw [he] at hown; obtain ⟨fp', hr', hf', _⟩ := hown.fresh hfr; obtain ⟨oa, oc, rfl, _, _⟩ := zg hr'; have st := ST.out; have hal : SameOn fA u wr := fun q hq => hsm q (st.fresh.lt q hq) (st.away q hq); have hrA := st.rA.same _ hal; have hfx := Fresh.app (st.fresh.same hal) st.fresh.lt hszu hf'
     have hrx : RdVs wr x.cd (yTl x d3 e3 d5 e5 d6 e6 d7 e7 oa oc) (fA ++ fp') := by
      rw [Fm.cd_eq]; exact ((zaM m0).app ((Lt.of_atom hrA).app (RdVs.single hr')))
     have yx : ∀ j, wr.cell? ⟨w.heap.size + 1, j, none⟩ = (yYa : Array Value)[j]? := fun j => (zgv (w := u) (a := ⟨w.heap.size + 1, j, none⟩) (hsm (w.heap.size + 1) (by omega) (by omega))).trans (st.res j); have fx : ∀ j, wr.frozen? ⟨w.heap.size + 1, j, none⟩ = false := fun j => (zk (hsm (w.heap.size + 1) (by omega) (by omega))).trans (st.rfree j); clear st hal hrA hr' hf' hown hfr hsm ST y11 g11; obtain ⟨X0, X1, X2, X3, X4, X5, X6, X7, X8, X9, X10, X11⟩ := yQ12 hcb; obtain ⟨Y0, Y1, Y2, Y3, Y4, Y5, Y6, Y7, Y8, Y9, Y10, Y11⟩ := yQ12 yx; obtain ⟨Z0, Z1, Z2, Z3, Z4, Z5, Z6, Z7, Z8, Z9, Z10, Z11⟩ := yQ12 fx; simp only [zgd, zgb, zgc] at X0 Y0 X1 Y1 X2 Y2 X3 Y3 X4 Y4 X5 Y5 X6 Y6 X7 Y7 X8 Y8 X9 Y9 X10 Y10 X11 Y11; have hres := zw (b := w.heap.size + 1) (yTp x d3 e3 d5 e5 d6 e6 d7 e7 oa oc) yx (by simp); obtain ⟨R0, R1, R2, R3, R4, R5, R6, R7, R8, R9, R10, R11⟩ := yQ12 hres; simp only [zi, zag, zfZ, zga, zgd, zgb, zgc] at R0 R1 R2 R3 R4 R5 R6 R7 R8 R9 R10 R11; clear hres fx hcb yx hfb; have hL2 := Loc.sets (b := w.heap.size + 1) (lo := w.heap.size) (hi := w.heap.size + 1 + 1) (by omega) (by omega) (yTp x d3 e3 d5 e5 d6 e6 d7 e7 oa oc) (Loc.refl _ _ wr); have hB2 := hbw.trans (hL2.toBelow (B := w.heap.size) (by omega) (zgo _)); have hr2 := hrx.same _ (hL2.same (w0 := w) hfx); have hf2x := hfx.same (hL2.same (w0 := w) hfx); simp only [zi] at hB2 hr2 hf2x; clear hL2 hbw hrx hfx; go_wp2_with fail; refine bodyPost_ret (v := .agg (yTa x d3 e3 d5 e5 d6 e6 d7 e7 oa oc)) (by simp [results, Tryz.results74, go_sem, R0, R1, R2, R3, R4, R5, R6, R7, R8, R9, R10, R11]) rfl ?_; exact ⟨(yTl x d3 e3 d5 e5 d6 e6 d7 e7 oa oc), _, rfl, hr2, hf2x.mono (by omega), hB2⟩
  refine Till.start (F := fun U => ((yTd x a3 c3 a5 c5 a6 c6 a7 c7 a11 c11 U w.heap.size))) (s0 := 12) (by kernel_rfl) ?_; obtain ⟨vv, hV⟩ : ∃ v, v = W.drew := ⟨_, rfl⟩; rw [← hV] at hx hy hz hBc hf2 hF ⊢; clear hV; refine Till.take (i := 0) (v := .pointer (some ⟨w.heap.size, 0, none⟩)) rfl (by kernel_rfl) (by kernel_rfl) (by kernel_rfl) (fun _ _ _ h => h) (by kernel_rfl) (Or.inl ⟨by rfl, fun U hU => ?_⟩) hF ?_
  ·obtain ⟨g0, g1, g2, g3, g4, g5, g6, g7, g8, g9, g10, g11⟩ := hU
   go_simp
  try simp only [zgB]
  refine Till.take (i := 1) (v := .int .i64 x.kind) rfl (by kernel_rfl) (by kernel_rfl) (by kernel_rfl) (fun _ _ _ h => h) (by kernel_rfl) (Or.inl ⟨by rfl, fun U hU => ?_⟩) hF ?_
  ·obtain ⟨g0, g1, g2, g3, g4, g5, g6, g7, g8, g9, g10, g11⟩ := hU
   go_simp
  try simp only [zgB]
  refine Till.take (i := 2) (v := .pointer (some ⟨w.heap.size, 1, none⟩)) rfl (by kernel_rfl) (by kernel_rfl) (by kernel_rfl) (fun _ _ _ h => h) (by kernel_rfl) (Or.inl ⟨by rfl, fun U hU => ?_⟩) hF ?_
  ·obtain ⟨g0, g1, g2, g3, g4, g5, g6, g7, g8, g9, g10, g11⟩ := hU
   go_simp
  try simp only [zgB]
  refine Till.take (i := 3) (v := .pointer (some ⟨w.heap.size, 1, none⟩)) rfl (by kernel_rfl) (by kernel_rfl) (by kernel_rfl) (fun _ _ _ h => h) (by kernel_rfl) (Or.inl ⟨by rfl, fun U hU => ?_⟩) hF ?_
  ·obtain ⟨g0, g1, g2, g3, g4, g5, g6, g7, g8, g9, g10, g11⟩ := hU
   go_simp
  try simp only [zgB]
  refine Till.take (i := 4) (v := .agg (yNa x.L.M a3 c3 a5 c5 a6 c6 a7 c7)) rfl (by kernel_rfl) (by kernel_rfl) (by kernel_rfl) (fun _ _ _ h => h) (by kernel_rfl) (Or.inl ⟨by rfl, fun U hU => ?_⟩) hF ?_
  ·obtain ⟨g0, g1, g2, g3, g4, g5, g6, g7, g8, g9, g10, g11⟩ := hU
   go_simp
  try simp only [zgB]
  refine Till.take (i := 6) (v := .pointer (some ⟨w.heap.size, 1, none⟩)) rfl (by kernel_rfl) (by kernel_rfl) (by kernel_rfl) (fun _ _ _ h => h) (by kernel_rfl) (Or.inl ⟨by rfl, fun U hU => ?_⟩) hF ?_
  ·obtain ⟨g0, g1, g2, g3, g4, g5, g6, g7, g8, g9, g10, g11⟩ := hU
   go_simp
  try simp only [zgB]
  refine Till.take (i := 7) (v := .pointer (some ⟨w.heap.size, 10, none⟩)) rfl (by kernel_rfl) (by kernel_rfl) (by kernel_rfl) (fun _ _ _ h => h) (by kernel_rfl) (Or.inl ⟨by rfl, fun U hU => ?_⟩) hF ?_
  ·obtain ⟨g0, g1, g2, g3, g4, g5, g6, g7, g8, g9, g10, g11⟩ := hU
   go_simp
  try simp only [zgB]
  refine Till.take (i := 8) (v := .bool x.L.no) rfl (by kernel_rfl) (by kernel_rfl) (by kernel_rfl) (fun _ _ _ h => h) (by kernel_rfl) (Or.inl ⟨by rfl, fun U hU => ?_⟩) hF ?_
  ·obtain ⟨g0, g1, g2, g3, g4, g5, g6, g7, g8, g9, g10, g11⟩ := hU
   go_simp
  try simp only [zgB]
  refine Till.two (i := 5) (j := 11) (by kernel_rfl) rfl rfl (fun K hK => ?_) (fun K hK => ?_)
  ·skip
   go_simp; go_wp2_with (go_at_call 42; refine (zdp x.L.M _ _ _ hsmall htimes (by exact hat.below hBc)).mono ?_; rintro e v0 ⟨us, fA, rfl, hrA, hfA, hb⟩); obtain ⟨d3, e3, h3, d5, e5, h5, d6, e6, h6, d7, e7, h7, rfl, _, _, _, _, _, _, _, _, _⟩ := Atm.open hrA; have hge : ∀ y ∈ fA, vv.heap.size ≤ y := fun y hy => (hfA.2 y hy).1; have hFP : Fresh (w.heap.size + 1 + 1) v0 fA := hfA.mono hz; have hzn := hb.size; replace hBc := hBc.trans (hb.mono (by omega)); replace hF : (fun U : World => ((yTd x a3 c3 a5 c5 a6 c6 a7 c7 a11 c11 U w.heap.size))) v0 := ⟨za hF.1 hb, za hF.2.1 hb, za hF.2.2.1 hb, za hF.2.2.2.1 hb, za hF.2.2.2.2.1 hb, za hF.2.2.2.2.2.1 hb, za hF.2.2.2.2.2.2.1 hb, za hF.2.2.2.2.2.2.2.1 hb, za hF.2.2.2.2.2.2.2.2.1 hb, za hF.2.2.2.2.2.2.2.2.2.1 hb, za hF.2.2.2.2.2.2.2.2.2.2.1 hb, za hF.2.2.2.2.2.2.2.2.2.2.2 hb⟩; replace hx := zh hx (by omega) hb; replace hy := zh hy (by omega) hb; replace hf2 := zK hf2 (by omega) hb; replace hz := zgy hz hzn; clear hb hzn; clear hge hfA; refine hK.out _ _ (fun _ => hF) ?_; clear hK
   try simp only [zgB]
   refine Till.free (i := 9) (v := .agg #[.int .i64 x.L.M.kind, .string x.L.M.a.name, .slice d3 x.L.M.a.K.length e3, .string x.L.M.b.name, .slice d5 x.L.M.b.K.length e5, .slice d6 x.L.M.N.length e6, .slice d7 x.L.M.T.length e7, .int .i64 x.L.M.O, .bool x.L.M.C, .bool x.L.no]) rfl (by kernel_rfl) (by kernel_rfl) (by kernel_rfl) (fun _ _ _ h => h) (by kernel_rfl) (Or.inl ⟨by rfl, fun U _ => ?_⟩) (fun _ => hF) ?_
   ·go_simp
   try simp only [zgB]
   refine Till.free (i := 10) (v := .agg #[.int .i64 x.kind, .int .i64 x.L.M.kind, .string x.L.M.a.name, .slice d3 x.L.M.a.K.length e3, .string x.L.M.b.name, .slice d5 x.L.M.b.K.length e5, .slice d6 x.L.M.N.length e6, .slice d7 x.L.M.T.length e7, .int .i64 x.L.M.O, .bool x.L.M.C, .bool x.L.no, .slice none 0 0]) rfl (by kernel_rfl) (by kernel_rfl) (by kernel_rfl) (fun _ _ _ h => h) (by kernel_rfl) (Or.inl ⟨by rfl, fun U _ => ?_⟩) (fun _ => hF) ?_
   ·go_simp
   try simp only [zgB]
   refine Till.one (i := 11) (by kernel_rfl) rfl (fun K hK => ?_); go_simp; have hb := zb v0 (.cells yYa 36); have hsn := asz2 v0 (.cells yYa 36); have hcB := zt v0 yYa 36; have hfB := zR v0 yYa 36; have hnB : ∀ y ∈ fA, y ≠ v0.heap.size := fun y hy => Nat.ne_of_lt (hFP.lt y hy)
   have hB1 : v0.heap.size < (v0.alloc (.cells yYa 36)).heap.size := by omega
   have hloB : w.heap.size + 1 + 1 ≤ v0.heap.size := hz; obtain ⟨v1, hnew⟩ : ∃ v1, v1 = v0.alloc (.cells yYa 36) := ⟨_, rfl⟩; rw [← hnew] at hb hcB hfB hB1 hsn ⊢; clear hnew hsn; have hzn := hb.size; replace hBc := hBc.trans (hb.mono (by omega)); replace hF : (fun U : World => ((yTd x a3 c3 a5 c5 a6 c6 a7 c7 a11 c11 U w.heap.size))) v1 := ⟨za hF.1 hb, za hF.2.1 hb, za hF.2.2.1 hb, za hF.2.2.2.1 hb, za hF.2.2.2.2.1 hb, za hF.2.2.2.2.2.1 hb, za hF.2.2.2.2.2.2.1 hb, za hF.2.2.2.2.2.2.2.1 hb, za hF.2.2.2.2.2.2.2.2.1 hb, za hF.2.2.2.2.2.2.2.2.2.1 hb, za hF.2.2.2.2.2.2.2.2.2.2.1 hb, za hF.2.2.2.2.2.2.2.2.2.2.2 hb⟩; replace hx := zh hx (by omega) hb; replace hy := zh hy (by omega) hb; replace hf2 := zK hf2 (by omega) hb; replace hrA := hrA.below hb; replace hFP := hFP.below hb; replace hz := zgy hz hzn; clear hb hzn; refine hK.out _ _ (fun _ => hF) ?_; clear hK
   try simp only [zgB]
   refine Till.one (i := 12) (by kernel_rfl) rfl (fun K hK => ?_); obtain ⟨P0, P1, P2, P3, P4, P5, P6, P7, P8, P9, P10, P11⟩ := yQ12 hcB; obtain ⟨Q0, Q1, Q2, Q3, Q4, Q5, Q6, Q7, Q8, Q9, Q10, Q11⟩ := yQ12 hfB; simp only [zgd, zgb, zgc] at P0 P1 P2 P3 P4 P5 P6 P7 P8 P9 P10 P11; have hcS := zw (b := v0.heap.size) [(0, .int .i64 x.kind), (1, .int .i64 x.L.M.kind), (2, .string x.L.M.a.name), (3, .slice d3 x.L.M.a.K.length e3), (4, .string x.L.M.b.name), (5, .slice d5 x.L.M.b.K.length e5), (6, .slice d6 x.L.M.N.length e6), (7, .slice d7 x.L.M.T.length e7), (8, .int .i64 x.L.M.O), (9, .bool x.L.M.C), (10, .bool x.L.no), (11, .slice none 0 0)] hcB (by simp); have hL := Loc.sets (b := v0.heap.size) (lo := v0.heap.size) (hi := v0.heap.size + 1) (zgo _) (Nat.lt_succ_self _) [(0, .int .i64 x.kind), (1, .int .i64 x.L.M.kind), (2, .string x.L.M.a.name), (3, .slice d3 x.L.M.a.K.length e3), (4, .string x.L.M.b.name), (5, .slice d5 x.L.M.b.K.length e5), (6, .slice d6 x.L.M.N.length e6), (7, .slice d7 x.L.M.T.length e7), (8, .int .i64 x.L.M.O), (9, .bool x.L.M.C), (10, .bool x.L.no), (11, .slice none 0 0)] (Loc.refl _ _ v1); have hfS := zak (b := v0.heap.size) (b' := v0.heap.size) [(0, .int .i64 x.kind), (1, .int .i64 x.L.M.kind), (2, .string x.L.M.a.name), (3, .slice d3 x.L.M.a.K.length e3), (4, .string x.L.M.b.name), (5, .slice d5 x.L.M.b.K.length e5), (6, .slice d6 x.L.M.N.length e6), (7, .slice d7 x.L.M.T.length e7), (8, .int .i64 x.L.M.O), (9, .bool x.L.M.C), (10, .bool x.L.no), (11, .slice none 0 0)] hfB; have hend := zdr hBc hz hloB hB1 hx hy hf2 hcS hfS hrA hFP hnB hL; clear hcS hL hfS hx hy hf2 hcB hfB hFP hnB hrA hBc; simp only [zi] at hend; go_simp; refine hK.out _ _ (fun h => absurd h (by decide)) ?_; clear hK
   try simp only [zgB]
   refine Till.done (by kernel_rfl) ?_ _; exact ⟨_, _, _, _, _, _, _, _, _, _, _, _, _, _, _, _, _, _, _, _, _, rfl, hend⟩
  ·skip
   go_simp; have hb := zb vv (.cells yYa 36); have hsn := asz2 vv (.cells yYa 36); have hcB := zt vv yYa 36; have hfB := zR vv yYa 36
   have hB1 : vv.heap.size < (vv.alloc (.cells yYa 36)).heap.size := by omega
   have hloB : w.heap.size + 1 + 1 ≤ vv.heap.size := hz; obtain ⟨v0, hnew⟩ : ∃ v0, v0 = vv.alloc (.cells yYa 36) := ⟨_, rfl⟩; rw [← hnew] at hb hcB hfB hB1 hsn ⊢; clear hnew hsn; have hzn := hb.size; replace hBc := hBc.trans (hb.mono (by omega)); replace hF : (fun U : World => ((yTd x a3 c3 a5 c5 a6 c6 a7 c7 a11 c11 U w.heap.size))) v0 := ⟨za hF.1 hb, za hF.2.1 hb, za hF.2.2.1 hb, za hF.2.2.2.1 hb, za hF.2.2.2.2.1 hb, za hF.2.2.2.2.2.1 hb, za hF.2.2.2.2.2.2.1 hb, za hF.2.2.2.2.2.2.2.1 hb, za hF.2.2.2.2.2.2.2.2.1 hb, za hF.2.2.2.2.2.2.2.2.2.1 hb, za hF.2.2.2.2.2.2.2.2.2.2.1 hb, za hF.2.2.2.2.2.2.2.2.2.2.2 hb⟩; replace hx := zh hx (by omega) hb; replace hy := zh hy (by omega) hb; replace hf2 := zK hf2 (by omega) hb; replace hz := zgy hz hzn; clear hb hzn; refine hK.out _ _ (fun _ => hF) ?_; clear hK
   try simp only [zgB]
   refine Till.one (i := 5) (by kernel_rfl) rfl (fun K hK => ?_); go_simp; go_wp2_with (go_at_call 42; refine (zdp x.L.M _ _ _ hsmall htimes (by exact hat.below hBc)).mono ?_; rintro e v1 ⟨us, fA, rfl, hrA, hfA, hb⟩); obtain ⟨d3, e3, h3, d5, e5, h5, d6, e6, h6, d7, e7, h7, rfl, _, _, _, _, _, _, _, _, _⟩ := Atm.open hrA; have hge : ∀ y ∈ fA, v0.heap.size ≤ y := fun y hy => (hfA.2 y hy).1; have hFP : Fresh (w.heap.size + 1 + 1) v1 fA := hfA.mono hz
   have hnB : ∀ y ∈ fA, y ≠ vv.heap.size := fun y hy => by have := hge y hy; omega
   have hzn := hb.size; replace hBc := hBc.trans (hb.mono (by omega)); replace hF : (fun U : World => ((yTd x a3 c3 a5 c5 a6 c6 a7 c7 a11 c11 U w.heap.size))) v1 := ⟨za hF.1 hb, za hF.2.1 hb, za hF.2.2.1 hb, za hF.2.2.2.1 hb, za hF.2.2.2.2.1 hb, za hF.2.2.2.2.2.1 hb, za hF.2.2.2.2.2.2.1 hb, za hF.2.2.2.2.2.2.2.1 hb, za hF.2.2.2.2.2.2.2.2.1 hb, za hF.2.2.2.2.2.2.2.2.2.1 hb, za hF.2.2.2.2.2.2.2.2.2.2.1 hb, za hF.2.2.2.2.2.2.2.2.2.2.2 hb⟩; replace hx := zh hx (by omega) hb; replace hy := zh hy (by omega) hb; replace hf2 := zK hf2 (by omega) hb; replace hcB := zh hcB hB1 hb; replace hfB := zK hfB hB1 hb; replace hB1 := zge hB1 hzn; replace hz := zgy hz hzn; clear hb hzn; clear hge hfA; refine hK.out _ _ (fun _ => hF) ?_; clear hK
   try simp only [zgB]
   refine Till.free (i := 9) (v := .agg #[.int .i64 x.L.M.kind, .string x.L.M.a.name, .slice d3 x.L.M.a.K.length e3, .string x.L.M.b.name, .slice d5 x.L.M.b.K.length e5, .slice d6 x.L.M.N.length e6, .slice d7 x.L.M.T.length e7, .int .i64 x.L.M.O, .bool x.L.M.C, .bool x.L.no]) rfl (by kernel_rfl) (by kernel_rfl) (by kernel_rfl) (fun _ _ _ h => h) (by kernel_rfl) (Or.inl ⟨by rfl, fun U _ => ?_⟩) (fun _ => hF) ?_
   ·go_simp
   try simp only [zgB]
   refine Till.free (i := 10) (v := .agg #[.int .i64 x.kind, .int .i64 x.L.M.kind, .string x.L.M.a.name, .slice d3 x.L.M.a.K.length e3, .string x.L.M.b.name, .slice d5 x.L.M.b.K.length e5, .slice d6 x.L.M.N.length e6, .slice d7 x.L.M.T.length e7, .int .i64 x.L.M.O, .bool x.L.M.C, .bool x.L.no, .slice none 0 0]) rfl (by kernel_rfl) (by kernel_rfl) (by kernel_rfl) (fun _ _ _ h => h) (by kernel_rfl) (Or.inl ⟨by rfl, fun U _ => ?_⟩) (fun _ => hF) ?_
   ·go_simp
   try simp only [zgB]
   refine Till.one (i := 12) (by kernel_rfl) rfl (fun K hK => ?_); obtain ⟨P0, P1, P2, P3, P4, P5, P6, P7, P8, P9, P10, P11⟩ := yQ12 hcB; obtain ⟨Q0, Q1, Q2, Q3, Q4, Q5, Q6, Q7, Q8, Q9, Q10, Q11⟩ := yQ12 hfB; simp only [zgd, zgb, zgc] at P0 P1 P2 P3 P4 P5 P6 P7 P8 P9 P10 P11; have hcS := zw (b := vv.heap.size) [(0, .int .i64 x.kind), (1, .int .i64 x.L.M.kind), (2, .string x.L.M.a.name), (3, .slice d3 x.L.M.a.K.length e3), (4, .string x.L.M.b.name), (5, .slice d5 x.L.M.b.K.length e5), (6, .slice d6 x.L.M.N.length e6), (7, .slice d7 x.L.M.T.length e7), (8, .int .i64 x.L.M.O), (9, .bool x.L.M.C), (10, .bool x.L.no), (11, .slice none 0 0)] hcB (by simp); have hL := Loc.sets (b := vv.heap.size) (lo := vv.heap.size) (hi := vv.heap.size + 1) (zgo _) (Nat.lt_succ_self _) [(0, .int .i64 x.kind), (1, .int .i64 x.L.M.kind), (2, .string x.L.M.a.name), (3, .slice d3 x.L.M.a.K.length e3), (4, .string x.L.M.b.name), (5, .slice d5 x.L.M.b.K.length e5), (6, .slice d6 x.L.M.N.length e6), (7, .slice d7 x.L.M.T.length e7), (8, .int .i64 x.L.M.O), (9, .bool x.L.M.C), (10, .bool x.L.no), (11, .slice none 0 0)] (Loc.refl _ _ v1); have hfS := zak (b := vv.heap.size) (b' := vv.heap.size) [(0, .int .i64 x.kind), (1, .int .i64 x.L.M.kind), (2, .string x.L.M.a.name), (3, .slice d3 x.L.M.a.K.length e3), (4, .string x.L.M.b.name), (5, .slice d5 x.L.M.b.K.length e5), (6, .slice d6 x.L.M.N.length e6), (7, .slice d7 x.L.M.T.length e7), (8, .int .i64 x.L.M.O), (9, .bool x.L.M.C), (10, .bool x.L.no), (11, .slice none 0 0)] hfB; have hend := zdr hBc hz hloB hB1 hx hy hf2 hcS hfS hrA hFP hnB hL; clear hcS hL hfS hx hy hf2 hcB hfB hFP hnB hrA hBc; simp only [zi] at hend; go_simp; refine hK.out _ _ (fun h => absurd h (by decide)) ?_; clear hK
   try simp only [zgB]
   refine Till.done (by kernel_rfl) ?_ _; exact ⟨_, _, _, _, _, _, _, _, _, _, _, _, _, _, _, _, _, _, _, _, _, rfl, hend⟩
theorem zbP (x : Fm) (vs : List Value) (f : List Nat) (w : World) (hbig : wtV x.cd ≤ 1048576) (hv : RdVs w x.cd vs f) :
  Calls Tryz.prog 74 #[.agg vs.toArray] w (zbg x.cd w) := zeo _ x vs f w (zgo _) hbig hv
theorem zfK (n : Nat) (ih : ∀ (x : Fm) (vs : List Value) (fp : List Nat) (w : World), ndV x.cd ≤ n → wtV x.cd ≤ 1048576 → RdVs w x.cd vs fp → Calls Tryz.prog 74 #[.agg vs.toArray] w (zbg x.cd w))
  (xs : List Fm) (v : Value) (fp0 : List Nat) (w : World) (hn : ∀ x ∈ xs, ndV x.cd ≤ n) (hbig : xs.length + wtR (xs.map Fm.cd) ≤ 1048576) (hv : Rd w (.sl (xs.map Fm.cd)) v fp0) :
  Calls Tryz.prog 61 #[v] w (zda (.sl (xs.map Fm.cd)) w) := by
 obtain ⟨a, cap, rfl, hc1, hc2⟩ := zg hv; have IH := zgn ih; have HN := zgn hn; clear ih hn; go_enter Tryz.func61, Tryz.ntmps61; go_wp2_with fail
 go_loopw [3, 4] (fun ov i wr => ∃ (k : Nat) (fp : List Nat), k ≤ xs.length ∧ i = .int .i64 k ∧ Own wr w.heap.size 36 12 ov ((xs.take k).map Fm.cd) fp ∧ Fresh w.heap.size wr fp ∧ Below w.heap.size w wr) (fun _ i _ => xs.length - (intOf i).toNat)
 case atStart => first | exact ⟨0, [], zgx _, rfl, Own.nil _ _ _ _, Fresh.nil _ _, zgz _ _⟩ | exact ⟨0, [], zgx _, rfl, by exact Own.empty _ _ _ _ (zgo _), Fresh.nil _ _, (zgz _ _).alloc (zgo _) _⟩
 case round =>
  obtain ⟨k, fp, hkl, rfl, hown, hfr, hb⟩ := hrel; have hz := hb.size
  by_cases hlt : k < xs.length
  ·obtain ⟨b, off, rfl, hbs, _⟩ := zl hv (by omega)
   obtain ⟨a3, c3, f3, a5, c5, f5, a6, c6, f6, a7, c7, f7, a11, c11, f11, d0, d1, d2, d3, d4, d5, d6, d7, d8, d9, d10, d11, m0, m1, m2, m3, m4, m5, m6, m7, m8, m9, _⟩ := Fm.at (hv.below hb) hlt
   have hbz : b < wr.heap.size := by omega
   have hle := zu Fm.cd xs (k + 1); rw [zC Fm.cd xs k hlt] at hle; go_wp2_with fail; refine (IH.out xs[k] _ _ _ (HN.out _ (zgh hlt)) (by omega) (by exact Fm.close m0 m1 m2 m3 m4 m5 m6 m7 m8 m9)).mono ?_; rintro e w2 ⟨kv, fk, rfl, hrk, hfk, hb2⟩; obtain ⟨b3, e3, g3, b5, e5, g5, b6, e6, g6, b7, e7, g7, b11, e11, g11, rfl, -, n0, n1, n2, n3, n4, n5, n6, n7, n8, n9⟩ := Fm.open hrk; have hbw : Below wr.heap.size wr w2 := hb2; have hz2 := hbw.size; have hown2 := (hown.below (hbw.alloc hz2 (.cells (yTa xs[k] b3 e3 b5 e5 b6 e6 b7 e7 b11 e11) 36))); have hrk2 := hrk.below (zb w2 (.cells (yTa xs[k] b3 e3 b5 e5 b6 e6 b7 e7 b11 e11) 36))
   have hl : ((xs.take k).map Fm.cd).length ≤ xs.length := by simp; omega
   go_wp2_with (at_builtin; refine zz zM rfl _ _ rfl w.heap.size _ _ _ rfl hown2 ⟨w2.heap.size, 0, none⟩ 1 1 [xs[k].cd] (yTl xs[k] b3 e3 b5 e5 b6 e6 b7 e7 b11 e11) fk rfl rfl ?rd ?k ?cells ?na ?bytes ?len ?base ?next)
   case rd => simpa using hrk2
   case k => simp [Fm.cd_len]
   case cells => exact zq _ _ _
   case na => exact hown.away (zgo _) hfk
   case bytes => omega
   case len => omega
   case base => simp; omega
   case next =>
    intro v' w4 hown4 hg hv' hs4; go_wp2_with fail; go_roundw
    case rel =>
     refine ⟨k + 1, fp ++ fk, by omega, by go_num, ?_, ?_, ?_⟩
     ·rw [zgf hlt, zgj]; simpa using hown4
     ·exact ((Fresh.app (hfr.below hbw) hfr.lt hz hfk).below (zb _ _)).same hs4
     ·exact zo ((hb.trans (hbw.mono hz)).alloc (by omega) _) hg (by simp; omega) (fun k hk => (hown.block hk).1)
    case measure => simp [intOf]; omega
  ·have he : xs.take k = xs := zgq (by omega)
   rw [he] at hown; go_wp2_with fail; go_ret; obtain ⟨fp', h1, h2, _⟩ := hown.fresh hfr; exact ⟨_, fp', rfl, h1, h2, hb⟩
theorem zfL (xs : List Fm) (v : Value) (fp0 : List Nat) (w : World) (hbig : xs.length + wtR (xs.map Fm.cd) ≤ 1048576) (hv : Rd w (.sl (xs.map Fm.cd)) v fp0) :
  Calls Tryz.prog 61 #[v] w (zda (.sl (xs.map Fm.cd)) w) :=
 zfK (ndR (xs.map Fm.cd)) (zeo _) xs v fp0 w (fun x hx => Nat.le_of_lt (zdy (List.mem_map_of_mem hx))) hbig hv
end Go.Proofs.YtbfinjiledfpcaaGreat
