/- Parts of the proof: StkO. -/
import Derived.BigQuiet
import Derived.Lib.Hide
import Derived.Test.YtbfinjiledfpcaaGreatPa34
import Derived.Test.YtbfinjiledfpcaaGreatPa36
import Derived.Deep.RegionHeld3
import Derived.Test.YtbfinjiledfpcaaGreatPa32
import Derived.Test.YtbfinjiledfpcaaGreatPa28
/- Well-formed forms in a language: both sides. -/
namespace Go.Proofs.YtbfinjiledfpcaaGreat
open Go Go.RowKit
set_option linter.unusedVariables false
set_option linter.unusedSimpArgs false
def za1 (x : Atm) : Lt := ⟨x, false⟩
def zx (l : List Atm) : List Lt := l.map za1
theorem zbm (l : List Atm) (k : Nat) (h : k < l.length) : zx (l.take (k + 1)) = zx (l.take k) ++ [za1 l[k]] := by
 unfold zx; rw [zfi h, zfm]; rfl
theorem litOf_wt (x : Atm) : wtV (za1 x).cd = wtV x.cd := (Lt.wt_atom (za1 x)).symm
theorem zbA : ∀ (l : List Atm), wtR ((zx l).map Lt.cd) = wtR (l.map Atm.cd)
 | [] => rfl
 | x :: l => by
  have h1 := zbA l
  have h2 := litOf_wt x
  simp only [zx, List.map_cons, zal] at h1 ⊢
  omega
theorem zay {l : List Atm} (h : wtR (l.map Atm.cd) ≤ 1048576) : ∀ x ∈ zx l, x.atom.small := fun x hx => by
 have := zde (cd := Lt.cd) hx
 rw [zbA] at this
 exact Lt.small_of (by omega)
theorem zdl (l : List Atm) : Tm.sizes (zP (zx l)) ≤ 2 * l.length + wtR (l.map Atm.cd) := by
 have h := zet (zx l)
 rw [zbA] at h
 simpa [zx] using h
theorem zev (l : List Atm) : Tm.sizes (zai (zx l)) ≤ 2 * l.length + wtR (l.map Atm.cd) := by
 have h := zeu (zx l)
 rw [zbA] at h
 simpa [zx] using h
def Fm.okIn (s : Sg) (f : Fm) : Bool := f.okF && zax s (zx (Fm.add [] f))
theorem Fm.okIn_no {s : Sg} {f : Fm} (h : f.okF = false) : f.okIn s = false := by unfold Fm.okIn; rw [h]; rfl
theorem Fm.okIn_yes {s : Sg} {f : Fm} (h : f.okF = true) : f.okIn s = zax s (zx (Fm.add [] f)) := by unfold Fm.okIn; rw [h]; rfl
def za8 (s : Sg) (fs : List Fm) : Bool := s.okB && (zad fs && zax s (zx (zF fs)))
theorem zcj {s : Sg} {fs : List Fm} (h : s.okB = false) : za8 s fs = false := by unfold za8; rw [h]; rfl
theorem zew {s : Sg} {fs : List Fm} (h : zad fs = false) : za8 s fs = false := by unfold za8; rw [h]; simp
theorem zck {s : Sg} {fs : List Fm} (h : s.okB = true) (h' : zad fs = true) : za8 s fs = zax s (zx (zF fs)) := by unfold za8; rw [h, h']; rfl
theorem zbn (fs : List Fm) : wtR ((zF fs).map Atm.cd) ≤ wtR (fs.map Fm.cd) ∧ (zF fs).length ≤ 6 := by
 unfold zF
 split
 ·rename_i h
  have h1 := Fm.adds_wt fs []
  simp only [zad, zfp, decide_eq_true_eq] at h
  simp only [List.map_nil, wtR, Nat.zero_add] at h1
  exact ⟨h1, h.2.2⟩
 ·simp [wtR]
theorem zeY {fs : List Fm} (h : zad fs = true) : Fm.tells [] fs = zF fs := by
 rw [zaw h]
 simp only [zad, zfp] at h
 exact (Fm.ok_adds fs [] h.2.1).symm
set_option maxRecDepth 100000 in
set_option maxHeartbeats 1000000 in
theorem zdH (l : List Atm) (v : Value) (g : List Nat) (w : World) (hlen : l.length ≤ 1000000000) (hv : Rd w (.sl (l.map Atm.cd)) v g) :
  Calls Tryz.prog 43 #[v] w fun e w' => (∃ rv rf, e = .returned rv ∧ Rd w' (.sl ((zx l).map Lt.cd)) rv rf) ∧ Below w.heap.size w w' := by
 obtain ⟨a, cap, rfl, hc1, hc2⟩ := ze hv
 have hfl := hv.lt _
 go_enter Tryz.func43, Tryz.ntmps43
 go_wp2_with fail
 go_loopw [3, 8] (fun ov i wr => ∃ (k : Nat) (fp : List Nat), k ≤ l.length ∧ i = .int .i64 k ∧ Own wr w.heap.size 33 10 ov ((zx (l.take k)).map Lt.cd) fp ∧ Below w.heap.size w wr) (fun _ i _ => l.length - (intOf i).toNat)
 case atStart => exact ⟨0, [], Nat.zero_le _, rfl, Own.nil _ _ _ _, Below.refl _ _⟩
 case round =>
  obtain ⟨k, fp, hkl, rfl, hown, hb⟩ := hrel
  have hz := hb.size
  by_cases hlt : k < l.length
  ·obtain ⟨b, off, rfl, hbs, _⟩ := zk hv (by omega)
   have hbz : b < wr.heap.size := by omega
   obtain ⟨a2, c2, f2, a4, c4, f4, a5, c5, f5, a6, c6, f6, d0, d1, d2, d3, d4, d5, d6, d7, d8, n0, n1, n2, n3, n4, n5, n6, n7, hsub⟩ := Atm.at (hv.below hb) hlt
   have hBA : Below wr.heap.size wr ((wr.alloc (.cells #[.int .i64 l[k].kind, .string l[k].a.name, .slice a2 l[k].a.kids.length c2, .string l[k].b.name, .slice a4 l[k].b.kids.length c4, .slice a5 l[k].nums.length c5, .slice a6 l[k].times.length c6, .int .i64 l[k].bound, .bool l[k].strict] 31)).alloc (.cells #[.int .i64 l[k].kind, .string l[k].a.name, .slice a2 l[k].a.kids.length c2, .string l[k].b.name, .slice a4 l[k].b.kids.length c4, .slice a5 l[k].nums.length c5, .slice a6 l[k].times.length c6, .int .i64 l[k].bound, .bool l[k].strict, .bool false] 33)) := ((Below.refl _ _).alloc (Nat.le_refl _) _).alloc (by simp) _
   have hB2 := hb.trans (hBA.mono hz)
   have hl : ((zx (l.take k)).map Lt.cd).length = k := by simp [zx]; omega
   have hnews : RdVs wr [(za1 l[k]).cd].flatten [.int .i64 l[k].kind, .string l[k].a.name, .slice a2 l[k].a.kids.length c2, .string l[k].b.name, .slice a4 l[k].b.kids.length c4, .slice a5 l[k].nums.length c5, .slice a6 l[k].times.length c6, .int .i64 l[k].bound, .bool l[k].strict, .bool false] (f2 ++ (f4 ++ (f5 ++ f6))) := by
    have := Lt.close (x := za1 l[k]) n0 n1 n2 n3 n4 n5 n6 n7
    simpa [za1] using this
   have hne : ∀ y ∈ f2 ++ (f4 ++ (f5 ++ f6)), u3.ownBlock ≠ some y := fun y hy e => by have h1 := (hown.block e).1; have h2 := hfl y (hsub y hy); omega
   have HT := Lib.hid (zbm l k hlt)
   go_wp2_with (at_builtin; refine zu zcV rfl _ _ rfl w.heap.size _ _ _ rfl (hown.below hBA) ⟨wr.heap.size + 1, 0, none⟩ 1 1 [(za1 l[k]).cd] [.int .i64 l[k].kind, .string l[k].a.name, .slice a2 l[k].a.kids.length c2, .string l[k].b.name, .slice a4 l[k].b.kids.length c4, .slice a5 l[k].nums.length c5, .slice a6 l[k].times.length c6, .int .i64 l[k].bound, .bool l[k].strict, .bool false] (f2 ++ (f4 ++ (f5 ++ f6))) rfl rfl (hnews.below hBA) ?k ?cells ?na ?bytes ?len ?base ?next)
   case k => simp [Lt.cd, Atm.cd_len]
   case cells =>
    intro j u hj
    have := zt (wr.alloc (.cells #[.int .i64 l[k].kind, .string l[k].a.name, .slice a2 l[k].a.kids.length c2, .string l[k].b.name, .slice a4 l[k].b.kids.length c4, .slice a5 l[k].nums.length c5, .slice a6 l[k].times.length c6, .int .i64 l[k].bound, .bool l[k].strict] 31)) [.int .i64 l[k].kind, .string l[k].a.name, .slice a2 l[k].a.kids.length c2, .string l[k].b.name, .slice a4 l[k].b.kids.length c4, .slice a5 l[k].nums.length c5, .slice a6 l[k].times.length c6, .int .i64 l[k].bound, .bool l[k].strict, .bool false] 33 j u hj
    simpa using this
   case na => exact hne
   case bytes => rw [hl]; omega
   case len => rw [hl]; omega
   case base => simp; omega
   case next =>
    intro v' w4 hown4 hg hv' hs4
    have hb4 := zi hB2 hg (by simp; omega) (fun q hq => (hown.block hq).1)
    clear hl
    go_wp2_with fail
    go_roundw
    case rel =>
     refine ⟨k + 1, fp ++ (f2 ++ (f4 ++ (f5 ++ f6))), by omega, by go_num, ?_, hb4⟩
     rw [HT.out, zfm]; exact hown4
    case measure => simp [intOf]; omega
  ·have he : l.take k = l := List.take_of_length_le (by omega)
   rw [he] at hown
   obtain ⟨oa, on, oc, rfl⟩ := hown.form'
   obtain ⟨fp', hr⟩ := hown.rd'
   clear he
   go_wp2_with fail
   go_ret
   exact ⟨⟨_, fp', rfl, hr⟩, hb⟩
set_option maxRecDepth 100000 in
set_option maxHeartbeats 1000000 in
theorem zaK (l : List Atm) (v : Value) (g : List Nat) (w : World) (hlen : l.length ≤ 1000000000) (hv : Rd w (.sl (l.map Atm.cd)) v g) :
  Calls Tryz.prog 45 #[v] w fun e w' => (∃ rv rf, e = .returned rv ∧ Rd w' (.sl ((zx l).map Lt.cd)) rv rf) ∧ Below w.heap.size w w' := by
 obtain ⟨a, cap, rfl, hc1, hc2⟩ := ze hv
 have hfl := hv.lt _
 go_enter Tryz.func45, Tryz.ntmps45
 go_wp2_with fail
 go_loopw [3, 4] (fun ov i wr => ∃ (k : Nat) (fp : List Nat), k ≤ l.length ∧ i = .int .i64 k ∧ Own wr w.heap.size 33 10 ov ((zx (l.take k)).map Lt.cd) fp ∧ Below w.heap.size w wr) (fun _ i _ => l.length - (intOf i).toNat)
 case atStart => exact ⟨0, [], Nat.zero_le _, rfl, Own.empty _ _ _ _ (Nat.le_refl _), zc _ _⟩
 case round =>
  obtain ⟨k, fp, hkl, rfl, hown, hb⟩ := hrel
  have hz := hb.size
  by_cases hlt : k < l.length
  ·obtain ⟨b, off, rfl, hbs, _⟩ := zk hv (by omega)
   have hbz : b < wr.heap.size := by omega
   obtain ⟨a2, c2, f2, a4, c4, f4, a5, c5, f5, a6, c6, f6, d0, d1, d2, d3, d4, d5, d6, d7, d8, n0, n1, n2, n3, n4, n5, n6, n7, hsub⟩ := Atm.at (hv.below hb) hlt
   have hBA : Below wr.heap.size wr (wr.alloc (.cells #[.int .i64 l[k].kind, .string l[k].a.name, .slice a2 l[k].a.kids.length c2, .string l[k].b.name, .slice a4 l[k].b.kids.length c4, .slice a5 l[k].nums.length c5, .slice a6 l[k].times.length c6, .int .i64 l[k].bound, .bool l[k].strict, .bool false] 33)) := zc _ _
   have hB2 := hb.trans (hBA.mono hz)
   have hl : ((zx (l.take k)).map Lt.cd).length = k := by simp [zx]; omega
   have hnews : RdVs wr [(za1 l[k]).cd].flatten [.int .i64 l[k].kind, .string l[k].a.name, .slice a2 l[k].a.kids.length c2, .string l[k].b.name, .slice a4 l[k].b.kids.length c4, .slice a5 l[k].nums.length c5, .slice a6 l[k].times.length c6, .int .i64 l[k].bound, .bool l[k].strict, .bool false] (f2 ++ (f4 ++ (f5 ++ f6))) := by
    have := Lt.close (x := za1 l[k]) n0 n1 n2 n3 n4 n5 n6 n7
    simpa [za1] using this
   have hne : ∀ y ∈ f2 ++ (f4 ++ (f5 ++ f6)), u3.ownBlock ≠ some y := fun y hy e => by have h1 := (hown.block e).1; have h2 := hfl y (hsub y hy); omega
   have HT := Lib.hid (zbm l k hlt)
   go_wp2_with (at_builtin; refine zu zcV rfl _ _ rfl w.heap.size _ _ _ rfl (hown.below hBA) ⟨wr.heap.size, 0, none⟩ 1 1 [(za1 l[k]).cd] [.int .i64 l[k].kind, .string l[k].a.name, .slice a2 l[k].a.kids.length c2, .string l[k].b.name, .slice a4 l[k].b.kids.length c4, .slice a5 l[k].nums.length c5, .slice a6 l[k].times.length c6, .int .i64 l[k].bound, .bool l[k].strict, .bool false] (f2 ++ (f4 ++ (f5 ++ f6))) rfl rfl (hnews.below hBA) ?k ?cells ?na ?bytes ?len ?base ?next)
   case k => simp [Lt.cd, Atm.cd_len]
   case cells =>
    intro j u hj
    have := zt wr [.int .i64 l[k].kind, .string l[k].a.name, .slice a2 l[k].a.kids.length c2, .string l[k].b.name, .slice a4 l[k].b.kids.length c4, .slice a5 l[k].nums.length c5, .slice a6 l[k].times.length c6, .int .i64 l[k].bound, .bool l[k].strict, .bool false] 33 j u hj
    simpa using this
   case na => exact hne
   case bytes => rw [hl]; omega
   case len => rw [hl]; omega
   case base => simp; omega
   case next =>
    intro v' w4 hown4 hg hv' hs4
    have hb4 := zi hB2 hg (by simp; omega) (fun q hq => (hown.block hq).1)
    clear hl
    go_wp2_with fail
    go_roundw
    case rel =>
     refine ⟨k + 1, fp ++ (f2 ++ (f4 ++ (f5 ++ f6))), by omega, by go_num, ?_, hb4⟩
     rw [HT.out, zfm]; exact hown4
    case measure => simp [intOf]; omega
  ·have he : l.take k = l := List.take_of_length_le (by omega)
   rw [he] at hown
   obtain ⟨oa, on, oc, rfl⟩ := hown.form'
   obtain ⟨fp', hr⟩ := hown.rd'
   clear he
   go_wp2_with fail
   go_ret
   exact ⟨⟨_, fp', rfl, hr⟩, hb⟩
theorem zdI (f : Fm) (b : Bool) (hf : f.okF = b) (vs : List Value) (ff : List Nat) (w : World) (hbig : wtV f.cd ≤ 1048576) (hv : RdVs w f.cd vs ff) :
  Calls Tryz.prog 38 #[.agg vs.toArray] w fun e w' => e = .returned (.bool b) ∧ Below w.heap.size w w' := by subst hf; exact zbK f vs ff w hbig hv
theorem zcN (f : Fm) (b : Bool) (hf : f.okF = b) (vs : List Value) (ff : List Nat) (w : World) (hbig : wtV f.cd ≤ 1048576) (hv : RdVs w f.cd vs ff) :
  Calls Tryz.prog 40 #[.agg vs.toArray] w fun e w' => e = .returned (.bool b) ∧ Below w.heap.size w w' := by subst hf; exact zbj f vs ff w hbig hv
theorem zb1 (s : Sg) (b : Bool) (hs : s.okB = b) (vs : List Value) (f : List Nat) (w : World) (hv : RdVs w s.cd vs f) :
  Calls Tryz.prog 49 #[.agg vs.toArray] w fun e w' => e = .returned (.bool b) ∧ Below w.heap.size w w' := by subst hs; exact zbu s vs f w hv
theorem zcl (s : Sg) (b : Bool) (hs : s.okB = b) (vs : List Value) (f : List Nat) (w : World) (hv : RdVs w s.cd vs f) :
  Calls Tryz.prog 55 #[.agg vs.toArray] w fun e w' => e = .returned (.bool b) ∧ Below w.heap.size w w' := by subst hs; exact zbJ s vs f w hv
theorem zeZ (f : Fm) (vs : List Value) (ff : List Nat) (w : World) (hbig : wtV f.cd ≤ 1048576) (hv : RdVs w f.cd vs ff) :
  Calls Tryz.prog 39 #[.slice none 0 0, .agg vs.toArray] w fun e w' => (∃ rv rf, e = .returned rv ∧ Rd w' (.sl ((Fm.add [] f).map Atm.cd)) rv rf) ∧ Below w.heap.size w w' :=
 (zaO _ f [] _ _ (.slice none 0 0) [] w.heap.size _ (Nat.le_refl _) hbig (by simp; omega) (Nat.le_refl _) (Own.nil _ _ _ _) (Fresh.nil _ _) hv (by simp [Value.ownBlock])).mono fun e w' ⟨lv, fp, h1, h2, h3, h4⟩ => by
  obtain ⟨fp', h5⟩ := h2.rd'
  exact ⟨⟨lv, fp', h1, h5⟩, h4.toBelow (Nat.le_refl _) (by simp [Value.ownBlock])⟩
theorem zef (f : Fm) (vs : List Value) (ff : List Nat) (w : World) (hbig : wtV f.cd ≤ 1048576) (hv : RdVs w f.cd vs ff) :
  Calls Tryz.prog 41 #[.slice none 0 0, .agg vs.toArray] w fun e w' => (∃ rv rf, e = .returned rv ∧ Rd w' (.sl ((Fm.tell [] f).map Atm.cd)) rv rf) ∧ Below w.heap.size w w' :=
 (zbz _ f [] _ _ (.slice none 0 0) [] w.heap.size _ (Nat.le_refl _) hbig (by simp; omega) (Nat.le_refl _) (Own.nil _ _ _ _) hv (by simp [Value.ownBlock])).mono fun e w' ⟨lv, fp, h1, h2, h3, h4⟩ => by
  obtain ⟨fp', h5⟩ := h2.rd'
  exact ⟨⟨lv, fp', h1, h5⟩, h4.toBelow (Nat.le_refl _) (by simp [Value.ownBlock])⟩
theorem zcm (fs : List Fm) (b : Bool) (hf : zad fs = b) (v : Value) (ff : List Nat) (w : World) (hbig : fs.length + wtR (fs.map Fm.cd) ≤ 1048576) (hv : Rd w (.sl (fs.map Fm.cd)) v ff) :
  Calls Tryz.prog 56 #[v] w fun e w' => e = .returned (.bool b) ∧ Below w.heap.size w w' := by subst hf; exact zbS fs v ff w hbig hv
theorem told0_any (fs : List Fm) (hf : zad fs = true) (v : Value) (ff : List Nat) (w : World) (hbig : fs.length + wtR (fs.map Fm.cd) ≤ 1048576) (hv : Rd w (.sl (fs.map Fm.cd)) v ff) :
  Calls Tryz.prog 57 #[v] w fun e w' => (∃ rv rf, e = .returned rv ∧ Rd w' (.sl ((zF fs).map Atm.cd)) rv rf) ∧ Below w.heap.size w w' :=
 (zbk fs v ff w hbig hv).mono fun e w' ⟨rv, fp, h1, h2, _, h4⟩ => by
  rw [zeY hf] at h2
  obtain ⟨fp', h5⟩ := h2.rd'
  exact ⟨⟨rv, fp', h1, h5⟩, h4⟩
theorem zeg (f : Fm) (hf : f.okF = true) (vs : List Value) (ff : List Nat) (w : World) (hbig : wtV f.cd ≤ 1048576) (hv : RdVs w f.cd vs ff) :
  Calls Tryz.prog 41 #[.slice none 0 0, .agg vs.toArray] w fun e w' => (∃ rv rf, e = .returned rv ∧ Rd w' (.sl ((Fm.add [] f).map Atm.cd)) rv rf) ∧ Below w.heap.size w w' := by rw [Fm.okF_tell hf]; exact zef f vs ff w hbig hv
set_option maxRecDepth 100000 in
set_option maxHeartbeats 4000000 in
theorem zcO (s : Sg) (f : Fm) (us : List Value) (vs : List Value) (fs ff : List Nat) (w : World) (hbig : wtV f.cd ≤ 1048576) (hs : RdVs w s.cd us fs) (hv : RdVs w f.cd vs ff) :
  Calls Tryz.prog 12 #[.agg us.toArray, .agg vs.toArray] w fun e w' => e = .returned (.bool (f.okIn s)) ∧ Below w.heap.size w w' := by
 have hv0 := hv
 obtain ⟨a3, c3, f3, a5, c5, f5, a6, c6, f6, a7, c7, f7, a11, c11, f11, rfl, -, m0, m1, m2, m3, m4, m5, m6, m7, m8, m9⟩ := Fm.open hv
 obtain ⟨a0, c0, f0, rfl, _, n0⟩ := Sg.open hs
 clear hv n0 m0 m1 m2 m3 m4 m5 m6 m7 m8 m9
 have hwt : wtR ((Fm.add [] f).map Atm.cd) ≤ wtV f.cd := by simpa [wtR] using Fm.add_wt f []
 have hwl : (Fm.add [] f).length ≤ 1 + wtV f.cd := by simpa using Fm.add_len f []
 have hsm := zay (l := Fm.add [] f) (by omega)
 have hbg := zdl (Fm.add [] f)
 obtain ⟨X0, X1, hz, hB⟩ := box2 (w := w) (wr := (w.alloc (.cells #[.slice a0 s.syms.length c0] 25)).alloc (.cells #[.int .i64 f.kind, .int .i64 f.lit.atom.kind, .string f.lit.atom.a.name, .slice a3 f.lit.atom.a.kids.length c3, .string f.lit.atom.b.name, .slice a5 f.lit.atom.b.kids.length c5, .slice a6 f.lit.atom.nums.length c6, .slice a7 f.lit.atom.times.length c7, .int .i64 f.lit.atom.bound, .bool f.lit.atom.strict, .bool f.lit.no, .slice a11 f.kids.length c11] 36)) (cs := #[.slice a0 s.syms.length c0]) (ds := #[.int .i64 f.kind, .int .i64 f.lit.atom.kind, .string f.lit.atom.a.name, .slice a3 f.lit.atom.a.kids.length c3, .string f.lit.atom.b.name, .slice a5 f.lit.atom.b.kids.length c5, .slice a6 f.lit.atom.nums.length c6, .slice a7 f.lit.atom.times.length c7, .int .i64 f.lit.atom.bound, .bool f.lit.atom.strict, .bool f.lit.no, .slice a11 f.kids.length c11]) (T := 25) (U := 36) (Below.refl _ _)
 have hz0 := hB.size
 have hlX0 : w.heap.size < ((w.alloc (.cells #[.slice a0 s.syms.length c0] 25)).alloc (.cells #[.int .i64 f.kind, .int .i64 f.lit.atom.kind, .string f.lit.atom.a.name, .slice a3 f.lit.atom.a.kids.length c3, .string f.lit.atom.b.name, .slice a5 f.lit.atom.b.kids.length c5, .slice a6 f.lit.atom.nums.length c6, .slice a7 f.lit.atom.times.length c7, .int .i64 f.lit.atom.bound, .bool f.lit.atom.strict, .bool f.lit.no, .slice a11 f.kids.length c11] 36)).heap.size := by omega
 have hlX1 : w.heap.size + 1 < ((w.alloc (.cells #[.slice a0 s.syms.length c0] 25)).alloc (.cells #[.int .i64 f.kind, .int .i64 f.lit.atom.kind, .string f.lit.atom.a.name, .slice a3 f.lit.atom.a.kids.length c3, .string f.lit.atom.b.name, .slice a5 f.lit.atom.b.kids.length c5, .slice a6 f.lit.atom.nums.length c6, .slice a7 f.lit.atom.times.length c7, .int .i64 f.lit.atom.bound, .bool f.lit.atom.strict, .bool f.lit.no, .slice a11 f.kids.length c11] 36)).heap.size := by omega
 go_enter Tryz.func12, Tryz.ntmps12
 go_wp2_with fail
 cases hok : f.okF
 ·have HE := Lib.hid (Fm.okIn_no (s := s) hok)
  generalize hWW : (w.alloc (.cells #[.slice a0 s.syms.length c0] 25)).alloc (.cells #[.int .i64 f.kind, .int .i64 f.lit.atom.kind, .string f.lit.atom.a.name, .slice a3 f.lit.atom.a.kids.length c3, .string f.lit.atom.b.name, .slice a5 f.lit.atom.b.kids.length c5, .slice a6 f.lit.atom.nums.length c6, .slice a7 f.lit.atom.times.length c7, .int .i64 f.lit.atom.bound, .bool f.lit.atom.strict, .bool f.lit.no, .slice a11 f.kids.length c11] 36) = W0 at *
  clear hWW
  have HL0 := Lib.hid (fun (W' : World) (hb' : Below W0.heap.size W0 W') => zdI f false hok _ _ W' hbig (hv0.below (hB.trans (hb'.mono hB.size))))
  have C0_0 := X0 0
  have C1_0 := X1 0
  have C1_1 := X1 1
  have C1_2 := X1 2
  have C1_3 := X1 3
  have C1_4 := X1 4
  have C1_5 := X1 5
  have C1_6 := X1 6
  have C1_7 := X1 7
  have C1_8 := X1 8
  have C1_9 := X1 9
  have C1_10 := X1 10
  have C1_11 := X1 11
  simp only [zfg, zfe, zff] at C0_0 C1_0 C1_1 C1_2 C1_3 C1_4 C1_5 C1_6 C1_7 C1_8 C1_9 C1_10 C1_11
  clear X0 X1
  have qC0_0 := cell_regrown C0_0
  have qC1_0 := cell_regrown C1_0
  have qC1_1 := cell_regrown C1_1
  have qC1_2 := cell_regrown C1_2
  have qC1_3 := cell_regrown C1_3
  have qC1_4 := cell_regrown C1_4
  have qC1_5 := cell_regrown C1_5
  have qC1_6 := cell_regrown C1_6
  have qC1_7 := cell_regrown C1_7
  have qC1_8 := cell_regrown C1_8
  have qC1_9 := cell_regrown C1_9
  have qC1_10 := cell_regrown C1_10
  have qC1_11 := cell_regrown C1_11
  clear C0_0 C1_0 C1_1 C1_2 C1_3 C1_4 C1_5 C1_6 C1_7 C1_8 C1_9 C1_10 C1_11
  refine wp_region_quiet_below (by kernel_rfl) (by kernel_rfl) ?_
  repeat (first | go_big_quiet_skip | quiet_step (first | (go_at_call 38; with_reducible refine Calls.regrown_of (HL0.out _ (below_regrown _ _ _)))))
  refine wpQuiet_nil ?_
  intro w9 hw2
  obtain ⟨⟨dq, osq⟩, hw2⟩ := hw2
  have hb9 : Below (W0).heap.size (W0) w9 := hw2 ▸ below_regrown (W0) dq osq
  clear hw2 qC0_0 qC1_0 qC1_1 qC1_2 qC1_3 qC1_4 qC1_5 qC1_6 qC1_7 qC1_8 qC1_9 qC1_10 qC1_11
  go_wp2_with fail
  go_ret
  exact ⟨retB HE.out.symm, hB.trans (hb9.mono hz0)⟩
 ·have HE := Lib.hid (Fm.okIn_yes (s := s) hok)
  have C0_0 := X0 0
  have C1_0 := X1 0
  have C1_1 := X1 1
  have C1_2 := X1 2
  have C1_3 := X1 3
  have C1_4 := X1 4
  have C1_5 := X1 5
  have C1_6 := X1 6
  have C1_7 := X1 7
  have C1_8 := X1 8
  have C1_9 := X1 9
  have C1_10 := X1 10
  have C1_11 := X1 11
  simp only [zfg, zfe, zff] at C0_0 C1_0 C1_1 C1_2 C1_3 C1_4 C1_5 C1_6 C1_7 C1_8 C1_9 C1_10 C1_11
  first | go_region_held3 (fun W => W.cell? ⟨w.heap.size, 0, none⟩ = some (.slice a0 s.syms.length c0) ∧ W.cell? ⟨w.heap.size + 1, 0, none⟩ = some (.int .i64 f.kind) ∧ W.cell? ⟨w.heap.size + 1, 1, none⟩ = some (.int .i64 f.lit.atom.kind) ∧ W.cell? ⟨w.heap.size + 1, 2, none⟩ = some (.string f.lit.atom.a.name) ∧ W.cell? ⟨w.heap.size + 1, 3, none⟩ = some (.slice a3 f.lit.atom.a.kids.length c3) ∧ W.cell? ⟨w.heap.size + 1, 4, none⟩ = some (.string f.lit.atom.b.name) ∧ W.cell? ⟨w.heap.size + 1, 5, none⟩ = some (.slice a5 f.lit.atom.b.kids.length c5) ∧ W.cell? ⟨w.heap.size + 1, 6, none⟩ = some (.slice a6 f.lit.atom.nums.length c6) ∧ W.cell? ⟨w.heap.size + 1, 7, none⟩ = some (.slice a7 f.lit.atom.times.length c7) ∧ W.cell? ⟨w.heap.size + 1, 8, none⟩ = some (.int .i64 f.lit.atom.bound) ∧ W.cell? ⟨w.heap.size + 1, 9, none⟩ = some (.bool f.lit.atom.strict) ∧ W.cell? ⟨w.heap.size + 1, 10, none⟩ = some (.bool f.lit.no) ∧ W.cell? ⟨w.heap.size + 1, 11, none⟩ = some (.slice a11 f.kids.length c11) ∧ Below w.heap.size w W)
   (first | exact ⟨C0_0, C1_0, C1_1, C1_2, C1_3, C1_4, C1_5, C1_6, C1_7, C1_8, C1_9, C1_10, C1_11, hB.drew⟩ | (refine ⟨?_, ?_, ?_, ?_, ?_, ?_, ?_, ?_, ?_, ?_, ?_, ?_, ?_, (hB).trans ((za hbR0).mono (hB).size)⟩ <;> (refine (zb ?_ (za hbR0)); assumption)) | (refine (zb ?_ (za hbR0)); assumption) | exact (hB).trans ((za hbR0).mono (hB).size) | (refine ⟨?_, ?_, ?_, ?_, ?_, ?_, ?_, ?_, ?_, ?_, ?_, ?_, ?_, ((hB).trans ((za hbR0).mono (hB).size)).trans (hbR1.mono ((hB).trans ((za hbR0).mono (hB).size)).size)⟩ <;> (refine (zb (zb ?_ (za hbR0)) hbR1); assumption)) | (refine (zb (zb ?_ (za hbR0)) hbR1); assumption) | exact ((hB).trans ((za hbR0).mono (hB).size)).trans (hbR1.mono ((hB).trans ((za hbR0).mono (hB).size)).size) | (refine ⟨?_, ?_, ?_, ?_, ?_, ?_, ?_, ?_, ?_, ?_, ?_, ?_, ?_, (((hB).trans ((za hbR0).mono (hB).size)).trans (hbR1.mono ((hB).trans ((za hbR0).mono (hB).size)).size)).trans (hbR2.mono (((hB).trans ((za hbR0).mono (hB).size)).trans (hbR1.mono ((hB).trans ((za hbR0).mono (hB).size)).size)).size)⟩ <;> (refine (zb (zb (zb ?_ (za hbR0)) hbR1) hbR2); assumption)) | (refine (zb (zb (zb ?_ (za hbR0)) hbR1) hbR2); assumption) | exact (((hB).trans ((za hbR0).mono (hB).size)).trans (hbR1.mono ((hB).trans ((za hbR0).mono (hB).size)).size)).trans (hbR2.mono (((hB).trans ((za hbR0).mono (hB).size)).trans (hbR1.mono ((hB).trans ((za hbR0).mono (hB).size)).size)).size) | (refine ⟨?_, ?_, ?_, ?_, ?_, ?_, ?_, ?_, ?_, ?_, ?_, ?_, ?_, ((((hB).trans ((za hbR0).mono (hB).size)).trans (hbR1.mono ((hB).trans ((za hbR0).mono (hB).size)).size)).trans (hbR2.mono (((hB).trans ((za hbR0).mono (hB).size)).trans (hbR1.mono ((hB).trans ((za hbR0).mono (hB).size)).size)).size)).trans (hbR3.mono ((((hB).trans ((za hbR0).mono (hB).size)).trans (hbR1.mono ((hB).trans ((za hbR0).mono (hB).size)).size)).trans (hbR2.mono (((hB).trans ((za hbR0).mono (hB).size)).trans (hbR1.mono ((hB).trans ((za hbR0).mono (hB).size)).size)).size)).size)⟩ <;> (refine (zb (zb (zb (zb ?_ (za hbR0)) hbR1) hbR2) hbR3); assumption)) | (refine (zb (zb (zb (zb ?_ (za hbR0)) hbR1) hbR2) hbR3); assumption) | exact ((((hB).trans ((za hbR0).mono (hB).size)).trans (hbR1.mono ((hB).trans ((za hbR0).mono (hB).size)).size)).trans (hbR2.mono (((hB).trans ((za hbR0).mono (hB).size)).trans (hbR1.mono ((hB).trans ((za hbR0).mono (hB).size)).size)).size)).trans (hbR3.mono ((((hB).trans ((za hbR0).mono (hB).size)).trans (hbR1.mono ((hB).trans ((za hbR0).mono (hB).size)).size)).trans (hbR2.mono (((hB).trans ((za hbR0).mono (hB).size)).trans (hbR1.mono ((hB).trans ((za hbR0).mono (hB).size)).size)).size)).size))
   (first | (go_at_call 38; (with_reducible refine (zdI f true hok _ _ _ hbig (by exact hv0.below (hB.drew))).mono ?_); rintro e wR0 ⟨rfl, hbR0⟩) | (go_at_call 39; (with_reducible refine (zeZ f _ _ _ hbig (by exact hv0.below ((hB).trans ((za hbR0).mono (hB).size)))).mono ?_); rintro e wR1 ⟨⟨av, af, rfl, ar⟩, hbR1⟩) | (go_at_call 43; (with_reducible refine (zdH (Fm.add [] f) _ _ _ (by omega) (by exact ar)).mono ?_); rintro e wR2 ⟨⟨lv, lf, rfl, lr⟩, hbR2⟩) | (go_at_call 15; (with_reducible refine (zbL s (zx (Fm.add [] f)) _ _ _ _ _ hsm (by omega) (by exact hs.below ((((hB).trans ((za hbR0).mono (hB).size)).trans (hbR1.mono ((hB).trans ((za hbR0).mono (hB).size)).size)).trans (hbR2.mono (((hB).trans ((za hbR0).mono (hB).size)).trans (hbR1.mono ((hB).trans ((za hbR0).mono (hB).size)).size)).size))) (by exact lr)).mono ?_); rintro e wR3 ⟨rfl, hbR3⟩)) | fail
  have hb := za hbR0
  clear hbR0
  replace X0 := zd X0 hlX0 hb
  replace X1 := zd X1 hlX1 hb
  replace hB := hB.trans (hb.mono hz0)
  have hzn := hb.size
  replace hlX0 := zfh hlX0 hzn
  replace hlX1 := zfh hlX1 hzn
  replace hz0 := Nat.le_trans hz0 hzn
  clear hb hzn
  have hb := hbR1
  clear hbR1
  replace X0 := zd X0 hlX0 hb
  replace X1 := zd X1 hlX1 hb
  replace hB := hB.trans (hb.mono hz0)
  have hzn := hb.size
  replace hlX0 := zfh hlX0 hzn
  replace hlX1 := zfh hlX1 hzn
  replace hz0 := Nat.le_trans hz0 hzn
  clear hb hzn
  have hb := hbR2
  clear hbR2
  replace X0 := zd X0 hlX0 hb
  replace X1 := zd X1 hlX1 hb
  replace hB := hB.trans (hb.mono hz0)
  have hzn := hb.size
  replace hlX0 := zfh hlX0 hzn
  replace hlX1 := zfh hlX1 hzn
  replace hz0 := Nat.le_trans hz0 hzn
  clear hb hzn
  have hb := hbR3
  clear hbR3
  replace X0 := zd X0 hlX0 hb
  replace X1 := zd X1 hlX1 hb
  replace hB := hB.trans (hb.mono hz0)
  have hzn := hb.size
  replace hlX0 := zfh hlX0 hzn
  replace hlX1 := zfh hlX1 hzn
  replace hz0 := Nat.le_trans hz0 hzn
  clear hb hzn
  clear C0_0 C1_0 C1_1 C1_2 C1_3 C1_4 C1_5 C1_6 C1_7 C1_8 C1_9 C1_10 C1_11
  go_wp2_with fail
  go_ret
  exact ⟨retB HE.out.symm, hB⟩
set_option maxRecDepth 100000 in
set_option maxHeartbeats 4000000 in
theorem zcn (s : Sg) (f : Fm) (us : List Value) (vs : List Value) (fs ff : List Nat) (w : World) (hbig : wtV f.cd ≤ 1048576) (hs : RdVs w s.cd us fs) (hv : RdVs w f.cd vs ff) :
  Calls Tryz.prog 13 #[.agg us.toArray, .agg vs.toArray] w fun e w' => e = .returned (.bool (f.okIn s)) ∧ Below w.heap.size w w' := by
 have hv0 := hv
 obtain ⟨a3, c3, f3, a5, c5, f5, a6, c6, f6, a7, c7, f7, a11, c11, f11, rfl, -, m0, m1, m2, m3, m4, m5, m6, m7, m8, m9⟩ := Fm.open hv
 obtain ⟨a0, c0, f0, rfl, _, n0⟩ := Sg.open hs
 clear hv n0 m0 m1 m2 m3 m4 m5 m6 m7 m8 m9
 have hwt : wtR ((Fm.add [] f).map Atm.cd) ≤ wtV f.cd := by simpa [wtR] using Fm.add_wt f []
 have hwl : (Fm.add [] f).length ≤ 1 + wtV f.cd := by simpa using Fm.add_len f []
 have hsm := zay (l := Fm.add [] f) (by omega)
 have hbg := zev (Fm.add [] f)
 obtain ⟨X0, X1, hz, hB⟩ := box2 (w := w) (wr := (w.alloc (.cells #[.slice a0 s.syms.length c0] 25)).alloc (.cells #[.int .i64 f.kind, .int .i64 f.lit.atom.kind, .string f.lit.atom.a.name, .slice a3 f.lit.atom.a.kids.length c3, .string f.lit.atom.b.name, .slice a5 f.lit.atom.b.kids.length c5, .slice a6 f.lit.atom.nums.length c6, .slice a7 f.lit.atom.times.length c7, .int .i64 f.lit.atom.bound, .bool f.lit.atom.strict, .bool f.lit.no, .slice a11 f.kids.length c11] 36)) (cs := #[.slice a0 s.syms.length c0]) (ds := #[.int .i64 f.kind, .int .i64 f.lit.atom.kind, .string f.lit.atom.a.name, .slice a3 f.lit.atom.a.kids.length c3, .string f.lit.atom.b.name, .slice a5 f.lit.atom.b.kids.length c5, .slice a6 f.lit.atom.nums.length c6, .slice a7 f.lit.atom.times.length c7, .int .i64 f.lit.atom.bound, .bool f.lit.atom.strict, .bool f.lit.no, .slice a11 f.kids.length c11]) (T := 25) (U := 36) (Below.refl _ _)
 have hz0 := hB.size
 have hlX0 : w.heap.size < ((w.alloc (.cells #[.slice a0 s.syms.length c0] 25)).alloc (.cells #[.int .i64 f.kind, .int .i64 f.lit.atom.kind, .string f.lit.atom.a.name, .slice a3 f.lit.atom.a.kids.length c3, .string f.lit.atom.b.name, .slice a5 f.lit.atom.b.kids.length c5, .slice a6 f.lit.atom.nums.length c6, .slice a7 f.lit.atom.times.length c7, .int .i64 f.lit.atom.bound, .bool f.lit.atom.strict, .bool f.lit.no, .slice a11 f.kids.length c11] 36)).heap.size := by omega
 have hlX1 : w.heap.size + 1 < ((w.alloc (.cells #[.slice a0 s.syms.length c0] 25)).alloc (.cells #[.int .i64 f.kind, .int .i64 f.lit.atom.kind, .string f.lit.atom.a.name, .slice a3 f.lit.atom.a.kids.length c3, .string f.lit.atom.b.name, .slice a5 f.lit.atom.b.kids.length c5, .slice a6 f.lit.atom.nums.length c6, .slice a7 f.lit.atom.times.length c7, .int .i64 f.lit.atom.bound, .bool f.lit.atom.strict, .bool f.lit.no, .slice a11 f.kids.length c11] 36)).heap.size := by omega
 go_enter Tryz.func13, Tryz.ntmps13
 go_wp2_with fail
 cases hok : f.okF
 ·have HE := Lib.hid (Fm.okIn_no (s := s) hok)
  generalize hWW : (w.alloc (.cells #[.slice a0 s.syms.length c0] 25)).alloc (.cells #[.int .i64 f.kind, .int .i64 f.lit.atom.kind, .string f.lit.atom.a.name, .slice a3 f.lit.atom.a.kids.length c3, .string f.lit.atom.b.name, .slice a5 f.lit.atom.b.kids.length c5, .slice a6 f.lit.atom.nums.length c6, .slice a7 f.lit.atom.times.length c7, .int .i64 f.lit.atom.bound, .bool f.lit.atom.strict, .bool f.lit.no, .slice a11 f.kids.length c11] 36) = W0 at *
  clear hWW
  have HL0 := Lib.hid (fun (W' : World) (hb' : Below W0.heap.size W0 W') => zcN f false hok _ _ W' hbig (hv0.below (hB.trans (hb'.mono hB.size))))
  have C0_0 := X0 0
  have C1_0 := X1 0
  have C1_1 := X1 1
  have C1_2 := X1 2
  have C1_3 := X1 3
  have C1_4 := X1 4
  have C1_5 := X1 5
  have C1_6 := X1 6
  have C1_7 := X1 7
  have C1_8 := X1 8
  have C1_9 := X1 9
  have C1_10 := X1 10
  have C1_11 := X1 11
  simp only [zfg, zfe, zff] at C0_0 C1_0 C1_1 C1_2 C1_3 C1_4 C1_5 C1_6 C1_7 C1_8 C1_9 C1_10 C1_11
  clear X0 X1
  have qC0_0 := cell_regrown C0_0
  have qC1_0 := cell_regrown C1_0
  have qC1_1 := cell_regrown C1_1
  have qC1_2 := cell_regrown C1_2
  have qC1_3 := cell_regrown C1_3
  have qC1_4 := cell_regrown C1_4
  have qC1_5 := cell_regrown C1_5
  have qC1_6 := cell_regrown C1_6
  have qC1_7 := cell_regrown C1_7
  have qC1_8 := cell_regrown C1_8
  have qC1_9 := cell_regrown C1_9
  have qC1_10 := cell_regrown C1_10
  have qC1_11 := cell_regrown C1_11
  clear C0_0 C1_0 C1_1 C1_2 C1_3 C1_4 C1_5 C1_6 C1_7 C1_8 C1_9 C1_10 C1_11
  refine wp_region_quiet_below (by kernel_rfl) (by kernel_rfl) ?_
  repeat (first | go_big_quiet_skip | quiet_step (first | (go_at_call 40; with_reducible refine Calls.regrown_of (HL0.out _ (below_regrown _ _ _)))))
  refine wpQuiet_nil ?_
  intro w9 hw2
  obtain ⟨⟨dq, osq⟩, hw2⟩ := hw2
  have hb9 : Below (W0).heap.size (W0) w9 := hw2 ▸ below_regrown (W0) dq osq
  clear hw2 qC0_0 qC1_0 qC1_1 qC1_2 qC1_3 qC1_4 qC1_5 qC1_6 qC1_7 qC1_8 qC1_9 qC1_10 qC1_11
  go_wp2_with fail
  go_ret
  exact ⟨retB HE.out.symm, hB.trans (hb9.mono hz0)⟩
 ·have HE := Lib.hid (Fm.okIn_yes (s := s) hok)
  have C0_0 := X0 0
  have C1_0 := X1 0
  have C1_1 := X1 1
  have C1_2 := X1 2
  have C1_3 := X1 3
  have C1_4 := X1 4
  have C1_5 := X1 5
  have C1_6 := X1 6
  have C1_7 := X1 7
  have C1_8 := X1 8
  have C1_9 := X1 9
  have C1_10 := X1 10
  have C1_11 := X1 11
  simp only [zfg, zfe, zff] at C0_0 C1_0 C1_1 C1_2 C1_3 C1_4 C1_5 C1_6 C1_7 C1_8 C1_9 C1_10 C1_11
  first | go_region_held3 (fun W => W.cell? ⟨w.heap.size, 0, none⟩ = some (.slice a0 s.syms.length c0) ∧ W.cell? ⟨w.heap.size + 1, 0, none⟩ = some (.int .i64 f.kind) ∧ W.cell? ⟨w.heap.size + 1, 1, none⟩ = some (.int .i64 f.lit.atom.kind) ∧ W.cell? ⟨w.heap.size + 1, 2, none⟩ = some (.string f.lit.atom.a.name) ∧ W.cell? ⟨w.heap.size + 1, 3, none⟩ = some (.slice a3 f.lit.atom.a.kids.length c3) ∧ W.cell? ⟨w.heap.size + 1, 4, none⟩ = some (.string f.lit.atom.b.name) ∧ W.cell? ⟨w.heap.size + 1, 5, none⟩ = some (.slice a5 f.lit.atom.b.kids.length c5) ∧ W.cell? ⟨w.heap.size + 1, 6, none⟩ = some (.slice a6 f.lit.atom.nums.length c6) ∧ W.cell? ⟨w.heap.size + 1, 7, none⟩ = some (.slice a7 f.lit.atom.times.length c7) ∧ W.cell? ⟨w.heap.size + 1, 8, none⟩ = some (.int .i64 f.lit.atom.bound) ∧ W.cell? ⟨w.heap.size + 1, 9, none⟩ = some (.bool f.lit.atom.strict) ∧ W.cell? ⟨w.heap.size + 1, 10, none⟩ = some (.bool f.lit.no) ∧ W.cell? ⟨w.heap.size + 1, 11, none⟩ = some (.slice a11 f.kids.length c11) ∧ Below w.heap.size w W)
   (first | exact ⟨C0_0, C1_0, C1_1, C1_2, C1_3, C1_4, C1_5, C1_6, C1_7, C1_8, C1_9, C1_10, C1_11, hB.drew⟩ | (refine ⟨?_, ?_, ?_, ?_, ?_, ?_, ?_, ?_, ?_, ?_, ?_, ?_, ?_, (hB).trans ((za hbR0).mono (hB).size)⟩ <;> (refine (zb ?_ (za hbR0)); assumption)) | (refine (zb ?_ (za hbR0)); assumption) | exact (hB).trans ((za hbR0).mono (hB).size) | (refine ⟨?_, ?_, ?_, ?_, ?_, ?_, ?_, ?_, ?_, ?_, ?_, ?_, ?_, ((hB).trans ((za hbR0).mono (hB).size)).trans (hbR1.mono ((hB).trans ((za hbR0).mono (hB).size)).size)⟩ <;> (refine (zb (zb ?_ (za hbR0)) hbR1); assumption)) | (refine (zb (zb ?_ (za hbR0)) hbR1); assumption) | exact ((hB).trans ((za hbR0).mono (hB).size)).trans (hbR1.mono ((hB).trans ((za hbR0).mono (hB).size)).size) | (refine ⟨?_, ?_, ?_, ?_, ?_, ?_, ?_, ?_, ?_, ?_, ?_, ?_, ?_, (((hB).trans ((za hbR0).mono (hB).size)).trans (hbR1.mono ((hB).trans ((za hbR0).mono (hB).size)).size)).trans (hbR2.mono (((hB).trans ((za hbR0).mono (hB).size)).trans (hbR1.mono ((hB).trans ((za hbR0).mono (hB).size)).size)).size)⟩ <;> (refine (zb (zb (zb ?_ (za hbR0)) hbR1) hbR2); assumption)) | (refine (zb (zb (zb ?_ (za hbR0)) hbR1) hbR2); assumption) | exact (((hB).trans ((za hbR0).mono (hB).size)).trans (hbR1.mono ((hB).trans ((za hbR0).mono (hB).size)).size)).trans (hbR2.mono (((hB).trans ((za hbR0).mono (hB).size)).trans (hbR1.mono ((hB).trans ((za hbR0).mono (hB).size)).size)).size) | (refine ⟨?_, ?_, ?_, ?_, ?_, ?_, ?_, ?_, ?_, ?_, ?_, ?_, ?_, ((((hB).trans ((za hbR0).mono (hB).size)).trans (hbR1.mono ((hB).trans ((za hbR0).mono (hB).size)).size)).trans (hbR2.mono (((hB).trans ((za hbR0).mono (hB).size)).trans (hbR1.mono ((hB).trans ((za hbR0).mono (hB).size)).size)).size)).trans (hbR3.mono ((((hB).trans ((za hbR0).mono (hB).size)).trans (hbR1.mono ((hB).trans ((za hbR0).mono (hB).size)).size)).trans (hbR2.mono (((hB).trans ((za hbR0).mono (hB).size)).trans (hbR1.mono ((hB).trans ((za hbR0).mono (hB).size)).size)).size)).size)⟩ <;> (refine (zb (zb (zb (zb ?_ (za hbR0)) hbR1) hbR2) hbR3); assumption)) | (refine (zb (zb (zb (zb ?_ (za hbR0)) hbR1) hbR2) hbR3); assumption) | exact ((((hB).trans ((za hbR0).mono (hB).size)).trans (hbR1.mono ((hB).trans ((za hbR0).mono (hB).size)).size)).trans (hbR2.mono (((hB).trans ((za hbR0).mono (hB).size)).trans (hbR1.mono ((hB).trans ((za hbR0).mono (hB).size)).size)).size)).trans (hbR3.mono ((((hB).trans ((za hbR0).mono (hB).size)).trans (hbR1.mono ((hB).trans ((za hbR0).mono (hB).size)).size)).trans (hbR2.mono (((hB).trans ((za hbR0).mono (hB).size)).trans (hbR1.mono ((hB).trans ((za hbR0).mono (hB).size)).size)).size)).size))
   (first | (go_at_call 40; (with_reducible refine (zcN f true hok _ _ _ hbig (by exact hv0.below (hB.drew))).mono ?_); rintro e wR0 ⟨rfl, hbR0⟩) | (go_at_call 41; (with_reducible refine (zeg f hok _ _ _ hbig (by exact hv0.below ((hB).trans ((za hbR0).mono (hB).size)))).mono ?_); rintro e wR1 ⟨⟨av, af, rfl, ar⟩, hbR1⟩) | (go_at_call 45; (with_reducible refine (zaK (Fm.add [] f) _ _ _ (by omega) (by exact ar)).mono ?_); rintro e wR2 ⟨⟨lv, lf, rfl, lr⟩, hbR2⟩) | (go_at_call 44; (with_reducible refine (zaD s (zx (Fm.add [] f)) _ _ _ _ _ hsm (by omega) (by exact hs.below ((((hB).trans ((za hbR0).mono (hB).size)).trans (hbR1.mono ((hB).trans ((za hbR0).mono (hB).size)).size)).trans (hbR2.mono (((hB).trans ((za hbR0).mono (hB).size)).trans (hbR1.mono ((hB).trans ((za hbR0).mono (hB).size)).size)).size))) (by exact lr)).mono ?_); rintro e wR3 ⟨rfl, hbR3⟩)) | fail
  have hb := za hbR0
  clear hbR0
  replace X0 := zd X0 hlX0 hb
  replace X1 := zd X1 hlX1 hb
  replace hB := hB.trans (hb.mono hz0)
  have hzn := hb.size
  replace hlX0 := zfh hlX0 hzn
  replace hlX1 := zfh hlX1 hzn
  replace hz0 := Nat.le_trans hz0 hzn
  clear hb hzn
  have hb := hbR1
  clear hbR1
  replace X0 := zd X0 hlX0 hb
  replace X1 := zd X1 hlX1 hb
  replace hB := hB.trans (hb.mono hz0)
  have hzn := hb.size
  replace hlX0 := zfh hlX0 hzn
  replace hlX1 := zfh hlX1 hzn
  replace hz0 := Nat.le_trans hz0 hzn
  clear hb hzn
  have hb := hbR2
  clear hbR2
  replace X0 := zd X0 hlX0 hb
  replace X1 := zd X1 hlX1 hb
  replace hB := hB.trans (hb.mono hz0)
  have hzn := hb.size
  replace hlX0 := zfh hlX0 hzn
  replace hlX1 := zfh hlX1 hzn
  replace hz0 := Nat.le_trans hz0 hzn
  clear hb hzn
  have hb := hbR3
  clear hbR3
  replace X0 := zd X0 hlX0 hb
  replace X1 := zd X1 hlX1 hb
  replace hB := hB.trans (hb.mono hz0)
  have hzn := hb.size
  replace hlX0 := zfh hlX0 hzn
  replace hlX1 := zfh hlX1 hzn
  replace hz0 := Nat.le_trans hz0 hzn
  clear hb hzn
  clear C0_0 C1_0 C1_1 C1_2 C1_3 C1_4 C1_5 C1_6 C1_7 C1_8 C1_9 C1_10 C1_11
  go_wp2_with fail
  go_ret
  exact ⟨retB HE.out.symm, hB⟩
set_option maxRecDepth 100000 in
set_option maxHeartbeats 4000000 in
theorem zco (s : Sg) (fs : List Fm) (us : List Value) (v : Value) (f0 ff : List Nat) (w : World) (hbig : fs.length + wtR (fs.map Fm.cd) ≤ 1048576) (hs : RdVs w s.cd us f0) (hv : Rd w (.sl (fs.map Fm.cd)) v ff) :
  Calls Tryz.prog 17 #[.agg us.toArray, v] w fun e w' => e = .returned (.bool (za8 s fs)) ∧ Below w.heap.size w w' := by
 obtain ⟨a0, c0, g0, rfl, _, n0⟩ := Sg.open hs
 obtain ⟨p1, q1, rfl, hc1, hd1⟩ := ze hv
 clear n0
 obtain ⟨hwt, hwl⟩ := zbn fs
 have hsm := zay (l := zF fs) (by omega)
 have hbg := zdl (zF fs)
 have X0 := zz w #[.slice a0 s.syms.length c0] 25
 have hB := zc w (.cells #[.slice a0 s.syms.length c0] 25)
 have hz0 := hB.size
 have hlX0 : w.heap.size < (w.alloc (.cells #[.slice a0 s.syms.length c0] 25)).heap.size := by simp
 go_enter Tryz.func17, Tryz.ntmps17
 go_wp2_with fail
 refine (zbc fs _ _ _ hbig (by exact hv.below hB)).mono ?_
 rintro e wA ⟨av, af, rfl, ar, _, hb⟩
 replace X0 := zd X0 hlX0 hb
 replace hB := hB.trans (hb.mono hz0)
 have hzn := hb.size
 replace hlX0 := zfh hlX0 hzn
 replace hz0 := Nat.le_trans hz0 hzn
 clear hb hzn
 cases hso : s.okB
 ·cases hfo : zad fs
  ·have HE := Lib.hid (zcj (fs := fs) hso)
   go_wp2_with fail
   have HL0 := Lib.hid (fun (W' : World) (hb' : Below wA.heap.size wA W') => zb1 s false hso _ _ W' (hs.below (hB.trans (hb'.mono hB.size))))
   have C0_0 := X0 0
   simp only [zfg, zfe, zff] at C0_0
   clear X0
   have qC0_0 := cell_regrown C0_0
   clear C0_0
   refine wp_region_quiet_below (by kernel_rfl) (by kernel_rfl) ?_
   repeat (first | go_big_quiet_skip | quiet_step (first | (go_at_call 49; with_reducible refine Calls.regrown_of (HL0.out _ (below_regrown _ _ _)))))
   refine wpQuiet_nil ?_
   intro w9 hw2
   obtain ⟨⟨dq, osq⟩, hw2⟩ := hw2
   have hb9 : Below (wA).heap.size (wA) w9 := hw2 ▸ below_regrown (wA) dq osq
   clear hw2 qC0_0
   go_wp2_with fail
   go_ret
   exact ⟨retB HE.out.symm, hB.trans (hb9.mono hz0)⟩
  ·have HE := Lib.hid (zcj (fs := fs) hso)
   go_wp2_with fail
   have HL0 := Lib.hid (fun (W' : World) (hb' : Below wA.heap.size wA W') => zb1 s false hso _ _ W' (hs.below (hB.trans (hb'.mono hB.size))))
   have C0_0 := X0 0
   simp only [zfg, zfe, zff] at C0_0
   clear X0
   have qC0_0 := cell_regrown C0_0
   clear C0_0
   refine wp_region_quiet_below (by kernel_rfl) (by kernel_rfl) ?_
   repeat (first | go_big_quiet_skip | quiet_step (first | (go_at_call 49; with_reducible refine Calls.regrown_of (HL0.out _ (below_regrown _ _ _)))))
   refine wpQuiet_nil ?_
   intro w9 hw2
   obtain ⟨⟨dq, osq⟩, hw2⟩ := hw2
   have hb9 : Below (wA).heap.size (wA) w9 := hw2 ▸ below_regrown (wA) dq osq
   clear hw2 qC0_0
   go_wp2_with fail
   go_ret
   exact ⟨retB HE.out.symm, hB.trans (hb9.mono hz0)⟩
 ·cases hfo : zad fs
  ·have HE := Lib.hid (zew (s := s) hfo)
   go_wp2_with fail
   have HL0 := Lib.hid (fun (W' : World) (hb' : Below wA.heap.size wA W') => zb1 s true hso _ _ W' (hs.below (hB.trans (hb'.mono hB.size))))
   have C0_0 := X0 0
   simp only [zfg, zfe, zff] at C0_0
   clear X0
   have qC0_0 := cell_regrown C0_0
   clear C0_0
   refine wp_region_quiet_below (by kernel_rfl) (by kernel_rfl) ?_
   repeat (first | go_big_quiet_skip | quiet_step (first | (go_at_call 49; with_reducible refine Calls.regrown_of (HL0.out _ (below_regrown _ _ _)))))
   refine wpQuiet_nil ?_
   intro w9 hw2
   obtain ⟨⟨dq, osq⟩, hw2⟩ := hw2
   have hb9 : Below (wA).heap.size (wA) w9 := hw2 ▸ below_regrown (wA) dq osq
   clear hw2 qC0_0
   go_wp2_with fail
   go_ret
   exact ⟨retB HE.out.symm, hB.trans (hb9.mono hz0)⟩
  ·have HE := Lib.hid (zck hso hfo)
   go_wp2_with fail
   have C0_0 := X0 0
   simp only [zfg, zfe, zff] at C0_0
   first | go_region_held3 (fun W => W.cell? ⟨w.heap.size, 0, none⟩ = some (.slice a0 s.syms.length c0) ∧ Below w.heap.size w W)
    (first | exact ⟨C0_0, hB.drew⟩ | (refine ⟨?_, (hB).trans ((za hbR0).mono (hB).size)⟩ <;> (refine (zb ?_ (za hbR0)); assumption)) | (refine (zb ?_ (za hbR0)); assumption) | exact (hB).trans ((za hbR0).mono (hB).size) | (refine ⟨?_, ((hB).trans ((za hbR0).mono (hB).size)).trans (hbR1.mono ((hB).trans ((za hbR0).mono (hB).size)).size)⟩ <;> (refine (zb (zb ?_ (za hbR0)) hbR1); assumption)) | (refine (zb (zb ?_ (za hbR0)) hbR1); assumption) | exact ((hB).trans ((za hbR0).mono (hB).size)).trans (hbR1.mono ((hB).trans ((za hbR0).mono (hB).size)).size) | (refine ⟨?_, (((hB).trans ((za hbR0).mono (hB).size)).trans (hbR1.mono ((hB).trans ((za hbR0).mono (hB).size)).size)).trans (hbR2.mono (((hB).trans ((za hbR0).mono (hB).size)).trans (hbR1.mono ((hB).trans ((za hbR0).mono (hB).size)).size)).size)⟩ <;> (refine (zb (zb (zb ?_ (za hbR0)) hbR1) hbR2); assumption)) | (refine (zb (zb (zb ?_ (za hbR0)) hbR1) hbR2); assumption) | exact (((hB).trans ((za hbR0).mono (hB).size)).trans (hbR1.mono ((hB).trans ((za hbR0).mono (hB).size)).size)).trans (hbR2.mono (((hB).trans ((za hbR0).mono (hB).size)).trans (hbR1.mono ((hB).trans ((za hbR0).mono (hB).size)).size)).size))
    (first | (go_at_call 49; (with_reducible refine (zb1 s true hso _ _ _ (by exact hs.below (hB.drew))).mono ?_); rintro e wR0 ⟨rfl, hbR0⟩) | (go_at_call 43; (with_reducible refine (zdH (zF fs) _ _ _ (by omega) (by exact ar.below ((za hbR0)))).mono ?_); rintro e wR1 ⟨⟨lv, lf, rfl, lr⟩, hbR1⟩) | (go_at_call 15; (with_reducible refine (zbL s (zx (zF fs)) _ _ _ _ _ hsm (by omega) (by exact hs.below (((hB).trans ((za hbR0).mono (hB).size)).trans (hbR1.mono ((hB).trans ((za hbR0).mono (hB).size)).size))) (by exact lr)).mono ?_); rintro e wR2 ⟨rfl, hbR2⟩)) | fail
   have hb := za hbR0
   clear hbR0
   replace X0 := zd X0 hlX0 hb
   replace hB := hB.trans (hb.mono hz0)
   have hzn := hb.size
   replace hlX0 := zfh hlX0 hzn
   replace hz0 := Nat.le_trans hz0 hzn
   clear hb hzn
   have hb := hbR1
   clear hbR1
   replace X0 := zd X0 hlX0 hb
   replace hB := hB.trans (hb.mono hz0)
   have hzn := hb.size
   replace hlX0 := zfh hlX0 hzn
   replace hz0 := Nat.le_trans hz0 hzn
   clear hb hzn
   have hb := hbR2
   clear hbR2
   replace X0 := zd X0 hlX0 hb
   replace hB := hB.trans (hb.mono hz0)
   have hzn := hb.size
   replace hlX0 := zfh hlX0 hzn
   replace hz0 := Nat.le_trans hz0 hzn
   clear hb hzn
   clear C0_0
   go_wp2_with fail
   go_ret
   exact ⟨retB HE.out.symm, hB⟩
set_option maxRecDepth 100000 in
set_option maxHeartbeats 4000000 in
theorem zbV (s : Sg) (fs : List Fm) (us : List Value) (v : Value) (f0 ff : List Nat) (w : World) (hbig : fs.length + wtR (fs.map Fm.cd) ≤ 1048576) (hs : RdVs w s.cd us f0) (hv : Rd w (.sl (fs.map Fm.cd)) v ff) :
  Calls Tryz.prog 18 #[.agg us.toArray, v] w fun e w' => e = .returned (.bool (za8 s fs)) ∧ Below w.heap.size w w' := by
 obtain ⟨a0, c0, g0, rfl, _, n0⟩ := Sg.open hs
 obtain ⟨p1, q1, rfl, hc1, hd1⟩ := ze hv
 clear n0
 obtain ⟨hwt, hwl⟩ := zbn fs
 have hsm := zay (l := zF fs) (by omega)
 have hbg := zev (zF fs)
 have X0 := zz w #[.slice a0 s.syms.length c0] 25
 have hB := zc w (.cells #[.slice a0 s.syms.length c0] 25)
 have hz0 := hB.size
 have hlX0 : w.heap.size < (w.alloc (.cells #[.slice a0 s.syms.length c0] 25)).heap.size := by simp
 go_enter Tryz.func18, Tryz.ntmps18
 go_wp2_with fail
 cases hso : s.okB
 ·have HE := Lib.hid (zcj (fs := fs) hso)
  generalize hWW : w.alloc (.cells #[.slice a0 s.syms.length c0] 25) = W0 at *
  clear hWW
  have HL0 := Lib.hid (fun (W' : World) (hb' : Below W0.heap.size W0 W') => zcl s false hso _ _ W' (hs.below (hB.trans (hb'.mono hB.size))))
  have C0_0 := X0 0
  simp only [zfg, zfe, zff] at C0_0
  clear X0
  have qC0_0 := cell_regrown C0_0
  clear C0_0
  refine wp_region_quiet_below (by kernel_rfl) (by kernel_rfl) ?_
  repeat (first | go_big_quiet_skip | quiet_step (first | (go_at_call 55; with_reducible refine Calls.regrown_of (HL0.out _ (below_regrown _ _ _)))))
  refine wpQuiet_nil ?_
  intro w9 hw2
  obtain ⟨⟨dq, osq⟩, hw2⟩ := hw2
  have hb9 : Below (W0).heap.size (W0) w9 := hw2 ▸ below_regrown (W0) dq osq
  clear hw2 qC0_0
  go_wp2_with fail
  go_ret
  exact ⟨retB HE.out.symm, hB.trans (hb9.mono hz0)⟩
 ·cases hfo : zad fs
  ·have HE := Lib.hid (zew (s := s) hfo)
   generalize hWW : w.alloc (.cells #[.slice a0 s.syms.length c0] 25) = W0 at *
   clear hWW
   have HL0 := Lib.hid (fun (W' : World) (hb' : Below W0.heap.size W0 W') => zcl s true hso _ _ W' (hs.below (hB.trans (hb'.mono hB.size))))
   have HL1 := Lib.hid (fun (W' : World) (hb' : Below W0.heap.size W0 W') => zcm fs false hfo _ _ W' hbig (hv.below (hB.trans (hb'.mono hB.size))))
   have C0_0 := X0 0
   simp only [zfg, zfe, zff] at C0_0
   clear X0
   have qC0_0 := cell_regrown C0_0
   clear C0_0
   refine wp_region_quiet_below (by kernel_rfl) (by kernel_rfl) ?_
   repeat (first | go_big_quiet_skip | quiet_step (first | (go_at_call 55; with_reducible refine Calls.regrown_of (HL0.out _ (below_regrown _ _ _))) | (go_at_call 56; with_reducible refine Calls.regrown_of (HL1.out _ (below_regrown _ _ _)))))
   refine wpQuiet_nil ?_
   intro w9 hw2
   obtain ⟨⟨dq, osq⟩, hw2⟩ := hw2
   have hb9 : Below (W0).heap.size (W0) w9 := hw2 ▸ below_regrown (W0) dq osq
   clear hw2 qC0_0
   go_wp2_with fail
   go_ret
   exact ⟨retB HE.out.symm, hB.trans (hb9.mono hz0)⟩
  ·have HE := Lib.hid (zck hso hfo)
   have C0_0 := X0 0
   simp only [zfg, zfe, zff] at C0_0
   first | go_region_held3 (fun W => W.cell? ⟨w.heap.size, 0, none⟩ = some (.slice a0 s.syms.length c0) ∧ Below w.heap.size w W)
    (first | exact ⟨C0_0, hB.drew⟩ | (refine ⟨?_, (hB).trans ((za hbR0).mono (hB).size)⟩ <;> (refine (zb ?_ (za hbR0)); assumption)) | (refine (zb ?_ (za hbR0)); assumption) | exact (hB).trans ((za hbR0).mono (hB).size) | (refine ⟨?_, ((hB).trans ((za hbR0).mono (hB).size)).trans (hbR1.mono ((hB).trans ((za hbR0).mono (hB).size)).size)⟩ <;> (refine (zb (zb ?_ (za hbR0)) hbR1); assumption)) | (refine (zb (zb ?_ (za hbR0)) hbR1); assumption) | exact ((hB).trans ((za hbR0).mono (hB).size)).trans (hbR1.mono ((hB).trans ((za hbR0).mono (hB).size)).size) | (refine ⟨?_, (((hB).trans ((za hbR0).mono (hB).size)).trans (hbR1.mono ((hB).trans ((za hbR0).mono (hB).size)).size)).trans (hbR2.mono (((hB).trans ((za hbR0).mono (hB).size)).trans (hbR1.mono ((hB).trans ((za hbR0).mono (hB).size)).size)).size)⟩ <;> (refine (zb (zb (zb ?_ (za hbR0)) hbR1) hbR2); assumption)) | (refine (zb (zb (zb ?_ (za hbR0)) hbR1) hbR2); assumption) | exact (((hB).trans ((za hbR0).mono (hB).size)).trans (hbR1.mono ((hB).trans ((za hbR0).mono (hB).size)).size)).trans (hbR2.mono (((hB).trans ((za hbR0).mono (hB).size)).trans (hbR1.mono ((hB).trans ((za hbR0).mono (hB).size)).size)).size) | (refine ⟨?_, ((((hB).trans ((za hbR0).mono (hB).size)).trans (hbR1.mono ((hB).trans ((za hbR0).mono (hB).size)).size)).trans (hbR2.mono (((hB).trans ((za hbR0).mono (hB).size)).trans (hbR1.mono ((hB).trans ((za hbR0).mono (hB).size)).size)).size)).trans (hbR3.mono ((((hB).trans ((za hbR0).mono (hB).size)).trans (hbR1.mono ((hB).trans ((za hbR0).mono (hB).size)).size)).trans (hbR2.mono (((hB).trans ((za hbR0).mono (hB).size)).trans (hbR1.mono ((hB).trans ((za hbR0).mono (hB).size)).size)).size)).size)⟩ <;> (refine (zb (zb (zb (zb ?_ (za hbR0)) hbR1) hbR2) hbR3); assumption)) | (refine (zb (zb (zb (zb ?_ (za hbR0)) hbR1) hbR2) hbR3); assumption) | exact ((((hB).trans ((za hbR0).mono (hB).size)).trans (hbR1.mono ((hB).trans ((za hbR0).mono (hB).size)).size)).trans (hbR2.mono (((hB).trans ((za hbR0).mono (hB).size)).trans (hbR1.mono ((hB).trans ((za hbR0).mono (hB).size)).size)).size)).trans (hbR3.mono ((((hB).trans ((za hbR0).mono (hB).size)).trans (hbR1.mono ((hB).trans ((za hbR0).mono (hB).size)).size)).trans (hbR2.mono (((hB).trans ((za hbR0).mono (hB).size)).trans (hbR1.mono ((hB).trans ((za hbR0).mono (hB).size)).size)).size)).size) | (refine ⟨?_, (((((hB).trans ((za hbR0).mono (hB).size)).trans (hbR1.mono ((hB).trans ((za hbR0).mono (hB).size)).size)).trans (hbR2.mono (((hB).trans ((za hbR0).mono (hB).size)).trans (hbR1.mono ((hB).trans ((za hbR0).mono (hB).size)).size)).size)).trans (hbR3.mono ((((hB).trans ((za hbR0).mono (hB).size)).trans (hbR1.mono ((hB).trans ((za hbR0).mono (hB).size)).size)).trans (hbR2.mono (((hB).trans ((za hbR0).mono (hB).size)).trans (hbR1.mono ((hB).trans ((za hbR0).mono (hB).size)).size)).size)).size)).trans (hbR4.mono (((((hB).trans ((za hbR0).mono (hB).size)).trans (hbR1.mono ((hB).trans ((za hbR0).mono (hB).size)).size)).trans (hbR2.mono (((hB).trans ((za hbR0).mono (hB).size)).trans (hbR1.mono ((hB).trans ((za hbR0).mono (hB).size)).size)).size)).trans (hbR3.mono ((((hB).trans ((za hbR0).mono (hB).size)).trans (hbR1.mono ((hB).trans ((za hbR0).mono (hB).size)).size)).trans (hbR2.mono (((hB).trans ((za hbR0).mono (hB).size)).trans (hbR1.mono ((hB).trans ((za hbR0).mono (hB).size)).size)).size)).size)).size)⟩ <;> (refine (zb (zb (zb (zb (zb ?_ (za hbR0)) hbR1) hbR2) hbR3) hbR4); assumption)) | (refine (zb (zb (zb (zb (zb ?_ (za hbR0)) hbR1) hbR2) hbR3) hbR4); assumption) | exact (((((hB).trans ((za hbR0).mono (hB).size)).trans (hbR1.mono ((hB).trans ((za hbR0).mono (hB).size)).size)).trans (hbR2.mono (((hB).trans ((za hbR0).mono (hB).size)).trans (hbR1.mono ((hB).trans ((za hbR0).mono (hB).size)).size)).size)).trans (hbR3.mono ((((hB).trans ((za hbR0).mono (hB).size)).trans (hbR1.mono ((hB).trans ((za hbR0).mono (hB).size)).size)).trans (hbR2.mono (((hB).trans ((za hbR0).mono (hB).size)).trans (hbR1.mono ((hB).trans ((za hbR0).mono (hB).size)).size)).size)).size)).trans (hbR4.mono (((((hB).trans ((za hbR0).mono (hB).size)).trans (hbR1.mono ((hB).trans ((za hbR0).mono (hB).size)).size)).trans (hbR2.mono (((hB).trans ((za hbR0).mono (hB).size)).trans (hbR1.mono ((hB).trans ((za hbR0).mono (hB).size)).size)).size)).trans (hbR3.mono ((((hB).trans ((za hbR0).mono (hB).size)).trans (hbR1.mono ((hB).trans ((za hbR0).mono (hB).size)).size)).trans (hbR2.mono (((hB).trans ((za hbR0).mono (hB).size)).trans (hbR1.mono ((hB).trans ((za hbR0).mono (hB).size)).size)).size)).size)).size))
    (first | (go_at_call 55; (with_reducible refine (zcl s true hso _ _ _ (by exact hs.below (hB.drew))).mono ?_); rintro e wR0 ⟨rfl, hbR0⟩) | (go_at_call 56; (with_reducible refine (zcm fs true hfo _ _ _ hbig (by exact hv.below ((hB).trans ((za hbR0).mono (hB).size)))).mono ?_); rintro e wR1 ⟨rfl, hbR1⟩) | (go_at_call 57; (with_reducible refine (told0_any fs hfo _ _ _ hbig (by exact hv.below (((hB).trans ((za hbR0).mono (hB).size)).trans (hbR1.mono ((hB).trans ((za hbR0).mono (hB).size)).size)))).mono ?_); rintro e wR2 ⟨⟨av, af, rfl, ar⟩, hbR2⟩) | (go_at_call 45; (with_reducible refine (zaK (zF fs) _ _ _ (by omega) (by exact ar)).mono ?_); rintro e wR3 ⟨⟨lv, lf, rfl, lr⟩, hbR3⟩) | (go_at_call 44; (with_reducible refine (zaD s (zx (zF fs)) _ _ _ _ _ hsm (by omega) (by exact hs.below (((((hB).trans ((za hbR0).mono (hB).size)).trans (hbR1.mono ((hB).trans ((za hbR0).mono (hB).size)).size)).trans (hbR2.mono (((hB).trans ((za hbR0).mono (hB).size)).trans (hbR1.mono ((hB).trans ((za hbR0).mono (hB).size)).size)).size)).trans (hbR3.mono ((((hB).trans ((za hbR0).mono (hB).size)).trans (hbR1.mono ((hB).trans ((za hbR0).mono (hB).size)).size)).trans (hbR2.mono (((hB).trans ((za hbR0).mono (hB).size)).trans (hbR1.mono ((hB).trans ((za hbR0).mono (hB).size)).size)).size)).size))) (by exact lr)).mono ?_); rintro e wR4 ⟨rfl, hbR4⟩)) | fail
   have hb := za hbR0
   clear hbR0
   replace X0 := zd X0 hlX0 hb
   replace hB := hB.trans (hb.mono hz0)
   have hzn := hb.size
   replace hlX0 := zfh hlX0 hzn
   replace hz0 := Nat.le_trans hz0 hzn
   clear hb hzn
   have hb := hbR1
   clear hbR1
   replace X0 := zd X0 hlX0 hb
   replace hB := hB.trans (hb.mono hz0)
   have hzn := hb.size
   replace hlX0 := zfh hlX0 hzn
   replace hz0 := Nat.le_trans hz0 hzn
   clear hb hzn
   have hb := hbR2
   clear hbR2
   replace X0 := zd X0 hlX0 hb
   replace hB := hB.trans (hb.mono hz0)
   have hzn := hb.size
   replace hlX0 := zfh hlX0 hzn
   replace hz0 := Nat.le_trans hz0 hzn
   clear hb hzn
   have hb := hbR3
   clear hbR3
   replace X0 := zd X0 hlX0 hb
   replace hB := hB.trans (hb.mono hz0)
   have hzn := hb.size
   replace hlX0 := zfh hlX0 hzn
   replace hz0 := Nat.le_trans hz0 hzn
   clear hb hzn
   have hb := hbR4
   clear hbR4
   replace X0 := zd X0 hlX0 hb
   replace hB := hB.trans (hb.mono hz0)
   have hzn := hb.size
   replace hlX0 := zfh hlX0 hzn
   replace hz0 := Nat.le_trans hz0 hzn
   clear hb hzn
   clear C0_0
   go_wp2_with fail
   go_ret
   exact ⟨retB HE.out.symm, hB⟩
end Go.Proofs.YtbfinjiledfpcaaGreat
/- StackOk: both sides. -/
namespace Go.Proofs.YtbfinjiledfpcaaGreat
open Go Go.RowKit
set_option linter.unusedVariables false
set_option linter.unusedSimpArgs false
end Go.Proofs.YtbfinjiledfpcaaGreat
/- The reference's copies of forms. -/
namespace Go.Proofs.YtbfinjiledfpcaaGreat
open Go Go.RowKit
set_option linter.unusedVariables false
set_option linter.unusedSimpArgs false
end Go.Proofs.YtbfinjiledfpcaaGreat
