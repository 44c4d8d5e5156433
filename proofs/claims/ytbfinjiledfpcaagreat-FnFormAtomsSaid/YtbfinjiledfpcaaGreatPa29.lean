/- Parts of the proof: FormB. -/
import Derived.Test.YtbfinjiledfpcaaGreatPa28
namespace Go.Proofs.YtbfinjiledfpcaaGreat
open Go Go.RowKit
set_option linter.unusedVariables false
set_option linter.unusedSimpArgs false
def Fm.atomsF (f : Fm) : List Atm := if f.okF = true then Fm.add [] f else []
theorem Fm.atomsF_yes {f : Fm} (h : f.okF = true) : f.atomsF = Fm.add [] f := if_pos h
theorem Fm.atomsF_no {f : Fm} (h : f.okF = false) : f.atomsF = [] := by unfold Fm.atomsF; rw [h]; rfl
def zad (fs : List Fm) : Bool := decide (fs.length ≤ 5) && (fs.all Fm.okF && decide ((Fm.adds [] fs).length ≤ 6))
def zF (fs : List Fm) : List Atm := if zad fs = true then Fm.adds [] fs else []
theorem zaw {fs : List Fm} (h : zad fs = true) : zF fs = Fm.adds [] fs := if_pos h
theorem zaP {fs : List Fm} (h : zad fs = false) : zF fs = [] := by unfold zF; rw [h]; rfl
theorem zbK (f : Fm) (vs : List Value) (ff : List Nat) (w : World) (hbig : wtV f.cd ≤ 1048576) (hv : RdVs w f.cd vs ff) :
  Calls Tryz.prog 38 #[.agg vs.toArray] w fun e w' => e = .returned (.bool f.okF) ∧ Below w.heap.size w w' := by
 have hv0 := hv
 obtain ⟨a3, c3, f3, a5, c5, f5, a6, c6, f6, a7, c7, f7, a11, c11, f11, rfl, -, m0, m1, m2, m3, m4, m5, m6, m7, m8, m9⟩ := Fm.open hv
 clear hv
 have hln := Fm.add_len f []
 go_enter Tryz.func38, Tryz.ntmps38
 go_wp2_with fail
 refine (zeO f 1 _ _ _ hbig (by omega) (by omega) (by exact hv0.below (zc _ _))).mono ?_
 rintro e w1 ⟨rfl, hb1⟩
 obtain ⟨hx, hz1, hB⟩ := box1 (w := w) (wr := w1) (cs := #[.int .i64 f.kind, .int .i64 f.lit.atom.kind, .string f.lit.atom.a.name, .slice a3 f.lit.atom.a.kids.length c3, .string f.lit.atom.b.name, .slice a5 f.lit.atom.b.kids.length c5, .slice a6 f.lit.atom.nums.length c6, .slice a7 f.lit.atom.times.length c7, .int .i64 f.lit.atom.bound, .bool f.lit.atom.strict, .bool f.lit.no, .slice a11 f.kids.length c11]) (T := 36) (zp hb1 (by simp))
 have C0 := hx 0
 have C1 := hx 1
 have C2 := hx 2
 have C3 := hx 3
 have C4 := hx 4
 have C5 := hx 5
 have C6 := hx 6
 have C7 := hx 7
 have C8 := hx 8
 have C9 := hx 9
 have C10 := hx 10
 have C11 := hx 11
 simp only [zfg, zfe, zff] at C0 C1 C2 C3 C4 C5 C6 C7 C8 C9 C10 C11
 clear hb1 hx
 have h11 : (1 : Int).toNat = 1 := rfl
 rw [h11]
 clear h11
 by_cases h1 : Fm.sz 1 f ≤ 10
 ·go_wp2_with fail
  refine (zaO _ f [] _ _ (.slice none 0 0) [] w1.heap.size _ (Nat.le_refl _) hbig (by simp; omega) (Nat.le_refl _) (Own.nil _ _ _ _) (Fresh.nil _ _) (by exact hv0.below hB) (by simp [Value.ownBlock])).mono ?_
  rintro e w2 ⟨lv, fp, rfl, hown, _, hm⟩
  obtain ⟨la, lc, rfl, _, _⟩ := hown.form
  have hB2 := hB.trans (hm.toBelow (B := w.heap.size) (by omega) (by simp [Value.ownBlock]))
  rw [zfo]
  clear hm hown
  have HE := Lib.hid (show f.okF = decide (((Fm.add [] f).length : Int) ≤ 6) by unfold Fm.okF; rw [Bool.eq_iff_iff]; simp [h1]; try omega)
  go_wp2_with fail
  go_ret
  exact ⟨retB HE.out.symm, hB2⟩
 ·have HE := Lib.hid (show f.okF = false by unfold Fm.okF; simp [h1])
  go_wp2_with fail
  go_ret
  exact ⟨retB HE.out.symm, hB⟩
theorem zdd (f : Fm) (vs : List Value) (ff : List Nat) (w : World) (hbig : wtV f.cd ≤ 1048576) (hv : RdVs w f.cd vs ff) :
  Calls Tryz.prog 10 #[.agg vs.toArray] w (zcU (.sl (f.atomsF.map Atm.cd)) w) := by
 have hv0 := hv
 obtain ⟨a3, c3, f3, a5, c5, f5, a6, c6, f6, a7, c7, f7, a11, c11, f11, rfl, -, m0, m1, m2, m3, m4, m5, m6, m7, m8, m9⟩ := Fm.open hv
 clear hv
 go_enter Tryz.func10, Tryz.ntmps10
 go_wp2_with fail
 refine (zbK f _ _ _ hbig (by exact hv0.below (zc _ _))).mono ?_
 rintro e w1 ⟨rfl, hb1⟩
 obtain ⟨hx, hz1, hB⟩ := box1 (w := w) (wr := w1) (cs := #[.int .i64 f.kind, .int .i64 f.lit.atom.kind, .string f.lit.atom.a.name, .slice a3 f.lit.atom.a.kids.length c3, .string f.lit.atom.b.name, .slice a5 f.lit.atom.b.kids.length c5, .slice a6 f.lit.atom.nums.length c6, .slice a7 f.lit.atom.times.length c7, .int .i64 f.lit.atom.bound, .bool f.lit.atom.strict, .bool f.lit.no, .slice a11 f.kids.length c11]) (T := 36) (zp hb1 (by simp))
 have C0 := hx 0
 have C1 := hx 1
 have C2 := hx 2
 have C3 := hx 3
 have C4 := hx 4
 have C5 := hx 5
 have C6 := hx 6
 have C7 := hx 7
 have C8 := hx 8
 have C9 := hx 9
 have C10 := hx 10
 have C11 := hx 11
 simp only [zfg, zfe, zff] at C0 C1 C2 C3 C4 C5 C6 C7 C8 C9 C10 C11
 clear hb1 hx
 cases hok : f.okF
 ·have HE := Lib.hid (Fm.atomsF_no hok)
  clear hok
  go_wp2_with fail
  go_ret
  exact ⟨_, [], rfl, by rw [HE.out]; exact zbR _ _, Fresh.nil _ _, hB⟩
 ·have HE := Lib.hid (Fm.atomsF_yes hok)
  clear hok
  go_wp2_with fail
  refine (zaO _ f [] _ _ (.slice none 0 0) [] w1.heap.size _ (Nat.le_refl _) hbig (by simp; omega) (Nat.le_refl _) (Own.nil _ _ _ _) (Fresh.nil _ _) (by exact hv0.below hB) (by simp [Value.ownBlock])).mono ?_
  rintro e w2 ⟨lv, fp, rfl, hown, hfr, hm⟩
  have hB2 := hB.trans (hm.toBelow (B := w.heap.size) (by omega) (by simp [Value.ownBlock]))
  obtain ⟨fp', h1, h2, _⟩ := hown.fresh hfr
  clear hm hown hfr
  go_wp2_with fail
  go_ret
  exact ⟨_, fp', rfl, by rw [HE.out]; exact h1, h2.mono (by omega), hB2⟩
set_option maxRecDepth 100000 in
set_option maxHeartbeats 1000000 in
theorem zbc (fs : List Fm) (v : Value) (ff : List Nat) (w : World) (hbig : fs.length + wtR (fs.map Fm.cd) ≤ 1048576) (hv : Rd w (.sl (fs.map Fm.cd)) v ff) :
  Calls Tryz.prog 54 #[v] w fun e w' => ∃ rv fp, e = .returned (.tuple #[rv, .bool (zad fs)]) ∧ Rd w' (.sl ((zF fs).map Atm.cd)) rv fp ∧ Fresh w.heap.size w' fp ∧ Below w.heap.size w w' := by
 obtain ⟨a, cap, rfl, hc1, hc2⟩ := ze hv
 by_cases h5 : fs.length ≤ 5
 rotate_left
 ·have HO : Hid (zad fs = false) := Lib.hid (by unfold zad; simp [h5])
  have HE := Lib.hid (zaP HO.out)
  go_enter Tryz.func54, Tryz.ntmps54
  go_wp2_with fail
  go_ret2
  exact ⟨_, [], by rw [HO.out]; rfl, by rw [HE.out]; exact zbR _ _, Fresh.nil _ _, Below.refl _ _⟩
 go_enter Tryz.func54, Tryz.ntmps54
 go_wp2_with fail
 go_loopw [4, 12] (fun ov i wr => ∃ (k : Nat) (fp : List Nat), k ≤ fs.length ∧ i = .int .i64 k ∧ Hid ((fs.take k).all Fm.okF = true) ∧ Own wr w.heap.size 31 9 ov ((Fm.adds [] (fs.take k)).map Atm.cd) fp ∧ Fresh w.heap.size wr fp ∧ Below w.heap.size w wr) (fun _ i _ => fs.length - (intOf i).toNat)
 case atStart => exact ⟨0, [], Nat.zero_le _, rfl, Lib.hid (by simp), Own.nil _ _ _ _, Fresh.nil _ _, Below.refl _ _⟩
 case round =>
  obtain ⟨k, fp, hkl, rfl, hall, hown, hfr, hb⟩ := hrel
  have hz := hb.size
  have hln := Fm.adds_len (fs.take k) []
  have hle := zy Fm.cd fs k
  rw [← List.map_take] at hle
  have hlk : (fs.take k).length ≤ k := by simp; omega
  simp only [List.length_nil, Nat.zero_add] at hln
  by_cases hlt : k < fs.length
  ·obtain ⟨b, off, rfl, hbs, _⟩ := zk hv (by omega)
   obtain ⟨b3, e3, g3, b5, e5, g5, b6, e6, g6, b7, e7, g7, b11, e11, g11, d0, d1, d2, d3, d4, d5, d6, d7, d8, d9, d10, d11, n0, n1, n2, n3, n4, n5, n6, n7, n8, n9, hsub⟩ := Fm.at (hv.below hb) hlt
   have hbz : b < wr.heap.size := by omega
   have hle2 := zy Fm.cd fs (k + 1)
   rw [zL Fm.cd fs k hlt, ← List.map_take] at hle2
   have hna : ∀ y ∈ g3 ++ (g5 ++ (g6 ++ (g7 ++ g11))), u4.ownBlock ≠ some y := fun y hy => hown.row_ne (hv.lt _ y (hsub y hy))
   go_wp2_with fail
   refine (zbK fs[k] _ _ _ (by omega) (by exact (Fm.close n0 n1 n2 n3 n4 n5 n6 n7 n8 n9).below (zc _ _))).mono ?_
   rintro e w1 ⟨rfl, hb1⟩
   obtain ⟨hx, hz1, hB⟩ := box1 (w := wr) (wr := w1) (cs := #[.int .i64 fs[k].kind, .int .i64 fs[k].lit.atom.kind, .string fs[k].lit.atom.a.name, .slice b3 fs[k].lit.atom.a.kids.length e3, .string fs[k].lit.atom.b.name, .slice b5 fs[k].lit.atom.b.kids.length e5, .slice b6 fs[k].lit.atom.nums.length e6, .slice b7 fs[k].lit.atom.times.length e7, .int .i64 fs[k].lit.atom.bound, .bool fs[k].lit.atom.strict, .bool fs[k].lit.no, .slice b11 fs[k].kids.length e11]) (T := 36) (zp hb1 (by simp))
   have C0 := hx 0
   have C1 := hx 1
   have C2 := hx 2
   have C3 := hx 3
   have C4 := hx 4
   have C5 := hx 5
   have C6 := hx 6
   have C7 := hx 7
   have C8 := hx 8
   have C9 := hx 9
   have C10 := hx 10
   have C11 := hx 11
   simp only [zfg, zfe, zff] at C0 C1 C2 C3 C4 C5 C6 C7 C8 C9 C10 C11
   clear hb1 hx
   cases hok : fs[k].okF
   ·have HO : Hid (zad fs = false) := Lib.hid (by
     have : fs.all Fm.okF = false := by rw [List.all_eq_false]; exact ⟨fs[k], zfk hlt, by simp [hok]⟩
     unfold zad; simp [this])
    have HE := Lib.hid (zaP HO.out)
    clear hok
    go_wp2_with fail
    go_ret2
    exact ⟨_, [], by rw [HO.out]; rfl, by rw [HE.out]; exact zbR _ _, Fresh.nil _ _, hb.trans (hB.mono hz)⟩
   ·have HA : Hid ((fs.take (k + 1)).all Fm.okF = true) := Lib.hid (by rw [zfi hlt, List.all_append, hall.out]; simp [hok])
    clear hok
    go_wp2_with fail
    refine (zaO _ fs[k] (Fm.adds [] (fs.take k)) _ _ _ fp w.heap.size _ (Nat.le_refl _) (by omega) (by omega) (by omega) (by exact hown.below hB) (by exact hfr.below hB) (by exact (Fm.close n0 n1 n2 n3 n4 n5 n6 n7 n8 n9).below hB) hna).mono ?_
    rintro e w2 ⟨lv2, fp2, rfl, hown2, hfr2, hm2⟩
    have hB2 := (hb.trans (hB.mono hz)).trans (hm2.toBelow (B := w.heap.size) (by omega) (fun b h => (hown.block h).1))
    go_wp2_with fail
    go_roundw
    case rel => exact ⟨k + 1, fp2, by omega, by go_num, HA, by rw [Fm.adds_succ _ _ _ hlt]; exact hown2, hfr2, hB2⟩
    case measure => simp [intOf]; omega
  ·have he : fs.take k = fs := List.take_of_length_le (by omega)
   rw [he] at hown hall hln
   obtain ⟨la, lc, hlv, hl1, hl2⟩ := hown.form
   obtain ⟨fp', h1, h2, _⟩ := hown.fresh hfr
   rw [zfo] at hlv hl1
   subst hlv
   clear hown hfr he
   by_cases h6 : (Fm.adds [] fs).length ≤ 6
   ·have HO : Hid (zad fs = true) := Lib.hid (by unfold zad; simp only [hall.out]; simp [h5, h6])
    have HE := Lib.hid (zaw HO.out)
    go_wp2_with fail
    go_ret2
    exact ⟨_, fp', by rw [HO.out]; rfl, by rw [HE.out]; exact h1, h2, hb⟩
   ·have HO : Hid (zad fs = false) := Lib.hid (by unfold zad; simp [h6])
    have HE := Lib.hid (zaP HO.out)
    go_wp2_with fail
    go_ret2
    exact ⟨_, [], by rw [HO.out]; rfl, by rw [HE.out]; exact zbR _ _, Fresh.nil _ _, hb⟩
theorem zcd (fs : List Fm) (v : Value) (ff : List Nat) (w : World) (hbig : fs.length + wtR (fs.map Fm.cd) ≤ 1048576) (hv : Rd w (.sl (fs.map Fm.cd)) v ff) :
  Calls Tryz.prog 19 #[v] w (zcU (.sl ((zF fs).map Atm.cd)) w) := by
 obtain ⟨a, cap, rfl, hc1, hc2⟩ := ze hv
 go_enter Tryz.func19, Tryz.ntmps19
 go_wp2_with fail
 refine (zbc fs _ _ _ hbig hv).mono ?_
 rintro e w1 ⟨rv, fp, rfl, h1, h2, hb1⟩
 go_wp2_with fail
 go_ret
 exact ⟨_, fp, rfl, h1, h2, hb1⟩
end Go.Proofs.YtbfinjiledfpcaaGreat
