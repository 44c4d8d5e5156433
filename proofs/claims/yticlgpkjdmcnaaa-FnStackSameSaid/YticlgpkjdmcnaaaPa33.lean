/- Parts of the proof: FormU. -/
import Derived.Test.YticlgpkjdmcnaaaPa32
section
namespace Go.Proofs.Yticlgpkjdmcnaaa
open Go Go.RowKit
set_option linter.unusedVariables false
set_option linter.unusedSimpArgs false
set_option maxRecDepth 100000
set_option maxHeartbeats 16000000
theorem zcX (f : Fm) (vs : List Value) (ff : List Nat) (w : World) (hbig : wtV f.cd ≤ 1048576) (hv : RdVs w f.cd vs ff) :
  Calls Try.prog 64 #[.agg vs.toArray] w fun e w' => e = .returned (.bool f.okF) ∧ Below w.heap.size w w' := by
 rw [Fm.okF_right]
 have hv0 := hv
 obtain ⟨a3, c3, f3, a5, c5, f5, a6, c6, f6, a7, c7, f7, a11, c11, f11, rfl, -, m0, m1, m2, m3, m4, m5, m6, m7, m8, m9⟩ := Fm.open hv
 clear hv
 have hln := Fm.tell_len f []
 have hmn := Fm.many_le f 5
 go_enter Try.func64, Try.ntmps64
 go_wp2_with fail
 refine (l9Shape_n _ f 5 _ _ _ (Nat.le_refl _) hbig (by omega) (by omega) (by exact hv0.below (zb _ _))).mono ?_
 rintro e w1 ⟨rfl, hb1⟩
 have HBX := Lib.hid (zt (n := w.heap.size + 1) hb1 (by simp))
 obtain ⟨hx, hz1, hB⟩ := box1 (w := w) (wr := w1) (cs := #[.int .i64 f.kind, .int .i64 f.lit.atom.kind, .string f.lit.atom.a.name, .slice a3 f.lit.atom.a.kids.length c3, .string f.lit.atom.b.name, .slice a5 f.lit.atom.b.kids.length c5, .slice a6 f.lit.atom.nums.length c6, .slice a7 f.lit.atom.times.length c7, .int .i64 f.lit.atom.bound, .bool f.lit.atom.strict, .bool f.lit.no, .slice a11 f.kids.length c11]) (T := 52) (zt hb1 (by simp))
 have C0 := hx 0
 have C1 := hx 1
 have C2 := hx 2
 have C3 := hx 3
 have C4 := hx 4
 have C5 := hx 5
 have C6 := hx 6
 have C7 := hx 7
 have C8 := hx 8
 have C9 := hx 9
 have C10 := hx 10
 have C11 := hx 11
 simp only [zd2, zd0, zd1] at C0 C1 C2 C3 C4 C5 C6 C7 C8 C9 C10 C11
 clear hb1 hx
 have h55 : (5 : Int).toNat = 5 := rfl
 rw [h55]
 clear h55
 cases hsh : Fm.shape 5 f
 ·have HE := Lib.hid (show f.rightF = false by unfold Fm.rightF; simp [hsh])
  clear hsh
  go_wp2_with fail
  go_ret
  exact ⟨retB HE.out.symm, hB⟩
 ·go_wp2_with fail
  refine (l9Many_n _ f 5 _ _ _ (Nat.le_refl _) hbig (by omega) (by omega) (by exact hv0.below hB)).mono ?_
  rintro e w2 ⟨rfl, hb2⟩
  obtain ⟨hx, hz2, hB2⟩ := box1 (w := w) (wr := w2) (cs := #[.int .i64 f.kind, .int .i64 f.lit.atom.kind, .string f.lit.atom.a.name, .slice a3 f.lit.atom.a.kids.length c3, .string f.lit.atom.b.name, .slice a5 f.lit.atom.b.kids.length c5, .slice a6 f.lit.atom.nums.length c6, .slice a7 f.lit.atom.times.length c7, .int .i64 f.lit.atom.bound, .bool f.lit.atom.strict, .bool f.lit.no, .slice a11 f.kids.length c11]) (T := 52) (HBX.out.trans (hb2.mono (by omega)))
  clear C0 C1 C2 C3 C4 C5 C6 C7 C8 C9 C10 C11
  have C0 := hx 0
  have C1 := hx 1
  have C2 := hx 2
  have C3 := hx 3
  have C4 := hx 4
  have C5 := hx 5
  have C6 := hx 6
  have C7 := hx 7
  have C8 := hx 8
  have C9 := hx 9
  have C10 := hx 10
  have C11 := hx 11
  simp only [zd2, zd0, zd1] at C0 C1 C2 C3 C4 C5 C6 C7 C8 C9 C10 C11
  have h55 : (5 : Int).toNat = 5 := rfl
  rw [h55]
  clear h55 hx hB
  by_cases h1 : Fm.many 5 f ≤ 10
  ·have HE0 := Lib.hid (show f.rightF = decide (((Fm.tell [] f).length : Int) ≤ 6) by unfold Fm.rightF; rw [Bool.eq_iff_iff]; simp [hsh, h1]; try omega)
   clear hsh
   go_wp2_with fail
   refine (zcx _ f [] _ _ (.slice none 0 0) [] w2.heap.size _ (Nat.le_refl _) hbig (by simp; omega) (Nat.le_refl _) (Own.nil _ _ _ _) (by exact hv0.below hB2) (by simp [Value.ownBlock])).mono ?_
   rintro e w3 ⟨lv, fp, rfl, hown, _, hm⟩
   obtain ⟨la, lc, rfl, _, _⟩ := hown.form
   have hB3 := hB2.trans (hm.toBelow (B := w.heap.size) (by omega) (by simp [Value.ownBlock]))
   rw [zea]
   clear hm hown
   go_wp2_with fail
   go_ret
   exact ⟨retB HE0.out.symm, hB3⟩
  ·have HE := Lib.hid (show f.rightF = false by unfold Fm.rightF; simp [h1])
   clear hsh
   go_wp2_with fail
   go_ret
   exact ⟨retB HE.out.symm, hB2⟩
mutual
theorem Fm.add_wt : ∀ (f : Fm) (l : List Atm), wtR ((Fm.add l f).map Atm.cd) ≤ wtR (l.map Atm.cd) + wtV f.cd
 | .mk kind lit kids, l => by
  have h := Fm.adds_wt kids l
  have h2 := Fm.wt_eq (.mk kind lit kids)
  simp only [Fm.kids, Fm.lit, Lt.cd, zF, zav] at h2
  simp only [Fm.add]
  split
  ·rw [zd8, zU]; simp [wtR]; omega
  ·omega
theorem Fm.adds_wt : ∀ (ks : List Fm) (l : List Atm), wtR ((Fm.adds l ks).map Atm.cd) ≤ wtR (l.map Atm.cd) + wtR (ks.map Fm.cd)
 | [], l => by simp [Fm.adds, wtR]
 | k :: ks, l => by
  have h1 := Fm.add_wt k l
  have h2 := Fm.adds_wt ks (Fm.add l k)
  simp only [Fm.adds, List.map_cons, zZ]; omega
end
theorem zchU {α : Type} {cd : α → List CD} : ∀ {l : List α} {x : α}, x ∈ l → wtV (cd x) ≤ wtR (l.map cd)
 | a :: l, x, h => by
  rw [List.map_cons, zZ]
  rcases zd9.1 h with rfl | h
  ·omega
  ·have := zchU (cd := cd) h; omega
theorem zbV (fs : List Fm) (v : Value) (ff : List Nat) (w : World) (hbig : fs.length + wtR (fs.map Fm.cd) ≤ 1048576) (hv : Rd w (.sl (fs.map Fm.cd)) v ff) :
  Calls Try.prog 58 #[v] w fun e w' => ∃ rv fp, e = .returned rv ∧ Own w' w.heap.size 48 9 rv ((Fm.tells [] fs).map Atm.cd) fp ∧ (∀ y ∈ fp, y ∈ ff) ∧ Below w.heap.size w w' := by
 obtain ⟨a, cap, rfl, hc1, hc2⟩ := zi hv
 go_enter Try.func58, Try.ntmps58
 go_wp2_with fail
 go_loopw [3, 4] (fun ov i wr => ∃ (k : Nat) (fp : List Nat), k ≤ fs.length ∧ i = .int .i64 k ∧ Own wr w.heap.size 48 9 ov ((Fm.tells [] (fs.take k)).map Atm.cd) fp ∧ Hid (∀ y ∈ fp, y ∈ ff) ∧ Below w.heap.size w wr) (fun _ i _ => fs.length - (intOf i).toNat)
 case atStart => exact ⟨0, [], Nat.zero_le _, rfl, Own.empty _ _ _ _ (Nat.le_refl _), Lib.hid (by simp), zb _ _⟩
 case round =>
  obtain ⟨k, fp, hkl, rfl, hown, hsub, hb⟩ := hrel
  have hz := hb.size
  have hln := Fm.tells_len (fs.take k) []
  have hle := zJ Fm.cd fs k
  rw [← List.map_take] at hle
  have hlk : (fs.take k).length ≤ k := by simp; omega
  simp only [List.length_nil, Nat.zero_add] at hln
  by_cases hlt : k < fs.length
  ·obtain ⟨b, off, rfl, hbs, _⟩ := zp hv (by omega)
   obtain ⟨b3, e3, g3, b5, e5, g5, b6, e6, g6, b7, e7, g7, b11, e11, g11, d0, d1, d2, d3, d4, d5, d6, d7, d8, d9, d10, d11, n0, n1, n2, n3, n4, n5, n6, n7, n8, n9, hsb⟩ := Fm.at (hv.below hb) hlt
   have hbz : b < wr.heap.size := by omega
   have hle2 := zJ Fm.cd fs (k + 1)
   rw [zP Fm.cd fs k hlt, ← List.map_take] at hle2
   have hna : ∀ y ∈ g3 ++ (g5 ++ (g6 ++ (g7 ++ g11))), u3.ownBlock ≠ some y := fun y hy => hown.row_ne (hv.lt _ y (hsb y hy))
   go_wp2_with fail
   refine (zcx _ fs[k] (Fm.tells [] (fs.take k)) _ _ _ fp w.heap.size _ (Nat.le_refl _) (by omega) (by omega) (by omega) (by exact hown) (by exact (Fm.close n0 n1 n2 n3 n4 n5 n6 n7 n8 n9)) hna).mono ?_
   rintro e w2 ⟨lv2, fp2, rfl, hown2, hsub2, hm2⟩
   have hB2 := hb.trans (hm2.toBelow (B := w.heap.size) (by omega) (fun b h => (hown.block h).1))
   go_wp2_with fail
   go_roundw
   case rel => exact ⟨k + 1, fp2, by omega, by go_num, by rw [Fm.tells_succ _ _ _ hlt]; exact hown2, Lib.hid fun y hy => (hsub2 y hy).elim (hsub.out y) (hsb y), hB2⟩
   case measure => simp [intOf]; omega
  ·have he : fs.take k = fs := List.take_of_length_le (by omega)
   rw [he] at hown
   go_wp2_with fail
   go_ret
   exact ⟨_, fp, rfl, hown, hsub.out, hb⟩
theorem Fm.ok_adds : ∀ (fs : List Fm) (l : List Atm), fs.all Fm.okF = true → Fm.adds l fs = Fm.tells l fs
 | [], l, _ => rfl
 | f :: fs, l, h => by
  rw [List.all_cons, zeb] at h
  have h1 := h.1
  rw [Fm.okF_right] at h1
  simp only [Fm.rightF, zeb] at h1
  simp only [Fm.adds, Fm.tells]
  rw [Fm.add_tell f 5 l h1.1.1, Fm.ok_adds fs _ h.2]
theorem zcY {fs : List Fm} (h : fs.all Fm.okF = true) : zaS fs = (decide (fs.length ≤ 5) && decide ((Fm.tells [] fs).length ≤ 6)) := by
 unfold zaS; rw [h, Fm.ok_adds fs [] h]; rfl
theorem zcy (fs : List Fm) (v : Value) (ff : List Nat) (w : World) (hbig : fs.length + wtR (fs.map Fm.cd) ≤ 1048576) (hv : Rd w (.sl (fs.map Fm.cd)) v ff) :
  Calls Try.prog 57 #[v] w fun e w' => e = .returned (.bool (zaS fs)) ∧ Below w.heap.size w w' := by
 obtain ⟨a, cap, rfl, hc1, hc2⟩ := zi hv
 go_enter Try.func57, Try.ntmps57
 go_wp2_with fail
 go_loopw [3] (fun i wr => ∃ (k : Nat), k ≤ fs.length ∧ i = .int .i64 k ∧ Hid ((fs.take k).all Fm.okF = true) ∧ Below w.heap.size w wr) (fun i _ => fs.length - (intOf i).toNat)
 case atStart => exact ⟨0, Nat.zero_le _, rfl, Lib.hid (by simp), Below.refl _ _⟩
 case round =>
  obtain ⟨k, hkl, rfl, hall, hb⟩ := hrel
  have hz := hb.size
  by_cases hlt : k < fs.length
  ·obtain ⟨b, off, rfl, hbs, _⟩ := zp hv (by omega)
   obtain ⟨b3, e3, g3, b5, e5, g5, b6, e6, g6, b7, e7, g7, b11, e11, g11, d0, d1, d2, d3, d4, d5, d6, d7, d8, d9, d10, d11, n0, n1, n2, n3, n4, n5, n6, n7, n8, n9, hsb⟩ := Fm.at (hv.below hb) hlt
   have hbz : b < wr.heap.size := by omega
   have hle2 := zJ Fm.cd fs (k + 1)
   rw [zP Fm.cd fs k hlt] at hle2
   go_wp2_with fail
   refine (zcX fs[k] _ _ _ (by omega) (by exact (Fm.close n0 n1 n2 n3 n4 n5 n6 n7 n8 n9))).mono ?_
   rintro e w1 ⟨rfl, hb1⟩
   cases hok : fs[k].okF
   ·have HO : Hid (zaS fs = false) := Lib.hid (by
     have : fs.all Fm.okF = false := by rw [List.all_eq_false]; exact ⟨fs[k], zd6 hlt, by simp [hok]⟩
     unfold zaS; simp [this])
    clear hok
    go_wp2_with fail
    go_ret
    exact ⟨retB HO.out.symm, hb.trans (hb1.mono hz)⟩
   ·have HA : Hid ((fs.take (k + 1)).all Fm.okF = true) := Lib.hid (by rw [zd4 hlt, List.all_append, hall.out]; simp [hok])
    clear hok
    go_wp2_with fail
    go_roundw
    case rel => exact ⟨k + 1, by omega, by go_num, HA, hb.trans (hb1.mono hz)⟩
    case measure => simp [intOf]; omega
  ·have he : fs.take k = fs := List.take_of_length_le (by omega)
   rw [he] at hall
   have HO := Lib.hid (zcY hall.out)
   have hln := Fm.tells_len fs []
   simp only [List.length_nil, Nat.zero_add] at hln
   clear he
   by_cases h5 : fs.length ≤ 5
   ·have HE : Hid (zaS fs = decide (((Fm.tells [] fs).length : Int) ≤ 6)) := Lib.hid (by rw [HO.out, Bool.eq_iff_iff]; simp [h5]; try omega)
    go_wp2_with fail
    refine (zbV fs _ _ _ hbig (hv.below hb)).mono ?_
    rintro e w2 ⟨rv, fp, rfl, hown, _, hb2⟩
    obtain ⟨la, lc, rfl, _, _⟩ := hown.form
    rw [zea]
    clear hown
    go_wp2_with fail
    go_ret
    exact ⟨retB HE.out.symm, hb.trans (hb2.mono hz)⟩
   ·have HE : Hid (zaS fs = false) := Lib.hid (by rw [HO.out]; simp [h5])
    go_wp2_with fail
    go_ret
    exact ⟨retB HE.out.symm, hb⟩
end Go.Proofs.Yticlgpkjdmcnaaa
end
