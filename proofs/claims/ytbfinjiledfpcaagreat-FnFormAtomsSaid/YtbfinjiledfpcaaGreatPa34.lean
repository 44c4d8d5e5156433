/- Parts of the proof: FormU. -/
import Derived.Test.YtbfinjiledfpcaaGreatPa33
namespace Go.Proofs.YtbfinjiledfpcaaGreat
open Go Go.RowKit
set_option linter.unusedVariables false
set_option linter.unusedSimpArgs false
theorem zbj (f : Fm) (vs : List Value) (ff : List Nat) (w : World) (hbig : wtV f.cd ≤ 1048576) (hv : RdVs w f.cd vs ff) :
  Calls Tryz.prog 40 #[.agg vs.toArray] w fun e w' => e = .returned (.bool f.okF) ∧ Below w.heap.size w w' := by
 rw [Fm.okF_right]
 have hv0 := hv
 obtain ⟨a3, c3, f3, a5, c5, f5, a6, c6, f6, a7, c7, f7, a11, c11, f11, rfl, -, m0, m1, m2, m3, m4, m5, m6, m7, m8, m9⟩ := Fm.open hv
 clear hv
 have hln := Fm.tell_len f []
 have hmn := Fm.many_le f 5
 go_enter Tryz.func40, Tryz.ntmps40
 go_wp2_with fail
 refine (l9Shape_n _ f 5 _ _ _ (Nat.le_refl _) hbig (by omega) (by omega) (by exact hv0.below (zc _ _))).mono ?_
 rintro e w1 ⟨rfl, hb1⟩
 have HBX := Lib.hid (zp (n := w.heap.size + 1) hb1 (by simp))
 obtain ⟨hx, hz1, hB⟩ := box1 (w := w) (wr := w1) (cs := #[.int .i64 f.kind, .int .i64 f.lit.atom.kind, .string f.lit.atom.a.name, .slice a3 f.lit.atom.a.kids.length c3, .string f.lit.atom.b.name, .slice a5 f.lit.atom.b.kids.length c5, .slice a6 f.lit.atom.nums.length c6, .slice a7 f.lit.atom.times.length c7, .int .i64 f.lit.atom.bound, .bool f.lit.atom.strict, .bool f.lit.no, .slice a11 f.kids.length c11]) (T := 36) (zp hb1 (by simp))
 have C0 := hx 0
 have C1 := hx 1
 have C2 := hx 2
 have C3 := hx 3
 have C4 := hx 4
 have C5 := hx 5
 have C6 := hx 6
 have C7 := hx 7
 have C8 := hx 8
 have C9 := hx 9
 have C10 := hx 10
 have C11 := hx 11
 simp only [zfg, zfe, zff] at C0 C1 C2 C3 C4 C5 C6 C7 C8 C9 C10 C11
 clear hb1 hx
 have h55 : (5 : Int).toNat = 5 := rfl
 rw [h55]
 clear h55
 cases hsh : Fm.shape 5 f
 ·have HE := Lib.hid (show f.rightF = false by unfold Fm.rightF; simp [hsh])
  clear hsh
  go_wp2_with fail
  go_ret
  exact ⟨retB HE.out.symm, hB⟩
 ·go_wp2_with fail
  refine (l9Many_n _ f 5 _ _ _ (Nat.le_refl _) hbig (by omega) (by omega) (by exact hv0.below hB)).mono ?_
  rintro e w2 ⟨rfl, hb2⟩
  obtain ⟨hx, hz2, hB2⟩ := box1 (w := w) (wr := w2) (cs := #[.int .i64 f.kind, .int .i64 f.lit.atom.kind, .string f.lit.atom.a.name, .slice a3 f.lit.atom.a.kids.length c3, .string f.lit.atom.b.name, .slice a5 f.lit.atom.b.kids.length c5, .slice a6 f.lit.atom.nums.length c6, .slice a7 f.lit.atom.times.length c7, .int .i64 f.lit.atom.bound, .bool f.lit.atom.strict, .bool f.lit.no, .slice a11 f.kids.length c11]) (T := 36) (HBX.out.trans (hb2.mono (by omega)))
  clear C0 C1 C2 C3 C4 C5 C6 C7 C8 C9 C10 C11
  have C0 := hx 0
  have C1 := hx 1
  have C2 := hx 2
  have C3 := hx 3
  have C4 := hx 4
  have C5 := hx 5
  have C6 := hx 6
  have C7 := hx 7
  have C8 := hx 8
  have C9 := hx 9
  have C10 := hx 10
  have C11 := hx 11
  simp only [zfg, zfe, zff] at C0 C1 C2 C3 C4 C5 C6 C7 C8 C9 C10 C11
  have h55 : (5 : Int).toNat = 5 := rfl
  rw [h55]
  clear h55 hx hB
  by_cases h1 : Fm.many 5 f ≤ 10
  ·have HE0 := Lib.hid (show f.rightF = decide (((Fm.tell [] f).length : Int) ≤ 6) by unfold Fm.rightF; rw [Bool.eq_iff_iff]; simp [hsh, h1]; try omega)
   clear hsh
   go_wp2_with fail
   refine (zbz _ f [] _ _ (.slice none 0 0) [] w2.heap.size _ (Nat.le_refl _) hbig (by simp; omega) (Nat.le_refl _) (Own.nil _ _ _ _) (by exact hv0.below hB2) (by simp [Value.ownBlock])).mono ?_
   rintro e w3 ⟨lv, fp, rfl, hown, _, hm⟩
   obtain ⟨la, lc, rfl, _, _⟩ := hown.form
   have hB3 := hB2.trans (hm.toBelow (B := w.heap.size) (by omega) (by simp [Value.ownBlock]))
   rw [zfo]
   clear hm hown
   go_wp2_with fail
   go_ret
   exact ⟨retB HE0.out.symm, hB3⟩
  ·have HE := Lib.hid (show f.rightF = false by unfold Fm.rightF; simp [h1])
   clear hsh
   go_wp2_with fail
   go_ret
   exact ⟨retB HE.out.symm, hB2⟩
theorem Atm.times_of {x : Atm} (h : wtV x.cd ≤ 1048576) : x.times.length ≤ 1048576 := by
 simp only [Atm.cd, zU, zbH, zaG, zcF, zfo] at h
 omega
mutual
theorem Fm.add_wt : ∀ (f : Fm) (l : List Atm), wtR ((Fm.add l f).map Atm.cd) ≤ wtR (l.map Atm.cd) + wtV f.cd
 | .mk kind lit kids, l => by
  have h := Fm.adds_wt kids l
  have h2 := Fm.wt_eq (.mk kind lit kids)
  simp only [Fm.kids, Fm.lit, Lt.cd, zU, zaG] at h2
  simp only [Fm.add]
  split
  ·rw [zfm, zY]; simp [wtR]; omega
  ·omega
theorem Fm.adds_wt : ∀ (ks : List Fm) (l : List Atm), wtR ((Fm.adds l ks).map Atm.cd) ≤ wtR (l.map Atm.cd) + wtR (ks.map Fm.cd)
 | [], l => by simp [Fm.adds, wtR]
 | k :: ks, l => by
  have h1 := Fm.add_wt k l
  have h2 := Fm.adds_wt ks (Fm.add l k)
  simp only [Fm.adds, List.map_cons, zal]; omega
end
theorem zde {α : Type} {cd : α → List CD} : ∀ {l : List α} {x : α}, x ∈ l → wtV (cd x) ≤ wtR (l.map cd)
 | a :: l, x, h => by
  rw [List.map_cons, zal]
  rcases zfn.1 h with rfl | h
  ·omega
  ·have := zde (cd := cd) h; omega
set_option maxRecDepth 100000 in
set_option maxHeartbeats 1000000 in
theorem zcw (f : Fm) (vs : List Value) (ff : List Nat) (w : World) (hbig : wtV f.cd ≤ 1048576) (hv : RdVs w f.cd vs ff) :
  Calls Tryz.prog 11 #[.agg vs.toArray] w (zcU (.sl (f.atomsF.map Atm.cd)) w) := by
 have hv0 := hv
 obtain ⟨a3, c3, f3, a5, c5, f5, a6, c6, f6, a7, c7, f7, a11, c11, f11, rfl, -, m0, m1, m2, m3, m4, m5, m6, m7, m8, m9⟩ := Fm.open hv
 clear hv
 have hb0 : Below w.heap.size w ((w.alloc (.cells #[.int .i64 f.kind, .int .i64 f.lit.atom.kind, .string f.lit.atom.a.name, .slice a3 f.lit.atom.a.kids.length c3, .string f.lit.atom.b.name, .slice a5 f.lit.atom.b.kids.length c5, .slice a6 f.lit.atom.nums.length c6, .slice a7 f.lit.atom.times.length c7, .int .i64 f.lit.atom.bound, .bool f.lit.atom.strict, .bool f.lit.no, .slice a11 f.kids.length c11] 36)).alloc (.cells #[] 31)) := (zc _ _).alloc (by simp) _
 go_enter Tryz.func11, Tryz.ntmps11
 go_wp2_with fail
 refine (zbj f _ _ _ hbig (by exact hv0.below hb0)).mono ?_
 rintro e w1 ⟨rfl, hb1⟩
 obtain ⟨hx, hy, hz1, hB⟩ := box2 (w := w) (wr := w1) (cs := #[.int .i64 f.kind, .int .i64 f.lit.atom.kind, .string f.lit.atom.a.name, .slice a3 f.lit.atom.a.kids.length c3, .string f.lit.atom.b.name, .slice a5 f.lit.atom.b.kids.length c5, .slice a6 f.lit.atom.nums.length c6, .slice a7 f.lit.atom.times.length c7, .int .i64 f.lit.atom.bound, .bool f.lit.atom.strict, .bool f.lit.no, .slice a11 f.kids.length c11]) (ds := #[]) (T := 36) (U := 31) (zp hb1 (by simp))
 have C0 := hx 0
 have C1 := hx 1
 have C2 := hx 2
 have C3 := hx 3
 have C4 := hx 4
 have C5 := hx 5
 have C6 := hx 6
 have C7 := hx 7
 have C8 := hx 8
 have C9 := hx 9
 have C10 := hx 10
 have C11 := hx 11
 simp only [zfg, zfe, zff] at C0 C1 C2 C3 C4 C5 C6 C7 C8 C9 C10 C11
 clear hy
 have hown0 : Own w1 w.heap.size 31 9 (.slice (some ⟨(w.alloc (.cells #[.int .i64 f.kind, .int .i64 f.lit.atom.kind, .string f.lit.atom.a.name, .slice a3 f.lit.atom.a.kids.length c3, .string f.lit.atom.b.name, .slice a5 f.lit.atom.b.kids.length c5, .slice a6 f.lit.atom.nums.length c6, .slice a7 f.lit.atom.times.length c7, .int .i64 f.lit.atom.bound, .bool f.lit.atom.strict, .bool f.lit.no, .slice a11 f.kids.length c11] 36)).heap.size, 0, none⟩) 0 0) [] [] := (Own.empty (w.alloc (.cells #[.int .i64 f.kind, .int .i64 f.lit.atom.kind, .string f.lit.atom.a.name, .slice a3 f.lit.atom.a.kids.length c3, .string f.lit.atom.b.name, .slice a5 f.lit.atom.b.kids.length c5, .slice a6 f.lit.atom.nums.length c6, .slice a7 f.lit.atom.times.length c7, .int .i64 f.lit.atom.bound, .bool f.lit.atom.strict, .bool f.lit.no, .slice a11 f.kids.length c11] 36)) w.heap.size _ _ (by simp)).below hb1
 simp only [World.size_alloc] at hown0
 clear hb1 hx
 cases hok : f.okF
 ·have HE := Lib.hid (Fm.atomsF_no hok)
  clear hok
  go_wp2_with fail
  go_ret
  obtain ⟨fp', h1, h2, _⟩ := hown0.fresh (Fresh.nil _ _)
  exact ⟨_, fp', rfl, by rw [HE.out]; exact h1, h2, hB⟩
 ·have HE0 := Lib.hid (Fm.atomsF_yes hok)
  have HT := Lib.hid (Fm.okF_tell hok)
  clear hok
  go_wp2_with fail
  refine (zbz _ f [] _ _ (.slice none 0 0) [] w1.heap.size _ (Nat.le_refl _) hbig (by simp; omega) (Nat.le_refl _) (Own.nil _ _ _ _) (by exact hv0.below hB) (by simp [Value.ownBlock])).mono ?_
  rintro e w2 ⟨lv, fl, rfl, hown, hsub, hm⟩
  rw [← HT.out] at hown
  obtain ⟨l, hl⟩ : ∃ l, l = Fm.add [] f := ⟨_, rfl⟩
  have HE : Hid (f.atomsF = l) := Lib.hid (by rw [HE0.out, hl])
  have hwl := Fm.add_wt f []
  have hln := Fm.add_len f []
  rw [← hl] at hown hwl hln
  clear hl
  have HAC : Hid (∀ x ∈ l, x.small ∧ x.times.length ≤ 1048576) := Lib.hid fun x hx => by
   have h1 := zde (cd := Atm.cd) hx
   simp only [List.map_nil, wtR] at hwl
   exact ⟨Atm.small_of (by omega), Atm.times_of (by omega)⟩
  obtain ⟨la, lc, hlv, hl1, hl2⟩ := hown.form
  rw [zfo] at hlv hl1
  subst hlv
  have HOL : Hid (∀ b, la.bind (fun a => some a.block) = some b → w1.heap.size ≤ b) := Lib.hid fun b hb => (hown.block (b := b) (by cases la with | none => simp at hb | some a => simpa [Value.ownBlock] using hb)).1
  obtain ⟨lf, hlr, hlf⟩ := hown.rd
  have hB2 := hB.trans (hm.toBelow (B := w.heap.size) (by omega) (by simp [Value.ownBlock]))
  have hown1 := hown0.same (w' := w2) (fun b hb => by simp at hb) (fun b hb => hm.block (hown0.block hb).2 (by simp [Value.ownBlock]))
  have HLN : Hid (∀ y ∈ lf, (Value.slice (some ⟨w.heap.size + 1, 0, none⟩) 0 0).ownBlock ≠ some y) := Lib.hid fun y hy e => by
   have e1 : w.heap.size + 1 = y := Option.some.inj e
   rcases hlf with ⟨_, _, h⟩ | ⟨b, c, h1, h2, _, h3, _⟩
   ·rw [h] at hy; simp at hy
   ·rw [h2] at hy
    rcases zfn.1 hy with h | h
    ·omega
    ·rcases hsub y h with h | h
     ·simp at h
     ·have := hv0.lt _ y h; omega
  clear hm hown hown0 hB hlf hsub
  simp only [List.length_nil, Nat.zero_add] at hln
  go_wp2_with fail
  go_loopw [3, 5] (fun ov i wr => ∃ (k : Nat) (fp : List Nat), k ≤ l.length ∧ i = .int .i64 k ∧ Own wr w.heap.size 31 9 ov ((l.take k).map Atm.cd) fp ∧ Fresh w.heap.size wr fp ∧ Rd wr (.sl (l.map Atm.cd)) (.slice la l.length lc) lf ∧ Hid (∀ y ∈ lf, ov.ownBlock ≠ some y) ∧ Below w.heap.size w wr) (fun _ i _ => l.length - (intOf i).toNat)
  case atStart => exact ⟨0, [], Nat.zero_le _, rfl, hown1, Fresh.nil _ _, hlr, HLN, hB2⟩
  case round =>
   clear hlr hB2 HLN
   obtain ⟨k, fp, hkl, rfl, hown, hfr, hlr, HLN, hb⟩ := hrel
   have hz := hb.size
   have hlk : (l.take k).length ≤ l.length := by simp; omega
   by_cases hlt : k < l.length
   ·obtain ⟨b, off, rfl, hbs, _⟩ := zk hlr (by omega)
    obtain ⟨a2y, c2y, f2y, a4y, c4y, f4y, a5y, c5y, f5y, a6y, c6y, f6y, d0y, d1y, d2y, d3y, d4y, d5y, d6y, d7y, d8y, n0y, n1y, n2y, n3y, n4y, n5y, n6y, n7y, hsuby⟩ := Atm.at hlr hlt
    have HY := Atm.close n0y n1y n2y n3y n4y n5y n6y n7y
    have HAT := Lib.hid (HAC.out l[k] (zfk hlt))
    go_wp2_with fail
    refine (zcL l[k] _ _ _ HAT.out.1 HAT.out.2 (by exact HY)).mono ?_
    rintro e w3 ⟨us, fp3, rfl, hr3, hf3, hb3⟩
    obtain ⟨a2z, c2z, f2z, a4z, c4z, f4z, a5z, c5z, f5z, a6z, c6z, f6z, rfl, -, m0z, m1z, m2z, m3z, m4z, m5z, m6z, m7z⟩ := Atm.open hr3
    have hown3 := hown.below (hb3.alloc hb3.size (.cells #[.int .i64 l[k].kind, .string l[k].a.name, .slice a2z l[k].a.kids.length c2z, .string l[k].b.name, .slice a4z l[k].b.kids.length c4z, .slice a5z l[k].nums.length c5z, .slice a6z l[k].times.length c6z, .int .i64 l[k].bound, .bool l[k].strict] 31))
    have hr3' := hr3.below (zc w3 (.cells #[.int .i64 l[k].kind, .string l[k].a.name, .slice a2z l[k].a.kids.length c2z, .string l[k].b.name, .slice a4z l[k].b.kids.length c4z, .slice a5z l[k].nums.length c5z, .slice a6z l[k].times.length c6z, .int .i64 l[k].bound, .bool l[k].strict] 31))
    have hz3 := hb3.size
    go_wp2_with (at_builtin; refine zu zag rfl _ _ rfl w.heap.size _ _ _ rfl hown3 ⟨w3.heap.size, 0, none⟩ 1 1 [l[k].cd] [.int .i64 l[k].kind, .string l[k].a.name, .slice a2z l[k].a.kids.length c2z, .string l[k].b.name, .slice a4z l[k].b.kids.length c4z, .slice a5z l[k].nums.length c5z, .slice a6z l[k].times.length c6z, .int .i64 l[k].bound, .bool l[k].strict] fp3 rfl rfl ?rd ?k ?cells ?na ?bytes ?len ?base ?next)
    case rd => simpa using hr3'
    case k => simp [Atm.cd_len]
    case cells => exact zt _ _ _
    case na => exact hown.away (Nat.le_refl _) hf3
    case bytes => (try rw [zfo]); (try simp); omega
    case len => (try rw [zfo]); (try simp); omega
    case base => simp; omega
    case next =>
     intro v' w4 hown4 hg hv' hs4
     have hlr4 := (hlr.below (hb3.alloc hb3.size (.cells #[.int .i64 l[k].kind, .string l[k].a.name, .slice a2z l[k].a.kids.length c2z, .string l[k].b.name, .slice a4z l[k].b.kids.length c4z, .slice a5z l[k].nums.length c5z, .slice a6z l[k].times.length c6z, .int .i64 l[k].bound, .bool l[k].strict] 31))).same _ (fun y hy => hg.block y (by have := hlr.lt _ y hy; simp; omega) (fun e => HLN.out y hy e.symm))
     have HLN4 : Hid (∀ y ∈ lf, v'.ownBlock ≠ some y) := Lib.hid fun y hy e => by
      rcases hv' y e with h | h
      ·exact HLN.out y hy h
      ·have := hlr.lt _ y hy; (try simp at h); omega
     have hb4 := zi ((hb.trans (hb3.mono hz)).alloc (by omega) (.cells #[.int .i64 l[k].kind, .string l[k].a.name, .slice a2z l[k].a.kids.length c2z, .string l[k].b.name, .slice a4z l[k].b.kids.length c4z, .slice a5z l[k].nums.length c5z, .slice a6z l[k].times.length c6z, .int .i64 l[k].bound, .bool l[k].strict] 31)) hg (by simp; omega) (fun q hq => (hown.block hq).1)
     go_wp2_with fail
     go_roundw
     case rel => exact ⟨k + 1, _, by omega, by go_num, by rw [zfi hlt, zfm]; simpa using hown4, ((Fresh.app (hfr.below hb3) hfr.lt (by omega) hf3).below (zc _ _)).same hs4, hlr4, HLN4, hb4⟩
     case measure => simp [intOf]; omega
   ·have he : l.take k = l := List.take_of_length_le (by omega)
    rw [he] at hown
    go_wp2_with fail
    go_ret
    obtain ⟨fp', h1, h2, _⟩ := hown.fresh hfr
    exact ⟨_, fp', rfl, by rw [HE.out]; exact h1, h2, hb⟩
set_option maxRecDepth 100000 in
set_option maxHeartbeats 1000000 in
theorem zbk (fs : List Fm) (v : Value) (ff : List Nat) (w : World) (hbig : fs.length + wtR (fs.map Fm.cd) ≤ 1048576) (hv : Rd w (.sl (fs.map Fm.cd)) v ff) :
  Calls Tryz.prog 57 #[v] w fun e w' => ∃ rv fp, e = .returned rv ∧ Own w' w.heap.size 31 9 rv ((Fm.tells [] fs).map Atm.cd) fp ∧ (∀ y ∈ fp, y ∈ ff) ∧ Below w.heap.size w w' := by
 obtain ⟨a, cap, rfl, hc1, hc2⟩ := ze hv
 go_enter Tryz.func57, Tryz.ntmps57
 go_wp2_with fail
 go_loopw [3, 4] (fun ov i wr => ∃ (k : Nat) (fp : List Nat), k ≤ fs.length ∧ i = .int .i64 k ∧ Own wr w.heap.size 31 9 ov ((Fm.tells [] (fs.take k)).map Atm.cd) fp ∧ Hid (∀ y ∈ fp, y ∈ ff) ∧ Below w.heap.size w wr) (fun _ i _ => fs.length - (intOf i).toNat)
 case atStart => exact ⟨0, [], Nat.zero_le _, rfl, Own.empty _ _ _ _ (Nat.le_refl _), Lib.hid (by simp), zc _ _⟩
 case round =>
  obtain ⟨k, fp, hkl, rfl, hown, hsub, hb⟩ := hrel
  have hz := hb.size
  have hln := Fm.tells_len (fs.take k) []
  have hle := zy Fm.cd fs k
  rw [← List.map_take] at hle
  have hlk : (fs.take k).length ≤ k := by simp; omega
  simp only [List.length_nil, Nat.zero_add] at hln
  by_cases hlt : k < fs.length
  ·obtain ⟨b, off, rfl, hbs, _⟩ := zk hv (by omega)
   obtain ⟨b3, e3, g3, b5, e5, g5, b6, e6, g6, b7, e7, g7, b11, e11, g11, d0, d1, d2, d3, d4, d5, d6, d7, d8, d9, d10, d11, n0, n1, n2, n3, n4, n5, n6, n7, n8, n9, hsb⟩ := Fm.at (hv.below hb) hlt
   have hbz : b < wr.heap.size := by omega
   have hle2 := zy Fm.cd fs (k + 1)
   rw [zL Fm.cd fs k hlt, ← List.map_take] at hle2
   have hna : ∀ y ∈ g3 ++ (g5 ++ (g6 ++ (g7 ++ g11))), u3.ownBlock ≠ some y := fun y hy => hown.row_ne (hv.lt _ y (hsb y hy))
   go_wp2_with fail
   refine (zbz _ fs[k] (Fm.tells [] (fs.take k)) _ _ _ fp w.heap.size _ (Nat.le_refl _) (by omega) (by omega) (by omega) (by exact hown) (by exact (Fm.close n0 n1 n2 n3 n4 n5 n6 n7 n8 n9)) hna).mono ?_
   rintro e w2 ⟨lv2, fp2, rfl, hown2, hsub2, hm2⟩
   have hB2 := hb.trans (hm2.toBelow (B := w.heap.size) (by omega) (fun b h => (hown.block h).1))
   go_wp2_with fail
   go_roundw
   case rel => exact ⟨k + 1, fp2, by omega, by go_num, by rw [Fm.tells_succ _ _ _ hlt]; exact hown2, Lib.hid fun y hy => (hsub2 y hy).elim (hsub.out y) (hsb y), hB2⟩
   case measure => simp [intOf]; omega
  ·have he : fs.take k = fs := List.take_of_length_le (by omega)
   rw [he] at hown
   go_wp2_with fail
   go_ret
   exact ⟨_, fp, rfl, hown, hsub.out, hb⟩
theorem Fm.ok_adds : ∀ (fs : List Fm) (l : List Atm), fs.all Fm.okF = true → Fm.adds l fs = Fm.tells l fs
 | [], l, _ => rfl
 | f :: fs, l, h => by
  rw [List.all_cons, zfp] at h
  have h1 := h.1
  rw [Fm.okF_right] at h1
  simp only [Fm.rightF, zfp] at h1
  simp only [Fm.adds, Fm.tells]
  rw [Fm.add_tell f 5 l h1.1.1, Fm.ok_adds fs _ h.2]
theorem zd9 {fs : List Fm} (h : fs.all Fm.okF = true) : zad fs = (decide (fs.length ≤ 5) && decide ((Fm.tells [] fs).length ≤ 6)) := by
 unfold zad; rw [h, Fm.ok_adds fs [] h]; rfl
set_option maxRecDepth 100000 in
set_option maxHeartbeats 1000000 in
theorem zbS (fs : List Fm) (v : Value) (ff : List Nat) (w : World) (hbig : fs.length + wtR (fs.map Fm.cd) ≤ 1048576) (hv : Rd w (.sl (fs.map Fm.cd)) v ff) :
  Calls Tryz.prog 56 #[v] w fun e w' => e = .returned (.bool (zad fs)) ∧ Below w.heap.size w w' := by
 obtain ⟨a, cap, rfl, hc1, hc2⟩ := ze hv
 go_enter Tryz.func56, Tryz.ntmps56
 go_wp2_with fail
 go_loopw [3] (fun i wr => ∃ (k : Nat), k ≤ fs.length ∧ i = .int .i64 k ∧ Hid ((fs.take k).all Fm.okF = true) ∧ Below w.heap.size w wr) (fun i _ => fs.length - (intOf i).toNat)
 case atStart => exact ⟨0, Nat.zero_le _, rfl, Lib.hid (by simp), Below.refl _ _⟩
 case round =>
  obtain ⟨k, hkl, rfl, hall, hb⟩ := hrel
  have hz := hb.size
  by_cases hlt : k < fs.length
  ·obtain ⟨b, off, rfl, hbs, _⟩ := zk hv (by omega)
   obtain ⟨b3, e3, g3, b5, e5, g5, b6, e6, g6, b7, e7, g7, b11, e11, g11, d0, d1, d2, d3, d4, d5, d6, d7, d8, d9, d10, d11, n0, n1, n2, n3, n4, n5, n6, n7, n8, n9, hsb⟩ := Fm.at (hv.below hb) hlt
   have hbz : b < wr.heap.size := by omega
   have hle2 := zy Fm.cd fs (k + 1)
   rw [zL Fm.cd fs k hlt] at hle2
   go_wp2_with fail
   refine (zbj fs[k] _ _ _ (by omega) (by exact (Fm.close n0 n1 n2 n3 n4 n5 n6 n7 n8 n9))).mono ?_
   rintro e w1 ⟨rfl, hb1⟩
   cases hok : fs[k].okF
   ·have HO : Hid (zad fs = false) := Lib.hid (by
     have : fs.all Fm.okF = false := by rw [List.all_eq_false]; exact ⟨fs[k], zfk hlt, by simp [hok]⟩
     unfold zad; simp [this])
    clear hok
    go_wp2_with fail
    go_ret
    exact ⟨retB HO.out.symm, hb.trans (hb1.mono hz)⟩
   ·have HA : Hid ((fs.take (k + 1)).all Fm.okF = true) := Lib.hid (by rw [zfi hlt, List.all_append, hall.out]; simp [hok])
    clear hok
    go_wp2_with fail
    go_roundw
    case rel => exact ⟨k + 1, by omega, by go_num, HA, hb.trans (hb1.mono hz)⟩
    case measure => simp [intOf]; omega
  ·have he : fs.take k = fs := List.take_of_length_le (by omega)
   rw [he] at hall
   have HO := Lib.hid (zd9 hall.out)
   have hln := Fm.tells_len fs []
   simp only [List.length_nil, Nat.zero_add] at hln
   clear he
   by_cases h5 : fs.length ≤ 5
   ·have HE : Hid (zad fs = decide (((Fm.tells [] fs).length : Int) ≤ 6)) := Lib.hid (by rw [HO.out, Bool.eq_iff_iff]; simp [h5]; try omega)
    go_wp2_with fail
    refine (zbk fs _ _ _ hbig (hv.below hb)).mono ?_
    rintro e w2 ⟨rv, fp, rfl, hown, _, hb2⟩
    obtain ⟨la, lc, rfl, _, _⟩ := hown.form
    rw [zfo]
    clear hown
    go_wp2_with fail
    go_ret
    exact ⟨retB HE.out.symm, hb.trans (hb2.mono hz)⟩
   ·have HE : Hid (zad fs = false) := Lib.hid (by rw [HO.out]; simp [h5])
    go_wp2_with fail
    go_ret
    exact ⟨retB HE.out.symm, hb⟩
set_option maxRecDepth 100000 in
set_option maxHeartbeats 1000000 in
theorem zce (fs : List Fm) (v : Value) (ff : List Nat) (w : World) (hbig : fs.length + wtR (fs.map Fm.cd) ≤ 1048576) (hv : Rd w (.sl (fs.map Fm.cd)) v ff) :
  Calls Tryz.prog 20 #[v] w (zcU (.sl ((zF fs).map Atm.cd)) w) := by
 obtain ⟨a, cap, rfl, hc1, hc2⟩ := ze hv
 have hb0 : Below w.heap.size w (w.alloc (.cells #[] 31)) := zc _ _
 go_enter Tryz.func20, Tryz.ntmps20
 go_wp2_with fail
 refine (zbS fs _ _ _ hbig (by exact hv.below hb0)).mono ?_
 rintro e w1 ⟨rfl, hb1⟩
 have hB := hb0.trans (hb1.mono hb0.size)
 have hown0 : Own w1 w.heap.size 31 9 (.slice (some ⟨w.heap.size, 0, none⟩) 0 0) [] [] := (Own.empty w w.heap.size _ _ (Nat.le_refl _)).below hb1
 have hz1 : w.heap.size + 1 ≤ w1.heap.size := by have := hb1.size; simpa using this
 clear hb1
 cases hok : zad fs
 ·have HE := Lib.hid (zaP hok)
  clear hok
  go_wp2_with fail
  go_ret
  obtain ⟨fp', h1, h2, _⟩ := hown0.fresh (Fresh.nil _ _)
  exact ⟨_, fp', rfl, by rw [HE.out]; exact h1, h2, hB⟩
 ·have HE0 := Lib.hid (zaw hok)
  have hall : fs.all Fm.okF = true := by unfold zad at hok; simp only [zfp] at hok; exact hok.2.1
  have HT := Lib.hid (Fm.ok_adds fs [] hall)
  clear hok hall
  go_wp2_with fail
  refine (zbk fs _ _ _ hbig (by exact hv.below hB)).mono ?_
  rintro e w2 ⟨lv, fl, rfl, hown, hsub, hb2⟩
  rw [← HT.out] at hown
  obtain ⟨l, hl⟩ : ∃ l, l = Fm.adds [] fs := ⟨_, rfl⟩
  have HE : Hid (zF fs = l) := Lib.hid (by rw [HE0.out, hl])
  have hwl := Fm.adds_wt fs []
  have hln := Fm.adds_len fs []
  rw [← hl] at hown hwl hln
  clear hl
  have HAC : Hid (∀ x ∈ l, x.small ∧ x.times.length ≤ 1048576) := Lib.hid fun x hx => by
   have h1 := zde (cd := Atm.cd) hx
   simp only [List.map_nil, wtR] at hwl
   exact ⟨Atm.small_of (by omega), Atm.times_of (by omega)⟩
  obtain ⟨la, lc, hlv, hl1, hl2⟩ := hown.form
  rw [zfo] at hlv hl1
  subst hlv
  obtain ⟨lf, hlr, hlf⟩ := hown.rd
  have hB2 := hB.trans (hb2.mono hB.size)
  have hown1 := hown0.below hb2
  have HLN : Hid (∀ y ∈ lf, (Value.slice (some ⟨w.heap.size, 0, none⟩) 0 0).ownBlock ≠ some y) := Lib.hid fun y hy e => by
   have e1 : w.heap.size = y := Option.some.inj e
   rcases hlf with ⟨_, _, h⟩ | ⟨b, c, h1, h2, _, h3, _⟩
   ·rw [h] at hy; simp at hy
   ·rw [h2] at hy
    rcases zfn.1 hy with h | h
    ·omega
    ·have := hv.lt _ y (hsub y h); omega
  clear hown hown0 hB hlf hsub hb2
  simp only [List.length_nil, Nat.zero_add] at hln
  go_wp2_with fail
  go_loopw [3, 5] (fun ov i wr => ∃ (k : Nat) (fp : List Nat), k ≤ l.length ∧ i = .int .i64 k ∧ Own wr w.heap.size 31 9 ov ((l.take k).map Atm.cd) fp ∧ Fresh w.heap.size wr fp ∧ Rd wr (.sl (l.map Atm.cd)) (.slice la l.length lc) lf ∧ Hid (∀ y ∈ lf, ov.ownBlock ≠ some y) ∧ Below w.heap.size w wr) (fun _ i _ => l.length - (intOf i).toNat)
  case atStart => exact ⟨0, [], Nat.zero_le _, rfl, hown1, Fresh.nil _ _, hlr, HLN, hB2⟩
  case round =>
   clear hlr hB2 HLN
   obtain ⟨k, fp, hkl, rfl, hown, hfr, hlr, HLN, hb⟩ := hrel
   have hz := hb.size
   have hlk : (l.take k).length ≤ l.length := by simp; omega
   by_cases hlt : k < l.length
   ·obtain ⟨b, off, rfl, hbs, _⟩ := zk hlr (by omega)
    obtain ⟨a2y, c2y, f2y, a4y, c4y, f4y, a5y, c5y, f5y, a6y, c6y, f6y, d0y, d1y, d2y, d3y, d4y, d5y, d6y, d7y, d8y, n0y, n1y, n2y, n3y, n4y, n5y, n6y, n7y, hsuby⟩ := Atm.at hlr hlt
    have HY := Atm.close n0y n1y n2y n3y n4y n5y n6y n7y
    have HAT := Lib.hid (HAC.out l[k] (zfk hlt))
    go_wp2_with fail
    refine (zcL l[k] _ _ _ HAT.out.1 HAT.out.2 (by exact HY)).mono ?_
    rintro e w3 ⟨us, fp3, rfl, hr3, hf3, hb3⟩
    obtain ⟨a2z, c2z, f2z, a4z, c4z, f4z, a5z, c5z, f5z, a6z, c6z, f6z, rfl, -, m0z, m1z, m2z, m3z, m4z, m5z, m6z, m7z⟩ := Atm.open hr3
    have hown3 := hown.below (hb3.alloc hb3.size (.cells #[.int .i64 l[k].kind, .string l[k].a.name, .slice a2z l[k].a.kids.length c2z, .string l[k].b.name, .slice a4z l[k].b.kids.length c4z, .slice a5z l[k].nums.length c5z, .slice a6z l[k].times.length c6z, .int .i64 l[k].bound, .bool l[k].strict] 31))
    have hr3' := hr3.below (zc w3 (.cells #[.int .i64 l[k].kind, .string l[k].a.name, .slice a2z l[k].a.kids.length c2z, .string l[k].b.name, .slice a4z l[k].b.kids.length c4z, .slice a5z l[k].nums.length c5z, .slice a6z l[k].times.length c6z, .int .i64 l[k].bound, .bool l[k].strict] 31))
    have hz3 := hb3.size
    go_wp2_with (at_builtin; refine zu zag rfl _ _ rfl w.heap.size _ _ _ rfl hown3 ⟨w3.heap.size, 0, none⟩ 1 1 [l[k].cd] [.int .i64 l[k].kind, .string l[k].a.name, .slice a2z l[k].a.kids.length c2z, .string l[k].b.name, .slice a4z l[k].b.kids.length c4z, .slice a5z l[k].nums.length c5z, .slice a6z l[k].times.length c6z, .int .i64 l[k].bound, .bool l[k].strict] fp3 rfl rfl ?rd ?k ?cells ?na ?bytes ?len ?base ?next)
    case rd => simpa using hr3'
    case k => simp [Atm.cd_len]
    case cells => exact zt _ _ _
    case na => exact hown.away (Nat.le_refl _) hf3
    case bytes => (try rw [zfo]); (try simp); omega
    case len => (try rw [zfo]); (try simp); omega
    case base => simp; omega
    case next =>
     intro v' w4 hown4 hg hv' hs4
     have hlr4 := (hlr.below (hb3.alloc hb3.size (.cells #[.int .i64 l[k].kind, .string l[k].a.name, .slice a2z l[k].a.kids.length c2z, .string l[k].b.name, .slice a4z l[k].b.kids.length c4z, .slice a5z l[k].nums.length c5z, .slice a6z l[k].times.length c6z, .int .i64 l[k].bound, .bool l[k].strict] 31))).same _ (fun y hy => hg.block y (by have := hlr.lt _ y hy; simp; omega) (fun e => HLN.out y hy e.symm))
     have HLN4 : Hid (∀ y ∈ lf, v'.ownBlock ≠ some y) := Lib.hid fun y hy e => by
      rcases hv' y e with h | h
      ·exact HLN.out y hy h
      ·have := hlr.lt _ y hy; (try simp at h); omega
     have hb4 := zi ((hb.trans (hb3.mono hz)).alloc (by omega) (.cells #[.int .i64 l[k].kind, .string l[k].a.name, .slice a2z l[k].a.kids.length c2z, .string l[k].b.name, .slice a4z l[k].b.kids.length c4z, .slice a5z l[k].nums.length c5z, .slice a6z l[k].times.length c6z, .int .i64 l[k].bound, .bool l[k].strict] 31)) hg (by simp; omega) (fun q hq => (hown.block hq).1)
     go_wp2_with fail
     go_roundw
     case rel => exact ⟨k + 1, _, by omega, by go_num, by rw [zfi hlt, zfm]; simpa using hown4, ((Fresh.app (hfr.below hb3) hfr.lt (by omega) hf3).below (zc _ _)).same hs4, hlr4, HLN4, hb4⟩
     case measure => simp [intOf]; omega
   ·have he : l.take k = l := List.take_of_length_le (by omega)
    rw [he] at hown
    go_wp2_with fail
    go_ret
    obtain ⟨fp', h1, h2, _⟩ := hown.fresh hfr
    exact ⟨_, fp', rfl, by rw [HE.out]; exact h1, h2, hb⟩
end Go.Proofs.YtbfinjiledfpcaaGreat
