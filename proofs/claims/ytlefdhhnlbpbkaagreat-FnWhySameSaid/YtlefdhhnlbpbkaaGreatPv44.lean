/- Parts of the proof: WhyA4. -/
import Derived.Deep.RegionHeld3
import Derived.BigQuiet
import Derived.BigRegion
import Derived.Test.YtlefdhhnlbpbkaaGreatPv28
section
namespace Go.Proofs.YtlefdhhnlbpbkaaGreat
open Go Go.RowKit
set_option linter.unusedVariables false
set_option linter.unusedSimpArgs false
set_option maxRecDepth 100000
set_option maxHeartbeats 16000000
theorem tells_c4 (es : List Eqn) (ev : Value) (ef : List Nat) (lo : Nat) (hel : es.length ≤ 1048576) (helo : ∀ b ∈ ef, b < lo) (n : Nat) (ih : ∀ (x : Wy) (vs : List Value) (xf : List Nat) (d : Nat) (g : Int) (w : World), ndV x.cd ≤ n → x.thin → g + d = 401 → d ≤ 400 → lo ≤ w.heap.size → (∀ b ∈ xf, b < lo) → RdVs w x.cd vs xf → Rd w (.sl (es.map Eqn.cd)) ev ef →
  Calls Tryz.prog 25 #[.agg vs.toArray, ev, .int .i64 g] w (zP lo (Wy.tells es d x) w)) :
  ∀ (x : Wy) (vs : List Value) (xf : List Nat) (d : Nat) (g : Int) (w : World), ndV x.cd ≤ (n + 1) → x.thin → x.rule = 4 → g + d = 401 → d ≤ 400 → lo ≤ w.heap.size → (∀ b ∈ xf, b < lo) → RdVs w x.cd vs xf → Rd w (.sl (es.map Eqn.cd)) ev ef →
  Calls Tryz.prog 25 #[.agg vs.toArray, ev, .int .i64 g] w (zP lo (Wy.tells es d x) w) := by
 intro x vs xf d g w hn hbig hru hgd hd hlo hxlo hv hx
 obtain ⟨a3, c3, f3, a4, c4, f4, rfl, rfl, m0, m1, m2, m3, m4⟩ := Wy.open hv
 obtain ⟨ea, ec, rfl, hec1, hec2⟩ := zd hx
 have hnk : ∀ y ∈ x.kids, ndV y.cd ≤ n := fun y hy => by have := Wy.kid_nd hy; omega
 have hkw : x.kids.length ≤ 1048576 ∧ ∀ y ∈ x.kids, y.thin := Wy.thin_kids hbig
 obtain ⟨r, nn, t, ks⟩ := x
 simp only [Wy.rule] at hru
 subst hru
 simp only [Wy.rule, Wy.n, Wy.t, Wy.kids] at m0 m1 m2 m3 m4 hnk hkw hv hxlo ⊢
 have HNK := Lib.hid hnk
 have HKW := Lib.hid hkw.2
 have hkl1 := hkw.1
 have hg1 : 1 ≤ g := by omega
 have hg2 : g ≤ 401 := by omega
 have hf3 : ∀ b ∈ f3, b < lo := fun b hb => hxlo b (by simp [hb])
 have hf4 : ∀ b ∈ f4, b < lo := fun b hb => hxlo b (by simp [hb])
 have IH := Lib.hid ih
 clear ih hnk hkw hbig hn hv hxlo
 have hX := (Bx.new w [.int .i64 4, .int .i64 nn, .string t.name, .slice a3 t.kids.length c3, .slice a4 ks.length c4] 32).alloc (.cells #[.string ⟨#[]⟩, .slice none 0 0, .string ⟨#[]⟩, .slice none 0 0] 36)
 have hR := Bx.new (w.alloc (.cells #[.int .i64 4, .int .i64 nn, .string t.name, .slice a3 t.kids.length c3, .slice a4 ks.length c4] 32)) [.string ⟨#[]⟩, .slice none 0 0, .string ⟨#[]⟩, .slice none 0 0] 36
 rw [World.size_alloc] at hR
 have hB : Below w.heap.size w ((w.alloc (.cells #[.int .i64 4, .int .i64 nn, .string t.name, .slice a3 t.kids.length c3, .slice a4 ks.length c4] 32)).alloc (.cells #[.string ⟨#[]⟩, .slice none 0 0, .string ⟨#[]⟩, .slice none 0 0] 36)) := ((Below.refl _ _).alloc (Nat.le_refl _) _).alloc (by simp) _
 have hW1 : ((w.alloc (.cells #[.int .i64 4, .int .i64 nn, .string t.name, .slice a3 t.kids.length c3, .slice a4 ks.length c4] 32)).alloc (.cells #[.string ⟨#[]⟩, .slice none 0 0, .string ⟨#[]⟩, .slice none 0 0] 36)).heap.size ≤ w.heap.size + 1 + 1 := by simp
 go_enter Tryz.func25, Tryz.ntmps25
 go_upto_region 1 with fail
 generalize (w.alloc (.cells #[.int .i64 4, .int .i64 nn, .string t.name, .slice a3 t.kids.length c3, .slice a4 ks.length c4] 32)).alloc (.cells #[.string ⟨#[]⟩, .slice none 0 0, .string ⟨#[]⟩, .slice none 0 0] 36) = W at *
 cases d with
 | zero =>
  have hdd : decide ((400 : Int) < g) = true := decide_eq_true (by omega)
  have HNO : Hid (Wy.tells es 0 (.mk 4 nn t ks) = none) := Lib.hid (Wy.tells_zero _)
  have r0 := hR.2.1 0 _ rfl; have zz0 := hR.2.2 0
  have r1 := hR.2.1 1 _ rfl; have zz1 := hR.2.2 1
  have r2 := hR.2.1 2 _ rfl; have zz2 := hR.2.2 2
  have r3 := hR.2.1 3 _ rfl; have zz3 := hR.2.2 3
  have gR := (((hR.put (k := 0) (by simp) (.string ⟨#[]⟩)).put (k := 1) (by simp) (.slice none 0 0)).put (k := 2) (by simp) (.string ⟨#[]⟩)).put (k := 3) (by simp) (.slice none 0 0)
  simp only [zek, zel] at gR
  have s0 := gR.2.1 0 _ rfl; have s1 := gR.2.1 1 _ rfl; have s2 := gR.2.1 2 _ rfl; have s3 := gR.2.1 3 _ rfl
  go_wp2_with fail
  refine bodyPost_ret (v := .tuple #[.agg #[.string ⟨#[]⟩, .slice none 0 0, .string ⟨#[]⟩, .slice none 0 0], .bool false]) (by simp [results, Tryz.results25, go_sem, s0, s1, s2, s3]) rfl ?_
  exact zy HNO.out ((((hB.setCell (by simp) _).setCell (by simp) _).setCell (by simp) _).setCell (by simp) _)
 | succ d =>
 have hdd : decide ((400 : Int) < g) = false := decide_eq_false (by omega)
 have x3 := hX.2.1 3 _ rfl; have x4 := hX.2.1 4 _ rfl
 go_wp2_with fail
 go_loopw [8, 22] (fun kv iv wr => ∃ (k : Nat) (l : List Eqn) (kf : List Nat), k ≤ ks.length ∧ iv = .int .i64 k ∧ Hid (Wy.tellsL es d (ks.take k) = some l) ∧ l.length ≤ k ∧ k ≤ l.length ∧ Own wr (w.heap.size + 1 + 1) 36 4 kv (l.map Eqn.cd) kf ∧ (∀ b ∈ kf, b < lo ∨ w.heap.size + 1 + 1 ≤ b) ∧ w.heap.size + 1 + 1 ≤ wr.heap.size ∧ Below (w.heap.size + 1 + 1) W wr) (fun _ iv _ => ks.length - (intOf iv).toNat)
 case atStart => exact ⟨0, [], [], Nat.zero_le _, rfl, Lib.hid (by simp [Wy.tellsL]), Nat.le_refl _, Nat.le_refl _, Own.nil _ _ _ _, by simp, hR.1, Below.refl _ _⟩
 case round =>
  obtain ⟨k, l, kf, hkl, rfl, HL, hl1, hl2, hown, hkf, hz, hb⟩ := hrel
  clear x3 x4
  replace hX := hX.below (hb.mono hW1)
  replace hR := hR.below (hb.mono hW1)
  replace hB := hB.trans (hb.mono (by omega))
  by_cases hlt : k < ks.length
  ·obtain ⟨b, off, rfl, hbs, hbm⟩ := zm m4 (by omega)
   obtain ⟨ka3, kc3, kf3, ka4, kc4, kf4, d0, d1, d2, d3, d4, n0, n1, n2, n3, n4, hsub⟩ := Wy.at (m4.below hB) hlt
   have hkr := Wy.close n0 n1 n2 n3 n4
   have hklo : ∀ y ∈ kf3 ++ kf4, y < lo := fun y hy => hf4 y (hsub y hy)
   clear n0 n1 n2 n3 n4 hsub
   have hba := zb wr (.cells #[.int .i64 ks[k].rule, .int .i64 ks[k].n, .string ks[k].t.name, .slice ka3 ks[k].t.kids.length kc3, .slice ka4 ks[k].kids.length kc4] 32)
   replace hX := hX.below hba
   replace hR := hR.below hba
   have hB1 := hB.trans (hba.mono hB.size)
   have hown1 := hown.below hba
   have hK := Bx.new wr [.int .i64 ks[k].rule, .int .i64 ks[k].n, .string ks[k].t.name, .slice ka3 ks[k].t.kids.length kc3, .slice ka4 ks[k].kids.length kc4] 32
   have hkr1 := hkr.below hba
   have hx1 := hx.below hB1
   have hz1 : wr.heap.size + 1 ≤ (wr.alloc (.cells #[.int .i64 ks[k].rule, .int .i64 ks[k].n, .string ks[k].t.name, .slice ka3 ks[k].t.kids.length kc3, .slice ka4 ks[k].kids.length kc4] 32)).heap.size := by simp
   have hb1 := hb.trans (hba.mono hz)
   obtain ⟨BK, hBK⟩ : ∃ B, B = wr.heap.size := ⟨_, rfl⟩
   rw [← hBK] at hK hz1
   go_upto_region 7 with fail
   rw [← hBK]
   have hBK1 : wr.heap.size ≤ BK := by omega
   clear hba hB hkr d0 d1 d2 d3 d4 hBK
   generalize wr.alloc (.cells #[.int .i64 ks[k].rule, .int .i64 ks[k].n, .string ks[k].t.name, .slice ka3 ks[k].t.kids.length kc3, .slice ka4 ks[k].kids.length kc4] 32) = w1 at *
   have k0 := hK.2.1 0 _ rfl; have k1 := hK.2.1 1 _ rfl; have k2 := hK.2.1 2 _ rfl; have k3 := hK.2.1 3 _ rfl; have k4 := hK.2.1 4 _ rfl
   go_wp2_with fail
   refine (IH.out ks[k] _ _ d (g + 1) _ (HNK.out _ (zes hlt)) (HKW.out _ (zes hlt)) (by omega) (by omega) (by omega) hklo (by exact hkr1) (by exact hx1)).mono ?_
   rintro e w2 ⟨n0, a1, p1, q1, n2, a5, p3, q3, rfl, hq, hb2⟩
   clear k0 k1 k2 k3 k4 hK hkr1 hx1
   obtain ⟨o, ho⟩ : ∃ o, o = Wy.tells es d ks[k] := ⟨_, rfl⟩
   rw [← ho] at hq ⊢
   have HO := Lib.hid ho
   clear ho
   have hbe := zb w2 (.cells #[.string n0, .slice a1 p1 q1, .string n2, .slice a5 p3 q3] 36)
   replace hX := (hX.below hb2).below hbe
   replace hR := (hR.below hb2).below hbe
   have hb12 := hb2.trans (hbe.mono hb2.size)
   have hB := hB1.trans (hb12.mono hB1.size)
   have hown2 := hown1.below hb12
   have hE := Bx.new w2 [.string n0, .slice a1 p1 q1, .string n2, .slice a5 p3 q3] 36
   have hz2 := hb12.size
   have hbW := hb1.trans (hb12.mono (by omega))
   cases o with
   | none =>
    have HNO := Lib.hid (Wy.tells_bad (r := 4) (n := nn) (t := t) (Wy.tellsL_no hlt HL.out HO.out.symm))
    go_upto_region 9 with fail
    clear hE
    generalize w2.alloc (.cells #[.string n0, .slice a1 p1 q1, .string n2, .slice a5 p3 q3] 36) = U at *
    have r0 := hR.2.1 0 _ rfl; have zz0 := hR.2.2 0
    have r1 := hR.2.1 1 _ rfl; have zz1 := hR.2.2 1
    have r2 := hR.2.1 2 _ rfl; have zz2 := hR.2.2 2
    have r3 := hR.2.1 3 _ rfl; have zz3 := hR.2.2 3
    have gR := (((hR.put (k := 0) (by simp) (.string ⟨#[]⟩)).put (k := 1) (by simp) (.slice none 0 0)).put (k := 2) (by simp) (.string ⟨#[]⟩)).put (k := 3) (by simp) (.slice none 0 0)
    simp only [zek, zel] at gR
    have s0 := gR.2.1 0 _ rfl; have s1 := gR.2.1 1 _ rfl; have s2 := gR.2.1 2 _ rfl; have s3 := gR.2.1 3 _ rfl
    go_wp2_with fail
    refine bodyPost_ret (v := .tuple #[.agg #[.string ⟨#[]⟩, .slice none 0 0, .string ⟨#[]⟩, .slice none 0 0], .bool false]) (by simp [results, Tryz.results25, go_sem, s0, s1, s2, s3]) rfl ?_
    exact zy HNO.out ((((hB.setCell (by simp) _).setCell (by simp) _).setCell (by simp) _).setCell (by simp) _)
   | some q =>
    obtain ⟨f, hrq, hfq⟩ := hq q rfl
    have HL2 := Lib.hid (Wy.tellsL_yes hlt HL.out HO.out.symm)
    replace hrq := hrq.below hbe
    go_upto_region 10 with fail
    clear hq hbe hb2
    obtain ⟨BE, hBE⟩ : ∃ B, B = w2.heap.size := ⟨_, rfl⟩
    rw [← hBE] at hE ⊢
    clear hBE
    generalize w2.alloc (.cells #[.string n0, .slice a1 p1 q1, .string n2, .slice a5 p3 q3] 36) = U at *
    have e0 := hE.2.1 0 _ rfl; have e1 := hE.2.1 1 _ rfl; have e2 := hE.2.1 2 _ rfl; have e3 := hE.2.1 3 _ rfl
    have hba := zb U (.cells #[.string n0, .slice a1 p1 q1, .string n2, .slice a5 p3 q3] 36)
    have hown3 := hown2.below hba
    have hrq3 := hrq.below hba
    have hlm : (l.map Eqn.cd).length ≤ 1048576 := by rw [zew]; omega
    go_wp2_with (at_builtin; refine zp zac rfl _ _ rfl (w.heap.size + 1 + 1) _ _ _ rfl hown3 ⟨U.heap.size, 0, none⟩ 1 1 [q.cd] [.string n0, .slice a1 p1 q1, .string n2, .slice a5 p3 q3] f rfl rfl ?rd ?k ?cells ?na ?bytes ?len ?base ?next)
    case rd => simpa using hrq3
    case k => simp [Eqn.cd_len]
    case cells => exact zn _ _ _
    case na => exact fun y hy e => by have := hown.block e; rcases hfq y hy with h | h <;> omega
    case bytes => first | omega | (simp; omega)
    case len => first | omega | (simp; omega)
    case base => simp; omega
    case next =>
     intro v' w' hown' hg hv' hs'
     go_wp2_with fail
     go_roundw
     case rel => exact ⟨k + 1, l ++ [q], _, by omega, by go_num, HL2, by simp; omega, by simp; omega, by rw [zeu]; simpa using hown', fun y hy => by (rcases zer.1 hy with h | h; exact hkf y h; rcases hfq y h with h | h <;> omega), by (have := hg.size; simp at this; omega), zf ((hbW.trans (hba.mono (by omega)))) hg (by simp; omega) (fun q hq => by have := (hown2.block hq).1; omega)⟩
     case measure => simp [intOf]; omega
  ·obtain rfl : k = ks.length := by omega
   have HLL : Hid (Wy.tellsL es d ks = some l) := Lib.hid (by have := HL.out; rwa [List.take_length] at this)
   obtain ⟨ka, kc, hkv, hkc1, hkc2⟩ := hown.form
   rw [zew] at hkv hkc1
   subst hkv
   have ht : TmR wr t (.agg #[.string t.name, .slice a3 t.kids.length c3]) := TmR.mk m2 ⟨f3, m3.below hB⟩
   have hrk := m3.below hB
   obtain ⟨rf, hrow, hrf⟩ := zcl hown hkf
   replace hx := hx.below hB
   have hll : l.length ≤ 1048576 := by omega
   clear HL IH HNK HKW hb hW1 hl1 hl2 hkl m3 m4 hown hkf
   by_cases hn : nn = 0
   rotate_left
   ·have HNO : Hid (Wy.tells es (d + 1) (.mk 4 nn t ks) = none) := Lib.hid (Wy.tells_none HLL.out (by simp [zM, hn]))
    have n1 : (nn != 0) = true := by simpa using hn
    clear hn
    have x0 := hX.2.1 0 _ rfl
    have x1 := hX.2.1 1 _ rfl
    have x2 := hX.2.1 2 _ rfl
    have x3 := hX.2.1 3 _ rfl
    have x4 := hX.2.1 4 _ rfl
    have r0 := hR.2.1 0 _ rfl; have zz0 := hR.2.2 0
    have r1 := hR.2.1 1 _ rfl; have zz1 := hR.2.2 1
    have r2 := hR.2.1 2 _ rfl; have zz2 := hR.2.2 2
    have r3 := hR.2.1 3 _ rfl; have zz3 := hR.2.2 3
    have gR := (((hR.put (k := 0) (by simp) (.string ⟨#[]⟩)).put (k := 1) (by simp) (.slice none 0 0)).put (k := 2) (by simp) (.string ⟨#[]⟩)).put (k := 3) (by simp) (.slice none 0 0)
    simp only [zek, zel] at gR
    have s0 := gR.2.1 0 _ rfl; have s1 := gR.2.1 1 _ rfl; have s2 := gR.2.1 2 _ rfl; have s3 := gR.2.1 3 _ rfl
    go_wp2_with fail
    refine bodyPost_ret (v := .tuple #[.agg #[.string ⟨#[]⟩, .slice none 0 0, .string ⟨#[]⟩, .slice none 0 0], .bool false]) (by simp [results, Tryz.results25, go_sem, s0, s1, s2, s3]) rfl ?_
    exact zy HNO.out ((((hB.setCell (by simp) _).setCell (by simp) _).setCell (by simp) _).setCell (by simp) _)
   subst hn
   have x0 := hX.2.1 0 _ rfl
   have x1 := hX.2.1 1 _ rfl
   have x2 := hX.2.1 2 _ rfl
   have x3 := hX.2.1 3 _ rfl
   have x4 := hX.2.1 4 _ rfl
   cases hnt : zcv t
   ·have HNO : Hid (Wy.tells es (d + 1) (.mk 4 0 t ks) = none) := Lib.hid (Wy.tells_none HLL.out (by simp [zM, hnt]))
    have HNT := Lib.hid hnt
    clear hnt
    go_wp2_with fail
    refine (zaI t _ _ (by exact ht)).mono ?_
    rintro e u1 ⟨rfl, hbu⟩
    rw [HNT.out]
    replace hX := hX.below hbu
    replace hR := hR.below hbu
    replace ht := ht.below hbu
    replace hrk := hrk.below hbu
    replace hrow := hrow.below hbu
    replace hx := hx.below hbu
    replace hB := hB.trans (hbu.mono hB.size)
    clear hbu x0 x1 x2 x3 x4
    have x0 := hX.2.1 0 _ rfl
    have x1 := hX.2.1 1 _ rfl
    have x2 := hX.2.1 2 _ rfl
    have x3 := hX.2.1 3 _ rfl
    have x4 := hX.2.1 4 _ rfl
    have r0 := hR.2.1 0 _ rfl; have zz0 := hR.2.2 0
    have r1 := hR.2.1 1 _ rfl; have zz1 := hR.2.2 1
    have r2 := hR.2.1 2 _ rfl; have zz2 := hR.2.2 2
    have r3 := hR.2.1 3 _ rfl; have zz3 := hR.2.2 3
    have gR := (((hR.put (k := 0) (by simp) (.string ⟨#[]⟩)).put (k := 1) (by simp) (.slice none 0 0)).put (k := 2) (by simp) (.string ⟨#[]⟩)).put (k := 3) (by simp) (.slice none 0 0)
    simp only [zek, zel] at gR
    have s0 := gR.2.1 0 _ rfl; have s1 := gR.2.1 1 _ rfl; have s2 := gR.2.1 2 _ rfl; have s3 := gR.2.1 3 _ rfl
    go_wp2_with fail
    refine bodyPost_ret (v := .tuple #[.agg #[.string ⟨#[]⟩, .slice none 0 0, .string ⟨#[]⟩, .slice none 0 0], .bool false]) (by simp [results, Tryz.results25, go_sem, s0, s1, s2, s3]) rfl ?_
    exact zy HNO.out ((((hB.setCell (by simp) _).setCell (by simp) _).setCell (by simp) _).setCell (by simp) _)
   have HNT := Lib.hid hnt
   clear hnt
   go_wp2_with fail
   refine (zaI t _ _ (by exact ht)).mono ?_
   rintro e u1 ⟨rfl, hbu⟩
   rw [HNT.out]
   replace hX := hX.below hbu
   replace hR := hR.below hbu
   replace ht := ht.below hbu
   replace hrk := hrk.below hbu
   replace hrow := hrow.below hbu
   replace hx := hx.below hbu
   replace hB := hB.trans (hbu.mono hB.size)
   clear hbu x0 x1 x2 x3 x4
   have x0 := hX.2.1 0 _ rfl
   have x1 := hX.2.1 1 _ rfl
   have x2 := hX.2.1 2 _ rfl
   have x3 := hX.2.1 3 _ rfl
   have x4 := hX.2.1 4 _ rfl
   by_cases hl1 : l.length = 2
   rotate_left
   ·have HNO : Hid (Wy.tells es (d + 1) (.mk 4 0 t ks) = none) := Lib.hid (Wy.tells_none HLL.out (by unfold zM; rw [if_neg (by decide), if_neg (by decide), if_neg (by decide), if_pos rfl]; split; split; rename_i e f; exact absurd rfl hl1; rfl; rfl))
    have n1 : ((l.length : Int) != 2) = true := by simpa using (by omega : ¬ ((l.length : Int) = 2))
    go_upto_region 26 with fail
    refine Ever.start (F := (fun U : World => True)) (by kernel_rfl) ?_
    have hF := trivial
    refine Ever.take (i := 0) (v := (.slice ka l.length kc)) rfl (by kernel_rfl) (by kernel_rfl) (by kernel_rfl) (fun _ _ _ h => h) (Or.inl ⟨by rfl, fun U hU => ?_⟩) hF ?_
    ·go_simp
    try simp only [Act.put, zej, zek, zel]
    refine Ever.take (i := 1) (v := (.int .i64 l.length)) rfl (by kernel_rfl) (by kernel_rfl) (by kernel_rfl) (fun _ _ _ h => h) (Or.inl ⟨by rfl, fun U hU => ?_⟩) hF ?_
    ·go_simp
    try simp only [Act.put, zej, zek, zel]
    refine Ever.take (i := 2) (v := (.bool true)) rfl (by kernel_rfl) (by kernel_rfl) (by kernel_rfl) (fun _ _ _ h => h) (Or.inl ⟨by rfl, fun U hU => ?_⟩) hF ?_
    ·go_simp
    try simp only [Act.put, zej, zek, zel]
    refine Ever.take (i := 3) (v := (.bool true)) rfl (by kernel_rfl) (by kernel_rfl) (by kernel_rfl) (fun _ _ _ h => h) (Or.inl ⟨by rfl, fun U hU => ?_⟩) hF ?_
    ·go_simp
    try simp only [Act.put, zej, zek, zel]
    refine Ever.take (i := 4) (v := undef) rfl (by kernel_rfl) (by kernel_rfl) (by kernel_rfl) (fun _ _ _ h => h) (Or.inr ⟨by go_simp, rfl⟩) hF ?_
    try simp only [Act.put, zej, zek, zel]
    refine Ever.take (i := 5) (v := undef) rfl (by kernel_rfl) (by kernel_rfl) (by kernel_rfl) (fun _ _ _ h => h) (Or.inr ⟨by go_simp, rfl⟩) hF ?_
    try simp only [Act.put, zej, zek, zel]
    refine Ever.take (i := 6) (v := undef) rfl (by kernel_rfl) (by kernel_rfl) (by kernel_rfl) (fun _ _ _ h => h) (Or.inr ⟨by go_simp, rfl⟩) hF ?_
    try simp only [Act.put, zej, zek, zel]
    refine Ever.take (i := 7) (v := undef) rfl (by kernel_rfl) (by kernel_rfl) (by kernel_rfl) (fun _ _ _ h => h) (Or.inr ⟨by go_simp, rfl⟩) hF ?_
    try simp only [Act.put, zej, zek, zel]
    refine Ever.take (i := 8) (v := undef) rfl (by kernel_rfl) (by kernel_rfl) (by kernel_rfl) (fun _ _ _ h => h) (Or.inr ⟨by go_simp, rfl⟩) hF ?_
    try simp only [Act.put, zej, zek, zel]
    refine Ever.take (i := 9) (v := undef) rfl (by kernel_rfl) (by kernel_rfl) (by kernel_rfl) (fun _ _ _ h => h) (Or.inr ⟨by go_simp, rfl⟩) hF ?_
    try simp only [Act.put, zej, zek, zel]
    refine Ever.take (i := 10) (v := undef) rfl (by kernel_rfl) (by kernel_rfl) (by kernel_rfl) (fun _ _ _ h => h) (Or.inr ⟨by go_simp, rfl⟩) hF ?_
    try simp only [Act.put, zej, zek, zel]
    refine Ever.take (i := 11) (v := undef) rfl (by kernel_rfl) (by kernel_rfl) (by kernel_rfl) (fun _ _ _ h => h) (Or.inr ⟨by go_simp, rfl⟩) hF ?_
    try simp only [Act.put, zej, zek, zel]
    refine Ever.one (i := 12) (by kernel_rfl) rfl (fun J9 hK => ?_)
    go_simp
    refine hK.out _ _ hF ?_
    clear hK
    try simp only [Act.put, zej, zek, zel]
    refine Ever.take (i := 13) (v := undef) rfl (by kernel_rfl) (by kernel_rfl) (by kernel_rfl) (fun _ _ _ h => h) (Or.inr ⟨by go_simp, rfl⟩) hF ?_
    try simp only [Act.put, zej, zek, zel]
    refine Ever.take (i := 14) (v := (.bool true)) rfl (by kernel_rfl) (by kernel_rfl) (by kernel_rfl) (fun _ _ _ h => h) (Or.inl ⟨by rfl, fun U hU => ?_⟩) hF ?_
    ·go_simp
    try simp only [Act.put, zej, zek, zel]
    refine Ever.done (by kernel_rfl) ?_ _
    clear hX ht hrk hrow hx x0 x1 x2 x3 x4 hF
    have r0 := hR.2.1 0 _ rfl; have zz0 := hR.2.2 0
    have r1 := hR.2.1 1 _ rfl; have zz1 := hR.2.2 1
    have r2 := hR.2.1 2 _ rfl; have zz2 := hR.2.2 2
    have r3 := hR.2.1 3 _ rfl; have zz3 := hR.2.2 3
    have gR := (((hR.put (k := 0) (by simp) (.string ⟨#[]⟩)).put (k := 1) (by simp) (.slice none 0 0)).put (k := 2) (by simp) (.string ⟨#[]⟩)).put (k := 3) (by simp) (.slice none 0 0)
    simp only [zek, zel] at gR
    have s0 := gR.2.1 0 _ rfl; have s1 := gR.2.1 1 _ rfl; have s2 := gR.2.1 2 _ rfl; have s3 := gR.2.1 3 _ rfl
    go_wp2_with fail
    refine bodyPost_ret (v := .tuple #[.agg #[.string ⟨#[]⟩, .slice none 0 0, .string ⟨#[]⟩, .slice none 0 0], .bool false]) (by simp [results, Tryz.results25, go_sem, s0, s1, s2, s3]) rfl ?_
    exact zy HNO.out ((((hB.setCell (by simp) _).setCell (by simp) _).setCell (by simp) _).setCell (by simp) _).drew
   obtain ⟨e1, e2, rfl⟩ : ∃ a b, l = [a, b] := by match l, hl1 with | [a, b], _ => exact ⟨a, b, rfl⟩
   simp only [List.length_cons, List.length_nil, Nat.zero_add, Nat.reduceAdd] at hrow hkc1 ⊢
   clear hl1
   obtain ⟨kb, ko, rfl, hkbz, hkbm⟩ := zm hrow (by simp)
   have hkb : kb ≠ w.heap.size + 1 := by have := hrf kb hkbm; omega
   obtain ⟨k1, q1, g1, k3, q3, g3, d0, d1, d2, d3, n0, n2, n3, n4, hsub⟩ := Eqn.at hrow (k := 0) (by simp)
   obtain ⟨j1, p1, h1, j3, p3, h3, c0, c1, c2, c3, y0, y2, y3, y4, hsub2⟩ := Eqn.at hrow (k := 1) (by simp)
   simp only [Nat.zero_mul, Nat.one_mul, Nat.add_zero, List.getElem_cons_zero, List.getElem_cons_succ] at d0 d1 d2 d3 n0 n2 n3 n4 c0 c1 c2 c3 y0 y2 y3 y4
   go_upto_region 26 with fail
   clear hX ht hrk hrow hx x0 x1 x2 x3 x4
   cases hs : e1.b.beq e2.a
   ·have HNO : Hid (Wy.tells es (d + 1) (.mk 4 0 t ks) = none) := Lib.hid (Wy.tells_none HLL.out (by simp [zM, hs]))
    have HS := Lib.hid hs
    clear hs
    refine Ever.start (F := (fun U : World => U.cell? ⟨kb, ko + 2, none⟩ = some (.string e1.b.name) ∧ U.cell? ⟨kb, ko + 3, none⟩ = some (.slice k3 e1.b.kids.length q3) ∧ U.cell? ⟨kb, ko + 4, none⟩ = some (.string e2.a.name) ∧ U.cell? ⟨kb, ko + 4 + 1, none⟩ = some (.slice j1 e2.a.kids.length p1))) (by kernel_rfl) ?_
    have hF : (fun U : World => U.cell? ⟨kb, ko + 2, none⟩ = some (.string e1.b.name) ∧ U.cell? ⟨kb, ko + 3, none⟩ = some (.slice k3 e1.b.kids.length q3) ∧ U.cell? ⟨kb, ko + 4, none⟩ = some (.string e2.a.name) ∧ U.cell? ⟨kb, ko + 4 + 1, none⟩ = some (.slice j1 e2.a.kids.length p1)) _ := ⟨d2, d3, c0, c1⟩
    refine Ever.take (i := 0) (v := (.slice (some ⟨kb, ko, none⟩) 2 kc)) rfl (by kernel_rfl) (by kernel_rfl) (by kernel_rfl) (fun _ _ _ h => h) (Or.inl ⟨by rfl, fun U hU => ?_⟩) hF ?_
    ·obtain ⟨d2F, d3F, c0F, c1F⟩ := hU
     go_simp
    try simp only [Act.put, zej, zek, zel]
    refine Ever.take (i := 1) (v := (.int .i64 2)) rfl (by kernel_rfl) (by kernel_rfl) (by kernel_rfl) (fun _ _ _ h => h) (Or.inl ⟨by rfl, fun U hU => ?_⟩) hF ?_
    ·obtain ⟨d2F, d3F, c0F, c1F⟩ := hU
     go_simp
    try simp only [Act.put, zej, zek, zel]
    refine Ever.take (i := 2) (v := (.bool false)) rfl (by kernel_rfl) (by kernel_rfl) (by kernel_rfl) (fun _ _ _ h => h) (Or.inl ⟨by rfl, fun U hU => ?_⟩) hF ?_
    ·obtain ⟨d2F, d3F, c0F, c1F⟩ := hU
     go_simp
    try simp only [Act.put, zej, zek, zel]
    refine Ever.take (i := 3) (v := (.bool false)) rfl (by kernel_rfl) (by kernel_rfl) (by kernel_rfl) (fun _ _ _ h => h) (Or.inl ⟨by rfl, fun U hU => ?_⟩) hF ?_
    ·obtain ⟨d2F, d3F, c0F, c1F⟩ := hU
     go_simp
    try simp only [Act.put, zej, zek, zel]
    refine Ever.take (i := 4) (v := (.slice (some ⟨kb, ko, none⟩) 2 kc)) rfl (by kernel_rfl) (by kernel_rfl) (by kernel_rfl) (fun _ _ _ h => h) (Or.inl ⟨by go_simp, fun U hU => ?_⟩) hF ?_
    ·obtain ⟨d2F, d3F, c0F, c1F⟩ := hU
     go_simp
    try simp only [Act.put, zej, zek, zel]
    refine Ever.take (i := 5) (v := (.pointer (some ⟨kb, ko, none⟩))) rfl (by kernel_rfl) (by kernel_rfl) (by kernel_rfl) (fun _ _ _ h => h) (Or.inl ⟨by go_simp, fun U hU => ?_⟩) hF ?_
    ·obtain ⟨d2F, d3F, c0F, c1F⟩ := hU
     go_simp
    try simp only [Act.put, zej, zek, zel]
    refine Ever.take (i := 6) (v := (.pointer (some ⟨kb, ko + 2, none⟩))) rfl (by kernel_rfl) (by kernel_rfl) (by kernel_rfl) (fun _ _ _ h => h) (Or.inl ⟨by go_simp, fun U hU => ?_⟩) hF ?_
    ·obtain ⟨d2F, d3F, c0F, c1F⟩ := hU
     go_simp
    try simp only [Act.put, zej, zek, zel]
    refine Ever.take (i := 7) (v := (.agg #[.string e1.b.name, .slice k3 e1.b.kids.length q3])) rfl (by kernel_rfl) (by kernel_rfl) (by kernel_rfl) (fun _ _ _ h => h) (Or.inl ⟨by go_simp, fun U hU => ?_⟩) hF ?_
    ·obtain ⟨d2F, d3F, c0F, c1F⟩ := hU
     go_simp
    try simp only [Act.put, zej, zek, zel]
    refine Ever.take (i := 8) (v := (.slice (some ⟨kb, ko, none⟩) 2 kc)) rfl (by kernel_rfl) (by kernel_rfl) (by kernel_rfl) (fun _ _ _ h => h) (Or.inl ⟨by go_simp, fun U hU => ?_⟩) hF ?_
    ·obtain ⟨d2F, d3F, c0F, c1F⟩ := hU
     go_simp
    try simp only [Act.put, zej, zek, zel]
    refine Ever.take (i := 9) (v := (.pointer (some ⟨kb, ko + 4, none⟩))) rfl (by kernel_rfl) (by kernel_rfl) (by kernel_rfl) (fun _ _ _ h => h) (Or.inl ⟨by go_simp, fun U hU => ?_⟩) hF ?_
    ·obtain ⟨d2F, d3F, c0F, c1F⟩ := hU
     go_simp
    try simp only [Act.put, zej, zek, zel]
    refine Ever.take (i := 10) (v := (.pointer (some ⟨kb, ko + 4, none⟩))) rfl (by kernel_rfl) (by kernel_rfl) (by kernel_rfl) (fun _ _ _ h => h) (Or.inl ⟨by go_simp, fun U hU => ?_⟩) hF ?_
    ·obtain ⟨d2F, d3F, c0F, c1F⟩ := hU
     go_simp
    try simp only [Act.put, zej, zek, zel]
    refine Ever.take (i := 11) (v := (.agg #[.string e2.a.name, .slice j1 e2.a.kids.length p1])) rfl (by kernel_rfl) (by kernel_rfl) (by kernel_rfl) (fun _ _ _ h => h) (Or.inl ⟨by go_simp, fun U hU => ?_⟩) hF ?_
    ·obtain ⟨d2F, d3F, c0F, c1F⟩ := hU
     go_simp
    try simp only [Act.put, zej, zek, zel]
    refine Ever.one (i := 12) (by kernel_rfl) rfl (fun J9 hK => ?_)
    go_simp
    go_wp2_with (go_at_call 8; refine (zak e1.b.size e1.b e2.a _ _ _ (Nat.le_refl _) (by exact (TmR.mk n3 ⟨_, n4⟩).drew) (by exact (TmR.mk y0 ⟨_, y2⟩).drew)).mono ?_; rintro e u2 ⟨rfl, hbu⟩)
    rw [HS.out]
    replace hbu := zh hbu
    replace hR := hR.below hbu
    replace hB := hB.trans (hbu.mono hB.size)
    replace d0 := za d0 hbu
    replace d1 := za d1 hbu
    replace d2 := za d2 hbu
    replace d3 := za d3 hbu
    replace c0 := za c0 hbu
    replace c1 := za c1 hbu
    replace c2 := za c2 hbu
    replace c3 := za c3 hbu
    replace n2 := n2.below hbu
    replace n4 := n4.below hbu
    replace y2 := y2.below hbu
    replace y4 := y4.below hbu
    clear hbu
    replace hF : (fun U : World => U.cell? ⟨kb, ko + 2, none⟩ = some (.string e1.b.name) ∧ U.cell? ⟨kb, ko + 3, none⟩ = some (.slice k3 e1.b.kids.length q3) ∧ U.cell? ⟨kb, ko + 4, none⟩ = some (.string e2.a.name) ∧ U.cell? ⟨kb, ko + 4 + 1, none⟩ = some (.slice j1 e2.a.kids.length p1)) _ := ⟨d2, d3, c0, c1⟩
    refine hK.out _ _ hF ?_
    clear hK
    try simp only [Act.put, zej, zek, zel]
    refine Ever.take (i := 13) (v := (.bool true)) rfl (by kernel_rfl) (by kernel_rfl) (by kernel_rfl) (fun _ _ _ h => h) (Or.inl ⟨by go_simp, fun U hU => ?_⟩) hF ?_
    ·obtain ⟨d2F, d3F, c0F, c1F⟩ := hU
     go_simp
    try simp only [Act.put, zej, zek, zel]
    refine Ever.take (i := 14) (v := (.bool true)) rfl (by kernel_rfl) (by kernel_rfl) (by kernel_rfl) (fun _ _ _ h => h) (Or.inl ⟨by rfl, fun U hU => ?_⟩) hF ?_
    ·obtain ⟨d2F, d3F, c0F, c1F⟩ := hU
     go_simp
    try simp only [Act.put, zej, zek, zel]
    refine Ever.done (by kernel_rfl) ?_ _
    clear hF d0 d1 d2 d3 c0 c1 c2 c3 n2 n4 y2 y4
    have r0 := hR.2.1 0 _ rfl; have zz0 := hR.2.2 0
    have r1 := hR.2.1 1 _ rfl; have zz1 := hR.2.2 1
    have r2 := hR.2.1 2 _ rfl; have zz2 := hR.2.2 2
    have r3 := hR.2.1 3 _ rfl; have zz3 := hR.2.2 3
    have gR := (((hR.put (k := 0) (by simp) (.string ⟨#[]⟩)).put (k := 1) (by simp) (.slice none 0 0)).put (k := 2) (by simp) (.string ⟨#[]⟩)).put (k := 3) (by simp) (.slice none 0 0)
    simp only [zek, zel] at gR
    have s0 := gR.2.1 0 _ rfl; have s1 := gR.2.1 1 _ rfl; have s2 := gR.2.1 2 _ rfl; have s3 := gR.2.1 3 _ rfl
    go_wp2_with fail
    refine bodyPost_ret (v := .tuple #[.agg #[.string ⟨#[]⟩, .slice none 0 0, .string ⟨#[]⟩, .slice none 0 0], .bool false]) (by simp [results, Tryz.results25, go_sem, s0, s1, s2, s3]) rfl ?_
    exact zy HNO.out ((((hB.setCell (by simp) _).setCell (by simp) _).setCell (by simp) _).setCell (by simp) _)
   have HS := Lib.hid hs
   have HY : Hid (Wy.tells es (d + 1) (.mk 4 0 t ks) = if true = true then some ⟨e1.a, e2.b⟩ else none) := Lib.hid (Wy.tells_some HLL.out (by have := HNT.out; simp [zM, this, hs]))
   clear hs
   refine Ever.start (F := (fun U : World => U.cell? ⟨kb, ko + 2, none⟩ = some (.string e1.b.name) ∧ U.cell? ⟨kb, ko + 3, none⟩ = some (.slice k3 e1.b.kids.length q3) ∧ U.cell? ⟨kb, ko + 4, none⟩ = some (.string e2.a.name) ∧ U.cell? ⟨kb, ko + 4 + 1, none⟩ = some (.slice j1 e2.a.kids.length p1))) (by kernel_rfl) ?_
   have hF : (fun U : World => U.cell? ⟨kb, ko + 2, none⟩ = some (.string e1.b.name) ∧ U.cell? ⟨kb, ko + 3, none⟩ = some (.slice k3 e1.b.kids.length q3) ∧ U.cell? ⟨kb, ko + 4, none⟩ = some (.string e2.a.name) ∧ U.cell? ⟨kb, ko + 4 + 1, none⟩ = some (.slice j1 e2.a.kids.length p1)) _ := ⟨d2, d3, c0, c1⟩
   refine Ever.take (i := 0) (v := (.slice (some ⟨kb, ko, none⟩) 2 kc)) rfl (by kernel_rfl) (by kernel_rfl) (by kernel_rfl) (fun _ _ _ h => h) (Or.inl ⟨by rfl, fun U hU => ?_⟩) hF ?_
   ·obtain ⟨d2F, d3F, c0F, c1F⟩ := hU
    go_simp
   try simp only [Act.put, zej, zek, zel]
   refine Ever.take (i := 1) (v := (.int .i64 2)) rfl (by kernel_rfl) (by kernel_rfl) (by kernel_rfl) (fun _ _ _ h => h) (Or.inl ⟨by rfl, fun U hU => ?_⟩) hF ?_
   ·obtain ⟨d2F, d3F, c0F, c1F⟩ := hU
    go_simp
   try simp only [Act.put, zej, zek, zel]
   refine Ever.take (i := 2) (v := (.bool false)) rfl (by kernel_rfl) (by kernel_rfl) (by kernel_rfl) (fun _ _ _ h => h) (Or.inl ⟨by rfl, fun U hU => ?_⟩) hF ?_
   ·obtain ⟨d2F, d3F, c0F, c1F⟩ := hU
    go_simp
   try simp only [Act.put, zej, zek, zel]
   refine Ever.take (i := 3) (v := (.bool false)) rfl (by kernel_rfl) (by kernel_rfl) (by kernel_rfl) (fun _ _ _ h => h) (Or.inl ⟨by rfl, fun U hU => ?_⟩) hF ?_
   ·obtain ⟨d2F, d3F, c0F, c1F⟩ := hU
    go_simp
   try simp only [Act.put, zej, zek, zel]
   refine Ever.take (i := 4) (v := (.slice (some ⟨kb, ko, none⟩) 2 kc)) rfl (by kernel_rfl) (by kernel_rfl) (by kernel_rfl) (fun _ _ _ h => h) (Or.inl ⟨by go_simp, fun U hU => ?_⟩) hF ?_
   ·obtain ⟨d2F, d3F, c0F, c1F⟩ := hU
    go_simp
   try simp only [Act.put, zej, zek, zel]
   refine Ever.take (i := 5) (v := (.pointer (some ⟨kb, ko, none⟩))) rfl (by kernel_rfl) (by kernel_rfl) (by kernel_rfl) (fun _ _ _ h => h) (Or.inl ⟨by go_simp, fun U hU => ?_⟩) hF ?_
   ·obtain ⟨d2F, d3F, c0F, c1F⟩ := hU
    go_simp
   try simp only [Act.put, zej, zek, zel]
   refine Ever.take (i := 6) (v := (.pointer (some ⟨kb, ko + 2, none⟩))) rfl (by kernel_rfl) (by kernel_rfl) (by kernel_rfl) (fun _ _ _ h => h) (Or.inl ⟨by go_simp, fun U hU => ?_⟩) hF ?_
   ·obtain ⟨d2F, d3F, c0F, c1F⟩ := hU
    go_simp
   try simp only [Act.put, zej, zek, zel]
   refine Ever.take (i := 7) (v := (.agg #[.string e1.b.name, .slice k3 e1.b.kids.length q3])) rfl (by kernel_rfl) (by kernel_rfl) (by kernel_rfl) (fun _ _ _ h => h) (Or.inl ⟨by go_simp, fun U hU => ?_⟩) hF ?_
   ·obtain ⟨d2F, d3F, c0F, c1F⟩ := hU
    go_simp
   try simp only [Act.put, zej, zek, zel]
   refine Ever.take (i := 8) (v := (.slice (some ⟨kb, ko, none⟩) 2 kc)) rfl (by kernel_rfl) (by kernel_rfl) (by kernel_rfl) (fun _ _ _ h => h) (Or.inl ⟨by go_simp, fun U hU => ?_⟩) hF ?_
   ·obtain ⟨d2F, d3F, c0F, c1F⟩ := hU
    go_simp
   try simp only [Act.put, zej, zek, zel]
   refine Ever.take (i := 9) (v := (.pointer (some ⟨kb, ko + 4, none⟩))) rfl (by kernel_rfl) (by kernel_rfl) (by kernel_rfl) (fun _ _ _ h => h) (Or.inl ⟨by go_simp, fun U hU => ?_⟩) hF ?_
   ·obtain ⟨d2F, d3F, c0F, c1F⟩ := hU
    go_simp
   try simp only [Act.put, zej, zek, zel]
   refine Ever.take (i := 10) (v := (.pointer (some ⟨kb, ko + 4, none⟩))) rfl (by kernel_rfl) (by kernel_rfl) (by kernel_rfl) (fun _ _ _ h => h) (Or.inl ⟨by go_simp, fun U hU => ?_⟩) hF ?_
   ·obtain ⟨d2F, d3F, c0F, c1F⟩ := hU
    go_simp
   try simp only [Act.put, zej, zek, zel]
   refine Ever.take (i := 11) (v := (.agg #[.string e2.a.name, .slice j1 e2.a.kids.length p1])) rfl (by kernel_rfl) (by kernel_rfl) (by kernel_rfl) (fun _ _ _ h => h) (Or.inl ⟨by go_simp, fun U hU => ?_⟩) hF ?_
   ·obtain ⟨d2F, d3F, c0F, c1F⟩ := hU
    go_simp
   try simp only [Act.put, zej, zek, zel]
   refine Ever.one (i := 12) (by kernel_rfl) rfl (fun J9 hK => ?_)
   go_simp
   go_wp2_with (go_at_call 8; refine (zak e1.b.size e1.b e2.a _ _ _ (Nat.le_refl _) (by exact (TmR.mk n3 ⟨_, n4⟩).drew) (by exact (TmR.mk y0 ⟨_, y2⟩).drew)).mono ?_; rintro e u2 ⟨rfl, hbu⟩)
   rw [HS.out]
   replace hbu := zh hbu
   replace hR := hR.below hbu
   replace hB := hB.trans (hbu.mono hB.size)
   replace d0 := za d0 hbu
   replace d1 := za d1 hbu
   replace d2 := za d2 hbu
   replace d3 := za d3 hbu
   replace c0 := za c0 hbu
   replace c1 := za c1 hbu
   replace c2 := za c2 hbu
   replace c3 := za c3 hbu
   replace n2 := n2.below hbu
   replace n4 := n4.below hbu
   replace y2 := y2.below hbu
   replace y4 := y4.below hbu
   clear hbu
   replace hF : (fun U : World => U.cell? ⟨kb, ko + 2, none⟩ = some (.string e1.b.name) ∧ U.cell? ⟨kb, ko + 3, none⟩ = some (.slice k3 e1.b.kids.length q3) ∧ U.cell? ⟨kb, ko + 4, none⟩ = some (.string e2.a.name) ∧ U.cell? ⟨kb, ko + 4 + 1, none⟩ = some (.slice j1 e2.a.kids.length p1)) _ := ⟨d2, d3, c0, c1⟩
   refine hK.out _ _ hF ?_
   clear hK
   try simp only [Act.put, zej, zek, zel]
   refine Ever.take (i := 13) (v := (.bool false)) rfl (by kernel_rfl) (by kernel_rfl) (by kernel_rfl) (fun _ _ _ h => h) (Or.inl ⟨by go_simp, fun U hU => ?_⟩) hF ?_
   ·obtain ⟨d2F, d3F, c0F, c1F⟩ := hU
    go_simp
   try simp only [Act.put, zej, zek, zel]
   refine Ever.take (i := 14) (v := (.bool false)) rfl (by kernel_rfl) (by kernel_rfl) (by kernel_rfl) (fun _ _ _ h => h) (Or.inl ⟨by rfl, fun U hU => ?_⟩) hF ?_
   ·obtain ⟨d2F, d3F, c0F, c1F⟩ := hU
    go_simp
   try simp only [Act.put, zej, zek, zel]
   refine Ever.done (by kernel_rfl) ?_ _
   go_upto_region 28 with fail
   refine Ever.start (F := (fun U : World => U.cell? ⟨kb, ko, none⟩ = some (.string e1.a.name) ∧ U.cell? ⟨kb, ko + 1, none⟩ = some (.slice k1 e1.a.kids.length q1) ∧ U.cell? ⟨kb, ko + 4 + 2, none⟩ = some (.string e2.b.name) ∧ U.cell? ⟨kb, ko + 4 + 3, none⟩ = some (.slice j3 e2.b.kids.length p3))) (by kernel_rfl) ?_
   have hF : (fun U : World => U.cell? ⟨kb, ko, none⟩ = some (.string e1.a.name) ∧ U.cell? ⟨kb, ko + 1, none⟩ = some (.slice k1 e1.a.kids.length q1) ∧ U.cell? ⟨kb, ko + 4 + 2, none⟩ = some (.string e2.b.name) ∧ U.cell? ⟨kb, ko + 4 + 3, none⟩ = some (.slice j3 e2.b.kids.length p3)) _ := ⟨d0, d1, c2, c3⟩
   refine Ever.take (i := 0) (v := (.slice (some ⟨kb, ko, none⟩) 2 kc)) rfl (by kernel_rfl) (by kernel_rfl) (by kernel_rfl) (fun _ _ _ h => h) (Or.inl ⟨by rfl, fun U hU => ?_⟩) hF ?_
   ·obtain ⟨d0F, d1F, c2F, c3F⟩ := hU
    go_simp
   try simp only [Act.put, zej, zek, zel]
   refine Ever.take (i := 1) (v := (.pointer (some ⟨kb, ko, none⟩))) rfl (by kernel_rfl) (by kernel_rfl) (by kernel_rfl) (fun _ _ _ h => h) (Or.inl ⟨by rfl, fun U hU => ?_⟩) hF ?_
   ·obtain ⟨d0F, d1F, c2F, c3F⟩ := hU
    go_simp
   try simp only [Act.put, zej, zek, zel]
   refine Ever.take (i := 2) (v := (.pointer (some ⟨kb, ko, none⟩))) rfl (by kernel_rfl) (by kernel_rfl) (by kernel_rfl) (fun _ _ _ h => h) (Or.inl ⟨by rfl, fun U hU => ?_⟩) hF ?_
   ·obtain ⟨d0F, d1F, c2F, c3F⟩ := hU
    go_simp
   try simp only [Act.put, zej, zek, zel]
   refine Ever.take (i := 3) (v := (.agg #[.string e1.a.name, .slice k1 e1.a.kids.length q1])) rfl (by kernel_rfl) (by kernel_rfl) (by kernel_rfl) (fun _ _ _ h => h) (Or.inl ⟨by rfl, fun U hU => ?_⟩) hF ?_
   ·obtain ⟨d0F, d1F, c2F, c3F⟩ := hU
    go_simp
   try simp only [Act.put, zej, zek, zel]
   refine Ever.take (i := 4) (v := (.slice (some ⟨kb, ko, none⟩) 2 kc)) rfl (by kernel_rfl) (by kernel_rfl) (by kernel_rfl) (fun _ _ _ h => h) (Or.inl ⟨by rfl, fun U hU => ?_⟩) hF ?_
   ·obtain ⟨d0F, d1F, c2F, c3F⟩ := hU
    go_simp
   try simp only [Act.put, zej, zek, zel]
   refine Ever.take (i := 5) (v := (.pointer (some ⟨kb, ko + 4, none⟩))) rfl (by kernel_rfl) (by kernel_rfl) (by kernel_rfl) (fun _ _ _ h => h) (Or.inl ⟨by rfl, fun U hU => ?_⟩) hF ?_
   ·obtain ⟨d0F, d1F, c2F, c3F⟩ := hU
    go_simp
   try simp only [Act.put, zej, zek, zel]
   refine Ever.take (i := 6) (v := (.pointer (some ⟨kb, ko + 4 + 2, none⟩))) rfl (by kernel_rfl) (by kernel_rfl) (by kernel_rfl) (fun _ _ _ h => h) (Or.inl ⟨by rfl, fun U hU => ?_⟩) hF ?_
   ·obtain ⟨d0F, d1F, c2F, c3F⟩ := hU
    go_simp
   try simp only [Act.put, zej, zek, zel]
   refine Ever.take (i := 7) (v := (.agg #[.string e2.b.name, .slice j3 e2.b.kids.length p3])) rfl (by kernel_rfl) (by kernel_rfl) (by kernel_rfl) (fun _ _ _ h => h) (Or.inl ⟨by rfl, fun U hU => ?_⟩) hF ?_
   ·obtain ⟨d0F, d1F, c2F, c3F⟩ := hU
    go_simp
   try simp only [Act.put, zej, zek, zel]
   refine Ever.take (i := 8) (v := (.agg #[.string e1.a.name, .slice k1 e1.a.kids.length q1, .string e2.b.name, .slice j3 e2.b.kids.length p3])) rfl (by kernel_rfl) (by kernel_rfl) (by kernel_rfl) (fun _ _ _ h => h) (Or.inl ⟨by rfl, fun U hU => ?_⟩) hF ?_
   ·obtain ⟨d0F, d1F, c2F, c3F⟩ := hU
    go_simp
   try simp only [Act.put, zej, zek, zel]
   refine Ever.one (i := 9) (by kernel_rfl) rfl (fun J9 hK => ?_)
   have r0 := hR.2.1 0 _ rfl; have zz0 := hR.2.2 0
   have r1 := hR.2.1 1 _ rfl; have zz1 := hR.2.2 1
   have r2 := hR.2.1 2 _ rfl; have zz2 := hR.2.2 2
   have r3 := hR.2.1 3 _ rfl; have zz3 := hR.2.2 3
   go_simp
   have gR := (((hR.put (k := 0) (by simp) (.string e1.a.name)).put (k := 1) (by simp) (.slice k1 e1.a.kids.length q1)).put (k := 2) (by simp) (.string e2.b.name)).put (k := 3) (by simp) (.slice j3 e2.b.kids.length p3)
   simp only [zek, zel] at gR
   replace hF : (fun U : World => U.cell? ⟨kb, ko, none⟩ = some (.string e1.a.name) ∧ U.cell? ⟨kb, ko + 1, none⟩ = some (.slice k1 e1.a.kids.length q1) ∧ U.cell? ⟨kb, ko + 4 + 2, none⟩ = some (.string e2.b.name) ∧ U.cell? ⟨kb, ko + 4 + 3, none⟩ = some (.slice j3 e2.b.kids.length p3)) _ := ⟨so4 (v0 := .string e1.a.name) (v1 := .slice k1 e1.a.kids.length q1) (v2 := .string e2.b.name) (v3 := .slice j3 e2.b.kids.length p3) hkb d0, so4 (v0 := .string e1.a.name) (v1 := .slice k1 e1.a.kids.length q1) (v2 := .string e2.b.name) (v3 := .slice j3 e2.b.kids.length p3) hkb d1, so4 (v0 := .string e1.a.name) (v1 := .slice k1 e1.a.kids.length q1) (v2 := .string e2.b.name) (v3 := .slice j3 e2.b.kids.length p3) hkb c2, so4 (v0 := .string e1.a.name) (v1 := .slice k1 e1.a.kids.length q1) (v2 := .string e2.b.name) (v3 := .slice j3 e2.b.kids.length p3) hkb c3⟩
   refine hK.out _ _ hF ?_
   clear hK
   try simp only [Act.put, zej, zek, zel]
   refine Ever.one (i := 10) (by kernel_rfl) rfl (fun J9 hK => ?_)
   go_simp
   refine hK.out _ _ hF ?_
   clear hK
   try simp only [Act.put, zej, zek, zel]
   refine Ever.done (by kernel_rfl) ?_ _
   have s0 := gR.2.1 0 _ rfl; have s1 := gR.2.1 1 _ rfl; have s2 := gR.2.1 2 _ rfl; have s3 := gR.2.1 3 _ rfl
   go_wp2_with fail
   refine bodyPost_ret (v := .tuple #[.agg #[.string e1.a.name, .slice k1 e1.a.kids.length q1, .string e2.b.name, .slice j3 e2.b.kids.length p3], .bool true]) (by simp [results, Tryz.results25, go_sem, s0, s1, s2, s3]) rfl ?_
   have hq := (Eqn.close (x := ⟨e1.a, e2.b⟩) n0 n2 y3 y4).same _ (fun b hb => zc8 (r := w.heap.size + 1) (v0 := .string e1.a.name) (v1 := .slice k1 e1.a.kids.length q1) (v2 := .string e2.b.name) (v3 := .slice j3 e2.b.kids.length p3) b (by have := (show b < lo ∨ w.heap.size + 1 + 1 ≤ b from (by rcases zer.1 hb with h | h; exact hrf b (hsub b (by simp [h])); exact hrf b (hsub2 b (by simp [h])))); omega))
   replace hq := hq.below (zi _)
   exact zaM (q := ⟨e1.a, e2.b⟩) HY.out hq (fun b hb => by have := (show b < lo ∨ w.heap.size + 1 + 1 ≤ b from (by rcases zer.1 hb with h | h; exact hrf b (hsub b (by simp [h])); exact hrf b (hsub2 b (by simp [h])))); omega) ((((hB.setCell (by simp) _).setCell (by simp) _).setCell (by simp) _).setCell (by simp) _).drew
end Go.Proofs.YtlefdhhnlbpbkaaGreat
end
