/- Parts of the proof: WhyB2. -/
import Derived.Deep.RegionHeld3
import Derived.BigQuiet
import Derived.BigRegion
import Derived.Deep.CutRange
import Derived.Test.YtlefdhhnlbpbkaaGreatPt17
import Derived.Test.YtlefdhhnlbpbkaaGreatPt9
section
namespace Go.Proofs.YtlefdhhnlbpbkaaGreat
open Go Go.RowKit
set_option linter.unusedVariables false
set_option linter.unusedSimpArgs false
set_option maxRecDepth 100000
set_option maxHeartbeats 16000000
theorem zer (es : List Eqn) (ev : Value) (ef : List Nat) (lo : Nat) (hel : es.length ≤ 1048576) (hes : ∀ e ∈ es, e.lit) (helo : ∀ b ∈ ef, b < lo) (n : Nat) (ih : ∀ (x : Wy) (vs : List Value) (xf : List Nat) (d : Nat) (D : Int) (w : World), ndV x.cd ≤ n → x.thin → D = d → d ≤ 400 → lo ≤ w.heap.size → (∀ b ∈ xf, b < lo) → RdVs w x.cd vs xf → Rd w (.sl (es.map Eqn.cd)) ev ef →
  Calls Tryz.prog 27 #[ev, .agg vs.toArray, .int .i64 D] w (zz lo (Wy.tells es d x) w)) :
  ∀ (x : Wy) (vs : List Value) (xf : List Nat) (d : Nat) (D : Int) (w : World), ndV x.cd ≤ (n + 1) → x.thin → x.rule = 2 → D = d → d ≤ 400 → lo ≤ w.heap.size → (∀ b ∈ xf, b < lo) → RdVs w x.cd vs xf → Rd w (.sl (es.map Eqn.cd)) ev ef →
  Calls Tryz.prog 27 #[ev, .agg vs.toArray, .int .i64 D] w (zz lo (Wy.tells es d x) w) := by
 intro x vs xf d D w hn hbig hru hDd hd hlo hxlo hv hx
 obtain ⟨a3, c3, f3, a4, c4, f4, rfl, rfl, m0, m1, m2, m3, m4⟩ := Wy.open hv
 obtain ⟨ea, ec, rfl, hec1, hec2⟩ := zc hx
 have hnk : ∀ y ∈ x.kids, ndV y.cd ≤ n := fun y hy => by have := Wy.kid_nd hy; omega
 have hkw : x.kids.length ≤ 1048576 ∧ ∀ y ∈ x.kids, y.thin := Wy.thin_kids hbig
 have hts := Wy.thin_size hbig
 obtain ⟨r, nn, t, ks⟩ := x
 simp only [Wy.rule] at hru
 subst hru
 simp only [Wy.rule, Wy.n, Wy.t, Wy.kids] at m0 m1 m2 m3 m4 hnk hkw hv hxlo hts ⊢
 have HNK := Lib.hid hnk
 have HKW := Lib.hid hkw.2
 have HES := Lib.hid hes
 have hkl1 := hkw.1
 have hf3 : ∀ b ∈ f3, b < lo := fun b hb => hxlo b (by simp [hb])
 have hf4 : ∀ b ∈ f4, b < lo := fun b hb => hxlo b (by simp [hb])
 have IH := Lib.hid ih
 clear ih hnk hkw hbig hn hv hxlo hes
 have hX := (Bx.new w [.int .i64 2, .int .i64 nn, .string t.name, .slice a3 t.kids.length c3, .slice a4 ks.length c4] 32).alloc (.cells #[.string ⟨#[]⟩, .slice none 0 0, .string ⟨#[]⟩, .slice none 0 0] 36)
 have hR := Bx.new (w.alloc (.cells #[.int .i64 2, .int .i64 nn, .string t.name, .slice a3 t.kids.length c3, .slice a4 ks.length c4] 32)) [.string ⟨#[]⟩, .slice none 0 0, .string ⟨#[]⟩, .slice none 0 0] 36
 rw [World.size_alloc] at hR
 have hB : Below w.heap.size w ((w.alloc (.cells #[.int .i64 2, .int .i64 nn, .string t.name, .slice a3 t.kids.length c3, .slice a4 ks.length c4] 32)).alloc (.cells #[.string ⟨#[]⟩, .slice none 0 0, .string ⟨#[]⟩, .slice none 0 0] 36)) := ((Below.refl _ _).alloc (Nat.le_refl _) _).alloc (by simp) _
 go_enter Tryz.func27, Tryz.ntmps27
 go_upto_region 1 with fail
 generalize (w.alloc (.cells #[.int .i64 2, .int .i64 nn, .string t.name, .slice a3 t.kids.length c3, .slice a4 ks.length c4] 32)).alloc (.cells #[.string ⟨#[]⟩, .slice none 0 0, .string ⟨#[]⟩, .slice none 0 0] 36) = W0 at *
 have x2 := hX.2.1 2 _ rfl; have x3 := hX.2.1 3 _ rfl
 have HB : Hid (zaf t = (t.name.toList == [] && ((t.kids.length : Int) == 0))) := Lib.hid rfl
 go_cut [8] from 15 to 26 (fun bv wx => bv = .bool (zaf t) ∧ Below W0.heap.size W0 wx)
 case first =>
  cases h1 : (t.name.toList == [])
  all_goals
   have H1 := Lib.hid h1
   go_wp2_with fail
   go_meet
   case rel => exact ⟨by rw [HB.out, H1.out]; first | rfl | simp | (simp [Bool.beq_eq_decide_eq]), Below.refl _ _⟩
 case rest =>
 clear HB x2 x3
 obtain ⟨rfl, hbc⟩ := hcut
 obtain ⟨wx, rfl⟩ : ∃ x, x = wc := ⟨_, rfl⟩
 replace hX := hX.below hbc
 replace hR := hR.below hbc
 replace hB := hB.trans (hbc.mono hB.size)
 clear hbc
 obtain ⟨bn, hbn⟩ : ∃ b, zaf t = b := ⟨_, rfl⟩
 have HNT := Lib.hid hbn
 rw [hbn]
 clear hbn
 have hba := zb wx (.cells #[] 36)
 have hown := Own.empty wx (w.heap.size + 1 + 1) 36 4 hR.1
 have hW1 : w.heap.size + 1 + 1 ≤ wx.heap.size := hR.1
 replace hX := hX.below hba
 replace hR := hR.below hba
 replace hB := hB.trans (hba.mono hB.size)
 go_upto_region 3 with fail
 obtain ⟨K0, hK0⟩ : ∃ K, K = wx.heap.size := ⟨_, rfl⟩
 rw [← hK0] at hown ⊢
 have hW2 : wx.heap.size + 1 ≤ (wx.alloc (.cells #[] 36)).heap.size := by simp
 have hK1 : w.heap.size + 1 + 1 ≤ K0 := by omega
 clear hba hK0
 generalize wx.alloc (.cells #[] 36) = W at *
 have hDa : D ≤ (d : Int) := by omega
 have hDb : (d : Int) ≤ D := by omega
 have hD2 : D ≤ 400 := by omega
 have hD0 : 0 ≤ D := by omega
 clear hDd
 go_wp2_with fail
 go_loopw [9, 10] (fun kv iv wr => ∃ (k : Nat) (l : List Eqn) (kf : List Nat), k ≤ ks.length ∧ iv = .int .i64 k ∧ Hid (∀ e, d = e + 1 → Wy.tellsL es e (ks.take k) = some l) ∧ l.length ≤ k ∧ k ≤ l.length ∧ Own wr (w.heap.size + 1 + 1) 36 4 kv (l.map Eqn.cd) kf ∧ (∀ b ∈ kf, b < lo ∨ w.heap.size + 1 + 1 ≤ b) ∧ w.heap.size + 1 + 1 ≤ wr.heap.size ∧ Below (w.heap.size + 1 + 1) W wr) (fun _ iv _ => ks.length - (intOf iv).toNat)
 case atStart => exact ⟨0, [], [], Nat.zero_le _, rfl, Lib.hid (fun e _ => by simp [Wy.tellsL]), Nat.le_refl _, Nat.le_refl _, hown, by simp, by omega, Below.refl _ _⟩
 case round =>
  clear hown
  obtain ⟨k, l, kf, hkl, rfl, HL0, hl1, hl2, hown, hkf, hz, hb⟩ := hrel
  replace hX : Bx [.int .i64 2, .int .i64 nn, .string t.name, .slice a3 t.kids.length c3, .slice a4 ks.length c4] w.heap.size wr := hX.belowB hb (by omega)
  replace hR : Bx [.string ⟨#[]⟩, .slice none 0 0, .string ⟨#[]⟩, .slice none 0 0] (w.heap.size + 1) wr := hR.belowB hb (by omega)
  replace hB := hB.trans (hb.mono (by omega))
  have x0 := hX.2.1 0 _ rfl; have x1 := hX.2.1 1 _ rfl; have x2 := hX.2.1 2 _ rfl; have x3 := hX.2.1 3 _ rfl; have x4 := hX.2.1 4 _ rfl
  cases d with
  | zero =>
   have hdd : decide ((0 : Int) < D) = false := decide_eq_false (by omega)
   have hde : decide (D < 1) = true := decide_eq_true (by omega)
   have HNO : Hid (Wy.tells es 0 (.mk 2 nn t ks) = none) := Lib.hid (Wy.tells_zero _)
   by_cases hlt : k < ks.length
   ·have r0 := hR.2.1 0 _ rfl; have zz0 := hR.2.2 0
    have r1 := hR.2.1 1 _ rfl; have zz1 := hR.2.2 1
    have r2 := hR.2.1 2 _ rfl; have zz2 := hR.2.2 2
    have r3 := hR.2.1 3 _ rfl; have zz3 := hR.2.2 3
    have gR := (((hR.put (k := 0) (by simp) (.string ⟨#[]⟩)).put (k := 1) (by simp) (.slice none 0 0)).put (k := 2) (by simp) (.string ⟨#[]⟩)).put (k := 3) (by simp) (.slice none 0 0)
    simp only [zeB, zeC] at gR
    have s0 := gR.2.1 0 _ rfl; have s1 := gR.2.1 1 _ rfl; have s2 := gR.2.1 2 _ rfl; have s3 := gR.2.1 3 _ rfl
    go_wp2_with fail
    refine bodyPost_ret (v := .tuple #[.agg #[.string ⟨#[]⟩, .slice none 0 0, .string ⟨#[]⟩, .slice none 0 0], .bool false]) (by simp [results, Tryz.results27, go_sem, s0, s1, s2, s3]) rfl ?_
    exact zl HNO.out ((((hB.setCell (by simp) _).setCell (by simp) _).setCell (by simp) _).setCell (by simp) _)
   ·have r0 := hR.2.1 0 _ rfl; have zz0 := hR.2.2 0
    have r1 := hR.2.1 1 _ rfl; have zz1 := hR.2.2 1
    have r2 := hR.2.1 2 _ rfl; have zz2 := hR.2.2 2
    have r3 := hR.2.1 3 _ rfl; have zz3 := hR.2.2 3
    have gR := (((hR.put (k := 0) (by simp) (.string ⟨#[]⟩)).put (k := 1) (by simp) (.slice none 0 0)).put (k := 2) (by simp) (.string ⟨#[]⟩)).put (k := 3) (by simp) (.slice none 0 0)
    simp only [zeB, zeC] at gR
    have s0 := gR.2.1 0 _ rfl; have s1 := gR.2.1 1 _ rfl; have s2 := gR.2.1 2 _ rfl; have s3 := gR.2.1 3 _ rfl
    go_wp2_with fail
    refine bodyPost_ret (v := .tuple #[.agg #[.string ⟨#[]⟩, .slice none 0 0, .string ⟨#[]⟩, .slice none 0 0], .bool false]) (by simp [results, Tryz.results27, go_sem, s0, s1, s2, s3]) rfl ?_
    exact zl HNO.out ((((hB.setCell (by simp) _).setCell (by simp) _).setCell (by simp) _).setCell (by simp) _)
  | succ d =>
  have HL : Hid (Wy.tellsL es d (ks.take k) = some l) := Lib.hid (HL0.out d rfl)
  clear HL0
  have hD1 : 1 ≤ D := by omega
  have hdd : decide ((0 : Int) < D) = true := decide_eq_true (by omega)
  have hde : decide (D < 1) = false := decide_eq_false (by omega)
  by_cases hlt : k < ks.length
  ·obtain ⟨b, off, rfl, hbs, hbm⟩ := zo m4 (by omega)
   obtain ⟨ka3, kc3, kf3, ka4, kc4, kf4, d0, d1, d2, d3, d4, n0, n1, n2, n3, n4, hsub⟩ := Wy.at (m4.below hB) hlt
   have hkr := Wy.close n0 n1 n2 n3 n4
   have hklo : ∀ y ∈ kf3 ++ kf4, y < lo := fun y hy => hf4 y (hsub y hy)
   clear n0 n1 n2 n3 n4 hsub
   have hx1 := hx.below hB
   go_wp2_with fail
   refine (IH.out ks[k] _ _ d (D - 1) _ (HNK.out _ (zeJ hlt)) (HKW.out _ (zeJ hlt)) (by omega) (by omega) (by omega) hklo (by exact hkr) (by exact hx1)).mono ?_
   rintro e w2 ⟨n0, a1, p1, q1, n2, a5, p3, q3, rfl, hq, hb2⟩
   clear hkr hx1 d0 d1 d2 d3 d4 x0 x1 x2 x3 x4
   obtain ⟨o, ho⟩ : ∃ o, o = Wy.tells es d ks[k] := ⟨_, rfl⟩
   rw [← ho] at hq ⊢
   have HO := Lib.hid ho
   clear ho
   have hbe := zb w2 (.cells #[.string n0, .slice a1 p1 q1, .string n2, .slice a5 p3 q3] 36)
   replace hX := (hX.below hb2).below hbe
   replace hR := (hR.below hb2).below hbe
   have hb12 := hb2.trans (hbe.mono hb2.size)
   replace hB := hB.trans (hb12.mono hB.size)
   have hown2 := hown.below hb12
   have hE := Bx.new w2 [.string n0, .slice a1 p1 q1, .string n2, .slice a5 p3 q3] 36
   have hz2 := hb12.size
   have hbW := hb.trans (hb12.mono (by omega))
   cases o with
   | none =>
    have HNO := Lib.hid (Wy.tells_bad (r := 2) (n := nn) (t := t) (Wy.tellsL_no hlt HL.out HO.out.symm))
    go_upto_region 8 with fail
    clear hE
    generalize w2.alloc (.cells #[.string n0, .slice a1 p1 q1, .string n2, .slice a5 p3 q3] 36) = U at *
    have r0 := hR.2.1 0 _ rfl; have zz0 := hR.2.2 0
    have r1 := hR.2.1 1 _ rfl; have zz1 := hR.2.2 1
    have r2 := hR.2.1 2 _ rfl; have zz2 := hR.2.2 2
    have r3 := hR.2.1 3 _ rfl; have zz3 := hR.2.2 3
    have gR := (((hR.put (k := 0) (by simp) (.string ⟨#[]⟩)).put (k := 1) (by simp) (.slice none 0 0)).put (k := 2) (by simp) (.string ⟨#[]⟩)).put (k := 3) (by simp) (.slice none 0 0)
    simp only [zeB, zeC] at gR
    have s0 := gR.2.1 0 _ rfl; have s1 := gR.2.1 1 _ rfl; have s2 := gR.2.1 2 _ rfl; have s3 := gR.2.1 3 _ rfl
    go_wp2_with fail
    refine bodyPost_ret (v := .tuple #[.agg #[.string ⟨#[]⟩, .slice none 0 0, .string ⟨#[]⟩, .slice none 0 0], .bool false]) (by simp [results, Tryz.results27, go_sem, s0, s1, s2, s3]) rfl ?_
    exact zl HNO.out ((((hB.setCell (by simp) _).setCell (by simp) _).setCell (by simp) _).setCell (by simp) _)
   | some q =>
    obtain ⟨f, hrq, hfq⟩ := hq q rfl
    have HL2 := Lib.hid (Wy.tellsL_yes hlt HL.out HO.out.symm)
    replace hrq := hrq.below hbe
    go_upto_region 9 with fail
    clear hq hbe hb2
    obtain ⟨BE, hBE⟩ : ∃ B, B = w2.heap.size := ⟨_, rfl⟩
    rw [← hBE] at hE ⊢
    clear hBE
    generalize w2.alloc (.cells #[.string n0, .slice a1 p1 q1, .string n2, .slice a5 p3 q3] 36) = U at *
    have e0 := hE.2.1 0 _ rfl; have e1 := hE.2.1 1 _ rfl; have e2 := hE.2.1 2 _ rfl; have e3 := hE.2.1 3 _ rfl
    have hba := zb U (.cells #[.string n0, .slice a1 p1 q1, .string n2, .slice a5 p3 q3] 36)
    have hown3 := hown2.below hba
    have hrq3 := hrq.below hba
    have hlm : (l.map Eqn.cd).length ≤ 1048576 := by rw [zeN]; omega
    go_wp2_with (at_builtin; refine zp zI rfl _ _ rfl (w.heap.size + 1 + 1) _ _ _ rfl hown3 ⟨U.heap.size, 0, none⟩ 1 1 [q.cd] [.string n0, .slice a1 p1 q1, .string n2, .slice a5 p3 q3] f rfl rfl ?rd ?k ?cells ?na ?bytes ?len ?base ?next)
    case rd => simpa using hrq3
    case k => simp [Eqn.cd_len]
    case cells => exact zn _ _ _
    case na => exact fun y hy e => by have := hown.block e; rcases hfq y hy with h | h <;> omega
    case bytes => first | omega | (simp; omega)
    case len => first | omega | (simp; omega)
    case base => simp; omega
    case next =>
     intro v' w' hown' hg hv' hs'
     go_wp2_with fail
     go_roundw
     case rel => exact ⟨k + 1, l ++ [q], _, by omega, by go_num, Lib.hid (fun e he => by (have e1 : e = d := by omega); rw [e1]; exact HL2.out), by simp; omega, by simp; omega, by rw [zeL]; simpa using hown', fun y hy => by (rcases zeI.1 hy with h | h; exact hkf y h; rcases hfq y h with h | h <;> omega), by (have := hg.size; simp at this; omega), ze ((hbW.trans (hba.mono (by omega)))) hg (by simp; omega) (fun q hq => by have := (hown2.block hq).1; omega)⟩
     case measure => simp [intOf]; omega
  ·obtain rfl : k = ks.length := by omega
   have HLL : Hid (Wy.tellsL es d ks = some l) := Lib.hid (by have := HL.out; rwa [List.take_length] at this)
   have hllit := Wy.tellsL_lit HES.out d ks l HLL.out
   have HLT := Lib.hid hllit
   obtain ⟨ka, kc, hkv, hkc1, hkc2⟩ := hown.form
   rw [zeN] at hkv hkc1
   subst hkv
   have ht : TmR wr t (.agg #[.string t.name, .slice a3 t.kids.length c3]) := TmR.mk m2 ⟨f3, m3.below hB⟩
   have hrk := m3.below hB
   obtain ⟨rf, hrow, hrf⟩ := zaC hown hkf
   replace hx := hx.below hB
   have hll : l.length ≤ 1048576 := by omega
   clear HL IH HNK HKW hb hl1 hl2 hkl m3 m4 hown hkf hllit hlt
   by_cases hl0 : l.length = 0
   rotate_left
   ·have HNO : Hid (Wy.tells es (d + 1) (.mk 2 nn t ks) = none) := Lib.hid (Wy.tells_none HLL.out (by simp [zx, hl0]))
    have n1 : ((l.length : Int) == 0) = false := by simpa using (by omega : ¬ ((l.length : Int) = 0))
    have r0 := hR.2.1 0 _ rfl; have zz0 := hR.2.2 0
    have r1 := hR.2.1 1 _ rfl; have zz1 := hR.2.2 1
    have r2 := hR.2.1 2 _ rfl; have zz2 := hR.2.2 2
    have r3 := hR.2.1 3 _ rfl; have zz3 := hR.2.2 3
    have gR := (((hR.put (k := 0) (by simp) (.string ⟨#[]⟩)).put (k := 1) (by simp) (.slice none 0 0)).put (k := 2) (by simp) (.string ⟨#[]⟩)).put (k := 3) (by simp) (.slice none 0 0)
    simp only [zeB, zeC] at gR
    have s0 := gR.2.1 0 _ rfl; have s1 := gR.2.1 1 _ rfl; have s2 := gR.2.1 2 _ rfl; have s3 := gR.2.1 3 _ rfl
    go_wp2_with fail
    refine bodyPost_ret (v := .tuple #[.agg #[.string ⟨#[]⟩, .slice none 0 0, .string ⟨#[]⟩, .slice none 0 0], .bool false]) (by simp [results, Tryz.results27, go_sem, s0, s1, s2, s3]) rfl ?_
    exact zl HNO.out ((((hB.setCell (by simp) _).setCell (by simp) _).setCell (by simp) _).setCell (by simp) _)
   have n1 : ((l.length : Int) == 0) = true := by rw [hl0]; rfl
   cases bn
   ·have HNO : Hid (Wy.tells es (d + 1) (.mk 2 nn t ks) = none) := Lib.hid (Wy.tells_none HLL.out (by have := HNT.out; simp [zx, this]))
    have r0 := hR.2.1 0 _ rfl; have zz0 := hR.2.2 0
    have r1 := hR.2.1 1 _ rfl; have zz1 := hR.2.2 1
    have r2 := hR.2.1 2 _ rfl; have zz2 := hR.2.2 2
    have r3 := hR.2.1 3 _ rfl; have zz3 := hR.2.2 3
    have gR := (((hR.put (k := 0) (by simp) (.string ⟨#[]⟩)).put (k := 1) (by simp) (.slice none 0 0)).put (k := 2) (by simp) (.string ⟨#[]⟩)).put (k := 3) (by simp) (.slice none 0 0)
    simp only [zeB, zeC] at gR
    have s0 := gR.2.1 0 _ rfl; have s1 := gR.2.1 1 _ rfl; have s2 := gR.2.1 2 _ rfl; have s3 := gR.2.1 3 _ rfl
    go_wp2_with fail
    refine bodyPost_ret (v := .tuple #[.agg #[.string ⟨#[]⟩, .slice none 0 0, .string ⟨#[]⟩, .slice none 0 0], .bool false]) (by simp [results, Tryz.results27, go_sem, s0, s1, s2, s3]) rfl ?_
    exact zl HNO.out ((((hB.setCell (by simp) _).setCell (by simp) _).setCell (by simp) _).setCell (by simp) _)
   by_cases hi : 0 ≤ nn
   rotate_left
   ·have HNO : Hid (Wy.tells es (d + 1) (.mk 2 nn t ks) = none) := Lib.hid (Wy.tells_none HLL.out (by simp [zx, hi]))
    have g1 : decide (0 ≤ nn) = false := decide_eq_false hi
    have r0 := hR.2.1 0 _ rfl; have zz0 := hR.2.2 0
    have r1 := hR.2.1 1 _ rfl; have zz1 := hR.2.2 1
    have r2 := hR.2.1 2 _ rfl; have zz2 := hR.2.2 2
    have r3 := hR.2.1 3 _ rfl; have zz3 := hR.2.2 3
    have gR := (((hR.put (k := 0) (by simp) (.string ⟨#[]⟩)).put (k := 1) (by simp) (.slice none 0 0)).put (k := 2) (by simp) (.string ⟨#[]⟩)).put (k := 3) (by simp) (.slice none 0 0)
    simp only [zeB, zeC] at gR
    have s0 := gR.2.1 0 _ rfl; have s1 := gR.2.1 1 _ rfl; have s2 := gR.2.1 2 _ rfl; have s3 := gR.2.1 3 _ rfl
    go_wp2_with fail
    refine bodyPost_ret (v := .tuple #[.agg #[.string ⟨#[]⟩, .slice none 0 0, .string ⟨#[]⟩, .slice none 0 0], .bool false]) (by simp [results, Tryz.results27, go_sem, s0, s1, s2, s3]) rfl ?_
    exact zl HNO.out ((((hB.setCell (by simp) _).setCell (by simp) _).setCell (by simp) _).setCell (by simp) _)
   have g1 : decide (0 ≤ nn) = true := decide_eq_true hi
   obtain ⟨i, rfl⟩ : ∃ i : Nat, nn = i := ⟨nn.toNat, by omega⟩
   by_cases hii : i < es.length
   rotate_left
   ·have HNO : Hid (Wy.tells es (d + 1) (.mk 2 i t ks) = none) := Lib.hid (Wy.tells_none HLL.out (by unfold zx; rw [if_neg (by decide), if_pos rfl]; split; rw [List.getElem?_eq_none (by simp; omega)]; rfl))
    have g2 : decide ((i : Int) < (es.length : Int)) = false := decide_eq_false (by omega)
    have r0 := hR.2.1 0 _ rfl; have zz0 := hR.2.2 0
    have r1 := hR.2.1 1 _ rfl; have zz1 := hR.2.2 1
    have r2 := hR.2.1 2 _ rfl; have zz2 := hR.2.2 2
    have r3 := hR.2.1 3 _ rfl; have zz3 := hR.2.2 3
    have gR := (((hR.put (k := 0) (by simp) (.string ⟨#[]⟩)).put (k := 1) (by simp) (.slice none 0 0)).put (k := 2) (by simp) (.string ⟨#[]⟩)).put (k := 3) (by simp) (.slice none 0 0)
    simp only [zeB, zeC] at gR
    have s0 := gR.2.1 0 _ rfl; have s1 := gR.2.1 1 _ rfl; have s2 := gR.2.1 2 _ rfl; have s3 := gR.2.1 3 _ rfl
    go_wp2_with fail
    refine bodyPost_ret (v := .tuple #[.agg #[.string ⟨#[]⟩, .slice none 0 0, .string ⟨#[]⟩, .slice none 0 0], .bool false]) (by simp [results, Tryz.results27, go_sem, s0, s1, s2, s3]) rfl ?_
    exact zl HNO.out ((((hB.setCell (by simp) _).setCell (by simp) _).setCell (by simp) _).setCell (by simp) _)
   have HY : Hid (Wy.tells es (d + 1) (.mk 2 i t ks) = if true = true then some es[i] else none) := Lib.hid (Wy.tells_some HLL.out (by have := HNT.out; simp [zx, hl0, this, hii]))
   obtain ⟨be, oe, rfl, hbe, _⟩ := zo hx (by omega)
   obtain ⟨k1, q1, g1', k3, q3, g3, d0, d1, d2, d3, n0, n2, n3, n4, hsub⟩ := Eqn.at hx hii
   have hie : (i : Int) < (es.length : Int) := by omega
   have hie2 : decide ((i : Int) < (es.length : Int)) = true := decide_eq_true hie
   clear hi hl0
   have r0 := hR.2.1 0 _ rfl; have zz0 := hR.2.2 0
   have r1 := hR.2.1 1 _ rfl; have zz1 := hR.2.2 1
   have r2 := hR.2.1 2 _ rfl; have zz2 := hR.2.2 2
   have r3 := hR.2.1 3 _ rfl; have zz3 := hR.2.2 3
   have gR := (((hR.put (k := 0) (by simp) (.string es[i].a.name)).put (k := 1) (by simp) (.slice k1 es[i].a.kids.length q1)).put (k := 2) (by simp) (.string es[i].b.name)).put (k := 3) (by simp) (.slice k3 es[i].b.kids.length q3)
   simp only [zeB, zeC] at gR
   have s0 := gR.2.1 0 _ rfl; have s1 := gR.2.1 1 _ rfl; have s2 := gR.2.1 2 _ rfl; have s3 := gR.2.1 3 _ rfl
   go_wp2_with fail
   refine bodyPost_ret (v := .tuple #[.agg #[.string es[i].a.name, .slice k1 es[i].a.kids.length q1, .string es[i].b.name, .slice k3 es[i].b.kids.length q3], .bool true]) (by simp [results, Tryz.results27, go_sem, s0, s1, s2, s3]) rfl ?_
   have hq := (Eqn.close (x := es[i]) n0 n2 n3 n4).same _ (fun b hb => zaZ (r := w.heap.size + 1) (v0 := .string es[i].a.name) (v1 := .slice k1 es[i].a.kids.length q1) (v2 := .string es[i].b.name) (v3 := .slice k3 es[i].b.kids.length q3) b (by have := helo b (hsub b hb); omega))
   exact zS (q := es[i]) HY.out hq (fun b hb => by have := helo b (hsub b hb); omega) ((((hB.setCell (by simp) _).setCell (by simp) _).setCell (by simp) _).setCell (by simp) _)
end Go.Proofs.YtlefdhhnlbpbkaaGreat
end
