/- Parts of the proof: WhyB5. -/
import Derived.Deep.RegionHeld3
import Derived.BigQuiet
import Derived.BigRegion
import Derived.Deep.CutRange
import Derived.Test.YtlefdhhnlbpbkaaGreatPt17
import Derived.Test.YtlefdhhnlbpbkaaGreatPt9
section
namespace Go.Proofs.YtlefdhhnlbpbkaaGreat
open Go Go.RowKit
set_option linter.unusedVariables false
set_option linter.unusedSimpArgs false
set_option maxRecDepth 100000
set_option maxHeartbeats 16000000
theorem zde : ∀ (ts : List Tm), (∀ t ∈ ts, t.size ≤ 12) → Tm.sizes ts ≤ 12 * ts.length
 | [], _ => by simp [Tm.sizes]
 | t :: ts, h => by
  have h1 := zde ts (fun x hx => h x (by simp [hx]))
  have h2 := h t (by simp)
  simp only [Tm.sizes, List.length_cons]; omega
theorem zcr {n : ByteArray} {l : List Eqn} {f : Eqn → Tm} (hl : l.length ≤ 1048576) (h : ∀ e ∈ l, (f e).size ≤ 12) : (Tm.mk n (l.map f)).size ≤ 1000000000 := by
 have h1 := zde (l.map f) (fun t ht => by obtain ⟨e, he, rfl⟩ := List.mem_map.1 ht; exact h e he)
 rw [zeN] at h1
 rw [Tm.size_eq]; simp only [Tm.kids]; omega
theorem zeu (es : List Eqn) (ev : Value) (ef : List Nat) (lo : Nat) (hel : es.length ≤ 1048576) (hes : ∀ e ∈ es, e.lit) (helo : ∀ b ∈ ef, b < lo) (n : Nat) (ih : ∀ (x : Wy) (vs : List Value) (xf : List Nat) (d : Nat) (D : Int) (w : World), ndV x.cd ≤ n → x.thin → D = d → d ≤ 400 → lo ≤ w.heap.size → (∀ b ∈ xf, b < lo) → RdVs w x.cd vs xf → Rd w (.sl (es.map Eqn.cd)) ev ef →
  Calls Tryz.prog 27 #[ev, .agg vs.toArray, .int .i64 D] w (zz lo (Wy.tells es d x) w)) :
  ∀ (x : Wy) (vs : List Value) (xf : List Nat) (d : Nat) (D : Int) (w : World), ndV x.cd ≤ (n + 1) → x.thin → x.rule = 5 → D = d → d ≤ 400 → lo ≤ w.heap.size → (∀ b ∈ xf, b < lo) → RdVs w x.cd vs xf → Rd w (.sl (es.map Eqn.cd)) ev ef →
  Calls Tryz.prog 27 #[ev, .agg vs.toArray, .int .i64 D] w (zz lo (Wy.tells es d x) w) := by
 intro x vs xf d D w hn hbig hru hDd hd hlo hxlo hv hx
 obtain ⟨a3, c3, f3, a4, c4, f4, rfl, rfl, m0, m1, m2, m3, m4⟩ := Wy.open hv
 obtain ⟨ea, ec, rfl, hec1, hec2⟩ := zc hx
 have hnk : ∀ y ∈ x.kids, ndV y.cd ≤ n := fun y hy => by have := Wy.kid_nd hy; omega
 have hkw : x.kids.length ≤ 1048576 ∧ ∀ y ∈ x.kids, y.thin := Wy.thin_kids hbig
 have hts := Wy.thin_size hbig
 obtain ⟨r, nn, t, ks⟩ := x
 simp only [Wy.rule] at hru
 subst hru
 simp only [Wy.rule, Wy.n, Wy.t, Wy.kids] at m0 m1 m2 m3 m4 hnk hkw hv hxlo hts ⊢
 have HNK := Lib.hid hnk
 have HKW := Lib.hid hkw.2
 have HES := Lib.hid hes
 have hkl1 := hkw.1
 have hf3 : ∀ b ∈ f3, b < lo := fun b hb => hxlo b (by simp [hb])
 have hf4 : ∀ b ∈ f4, b < lo := fun b hb => hxlo b (by simp [hb])
 have IH := Lib.hid ih
 clear ih hnk hkw hbig hn hv hxlo hes
 have hX := (Bx.new w [.int .i64 5, .int .i64 nn, .string t.name, .slice a3 t.kids.length c3, .slice a4 ks.length c4] 32).alloc (.cells #[.string ⟨#[]⟩, .slice none 0 0, .string ⟨#[]⟩, .slice none 0 0] 36)
 have hR := Bx.new (w.alloc (.cells #[.int .i64 5, .int .i64 nn, .string t.name, .slice a3 t.kids.length c3, .slice a4 ks.length c4] 32)) [.string ⟨#[]⟩, .slice none 0 0, .string ⟨#[]⟩, .slice none 0 0] 36
 rw [World.size_alloc] at hR
 have hB : Below w.heap.size w ((w.alloc (.cells #[.int .i64 5, .int .i64 nn, .string t.name, .slice a3 t.kids.length c3, .slice a4 ks.length c4] 32)).alloc (.cells #[.string ⟨#[]⟩, .slice none 0 0, .string ⟨#[]⟩, .slice none 0 0] 36)) := ((Below.refl _ _).alloc (Nat.le_refl _) _).alloc (by simp) _
 go_enter Tryz.func27, Tryz.ntmps27
 go_upto_region 1 with fail
 generalize (w.alloc (.cells #[.int .i64 5, .int .i64 nn, .string t.name, .slice a3 t.kids.length c3, .slice a4 ks.length c4] 32)).alloc (.cells #[.string ⟨#[]⟩, .slice none 0 0, .string ⟨#[]⟩, .slice none 0 0] 36) = W0 at *
 have x2 := hX.2.1 2 _ rfl; have x3 := hX.2.1 3 _ rfl
 have HB : Hid (zaf t = (t.name.toList == [] && ((t.kids.length : Int) == 0))) := Lib.hid rfl
 go_cut [8] from 15 to 26 (fun bv wx => bv = .bool (zaf t) ∧ Below W0.heap.size W0 wx)
 case first =>
  cases h1 : (t.name.toList == [])
  all_goals
   have H1 := Lib.hid h1
   go_wp2_with fail
   go_meet
   case rel => exact ⟨by rw [HB.out, H1.out]; first | rfl | simp | (simp [Bool.beq_eq_decide_eq]), Below.refl _ _⟩
 case rest =>
 clear HB x2 x3
 obtain ⟨rfl, hbc⟩ := hcut
 obtain ⟨wx, rfl⟩ : ∃ x, x = wc := ⟨_, rfl⟩
 replace hX := hX.below hbc
 replace hR := hR.below hbc
 replace hB := hB.trans (hbc.mono hB.size)
 clear hbc
 obtain ⟨bn, hbn⟩ : ∃ b, zaf t = b := ⟨_, rfl⟩
 have HNT := Lib.hid hbn
 rw [hbn]
 clear hbn
 have hba := zb wx (.cells #[] 36)
 have hown := Own.empty wx (w.heap.size + 1 + 1) 36 4 hR.1
 have hW1 : w.heap.size + 1 + 1 ≤ wx.heap.size := hR.1
 replace hX := hX.below hba
 replace hR := hR.below hba
 replace hB := hB.trans (hba.mono hB.size)
 go_upto_region 3 with fail
 obtain ⟨K0, hK0⟩ : ∃ K, K = wx.heap.size := ⟨_, rfl⟩
 rw [← hK0] at hown ⊢
 have hW2 : wx.heap.size + 1 ≤ (wx.alloc (.cells #[] 36)).heap.size := by simp
 have hK1 : w.heap.size + 1 + 1 ≤ K0 := by omega
 clear hba hK0
 generalize wx.alloc (.cells #[] 36) = W at *
 have hDa : D ≤ (d : Int) := by omega
 have hDb : (d : Int) ≤ D := by omega
 have hD2 : D ≤ 400 := by omega
 have hD0 : 0 ≤ D := by omega
 clear hDd
 go_wp2_with fail
 go_loopw [9, 10] (fun kv iv wr => ∃ (k : Nat) (l : List Eqn) (kf : List Nat), k ≤ ks.length ∧ iv = .int .i64 k ∧ Hid (∀ e, d = e + 1 → Wy.tellsL es e (ks.take k) = some l) ∧ l.length ≤ k ∧ k ≤ l.length ∧ Own wr (w.heap.size + 1 + 1) 36 4 kv (l.map Eqn.cd) kf ∧ (∀ b ∈ kf, b < lo ∨ w.heap.size + 1 + 1 ≤ b) ∧ w.heap.size + 1 + 1 ≤ wr.heap.size ∧ Below (w.heap.size + 1 + 1) W wr) (fun _ iv _ => ks.length - (intOf iv).toNat)
 case atStart => exact ⟨0, [], [], Nat.zero_le _, rfl, Lib.hid (fun e _ => by simp [Wy.tellsL]), Nat.le_refl _, Nat.le_refl _, hown, by simp, by omega, Below.refl _ _⟩
 case round =>
  clear hown
  obtain ⟨k, l, kf, hkl, rfl, HL0, hl1, hl2, hown, hkf, hz, hb⟩ := hrel
  replace hX : Bx [.int .i64 5, .int .i64 nn, .string t.name, .slice a3 t.kids.length c3, .slice a4 ks.length c4] w.heap.size wr := hX.belowB hb (by omega)
  replace hR : Bx [.string ⟨#[]⟩, .slice none 0 0, .string ⟨#[]⟩, .slice none 0 0] (w.heap.size + 1) wr := hR.belowB hb (by omega)
  replace hB := hB.trans (hb.mono (by omega))
  have x0 := hX.2.1 0 _ rfl; have x1 := hX.2.1 1 _ rfl; have x2 := hX.2.1 2 _ rfl; have x3 := hX.2.1 3 _ rfl; have x4 := hX.2.1 4 _ rfl
  cases d with
  | zero =>
   have hdd : decide ((0 : Int) < D) = false := decide_eq_false (by omega)
   have hde : decide (D < 1) = true := decide_eq_true (by omega)
   have HNO : Hid (Wy.tells es 0 (.mk 5 nn t ks) = none) := Lib.hid (Wy.tells_zero _)
   by_cases hlt : k < ks.length
   ·have r0 := hR.2.1 0 _ rfl; have zz0 := hR.2.2 0
    have r1 := hR.2.1 1 _ rfl; have zz1 := hR.2.2 1
    have r2 := hR.2.1 2 _ rfl; have zz2 := hR.2.2 2
    have r3 := hR.2.1 3 _ rfl; have zz3 := hR.2.2 3
    have gR := (((hR.put (k := 0) (by simp) (.string ⟨#[]⟩)).put (k := 1) (by simp) (.slice none 0 0)).put (k := 2) (by simp) (.string ⟨#[]⟩)).put (k := 3) (by simp) (.slice none 0 0)
    simp only [zeB, zeC] at gR
    have s0 := gR.2.1 0 _ rfl; have s1 := gR.2.1 1 _ rfl; have s2 := gR.2.1 2 _ rfl; have s3 := gR.2.1 3 _ rfl
    go_wp2_with fail
    refine bodyPost_ret (v := .tuple #[.agg #[.string ⟨#[]⟩, .slice none 0 0, .string ⟨#[]⟩, .slice none 0 0], .bool false]) (by simp [results, Tryz.results27, go_sem, s0, s1, s2, s3]) rfl ?_
    exact zl HNO.out ((((hB.setCell (by simp) _).setCell (by simp) _).setCell (by simp) _).setCell (by simp) _)
   ·have r0 := hR.2.1 0 _ rfl; have zz0 := hR.2.2 0
    have r1 := hR.2.1 1 _ rfl; have zz1 := hR.2.2 1
    have r2 := hR.2.1 2 _ rfl; have zz2 := hR.2.2 2
    have r3 := hR.2.1 3 _ rfl; have zz3 := hR.2.2 3
    have gR := (((hR.put (k := 0) (by simp) (.string ⟨#[]⟩)).put (k := 1) (by simp) (.slice none 0 0)).put (k := 2) (by simp) (.string ⟨#[]⟩)).put (k := 3) (by simp) (.slice none 0 0)
    simp only [zeB, zeC] at gR
    have s0 := gR.2.1 0 _ rfl; have s1 := gR.2.1 1 _ rfl; have s2 := gR.2.1 2 _ rfl; have s3 := gR.2.1 3 _ rfl
    go_wp2_with fail
    refine bodyPost_ret (v := .tuple #[.agg #[.string ⟨#[]⟩, .slice none 0 0, .string ⟨#[]⟩, .slice none 0 0], .bool false]) (by simp [results, Tryz.results27, go_sem, s0, s1, s2, s3]) rfl ?_
    exact zl HNO.out ((((hB.setCell (by simp) _).setCell (by simp) _).setCell (by simp) _).setCell (by simp) _)
  | succ d =>
  have HL : Hid (Wy.tellsL es d (ks.take k) = some l) := Lib.hid (HL0.out d rfl)
  clear HL0
  have hD1 : 1 ≤ D := by omega
  have hdd : decide ((0 : Int) < D) = true := decide_eq_true (by omega)
  have hde : decide (D < 1) = false := decide_eq_false (by omega)
  by_cases hlt : k < ks.length
  ·obtain ⟨b, off, rfl, hbs, hbm⟩ := zo m4 (by omega)
   obtain ⟨ka3, kc3, kf3, ka4, kc4, kf4, d0, d1, d2, d3, d4, n0, n1, n2, n3, n4, hsub⟩ := Wy.at (m4.below hB) hlt
   have hkr := Wy.close n0 n1 n2 n3 n4
   have hklo : ∀ y ∈ kf3 ++ kf4, y < lo := fun y hy => hf4 y (hsub y hy)
   clear n0 n1 n2 n3 n4 hsub
   have hx1 := hx.below hB
   go_wp2_with fail
   refine (IH.out ks[k] _ _ d (D - 1) _ (HNK.out _ (zeJ hlt)) (HKW.out _ (zeJ hlt)) (by omega) (by omega) (by omega) hklo (by exact hkr) (by exact hx1)).mono ?_
   rintro e w2 ⟨n0, a1, p1, q1, n2, a5, p3, q3, rfl, hq, hb2⟩
   clear hkr hx1 d0 d1 d2 d3 d4 x0 x1 x2 x3 x4
   obtain ⟨o, ho⟩ : ∃ o, o = Wy.tells es d ks[k] := ⟨_, rfl⟩
   rw [← ho] at hq ⊢
   have HO := Lib.hid ho
   clear ho
   have hbe := zb w2 (.cells #[.string n0, .slice a1 p1 q1, .string n2, .slice a5 p3 q3] 36)
   replace hX := (hX.below hb2).below hbe
   replace hR := (hR.below hb2).below hbe
   have hb12 := hb2.trans (hbe.mono hb2.size)
   replace hB := hB.trans (hb12.mono hB.size)
   have hown2 := hown.below hb12
   have hE := Bx.new w2 [.string n0, .slice a1 p1 q1, .string n2, .slice a5 p3 q3] 36
   have hz2 := hb12.size
   have hbW := hb.trans (hb12.mono (by omega))
   cases o with
   | none =>
    have HNO := Lib.hid (Wy.tells_bad (r := 5) (n := nn) (t := t) (Wy.tellsL_no hlt HL.out HO.out.symm))
    go_upto_region 8 with fail
    clear hE
    generalize w2.alloc (.cells #[.string n0, .slice a1 p1 q1, .string n2, .slice a5 p3 q3] 36) = U at *
    have r0 := hR.2.1 0 _ rfl; have zz0 := hR.2.2 0
    have r1 := hR.2.1 1 _ rfl; have zz1 := hR.2.2 1
    have r2 := hR.2.1 2 _ rfl; have zz2 := hR.2.2 2
    have r3 := hR.2.1 3 _ rfl; have zz3 := hR.2.2 3
    have gR := (((hR.put (k := 0) (by simp) (.string ⟨#[]⟩)).put (k := 1) (by simp) (.slice none 0 0)).put (k := 2) (by simp) (.string ⟨#[]⟩)).put (k := 3) (by simp) (.slice none 0 0)
    simp only [zeB, zeC] at gR
    have s0 := gR.2.1 0 _ rfl; have s1 := gR.2.1 1 _ rfl; have s2 := gR.2.1 2 _ rfl; have s3 := gR.2.1 3 _ rfl
    go_wp2_with fail
    refine bodyPost_ret (v := .tuple #[.agg #[.string ⟨#[]⟩, .slice none 0 0, .string ⟨#[]⟩, .slice none 0 0], .bool false]) (by simp [results, Tryz.results27, go_sem, s0, s1, s2, s3]) rfl ?_
    exact zl HNO.out ((((hB.setCell (by simp) _).setCell (by simp) _).setCell (by simp) _).setCell (by simp) _)
   | some q =>
    obtain ⟨f, hrq, hfq⟩ := hq q rfl
    have HL2 := Lib.hid (Wy.tellsL_yes hlt HL.out HO.out.symm)
    replace hrq := hrq.below hbe
    go_upto_region 9 with fail
    clear hq hbe hb2
    obtain ⟨BE, hBE⟩ : ∃ B, B = w2.heap.size := ⟨_, rfl⟩
    rw [← hBE] at hE ⊢
    clear hBE
    generalize w2.alloc (.cells #[.string n0, .slice a1 p1 q1, .string n2, .slice a5 p3 q3] 36) = U at *
    have e0 := hE.2.1 0 _ rfl; have e1 := hE.2.1 1 _ rfl; have e2 := hE.2.1 2 _ rfl; have e3 := hE.2.1 3 _ rfl
    have hba := zb U (.cells #[.string n0, .slice a1 p1 q1, .string n2, .slice a5 p3 q3] 36)
    have hown3 := hown2.below hba
    have hrq3 := hrq.below hba
    have hlm : (l.map Eqn.cd).length ≤ 1048576 := by rw [zeN]; omega
    go_wp2_with (at_builtin; refine zp zI rfl _ _ rfl (w.heap.size + 1 + 1) _ _ _ rfl hown3 ⟨U.heap.size, 0, none⟩ 1 1 [q.cd] [.string n0, .slice a1 p1 q1, .string n2, .slice a5 p3 q3] f rfl rfl ?rd ?k ?cells ?na ?bytes ?len ?base ?next)
    case rd => simpa using hrq3
    case k => simp [Eqn.cd_len]
    case cells => exact zn _ _ _
    case na => exact fun y hy e => by have := hown.block e; rcases hfq y hy with h | h <;> omega
    case bytes => first | omega | (simp; omega)
    case len => first | omega | (simp; omega)
    case base => simp; omega
    case next =>
     intro v' w' hown' hg hv' hs'
     go_wp2_with fail
     go_roundw
     case rel => exact ⟨k + 1, l ++ [q], _, by omega, by go_num, Lib.hid (fun e he => by (have e1 : e = d := by omega); rw [e1]; exact HL2.out), by simp; omega, by simp; omega, by rw [zeL]; simpa using hown', fun y hy => by (rcases zeI.1 hy with h | h; exact hkf y h; rcases hfq y h with h | h <;> omega), by (have := hg.size; simp at this; omega), ze ((hbW.trans (hba.mono (by omega)))) hg (by simp; omega) (fun q hq => by have := (hown2.block hq).1; omega)⟩
     case measure => simp [intOf]; omega
  ·obtain rfl : k = ks.length := by omega
   have HLL : Hid (Wy.tellsL es d ks = some l) := Lib.hid (by have := HL.out; rwa [List.take_length] at this)
   have hllit := Wy.tellsL_lit HES.out d ks l HLL.out
   have HLT := Lib.hid hllit
   obtain ⟨ka, kc, hkv, hkc1, hkc2⟩ := hown.form
   rw [zeN] at hkv hkc1
   subst hkv
   have ht : TmR wr t (.agg #[.string t.name, .slice a3 t.kids.length c3]) := TmR.mk m2 ⟨f3, m3.below hB⟩
   have hrk := m3.below hB
   obtain ⟨rf, hrow, hrf⟩ := zaC hown hkf
   replace hx := hx.below hB
   have hll : l.length ≤ 1048576 := by omega
   clear HL IH HNK HKW hb hl1 hl2 hkl m3 m4 hown hkf hllit hlt
   by_cases hn : nn = 0
   rotate_left
   ·have HNO : Hid (Wy.tells es (d + 1) (.mk 5 nn t ks) = none) := Lib.hid (Wy.tells_none HLL.out (by simp [zx, hn]))
    have n1 : (nn != 0) = true := by simpa using hn
    clear hn
    have r0 := hR.2.1 0 _ rfl; have zz0 := hR.2.2 0
    have r1 := hR.2.1 1 _ rfl; have zz1 := hR.2.2 1
    have r2 := hR.2.1 2 _ rfl; have zz2 := hR.2.2 2
    have r3 := hR.2.1 3 _ rfl; have zz3 := hR.2.2 3
    have gR := (((hR.put (k := 0) (by simp) (.string ⟨#[]⟩)).put (k := 1) (by simp) (.slice none 0 0)).put (k := 2) (by simp) (.string ⟨#[]⟩)).put (k := 3) (by simp) (.slice none 0 0)
    simp only [zeB, zeC] at gR
    have s0 := gR.2.1 0 _ rfl; have s1 := gR.2.1 1 _ rfl; have s2 := gR.2.1 2 _ rfl; have s3 := gR.2.1 3 _ rfl
    go_wp2_with fail
    refine bodyPost_ret (v := .tuple #[.agg #[.string ⟨#[]⟩, .slice none 0 0, .string ⟨#[]⟩, .slice none 0 0], .bool false]) (by simp [results, Tryz.results27, go_sem, s0, s1, s2, s3]) rfl ?_
    exact zl HNO.out ((((hB.setCell (by simp) _).setCell (by simp) _).setCell (by simp) _).setCell (by simp) _)
   subst hn
   by_cases hl0 : l.length = 0
   ·have HNO : Hid (Wy.tells es (d + 1) (.mk 5 0 t ks) = none) := Lib.hid (Wy.tells_none HLL.out (by simp [zx, hl0]))
    have n1 : decide ((0 : Int) < (l.length : Int)) = false := decide_eq_false (by omega)
    have r0 := hR.2.1 0 _ rfl; have zz0 := hR.2.2 0
    have r1 := hR.2.1 1 _ rfl; have zz1 := hR.2.2 1
    have r2 := hR.2.1 2 _ rfl; have zz2 := hR.2.2 2
    have r3 := hR.2.1 3 _ rfl; have zz3 := hR.2.2 3
    have gR := (((hR.put (k := 0) (by simp) (.string ⟨#[]⟩)).put (k := 1) (by simp) (.slice none 0 0)).put (k := 2) (by simp) (.string ⟨#[]⟩)).put (k := 3) (by simp) (.slice none 0 0)
    simp only [zeB, zeC] at gR
    have s0 := gR.2.1 0 _ rfl; have s1 := gR.2.1 1 _ rfl; have s2 := gR.2.1 2 _ rfl; have s3 := gR.2.1 3 _ rfl
    go_wp2_with fail
    refine bodyPost_ret (v := .tuple #[.agg #[.string ⟨#[]⟩, .slice none 0 0, .string ⟨#[]⟩, .slice none 0 0], .bool false]) (by simp [results, Tryz.results27, go_sem, s0, s1, s2, s3]) rfl ?_
    exact zl HNO.out ((((hB.setCell (by simp) _).setCell (by simp) _).setCell (by simp) _).setCell (by simp) _)
   have n1 : decide ((0 : Int) < (l.length : Int)) = true := decide_eq_true (by omega)
   by_cases hk0 : t.kids.length = 0
   rotate_left
   ·have HNO : Hid (Wy.tells es (d + 1) (.mk 5 0 t ks) = none) := Lib.hid (Wy.tells_none HLL.out (by simp [zx, hk0]))
    have n2 : ((t.kids.length : Int) == 0) = false := by simpa using (by omega : ¬ ((t.kids.length : Int) = 0))
    have r0 := hR.2.1 0 _ rfl; have zz0 := hR.2.2 0
    have r1 := hR.2.1 1 _ rfl; have zz1 := hR.2.2 1
    have r2 := hR.2.1 2 _ rfl; have zz2 := hR.2.2 2
    have r3 := hR.2.1 3 _ rfl; have zz3 := hR.2.2 3
    have gR := (((hR.put (k := 0) (by simp) (.string ⟨#[]⟩)).put (k := 1) (by simp) (.slice none 0 0)).put (k := 2) (by simp) (.string ⟨#[]⟩)).put (k := 3) (by simp) (.slice none 0 0)
    simp only [zeB, zeC] at gR
    have s0 := gR.2.1 0 _ rfl; have s1 := gR.2.1 1 _ rfl; have s2 := gR.2.1 2 _ rfl; have s3 := gR.2.1 3 _ rfl
    go_wp2_with fail
    refine bodyPost_ret (v := .tuple #[.agg #[.string ⟨#[]⟩, .slice none 0 0, .string ⟨#[]⟩, .slice none 0 0], .bool false]) (by simp [results, Tryz.results27, go_sem, s0, s1, s2, s3]) rfl ?_
    exact zl HNO.out ((((hB.setCell (by simp) _).setCell (by simp) _).setCell (by simp) _).setCell (by simp) _)
   have n2 : ((t.kids.length : Int) == 0) = true := by rw [hk0]; rfl
   obtain ⟨kb, ko, rfl, hkbz, hkbm⟩ := zo hrow (by omega)
   have hO := Bx.new wr [.string t.name, .slice none 0 0, .string t.name, .slice none 0 0] 36
   have hro : ∀ b ∈ rf, b < wr.heap.size := fun b hb => hrow.lt _ b hb
   have hRO := hR.1
   have hBz := hB.size
   have hba := zb wr (.cells #[.string t.name, .slice none 0 0, .string t.name, .slice none 0 0] 36)
   replace hX := hX.below hba
   replace hR := hR.below hba
   replace ht := ht.below hba
   replace hrk := hrk.below hba
   replace hrow := hrow.below hba
   replace hx := hx.below hba
   replace hB := hB.trans (hba.mono hB.size)
   obtain ⟨O, hOe⟩ : ∃ B, B = wr.heap.size := ⟨_, rfl⟩
   rw [← hOe] at hO hro hRO
   go_upto_region 22 with fail
   rw [← hOe]
   clear hba hOe ht hrk hx hX x0 x1 x2 x3 x4
   generalize wr.alloc (.cells #[.string t.name, .slice none 0 0, .string t.name, .slice none 0 0] 36) = v0 at *
   have T0 := TwoR.nil v0 (O + 1) hO.1
   have hOv : O + 1 ≤ v0.heap.size := hO.1
   go_wp2_with fail
   go_loopw [14] (fun iv wq => ∃ (k : Nat) (va vb : Value) (fa fb : List Nat), k ≤ l.length ∧ iv = .int .i64 k ∧ TwoR wq (O + 1) va vb ((l.take k).map Eqn.a) ((l.take k).map Eqn.b) fa fb ∧ (∀ b ∈ fa, b < O ∧ (b < lo ∨ w.heap.size + 1 + 1 ≤ b)) ∧ (∀ b ∈ fb, b < O ∧ (b < lo ∨ w.heap.size + 1 + 1 ≤ b)) ∧ Bx [.string t.name, va, .string t.name, vb] O wq ∧ Bx [.string ⟨#[]⟩, .slice none 0 0, .string ⟨#[]⟩, .slice none 0 0] (w.heap.size + 1) wq ∧ Below w.heap.size w wq ∧ Below O v0 wq) (fun iv _ => l.length - (intOf iv).toNat)
   case atStart => exact ⟨0, _, _, [], [], Nat.zero_le _, rfl, by simpa using T0, by simp, by simp, hO, hR, hB, Below.refl _ _⟩
   case round =>
    clear T0 hO hR hB
    obtain ⟨k, va, vb, fa, fb, hkl, rfl, T, hfa, hfb, hO, hR, hB, hbO⟩ := hrel
    obtain ⟨wq, rfl⟩ : ∃ x, x = wr := ⟨_, rfl⟩
    by_cases hlt : k < l.length
    ·obtain ⟨sa1, sa2, sa3, rfl⟩ := T.ha.form'
     obtain ⟨sb1, sb2, sb3, rfl⟩ := T.hb.form'
     obtain ⟨i1, p1, fxa, i3, p3, fxb, d0, d1, d2, d3, na, ra, nb, rb, hsub⟩ := Eqn.at (hrow.belowB hbO hro) hlt
     have hfxa : ∀ b ∈ fxa, b < O ∧ (b < lo ∨ w.heap.size + 1 + 1 ≤ b) := fun b hb => ⟨hro b (hsub b (by simp [hb])), hrf b (hsub b (by simp [hb]))⟩
     have hfxb : ∀ b ∈ fxb, b < O ∧ (b < lo ∨ w.heap.size + 1 + 1 ≤ b) := fun b hb => ⟨hro b (hsub b (by simp [hb])), hrf b (hsub b (by simp [hb]))⟩
     have hfaO : ∀ b ∈ fa ++ fxa, b < O := fun b hb => by rcases zeI.1 hb with h | h; exact (hfa b h).1; exact (hfxa b h).1
     have hfbO : ∀ b ∈ fb ++ fxb, b < O := fun b hb => by rcases zeI.1 hb with h | h; exact (hfb b h).1; exact (hfxb b h).1
     have hfaO2 : ∀ b ∈ fa ++ fxa, b < O ∧ (b < lo ∨ w.heap.size + 1 + 1 ≤ b) := fun b hb => by rcases zeI.1 hb with h | h; exact hfa b h; exact hfxa b h
     have hfbO2 : ∀ b ∈ fb ++ fxb, b < O ∧ (b < lo ∨ w.heap.size + 1 + 1 ≤ b) := fun b hb => by rcases zeI.1 hb with h | h; exact hfb b h; exact hfxb b h
     have hTA : (l.take (k + 1)).map Eqn.a = (l.take k).map Eqn.a ++ [l[k].a] := by rw [zeH hlt, zeL]; rfl
     have hTB : (l.take (k + 1)).map Eqn.b = (l.take k).map Eqn.b ++ [l[k].b] := by rw [zeH hlt, zeL]; rfl
     have HTA := Lib.hid hTA
     have HTB := Lib.hid hTB
     have hlma : ((l.take k).map Eqn.a).length ≤ 1048576 := by rw [zeN, List.length_take]; omega
     have hlmb : ((l.take k).map Eqn.b).length ≤ 1048576 := by rw [zeN, List.length_take]; omega
     clear hsub hTA hTB
     have hkO : kb < O + 1 := Nat.lt_succ_of_lt (hro kb hkbm)
     have hkO9 : kb ≠ O := by have := hro kb hkbm; omega
     have hki : (k : Int) < (l.length : Int) := by omega
     go_upto_region 25 with fail
     refine Till.start (F := (fun U : World => U.cell? ⟨O, 1, none⟩ = some (.slice sa1 sa2 sa3) ∧ U.cell? ⟨kb, ko + k * 4, none⟩ = some (.string l[k].a.name) ∧ U.cell? ⟨kb, ko + k * 4 + 1, none⟩ = some (.slice i1 l[k].a.kids.length p1) ∧ U.cell? ⟨kb, ko + k * 4 + 2, none⟩ = some (.string l[k].b.name) ∧ U.cell? ⟨kb, ko + k * 4 + 3, none⟩ = some (.slice i3 l[k].b.kids.length p3))) (s0 := 10) (by kernel_rfl) ?_
     have hbd := zj wq
     replace hO := hO.below hbd
     replace hR := hR.below hbd
     replace ra := ra.below hbd
     replace rb := rb.below hbd
     replace T := T.below hbd
     replace d0 := za d0 hbd
     replace d1 := za d1 hbd
     replace d2 := za d2 hbd
     replace d3 := za d3 hbd
     replace hB := hB.trans (hbd.mono hB.size)
     replace hbO := hbO.trans (hbd.mono (by have := hbO.size; omega))
     clear hbd
     generalize wq.drew = wqd at *
     have hF : (fun U : World => U.cell? ⟨O, 1, none⟩ = some (.slice sa1 sa2 sa3) ∧ U.cell? ⟨kb, ko + k * 4, none⟩ = some (.string l[k].a.name) ∧ U.cell? ⟨kb, ko + k * 4 + 1, none⟩ = some (.slice i1 l[k].a.kids.length p1) ∧ U.cell? ⟨kb, ko + k * 4 + 2, none⟩ = some (.string l[k].b.name) ∧ U.cell? ⟨kb, ko + k * 4 + 3, none⟩ = some (.slice i3 l[k].b.kids.length p3)) wqd := ⟨hO.2.1 1 _ rfl, d0, d1, d2, d3⟩
     refine Till.take (i := 0) (v := (.pointer (some ⟨O, 0, none⟩))) rfl (by kernel_rfl) (by kernel_rfl) (by kernel_rfl) (fun _ _ _ h => h) (by kernel_rfl) (Or.inl ⟨by rfl, fun U hU => ?_⟩) hF ?_
     ·obtain ⟨o1F, d0F, d1F, d2F, d3F⟩ := hU
      go_simp
     try simp only [Act.put, zeA, zeB, zeC]
     refine Till.take (i := 1) (v := (.pointer (some ⟨O, 1, none⟩))) rfl (by kernel_rfl) (by kernel_rfl) (by kernel_rfl) (fun _ _ _ h => h) (by kernel_rfl) (Or.inl ⟨by rfl, fun U hU => ?_⟩) hF ?_
     ·obtain ⟨o1F, d0F, d1F, d2F, d3F⟩ := hU
      go_simp
     try simp only [Act.put, zeA, zeB, zeC]
     refine Till.take (i := 2) (v := (.slice sa1 sa2 sa3)) rfl (by kernel_rfl) (by kernel_rfl) (by kernel_rfl) (fun _ _ _ h => h) (by kernel_rfl) (Or.inl ⟨by rfl, fun U hU => ?_⟩) hF ?_
     ·obtain ⟨o1F, d0F, d1F, d2F, d3F⟩ := hU
      go_simp
     try simp only [Act.put, zeA, zeB, zeC]
     refine Till.take (i := 3) (v := (.slice (some ⟨kb, ko, none⟩) l.length kc)) rfl (by kernel_rfl) (by kernel_rfl) (by kernel_rfl) (fun _ _ _ h => h) (by kernel_rfl) (Or.inl ⟨by rfl, fun U hU => ?_⟩) hF ?_
     ·obtain ⟨o1F, d0F, d1F, d2F, d3F⟩ := hU
      go_simp
     try simp only [Act.put, zeA, zeB, zeC]
     refine Till.take (i := 4) (v := (.int .i64 k)) rfl (by kernel_rfl) (by kernel_rfl) (by kernel_rfl) (fun _ _ _ h => h) (by kernel_rfl) (Or.inl ⟨by rfl, fun U hU => ?_⟩) hF ?_
     ·obtain ⟨o1F, d0F, d1F, d2F, d3F⟩ := hU
      go_simp
     try simp only [Act.put, zeA, zeB, zeC]
     refine Till.take (i := 5) (v := (.pointer (some ⟨kb, ko + k * 4, none⟩))) rfl (by kernel_rfl) (by kernel_rfl) (by kernel_rfl) (fun _ _ _ h => h) (by kernel_rfl) (Or.inl ⟨by rfl, fun U hU => ?_⟩) hF ?_
     ·obtain ⟨o1F, d0F, d1F, d2F, d3F⟩ := hU
      go_simp
     try simp only [Act.put, zeA, zeB, zeC]
     refine Till.take (i := 6) (v := (.pointer (some ⟨kb, ko + k * 4, none⟩))) rfl (by kernel_rfl) (by kernel_rfl) (by kernel_rfl) (fun _ _ _ h => h) (by kernel_rfl) (Or.inl ⟨by rfl, fun U hU => ?_⟩) hF ?_
     ·obtain ⟨o1F, d0F, d1F, d2F, d3F⟩ := hU
      go_simp
     try simp only [Act.put, zeA, zeB, zeC]
     refine Till.take (i := 7) (v := (.agg #[.string l[k].a.name, .slice i1 l[k].a.kids.length p1])) rfl (by kernel_rfl) (by kernel_rfl) (by kernel_rfl) (fun _ _ _ h => h) (by kernel_rfl) (Or.inl ⟨by rfl, fun U hU => ?_⟩) hF ?_
     ·obtain ⟨o1F, d0F, d1F, d2F, d3F⟩ := hU
      go_simp
     try simp only [Act.put, zeA, zeB, zeC]
     refine Till.one (i := 8) (by kernel_rfl) rfl (fun J9 hK => ?_)
     go_simp
     have hSa := Bx.new wqd [.string l[k].a.name, .slice i1 l[k].a.kids.length p1] 29
     have nSaa : _ ≠ some wqd.heap.size := T.newA
     have nSab : _ ≠ some wqd.heap.size := T.newB
     have hba := zb wqd (.cells #[.string l[k].a.name, .slice i1 l[k].a.kids.length p1] 29)
     replace hO := hO.below hba
     replace hR := hR.below hba
     replace T := T.below hba
     replace ra := ra.below hba
     replace rb := rb.below hba
     replace d0 := za d0 hba
     replace d1 := za d1 hba
     replace d2 := za d2 hba
     replace d3 := za d3 hba
     replace hbO := hbO.trans (hba.mono (by have := hbO.size; omega))
     replace hB := hB.trans (hba.mono hB.size)
     clear hba
     generalize wqd.alloc (.cells #[.string l[k].a.name, .slice i1 l[k].a.kids.length p1] 29) = V2 at *
     replace hF : (fun U : World => U.cell? ⟨O, 1, none⟩ = some (.slice sa1 sa2 sa3) ∧ U.cell? ⟨kb, ko + k * 4, none⟩ = some (.string l[k].a.name) ∧ U.cell? ⟨kb, ko + k * 4 + 1, none⟩ = some (.slice i1 l[k].a.kids.length p1) ∧ U.cell? ⟨kb, ko + k * 4 + 2, none⟩ = some (.string l[k].b.name) ∧ U.cell? ⟨kb, ko + k * 4 + 3, none⟩ = some (.slice i3 l[k].b.kids.length p3)) V2 := ⟨hO.2.1 1 _ rfl, d0, d1, d2, d3⟩
     refine hK.out _ _ (fun _ => hF) ?_
     clear hK
     try simp only [Act.put, zeA, zeB, zeC]
     refine Till.one (i := 9) (by kernel_rfl) rfl (fun J9 hK => ?_)
     refine zL zag rfl _ _ rfl (O + 1) _ _ _ rfl (by exact T.ha) ⟨wqd.heap.size, 0, none⟩ 1 1 [(l[k].a).cd] [.string l[k].a.name, .slice i1 l[k].a.kids.length p1] fxa rfl rfl ?rd26 ?k26 ?cells26 ?na26 ?bytes26 ?len26 ?base26 ?next26
     case rd26 => simpa using Tm.rdvs na ra
     case k26 => simp [Tm.cd_len]
     case cells26 => exact fun j u hj => by simpa [Addr.add_lit] using hSa.2.1 j u hj
     case na26 => exact fun b hb => T.neA (Nat.lt_succ_of_lt (hfxa b hb).1)
     case bytes26 => have := hlma; simp only [zeN, List.length_cons, List.length_nil] at this ⊢; omega
     case len26 => have := hlma; simp only [zeN, List.length_cons, List.length_nil] at this ⊢; omega
     case base26 => exact T.sz
     intro v' V3 ho hg hv hs4
     obtain ⟨ga1, ga2, ga3, rfl⟩ := ho.form'
     have hzg := hg.size
     replace hO := hO.grown hg (T.neA (by omega))
     replace hR := hR.grown hg (T.neA (by omega))
     have rn : ∀ b, b < O + 1 → V3.heap[b]? = V2.heap[b]? := fun b hb => Moved.block ⟨hg, hv⟩ (by have := T.sz; omega) (T.neA hb)
     replace ra := ra.same _ (fun b hb => rn b (Nat.lt_succ_of_lt (hfxa b hb).1))
     replace rb := rb.same _ (fun b hb => rn b (Nat.lt_succ_of_lt (hfxb b hb).1))
     replace d0 := zh (rn _ hkO) d0
     replace d1 := zh (rn _ hkO) d1
     replace d2 := zh (rn _ hkO) d2
     replace d3 := zh (rn _ hkO) d3
     clear rn
     replace hbO := ze hbO hg (by have := hbO.size; omega) (fun q hq => by have := (T.ha.block hq).1; omega)
     replace hB := ze hB hg hB.size (fun q hq => by have := (T.ha.block hq).1; omega)
     replace T := T.appA ho hg hv (fun b hb => Nat.lt_succ_of_lt (hfxa b hb).1)
     clear ho hg hv hs4 hSa nSaa nSab hzg
     replace hF : (fun U : World => U.cell? ⟨O, 1, none⟩ = some (.slice sa1 sa2 sa3) ∧ U.cell? ⟨kb, ko + k * 4, none⟩ = some (.string l[k].a.name) ∧ U.cell? ⟨kb, ko + k * 4 + 1, none⟩ = some (.slice i1 l[k].a.kids.length p1) ∧ U.cell? ⟨kb, ko + k * 4 + 2, none⟩ = some (.string l[k].b.name) ∧ U.cell? ⟨kb, ko + k * 4 + 3, none⟩ = some (.slice i3 l[k].b.kids.length p3)) V3 := ⟨hO.2.1 1 _ rfl, d0, d1, d2, d3⟩
     refine hK.out _ _ (fun _ => hF) ?_
     clear hK
     try simp only [Act.put, zeA, zeB, zeC]
     refine Till.one (i := 10) (by kernel_rfl) rfl (fun J9 hK => ?_)
     go_simp
     refine hK.out _ _ (fun h => absurd h (by decide)) ?_
     clear hK hF
     try simp only [Act.put, zeA, zeB, zeC]
     refine Till.one (i := 11) (by kernel_rfl) rfl (fun J9 hK => ?_)
     go_simp
     refine hK.out _ _ (fun h => absurd h (by decide)) ?_
     clear hK
     try simp only [Act.put, zeA, zeB, zeC]
     have oaz := hO.2.1 1 _ rfl; have paz := hO.2.2 1
     refine Till.one (i := 12) (by kernel_rfl) rfl (fun J9 hK => ?_)
     go_simp
     have oo1 := hO.2.2 1; have oo3 := hO.2.2 3
     replace hO := hO.put (k := 1) (by simp) (.slice ga1 ga2 ga3)
     simp only [zeB, zeC] at hO
     replace d0 := zah hkO9 d0 (j' := 1) (u := .slice ga1 ga2 ga3)
     replace d1 := zah hkO9 d1 (j' := 1) (u := .slice ga1 ga2 ga3)
     replace d2 := zah hkO9 d2 (j' := 1) (u := .slice ga1 ga2 ga3)
     replace d3 := zah hkO9 d3 (j' := 1) (u := .slice ga1 ga2 ga3)
     replace ra := ra.same _ (zu (a := ⟨O, 1, none⟩) (v := .slice ga1 ga2 ga3) (fun b hb e => by have := (hfxa b hb).1; simp only at e; omega))
     replace rb := rb.same _ (zu (a := ⟨O, 1, none⟩) (v := .slice ga1 ga2 ga3) (fun b hb e => by have := (hfxb b hb).1; simp only at e; omega))
     replace hR := hR.put_other (c := O) (k := 1) (by omega) (.slice ga1 ga2 ga3)
     replace T := T.put (b := O) (k := 1) (by omega) (fun h => by have := hfaO _ h; omega) (fun h => by have := (hfb _ h).1; omega) (.slice ga1 ga2 ga3)
     replace hB := Below.setCell hB (show w.heap.size ≤ (⟨O, 1, none⟩ : Addr).block by simp only; omega) (.slice ga1 ga2 ga3)
     replace hbO := Below.setCell hbO (show O ≤ (⟨O, 1, none⟩ : Addr).block by simp only; omega) (.slice ga1 ga2 ga3)
     clear oo1 oo3
     refine hK.out _ _ (fun h => absurd h (by decide)) ?_
     clear hK oaz paz
     try simp only [Act.put, zeA, zeB, zeC]
     refine Till.done (by kernel_rfl) ?_ _
     generalize (V3).setCell ⟨O, 1, none⟩ (.slice ga1 ga2 ga3) = V3z at *
     replace hfa := hfaO2
     go_upto_region 26 with fail
     refine Till.start (F := (fun U : World => U.cell? ⟨O, 3, none⟩ = some (.slice sb1 sb2 sb3) ∧ U.cell? ⟨kb, ko + k * 4, none⟩ = some (.string l[k].a.name) ∧ U.cell? ⟨kb, ko + k * 4 + 1, none⟩ = some (.slice i1 l[k].a.kids.length p1) ∧ U.cell? ⟨kb, ko + k * 4 + 2, none⟩ = some (.string l[k].b.name) ∧ U.cell? ⟨kb, ko + k * 4 + 3, none⟩ = some (.slice i3 l[k].b.kids.length p3))) (s0 := 10) (by kernel_rfl) ?_
     have hbd := zj V3z
     replace hO := hO.below hbd
     replace hR := hR.below hbd
     replace ra := ra.below hbd
     replace rb := rb.below hbd
     replace T := T.below hbd
     replace d0 := za d0 hbd
     replace d1 := za d1 hbd
     replace d2 := za d2 hbd
     replace d3 := za d3 hbd
     replace hB := hB.trans (hbd.mono hB.size)
     replace hbO := hbO.trans (hbd.mono (by have := hbO.size; omega))
     clear hbd
     generalize V3z.drew = V3zd at *
     have hF : (fun U : World => U.cell? ⟨O, 3, none⟩ = some (.slice sb1 sb2 sb3) ∧ U.cell? ⟨kb, ko + k * 4, none⟩ = some (.string l[k].a.name) ∧ U.cell? ⟨kb, ko + k * 4 + 1, none⟩ = some (.slice i1 l[k].a.kids.length p1) ∧ U.cell? ⟨kb, ko + k * 4 + 2, none⟩ = some (.string l[k].b.name) ∧ U.cell? ⟨kb, ko + k * 4 + 3, none⟩ = some (.slice i3 l[k].b.kids.length p3)) V3zd := ⟨hO.2.1 3 _ rfl, d0, d1, d2, d3⟩
     refine Till.take (i := 0) (v := (.pointer (some ⟨O, 2, none⟩))) rfl (by kernel_rfl) (by kernel_rfl) (by kernel_rfl) (fun _ _ _ h => h) (by kernel_rfl) (Or.inl ⟨by rfl, fun U hU => ?_⟩) hF ?_
     ·obtain ⟨o1F, d0F, d1F, d2F, d3F⟩ := hU
      go_simp
     try simp only [Act.put, zeA, zeB, zeC]
     refine Till.take (i := 1) (v := (.pointer (some ⟨O, 3, none⟩))) rfl (by kernel_rfl) (by kernel_rfl) (by kernel_rfl) (fun _ _ _ h => h) (by kernel_rfl) (Or.inl ⟨by rfl, fun U hU => ?_⟩) hF ?_
     ·obtain ⟨o1F, d0F, d1F, d2F, d3F⟩ := hU
      go_simp
     try simp only [Act.put, zeA, zeB, zeC]
     refine Till.take (i := 2) (v := (.slice sb1 sb2 sb3)) rfl (by kernel_rfl) (by kernel_rfl) (by kernel_rfl) (fun _ _ _ h => h) (by kernel_rfl) (Or.inl ⟨by rfl, fun U hU => ?_⟩) hF ?_
     ·obtain ⟨o1F, d0F, d1F, d2F, d3F⟩ := hU
      go_simp
     try simp only [Act.put, zeA, zeB, zeC]
     refine Till.take (i := 3) (v := (.slice (some ⟨kb, ko, none⟩) l.length kc)) rfl (by kernel_rfl) (by kernel_rfl) (by kernel_rfl) (fun _ _ _ h => h) (by kernel_rfl) (Or.inl ⟨by rfl, fun U hU => ?_⟩) hF ?_
     ·obtain ⟨o1F, d0F, d1F, d2F, d3F⟩ := hU
      go_simp
     try simp only [Act.put, zeA, zeB, zeC]
     refine Till.take (i := 4) (v := (.int .i64 k)) rfl (by kernel_rfl) (by kernel_rfl) (by kernel_rfl) (fun _ _ _ h => h) (by kernel_rfl) (Or.inl ⟨by rfl, fun U hU => ?_⟩) hF ?_
     ·obtain ⟨o1F, d0F, d1F, d2F, d3F⟩ := hU
      go_simp
     try simp only [Act.put, zeA, zeB, zeC]
     refine Till.take (i := 5) (v := (.pointer (some ⟨kb, ko + k * 4, none⟩))) rfl (by kernel_rfl) (by kernel_rfl) (by kernel_rfl) (fun _ _ _ h => h) (by kernel_rfl) (Or.inl ⟨by rfl, fun U hU => ?_⟩) hF ?_
     ·obtain ⟨o1F, d0F, d1F, d2F, d3F⟩ := hU
      go_simp
     try simp only [Act.put, zeA, zeB, zeC]
     refine Till.take (i := 6) (v := (.pointer (some ⟨kb, ko + k * 4 + 2, none⟩))) rfl (by kernel_rfl) (by kernel_rfl) (by kernel_rfl) (fun _ _ _ h => h) (by kernel_rfl) (Or.inl ⟨by rfl, fun U hU => ?_⟩) hF ?_
     ·obtain ⟨o1F, d0F, d1F, d2F, d3F⟩ := hU
      go_simp
     try simp only [Act.put, zeA, zeB, zeC]
     refine Till.take (i := 7) (v := (.agg #[.string l[k].b.name, .slice i3 l[k].b.kids.length p3])) rfl (by kernel_rfl) (by kernel_rfl) (by kernel_rfl) (fun _ _ _ h => h) (by kernel_rfl) (Or.inl ⟨by rfl, fun U hU => ?_⟩) hF ?_
     ·obtain ⟨o1F, d0F, d1F, d2F, d3F⟩ := hU
      go_simp
     try simp only [Act.put, zeA, zeB, zeC]
     refine Till.one (i := 8) (by kernel_rfl) rfl (fun J9 hK => ?_)
     go_simp
     have hSb := Bx.new V3zd [.string l[k].b.name, .slice i3 l[k].b.kids.length p3] 29
     have nSba : _ ≠ some V3zd.heap.size := T.newA
     have nSbb : _ ≠ some V3zd.heap.size := T.newB
     have hba := zb V3zd (.cells #[.string l[k].b.name, .slice i3 l[k].b.kids.length p3] 29)
     replace hO := hO.below hba
     replace hR := hR.below hba
     replace T := T.below hba
     replace ra := ra.below hba
     replace rb := rb.below hba
     replace d0 := za d0 hba
     replace d1 := za d1 hba
     replace d2 := za d2 hba
     replace d3 := za d3 hba
     replace hbO := hbO.trans (hba.mono (by have := hbO.size; omega))
     replace hB := hB.trans (hba.mono hB.size)
     clear hba
     generalize V3zd.alloc (.cells #[.string l[k].b.name, .slice i3 l[k].b.kids.length p3] 29) = V5 at *
     replace hF : (fun U : World => U.cell? ⟨O, 3, none⟩ = some (.slice sb1 sb2 sb3) ∧ U.cell? ⟨kb, ko + k * 4, none⟩ = some (.string l[k].a.name) ∧ U.cell? ⟨kb, ko + k * 4 + 1, none⟩ = some (.slice i1 l[k].a.kids.length p1) ∧ U.cell? ⟨kb, ko + k * 4 + 2, none⟩ = some (.string l[k].b.name) ∧ U.cell? ⟨kb, ko + k * 4 + 3, none⟩ = some (.slice i3 l[k].b.kids.length p3)) V5 := ⟨hO.2.1 3 _ rfl, d0, d1, d2, d3⟩
     refine hK.out _ _ (fun _ => hF) ?_
     clear hK
     try simp only [Act.put, zeA, zeB, zeC]
     refine Till.one (i := 9) (by kernel_rfl) rfl (fun J9 hK => ?_)
     refine zL zag rfl _ _ rfl (O + 1) _ _ _ rfl (by exact T.hb) ⟨V3zd.heap.size, 0, none⟩ 1 1 [(l[k].b).cd] [.string l[k].b.name, .slice i3 l[k].b.kids.length p3] fxb rfl rfl ?rd27 ?k27 ?cells27 ?na27 ?bytes27 ?len27 ?base27 ?next27
     case rd27 => simpa using Tm.rdvs nb rb
     case k27 => simp [Tm.cd_len]
     case cells27 => exact fun j u hj => by simpa [Addr.add_lit] using hSb.2.1 j u hj
     case na27 => exact fun b hb => T.neB (Nat.lt_succ_of_lt (hfxb b hb).1)
     case bytes27 => have := hlmb; simp only [zeN, List.length_cons, List.length_nil] at this ⊢; omega
     case len27 => have := hlmb; simp only [zeN, List.length_cons, List.length_nil] at this ⊢; omega
     case base27 => exact T.sz
     intro v' V6 ho hg hv hs4
     obtain ⟨gb1, gb2, gb3, rfl⟩ := ho.form'
     have hzg := hg.size
     replace hO := hO.grown hg (T.neB (by omega))
     replace hR := hR.grown hg (T.neB (by omega))
     have rn : ∀ b, b < O + 1 → V6.heap[b]? = V5.heap[b]? := fun b hb => Moved.block ⟨hg, hv⟩ (by have := T.sz; omega) (T.neB hb)
     replace ra := ra.same _ (fun b hb => rn b (Nat.lt_succ_of_lt (hfxa b hb).1))
     replace rb := rb.same _ (fun b hb => rn b (Nat.lt_succ_of_lt (hfxb b hb).1))
     replace d0 := zh (rn _ hkO) d0
     replace d1 := zh (rn _ hkO) d1
     replace d2 := zh (rn _ hkO) d2
     replace d3 := zh (rn _ hkO) d3
     clear rn
     replace hbO := ze hbO hg (by have := hbO.size; omega) (fun q hq => by have := (T.hb.block hq).1; omega)
     replace hB := ze hB hg hB.size (fun q hq => by have := (T.hb.block hq).1; omega)
     replace T := T.appB ho hg hv (fun b hb => Nat.lt_succ_of_lt (hfxb b hb).1)
     clear ho hg hv hs4 hSb nSba nSbb hzg
     replace hF : (fun U : World => U.cell? ⟨O, 3, none⟩ = some (.slice sb1 sb2 sb3) ∧ U.cell? ⟨kb, ko + k * 4, none⟩ = some (.string l[k].a.name) ∧ U.cell? ⟨kb, ko + k * 4 + 1, none⟩ = some (.slice i1 l[k].a.kids.length p1) ∧ U.cell? ⟨kb, ko + k * 4 + 2, none⟩ = some (.string l[k].b.name) ∧ U.cell? ⟨kb, ko + k * 4 + 3, none⟩ = some (.slice i3 l[k].b.kids.length p3)) V6 := ⟨hO.2.1 3 _ rfl, d0, d1, d2, d3⟩
     refine hK.out _ _ (fun _ => hF) ?_
     clear hK
     try simp only [Act.put, zeA, zeB, zeC]
     refine Till.one (i := 10) (by kernel_rfl) rfl (fun J9 hK => ?_)
     go_simp
     refine hK.out _ _ (fun h => absurd h (by decide)) ?_
     clear hK hF
     try simp only [Act.put, zeA, zeB, zeC]
     refine Till.one (i := 11) (by kernel_rfl) rfl (fun J9 hK => ?_)
     go_simp
     refine hK.out _ _ (fun h => absurd h (by decide)) ?_
     clear hK
     try simp only [Act.put, zeA, zeB, zeC]
     have obz := hO.2.1 3 _ rfl; have pbz := hO.2.2 3
     refine Till.one (i := 12) (by kernel_rfl) rfl (fun J9 hK => ?_)
     go_simp
     have oo1 := hO.2.2 1; have oo3 := hO.2.2 3
     replace hO := hO.put (k := 3) (by simp) (.slice gb1 gb2 gb3)
     simp only [zeB, zeC] at hO
     replace d0 := zah hkO9 d0 (j' := 3) (u := .slice gb1 gb2 gb3)
     replace d1 := zah hkO9 d1 (j' := 3) (u := .slice gb1 gb2 gb3)
     replace d2 := zah hkO9 d2 (j' := 3) (u := .slice gb1 gb2 gb3)
     replace d3 := zah hkO9 d3 (j' := 3) (u := .slice gb1 gb2 gb3)
     replace ra := ra.same _ (zu (a := ⟨O, 3, none⟩) (v := .slice gb1 gb2 gb3) (fun b hb e => by have := (hfxa b hb).1; simp only at e; omega))
     replace rb := rb.same _ (zu (a := ⟨O, 3, none⟩) (v := .slice gb1 gb2 gb3) (fun b hb e => by have := (hfxb b hb).1; simp only at e; omega))
     replace hR := hR.put_other (c := O) (k := 3) (by omega) (.slice gb1 gb2 gb3)
     replace T := T.put (b := O) (k := 3) (by omega) (fun h => by have := hfaO _ h; omega) (fun h => by have := hfbO _ h; omega) (.slice gb1 gb2 gb3)
     replace hB := Below.setCell hB (show w.heap.size ≤ (⟨O, 3, none⟩ : Addr).block by simp only; omega) (.slice gb1 gb2 gb3)
     replace hbO := Below.setCell hbO (show O ≤ (⟨O, 3, none⟩ : Addr).block by simp only; omega) (.slice gb1 gb2 gb3)
     clear oo1 oo3
     refine hK.out _ _ (fun h => absurd h (by decide)) ?_
     clear hK obz pbz
     try simp only [Act.put, zeA, zeB, zeC]
     refine Till.done (by kernel_rfl) ?_ _
     generalize (V6).setCell ⟨O, 3, none⟩ (.slice gb1 gb2 gb3) = V6z at *
     go_wp2_with fail
     go_roundw
     case rel => exact ⟨k + 1, _, _, _, _, by omega, by go_num, by rw [HTA.out, HTB.out]; exact T, hfaO2, hfbO2, hO, hR, hB, hbO⟩
     case measure => simp [intOf]; omega
    ·obtain rfl : k = l.length := by omega
     rw [List.take_length] at T
     obtain ⟨⟨fra, hra, hfra⟩, frb, hrb, hfrb⟩ := T.rd
     obtain ⟨ga, gc, rfl, _, _⟩ := zc hra
     obtain ⟨ja, jc, rfl, _, _⟩ := zc hrb
     simp only [zeN] at hra hrb hO
     have hTA : TmR wq (.mk t.name (l.map Eqn.a)) (.agg #[.string t.name, .slice ga l.length gc]) := TmR.mk m2 ⟨_, hra⟩
     have hTB : TmR wq (.mk t.name (l.map Eqn.b)) (.agg #[.string t.name, .slice ja l.length jc]) := TmR.mk m2 ⟨_, hrb⟩
     have hfab : ∀ b ∈ fra ++ frb, b < lo ∨ w.heap.size + 1 + 1 ≤ b := fun b hb => by
      rcases zeI.1 hb with h | h
      ·rcases hfra b h with h | h
       ·exact (hfa b h).2
       ·right; omega
      ·rcases hfrb b h with h | h
       ·exact (hfb b h).2
       ·right; omega
     obtain ⟨ba, hba⟩ : ∃ b, (Tm.mk t.name (l.map Eqn.a)).wf = b := ⟨_, rfl⟩
     obtain ⟨bw, hbb⟩ : ∃ b, (Tm.mk t.name (l.map Eqn.b)).wf = b := ⟨_, rfl⟩
     have HWA := Lib.hid hba
     have HWB := Lib.hid hbb
     have HY : Hid (Wy.tells es (d + 1) (.mk 5 0 t ks) = if (ba && bw) = true then some ⟨.mk t.name (l.map Eqn.a), .mk t.name (l.map Eqn.b)⟩ else none) := Lib.hid (by
      have h0 : 0 < l.length := by omega
      cases ba
      ·exact Wy.tells_none HLL.out (by simp [zx, hba])
      ·cases bw
       ·exact Wy.tells_none HLL.out (by simp [zx, hbb])
       ·exact Wy.tells_some HLL.out (by simp [zx, hba, hbb, h0, hk0]))
     clear hba hbb T hfa hfb hfra hfrb hk0 hl0
     have hszA := zcr (n := t.name) (f := Eqn.a) hll (fun e he => (HLT.out e he).1)
     have hszB := zcr (n := t.name) (f := Eqn.b) hll (fun e he => (HLT.out e he).2)
     go_upto_region 27 with fail
     cases ba
     ·refine Ever.start (F := (fun U : World => U.cell? ⟨O, 0, none⟩ = some (.string t.name) ∧ U.cell? ⟨O, 1, none⟩ = some (.slice ga l.length gc) ∧ U.cell? ⟨O, 2, none⟩ = some (.string t.name) ∧ U.cell? ⟨O, 3, none⟩ = some (.slice ja l.length jc))) (by kernel_rfl) ?_
      have hF : (fun U : World => U.cell? ⟨O, 0, none⟩ = some (.string t.name) ∧ U.cell? ⟨O, 1, none⟩ = some (.slice ga l.length gc) ∧ U.cell? ⟨O, 2, none⟩ = some (.string t.name) ∧ U.cell? ⟨O, 3, none⟩ = some (.slice ja l.length jc)) _ := ⟨hO.2.1 0 _ rfl, hO.2.1 1 _ rfl, hO.2.1 2 _ rfl, hO.2.1 3 _ rfl⟩
      refine Ever.take (i := 0) (v := (.agg #[.string t.name, .slice ga l.length gc, .string t.name, .slice ja l.length jc])) rfl (by kernel_rfl) (by kernel_rfl) (by kernel_rfl) (fun _ _ _ h => h) (Or.inl ⟨by rfl, fun U hU => ?_⟩) hF ?_
      ·obtain ⟨o0F, o1F, o2F, o3F⟩ := hU
       go_simp
      try simp only [Act.put, zeA, zeB, zeC]
      refine Ever.take (i := 1) (v := (.pointer (some ⟨O, 0, none⟩))) rfl (by kernel_rfl) (by kernel_rfl) (by kernel_rfl) (fun _ _ _ h => h) (Or.inl ⟨by rfl, fun U hU => ?_⟩) hF ?_
      ·obtain ⟨o0F, o1F, o2F, o3F⟩ := hU
       go_simp
      try simp only [Act.put, zeA, zeB, zeC]
      refine Ever.take (i := 2) (v := (.agg #[.string t.name, .slice ga l.length gc])) rfl (by kernel_rfl) (by kernel_rfl) (by kernel_rfl) (fun _ _ _ h => h) (Or.inl ⟨by rfl, fun U hU => ?_⟩) hF ?_
      ·obtain ⟨o0F, o1F, o2F, o3F⟩ := hU
       go_simp
      try simp only [Act.put, zeA, zeB, zeC]
      refine Ever.one (i := 3) (by kernel_rfl) rfl (fun J9 hK => ?_)
      go_simp
      go_wp2_with (go_at_call 57; refine (zan (.mk t.name (l.map Eqn.a)) _ _ hszA (by exact hTA.drew)).mono ?_; rintro e u2 ⟨rfl, hbu⟩)
      rw [HWA.out]
      replace hbu := zg hbu
      replace hO := hO.below hbu
      replace hR := hR.below hbu
      replace hra := hra.below hbu
      replace hTB := hTB.below hbu
      replace hrb := hrb.below hbu
      replace hB := hB.trans (hbu.mono hB.size)
      clear hbu
      replace hF : (fun U : World => U.cell? ⟨O, 0, none⟩ = some (.string t.name) ∧ U.cell? ⟨O, 1, none⟩ = some (.slice ga l.length gc) ∧ U.cell? ⟨O, 2, none⟩ = some (.string t.name) ∧ U.cell? ⟨O, 3, none⟩ = some (.slice ja l.length jc)) _ := ⟨hO.2.1 0 _ rfl, hO.2.1 1 _ rfl, hO.2.1 2 _ rfl, hO.2.1 3 _ rfl⟩
      refine hK.out _ _ hF ?_
      clear hK
      try simp only [Act.put, zeA, zeB, zeC]
      refine Ever.take (i := 4) (v := (.bool false)) rfl (by kernel_rfl) (by kernel_rfl) (by kernel_rfl) (fun _ _ _ h => h) (Or.inl ⟨by rfl, fun U hU => ?_⟩) hF ?_
      ·obtain ⟨o0F, o1F, o2F, o3F⟩ := hU
       go_simp
      try simp only [Act.put, zeA, zeB, zeC]
      refine Ever.take (i := 5) (v := undef) rfl (by kernel_rfl) (by kernel_rfl) (by kernel_rfl) (fun _ _ _ h => h) (Or.inr ⟨by go_simp, rfl⟩) hF ?_
      try simp only [Act.put, zeA, zeB, zeC]
      refine Ever.take (i := 6) (v := undef) rfl (by kernel_rfl) (by kernel_rfl) (by kernel_rfl) (fun _ _ _ h => h) (Or.inr ⟨by go_simp, rfl⟩) hF ?_
      try simp only [Act.put, zeA, zeB, zeC]
      refine Ever.one (i := 7) (by kernel_rfl) rfl (fun J9 hK => ?_)
      go_simp
      refine hK.out _ _ hF ?_
      clear hK
      try simp only [Act.put, zeA, zeB, zeC]
      refine Ever.take (i := 8) (v := (.bool false)) rfl (by kernel_rfl) (by kernel_rfl) (by kernel_rfl) (fun _ _ _ h => h) (Or.inl ⟨by rfl, fun U hU => ?_⟩) hF ?_
      ·obtain ⟨o0F, o1F, o2F, o3F⟩ := hU
       go_simp
      try simp only [Act.put, zeA, zeB, zeC]
      refine Ever.one (i := 9) (by kernel_rfl) rfl (fun J9 hK => ?_)
      have r0 := hR.2.1 0 _ rfl; have zz0 := hR.2.2 0
      have r1 := hR.2.1 1 _ rfl; have zz1 := hR.2.2 1
      have r2 := hR.2.1 2 _ rfl; have zz2 := hR.2.2 2
      have r3 := hR.2.1 3 _ rfl; have zz3 := hR.2.2 3
      go_simp
      have gR := (((hR.put (k := 0) (by simp) (.string t.name)).put (k := 1) (by simp) (.slice ga l.length gc)).put (k := 2) (by simp) (.string t.name)).put (k := 3) (by simp) (.slice ja l.length jc)
      simp only [zeB, zeC] at gR
      replace hO := (((hO.put_other (c := w.heap.size + 1) (k := 0) (by omega) (.string t.name)).put_other (c := w.heap.size + 1) (k := 1) (by omega) (.slice ga l.length gc)).put_other (c := w.heap.size + 1) (k := 2) (by omega) (.string t.name)).put_other (c := w.heap.size + 1) (k := 3) (by omega) (.slice ja l.length jc)
      replace hF : (fun U : World => U.cell? ⟨O, 0, none⟩ = some (.string t.name) ∧ U.cell? ⟨O, 1, none⟩ = some (.slice ga l.length gc) ∧ U.cell? ⟨O, 2, none⟩ = some (.string t.name) ∧ U.cell? ⟨O, 3, none⟩ = some (.slice ja l.length jc)) _ := ⟨hO.2.1 0 _ rfl, hO.2.1 1 _ rfl, hO.2.1 2 _ rfl, hO.2.1 3 _ rfl⟩
      refine hK.out _ _ hF ?_
      clear hK
      try simp only [Act.put, zeA, zeB, zeC]
      refine Ever.one (i := 10) (by kernel_rfl) rfl (fun J9 hK => ?_)
      go_simp
      refine hK.out _ _ hF ?_
      clear hK
      try simp only [Act.put, zeA, zeB, zeC]
      refine Ever.done (by kernel_rfl) ?_ _
      have s0 := gR.2.1 0 _ rfl; have s1 := gR.2.1 1 _ rfl; have s2 := gR.2.1 2 _ rfl; have s3 := gR.2.1 3 _ rfl
      go_wp2_with fail
      refine bodyPost_ret (v := .tuple #[.agg #[.string t.name, .slice ga l.length gc, .string t.name, .slice ja l.length jc], .bool false]) (by simp [results, Tryz.results27, go_sem, s0, s1, s2, s3]) rfl ?_
      have hq := (zcL m2 hra hrb).same _ (fun b hb => zaZ (r := w.heap.size + 1) (v0 := .string t.name) (v1 := .slice ga l.length gc) (v2 := .string t.name) (v3 := .slice ja l.length jc) b (by have := hfab b hb; omega))
      exact zS (q := ⟨.mk t.name (l.map Eqn.a), .mk t.name (l.map Eqn.b)⟩) HY.out hq (fun b hb => by have := hfab b hb; omega) ((((hB.setCell (by simp) _).setCell (by simp) _).setCell (by simp) _).setCell (by simp) _)
     ·refine Ever.start (F := (fun U : World => U.cell? ⟨O, 0, none⟩ = some (.string t.name) ∧ U.cell? ⟨O, 1, none⟩ = some (.slice ga l.length gc) ∧ U.cell? ⟨O, 2, none⟩ = some (.string t.name) ∧ U.cell? ⟨O, 3, none⟩ = some (.slice ja l.length jc))) (by kernel_rfl) ?_
      have hF : (fun U : World => U.cell? ⟨O, 0, none⟩ = some (.string t.name) ∧ U.cell? ⟨O, 1, none⟩ = some (.slice ga l.length gc) ∧ U.cell? ⟨O, 2, none⟩ = some (.string t.name) ∧ U.cell? ⟨O, 3, none⟩ = some (.slice ja l.length jc)) _ := ⟨hO.2.1 0 _ rfl, hO.2.1 1 _ rfl, hO.2.1 2 _ rfl, hO.2.1 3 _ rfl⟩
      refine Ever.take (i := 0) (v := (.agg #[.string t.name, .slice ga l.length gc, .string t.name, .slice ja l.length jc])) rfl (by kernel_rfl) (by kernel_rfl) (by kernel_rfl) (fun _ _ _ h => h) (Or.inl ⟨by rfl, fun U hU => ?_⟩) hF ?_
      ·obtain ⟨o0F, o1F, o2F, o3F⟩ := hU
       go_simp
      try simp only [Act.put, zeA, zeB, zeC]
      refine Ever.take (i := 1) (v := (.pointer (some ⟨O, 0, none⟩))) rfl (by kernel_rfl) (by kernel_rfl) (by kernel_rfl) (fun _ _ _ h => h) (Or.inl ⟨by rfl, fun U hU => ?_⟩) hF ?_
      ·obtain ⟨o0F, o1F, o2F, o3F⟩ := hU
       go_simp
      try simp only [Act.put, zeA, zeB, zeC]
      refine Ever.take (i := 2) (v := (.agg #[.string t.name, .slice ga l.length gc])) rfl (by kernel_rfl) (by kernel_rfl) (by kernel_rfl) (fun _ _ _ h => h) (Or.inl ⟨by rfl, fun U hU => ?_⟩) hF ?_
      ·obtain ⟨o0F, o1F, o2F, o3F⟩ := hU
       go_simp
      try simp only [Act.put, zeA, zeB, zeC]
      refine Ever.one (i := 3) (by kernel_rfl) rfl (fun J9 hK => ?_)
      go_simp
      go_wp2_with (go_at_call 57; refine (zan (.mk t.name (l.map Eqn.a)) _ _ hszA (by exact hTA.drew)).mono ?_; rintro e u2 ⟨rfl, hbu⟩)
      rw [HWA.out]
      replace hbu := zg hbu
      replace hO := hO.below hbu
      replace hR := hR.below hbu
      replace hra := hra.below hbu
      replace hTB := hTB.below hbu
      replace hrb := hrb.below hbu
      replace hB := hB.trans (hbu.mono hB.size)
      clear hbu
      replace hF : (fun U : World => U.cell? ⟨O, 0, none⟩ = some (.string t.name) ∧ U.cell? ⟨O, 1, none⟩ = some (.slice ga l.length gc) ∧ U.cell? ⟨O, 2, none⟩ = some (.string t.name) ∧ U.cell? ⟨O, 3, none⟩ = some (.slice ja l.length jc)) _ := ⟨hO.2.1 0 _ rfl, hO.2.1 1 _ rfl, hO.2.1 2 _ rfl, hO.2.1 3 _ rfl⟩
      refine hK.out _ _ hF ?_
      clear hK
      try simp only [Act.put, zeA, zeB, zeC]
      refine Ever.take (i := 4) (v := (.bool true)) rfl (by kernel_rfl) (by kernel_rfl) (by kernel_rfl) (fun _ _ _ h => h) (Or.inl ⟨by rfl, fun U hU => ?_⟩) hF ?_
      ·obtain ⟨o0F, o1F, o2F, o3F⟩ := hU
       go_simp
      try simp only [Act.put, zeA, zeB, zeC]
      refine Ever.take (i := 5) (v := (.pointer (some ⟨O, 2, none⟩))) rfl (by kernel_rfl) (by kernel_rfl) (by kernel_rfl) (fun _ _ _ h => h) (Or.inl ⟨by go_simp, fun U hU => ?_⟩) hF ?_
      ·obtain ⟨o0F, o1F, o2F, o3F⟩ := hU
       go_simp
      try simp only [Act.put, zeA, zeB, zeC]
      refine Ever.take (i := 6) (v := (.agg #[.string t.name, .slice ja l.length jc])) rfl (by kernel_rfl) (by kernel_rfl) (by kernel_rfl) (fun _ _ _ h => h) (Or.inl ⟨by go_simp, fun U hU => ?_⟩) hF ?_
      ·obtain ⟨o0F, o1F, o2F, o3F⟩ := hU
       go_simp
      try simp only [Act.put, zeA, zeB, zeC]
      refine Ever.one (i := 7) (by kernel_rfl) rfl (fun J9 hK => ?_)
      go_simp
      go_wp2_with (go_at_call 57; refine (zan (.mk t.name (l.map Eqn.b)) _ _ hszB (by exact hTB)).mono ?_; rintro e u3 ⟨rfl, hbu⟩)
      rw [HWB.out]
      replace hO := hO.below hbu
      replace hR := hR.below hbu
      replace hra := hra.below hbu
      replace hTB := hTB.below hbu
      replace hrb := hrb.below hbu
      replace hB := hB.trans (hbu.mono hB.size)
      clear hbu
      replace hF : (fun U : World => U.cell? ⟨O, 0, none⟩ = some (.string t.name) ∧ U.cell? ⟨O, 1, none⟩ = some (.slice ga l.length gc) ∧ U.cell? ⟨O, 2, none⟩ = some (.string t.name) ∧ U.cell? ⟨O, 3, none⟩ = some (.slice ja l.length jc)) _ := ⟨hO.2.1 0 _ rfl, hO.2.1 1 _ rfl, hO.2.1 2 _ rfl, hO.2.1 3 _ rfl⟩
      refine hK.out _ _ hF ?_
      clear hK
      try simp only [Act.put, zeA, zeB, zeC]
      refine Ever.take (i := 8) (v := (.bool bw)) rfl (by kernel_rfl) (by kernel_rfl) (by kernel_rfl) (fun _ _ _ h => h) (Or.inl ⟨by rfl, fun U hU => ?_⟩) hF ?_
      ·obtain ⟨o0F, o1F, o2F, o3F⟩ := hU
       go_simp
      try simp only [Act.put, zeA, zeB, zeC]
      refine Ever.one (i := 9) (by kernel_rfl) rfl (fun J9 hK => ?_)
      have r0 := hR.2.1 0 _ rfl; have zz0 := hR.2.2 0
      have r1 := hR.2.1 1 _ rfl; have zz1 := hR.2.2 1
      have r2 := hR.2.1 2 _ rfl; have zz2 := hR.2.2 2
      have r3 := hR.2.1 3 _ rfl; have zz3 := hR.2.2 3
      go_simp
      have gR := (((hR.put (k := 0) (by simp) (.string t.name)).put (k := 1) (by simp) (.slice ga l.length gc)).put (k := 2) (by simp) (.string t.name)).put (k := 3) (by simp) (.slice ja l.length jc)
      simp only [zeB, zeC] at gR
      replace hO := (((hO.put_other (c := w.heap.size + 1) (k := 0) (by omega) (.string t.name)).put_other (c := w.heap.size + 1) (k := 1) (by omega) (.slice ga l.length gc)).put_other (c := w.heap.size + 1) (k := 2) (by omega) (.string t.name)).put_other (c := w.heap.size + 1) (k := 3) (by omega) (.slice ja l.length jc)
      replace hF : (fun U : World => U.cell? ⟨O, 0, none⟩ = some (.string t.name) ∧ U.cell? ⟨O, 1, none⟩ = some (.slice ga l.length gc) ∧ U.cell? ⟨O, 2, none⟩ = some (.string t.name) ∧ U.cell? ⟨O, 3, none⟩ = some (.slice ja l.length jc)) _ := ⟨hO.2.1 0 _ rfl, hO.2.1 1 _ rfl, hO.2.1 2 _ rfl, hO.2.1 3 _ rfl⟩
      refine hK.out _ _ hF ?_
      clear hK
      try simp only [Act.put, zeA, zeB, zeC]
      refine Ever.one (i := 10) (by kernel_rfl) rfl (fun J9 hK => ?_)
      go_simp
      refine hK.out _ _ hF ?_
      clear hK
      try simp only [Act.put, zeA, zeB, zeC]
      refine Ever.done (by kernel_rfl) ?_ _
      have s0 := gR.2.1 0 _ rfl; have s1 := gR.2.1 1 _ rfl; have s2 := gR.2.1 2 _ rfl; have s3 := gR.2.1 3 _ rfl
      go_wp2_with fail
      refine bodyPost_ret (v := .tuple #[.agg #[.string t.name, .slice ga l.length gc, .string t.name, .slice ja l.length jc], .bool bw]) (by simp [results, Tryz.results27, go_sem, s0, s1, s2, s3]) rfl ?_
      have hq := (zcL m2 hra hrb).same _ (fun b hb => zaZ (r := w.heap.size + 1) (v0 := .string t.name) (v1 := .slice ga l.length gc) (v2 := .string t.name) (v3 := .slice ja l.length jc) b (by have := hfab b hb; omega))
      exact zS (q := ⟨.mk t.name (l.map Eqn.a), .mk t.name (l.map Eqn.b)⟩) HY.out hq (fun b hb => by have := hfab b hb; omega) ((((hB.setCell (by simp) _).setCell (by simp) _).setCell (by simp) _).setCell (by simp) _)
end Go.Proofs.YtlefdhhnlbpbkaaGreat
end
