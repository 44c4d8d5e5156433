/- Parts of the proof: WhyA5. -/
import Derived.Deep.RegionHeld3
import Derived.BigQuiet
import Derived.BigRegion
import Derived.Test.YtlefdhhnlbpbkaaGreatPv28
section
namespace Go.Proofs.YtlefdhhnlbpbkaaGreat
open Go Go.RowKit
set_option linter.unusedVariables false
set_option linter.unusedSimpArgs false
set_option maxRecDepth 100000
set_option maxHeartbeats 16000000
theorem tells_c5 (es : List Eqn) (ev : Value) (ef : List Nat) (lo : Nat) (hel : es.length ≤ 1048576) (helo : ∀ b ∈ ef, b < lo) (n : Nat) (ih : ∀ (x : Wy) (vs : List Value) (xf : List Nat) (d : Nat) (g : Int) (w : World), ndV x.cd ≤ n → x.thin → g + d = 401 → d ≤ 400 → lo ≤ w.heap.size → (∀ b ∈ xf, b < lo) → RdVs w x.cd vs xf → Rd w (.sl (es.map Eqn.cd)) ev ef →
  Calls Tryz.prog 25 #[.agg vs.toArray, ev, .int .i64 g] w (zP lo (Wy.tells es d x) w)) :
  ∀ (x : Wy) (vs : List Value) (xf : List Nat) (d : Nat) (g : Int) (w : World), ndV x.cd ≤ (n + 1) → x.thin → x.rule = 5 → g + d = 401 → d ≤ 400 → lo ≤ w.heap.size → (∀ b ∈ xf, b < lo) → RdVs w x.cd vs xf → Rd w (.sl (es.map Eqn.cd)) ev ef →
  Calls Tryz.prog 25 #[.agg vs.toArray, ev, .int .i64 g] w (zP lo (Wy.tells es d x) w) := by
 intro x vs xf d g w hn hbig hru hgd hd hlo hxlo hv hx
 obtain ⟨a3, c3, f3, a4, c4, f4, rfl, rfl, m0, m1, m2, m3, m4⟩ := Wy.open hv
 obtain ⟨ea, ec, rfl, hec1, hec2⟩ := zd hx
 have hnk : ∀ y ∈ x.kids, ndV y.cd ≤ n := fun y hy => by have := Wy.kid_nd hy; omega
 have hkw : x.kids.length ≤ 1048576 ∧ ∀ y ∈ x.kids, y.thin := Wy.thin_kids hbig
 obtain ⟨r, nn, t, ks⟩ := x
 simp only [Wy.rule] at hru
 subst hru
 simp only [Wy.rule, Wy.n, Wy.t, Wy.kids] at m0 m1 m2 m3 m4 hnk hkw hv hxlo ⊢
 have HNK := Lib.hid hnk
 have HKW := Lib.hid hkw.2
 have hkl1 := hkw.1
 have hg1 : 1 ≤ g := by omega
 have hg2 : g ≤ 401 := by omega
 have hf3 : ∀ b ∈ f3, b < lo := fun b hb => hxlo b (by simp [hb])
 have hf4 : ∀ b ∈ f4, b < lo := fun b hb => hxlo b (by simp [hb])
 have IH := Lib.hid ih
 clear ih hnk hkw hbig hn hv hxlo
 have hX := (Bx.new w [.int .i64 5, .int .i64 nn, .string t.name, .slice a3 t.kids.length c3, .slice a4 ks.length c4] 32).alloc (.cells #[.string ⟨#[]⟩, .slice none 0 0, .string ⟨#[]⟩, .slice none 0 0] 36)
 have hR := Bx.new (w.alloc (.cells #[.int .i64 5, .int .i64 nn, .string t.name, .slice a3 t.kids.length c3, .slice a4 ks.length c4] 32)) [.string ⟨#[]⟩, .slice none 0 0, .string ⟨#[]⟩, .slice none 0 0] 36
 rw [World.size_alloc] at hR
 have hB : Below w.heap.size w ((w.alloc (.cells #[.int .i64 5, .int .i64 nn, .string t.name, .slice a3 t.kids.length c3, .slice a4 ks.length c4] 32)).alloc (.cells #[.string ⟨#[]⟩, .slice none 0 0, .string ⟨#[]⟩, .slice none 0 0] 36)) := ((Below.refl _ _).alloc (Nat.le_refl _) _).alloc (by simp) _
 have hW1 : ((w.alloc (.cells #[.int .i64 5, .int .i64 nn, .string t.name, .slice a3 t.kids.length c3, .slice a4 ks.length c4] 32)).alloc (.cells #[.string ⟨#[]⟩, .slice none 0 0, .string ⟨#[]⟩, .slice none 0 0] 36)).heap.size ≤ w.heap.size + 1 + 1 := by simp
 go_enter Tryz.func25, Tryz.ntmps25
 go_upto_region 1 with fail
 generalize (w.alloc (.cells #[.int .i64 5, .int .i64 nn, .string t.name, .slice a3 t.kids.length c3, .slice a4 ks.length c4] 32)).alloc (.cells #[.string ⟨#[]⟩, .slice none 0 0, .string ⟨#[]⟩, .slice none 0 0] 36) = W at *
 cases d with
 | zero =>
  have hdd : decide ((400 : Int) < g) = true := decide_eq_true (by omega)
  have HNO : Hid (Wy.tells es 0 (.mk 5 nn t ks) = none) := Lib.hid (Wy.tells_zero _)
  have r0 := hR.2.1 0 _ rfl; have zz0 := hR.2.2 0
  have r1 := hR.2.1 1 _ rfl; have zz1 := hR.2.2 1
  have r2 := hR.2.1 2 _ rfl; have zz2 := hR.2.2 2
  have r3 := hR.2.1 3 _ rfl; have zz3 := hR.2.2 3
  have gR := (((hR.put (k := 0) (by simp) (.string ⟨#[]⟩)).put (k := 1) (by simp) (.slice none 0 0)).put (k := 2) (by simp) (.string ⟨#[]⟩)).put (k := 3) (by simp) (.slice none 0 0)
  simp only [zek, zel] at gR
  have s0 := gR.2.1 0 _ rfl; have s1 := gR.2.1 1 _ rfl; have s2 := gR.2.1 2 _ rfl; have s3 := gR.2.1 3 _ rfl
  go_wp2_with fail
  refine bodyPost_ret (v := .tuple #[.agg #[.string ⟨#[]⟩, .slice none 0 0, .string ⟨#[]⟩, .slice none 0 0], .bool false]) (by simp [results, Tryz.results25, go_sem, s0, s1, s2, s3]) rfl ?_
  exact zy HNO.out ((((hB.setCell (by simp) _).setCell (by simp) _).setCell (by simp) _).setCell (by simp) _)
 | succ d =>
 have hdd : decide ((400 : Int) < g) = false := decide_eq_false (by omega)
 have x3 := hX.2.1 3 _ rfl; have x4 := hX.2.1 4 _ rfl
 go_wp2_with fail
 go_loopw [8, 22] (fun kv iv wr => ∃ (k : Nat) (l : List Eqn) (kf : List Nat), k ≤ ks.length ∧ iv = .int .i64 k ∧ Hid (Wy.tellsL es d (ks.take k) = some l) ∧ l.length ≤ k ∧ k ≤ l.length ∧ Own wr (w.heap.size + 1 + 1) 36 4 kv (l.map Eqn.cd) kf ∧ (∀ b ∈ kf, b < lo ∨ w.heap.size + 1 + 1 ≤ b) ∧ w.heap.size + 1 + 1 ≤ wr.heap.size ∧ Below (w.heap.size + 1 + 1) W wr) (fun _ iv _ => ks.length - (intOf iv).toNat)
 case atStart => exact ⟨0, [], [], Nat.zero_le _, rfl, Lib.hid (by simp [Wy.tellsL]), Nat.le_refl _, Nat.le_refl _, Own.nil _ _ _ _, by simp, hR.1, Below.refl _ _⟩
 case round =>
  obtain ⟨k, l, kf, hkl, rfl, HL, hl1, hl2, hown, hkf, hz, hb⟩ := hrel
  clear x3 x4
  replace hX := hX.below (hb.mono hW1)
  replace hR := hR.below (hb.mono hW1)
  replace hB := hB.trans (hb.mono (by omega))
  by_cases hlt : k < ks.length
  ·obtain ⟨b, off, rfl, hbs, hbm⟩ := zm m4 (by omega)
   obtain ⟨ka3, kc3, kf3, ka4, kc4, kf4, d0, d1, d2, d3, d4, n0, n1, n2, n3, n4, hsub⟩ := Wy.at (m4.below hB) hlt
   have hkr := Wy.close n0 n1 n2 n3 n4
   have hklo : ∀ y ∈ kf3 ++ kf4, y < lo := fun y hy => hf4 y (hsub y hy)
   clear n0 n1 n2 n3 n4 hsub
   have hba := zb wr (.cells #[.int .i64 ks[k].rule, .int .i64 ks[k].n, .string ks[k].t.name, .slice ka3 ks[k].t.kids.length kc3, .slice ka4 ks[k].kids.length kc4] 32)
   replace hX := hX.below hba
   replace hR := hR.below hba
   have hB1 := hB.trans (hba.mono hB.size)
   have hown1 := hown.below hba
   have hK := Bx.new wr [.int .i64 ks[k].rule, .int .i64 ks[k].n, .string ks[k].t.name, .slice ka3 ks[k].t.kids.length kc3, .slice ka4 ks[k].kids.length kc4] 32
   have hkr1 := hkr.below hba
   have hx1 := hx.below hB1
   have hz1 : wr.heap.size + 1 ≤ (wr.alloc (.cells #[.int .i64 ks[k].rule, .int .i64 ks[k].n, .string ks[k].t.name, .slice ka3 ks[k].t.kids.length kc3, .slice ka4 ks[k].kids.length kc4] 32)).heap.size := by simp
   have hb1 := hb.trans (hba.mono hz)
   obtain ⟨BK, hBK⟩ : ∃ B, B = wr.heap.size := ⟨_, rfl⟩
   rw [← hBK] at hK hz1
   go_upto_region 7 with fail
   rw [← hBK]
   have hBK1 : wr.heap.size ≤ BK := by omega
   clear hba hB hkr d0 d1 d2 d3 d4 hBK
   generalize wr.alloc (.cells #[.int .i64 ks[k].rule, .int .i64 ks[k].n, .string ks[k].t.name, .slice ka3 ks[k].t.kids.length kc3, .slice ka4 ks[k].kids.length kc4] 32) = w1 at *
   have k0 := hK.2.1 0 _ rfl; have k1 := hK.2.1 1 _ rfl; have k2 := hK.2.1 2 _ rfl; have k3 := hK.2.1 3 _ rfl; have k4 := hK.2.1 4 _ rfl
   go_wp2_with fail
   refine (IH.out ks[k] _ _ d (g + 1) _ (HNK.out _ (zes hlt)) (HKW.out _ (zes hlt)) (by omega) (by omega) (by omega) hklo (by exact hkr1) (by exact hx1)).mono ?_
   rintro e w2 ⟨n0, a1, p1, q1, n2, a5, p3, q3, rfl, hq, hb2⟩
   clear k0 k1 k2 k3 k4 hK hkr1 hx1
   obtain ⟨o, ho⟩ : ∃ o, o = Wy.tells es d ks[k] := ⟨_, rfl⟩
   rw [← ho] at hq ⊢
   have HO := Lib.hid ho
   clear ho
   have hbe := zb w2 (.cells #[.string n0, .slice a1 p1 q1, .string n2, .slice a5 p3 q3] 36)
   replace hX := (hX.below hb2).below hbe
   replace hR := (hR.below hb2).below hbe
   have hb12 := hb2.trans (hbe.mono hb2.size)
   have hB := hB1.trans (hb12.mono hB1.size)
   have hown2 := hown1.below hb12
   have hE := Bx.new w2 [.string n0, .slice a1 p1 q1, .string n2, .slice a5 p3 q3] 36
   have hz2 := hb12.size
   have hbW := hb1.trans (hb12.mono (by omega))
   cases o with
   | none =>
    have HNO := Lib.hid (Wy.tells_bad (r := 5) (n := nn) (t := t) (Wy.tellsL_no hlt HL.out HO.out.symm))
    go_upto_region 9 with fail
    clear hE
    generalize w2.alloc (.cells #[.string n0, .slice a1 p1 q1, .string n2, .slice a5 p3 q3] 36) = U at *
    have r0 := hR.2.1 0 _ rfl; have zz0 := hR.2.2 0
    have r1 := hR.2.1 1 _ rfl; have zz1 := hR.2.2 1
    have r2 := hR.2.1 2 _ rfl; have zz2 := hR.2.2 2
    have r3 := hR.2.1 3 _ rfl; have zz3 := hR.2.2 3
    have gR := (((hR.put (k := 0) (by simp) (.string ⟨#[]⟩)).put (k := 1) (by simp) (.slice none 0 0)).put (k := 2) (by simp) (.string ⟨#[]⟩)).put (k := 3) (by simp) (.slice none 0 0)
    simp only [zek, zel] at gR
    have s0 := gR.2.1 0 _ rfl; have s1 := gR.2.1 1 _ rfl; have s2 := gR.2.1 2 _ rfl; have s3 := gR.2.1 3 _ rfl
    go_wp2_with fail
    refine bodyPost_ret (v := .tuple #[.agg #[.string ⟨#[]⟩, .slice none 0 0, .string ⟨#[]⟩, .slice none 0 0], .bool false]) (by simp [results, Tryz.results25, go_sem, s0, s1, s2, s3]) rfl ?_
    exact zy HNO.out ((((hB.setCell (by simp) _).setCell (by simp) _).setCell (by simp) _).setCell (by simp) _)
   | some q =>
    obtain ⟨f, hrq, hfq⟩ := hq q rfl
    have HL2 := Lib.hid (Wy.tellsL_yes hlt HL.out HO.out.symm)
    replace hrq := hrq.below hbe
    go_upto_region 10 with fail
    clear hq hbe hb2
    obtain ⟨BE, hBE⟩ : ∃ B, B = w2.heap.size := ⟨_, rfl⟩
    rw [← hBE] at hE ⊢
    clear hBE
    generalize w2.alloc (.cells #[.string n0, .slice a1 p1 q1, .string n2, .slice a5 p3 q3] 36) = U at *
    have e0 := hE.2.1 0 _ rfl; have e1 := hE.2.1 1 _ rfl; have e2 := hE.2.1 2 _ rfl; have e3 := hE.2.1 3 _ rfl
    have hba := zb U (.cells #[.string n0, .slice a1 p1 q1, .string n2, .slice a5 p3 q3] 36)
    have hown3 := hown2.below hba
    have hrq3 := hrq.below hba
    have hlm : (l.map Eqn.cd).length ≤ 1048576 := by rw [zew]; omega
    go_wp2_with (at_builtin; refine zp zac rfl _ _ rfl (w.heap.size + 1 + 1) _ _ _ rfl hown3 ⟨U.heap.size, 0, none⟩ 1 1 [q.cd] [.string n0, .slice a1 p1 q1, .string n2, .slice a5 p3 q3] f rfl rfl ?rd ?k ?cells ?na ?bytes ?len ?base ?next)
    case rd => simpa using hrq3
    case k => simp [Eqn.cd_len]
    case cells => exact zn _ _ _
    case na => exact fun y hy e => by have := hown.block e; rcases hfq y hy with h | h <;> omega
    case bytes => first | omega | (simp; omega)
    case len => first | omega | (simp; omega)
    case base => simp; omega
    case next =>
     intro v' w' hown' hg hv' hs'
     go_wp2_with fail
     go_roundw
     case rel => exact ⟨k + 1, l ++ [q], _, by omega, by go_num, HL2, by simp; omega, by simp; omega, by rw [zeu]; simpa using hown', fun y hy => by (rcases zer.1 hy with h | h; exact hkf y h; rcases hfq y h with h | h <;> omega), by (have := hg.size; simp at this; omega), zf ((hbW.trans (hba.mono (by omega)))) hg (by simp; omega) (fun q hq => by have := (hown2.block hq).1; omega)⟩
     case measure => simp [intOf]; omega
  ·obtain rfl : k = ks.length := by omega
   have HLL : Hid (Wy.tellsL es d ks = some l) := Lib.hid (by have := HL.out; rwa [List.take_length] at this)
   obtain ⟨ka, kc, hkv, hkc1, hkc2⟩ := hown.form
   rw [zew] at hkv hkc1
   subst hkv
   have ht : TmR wr t (.agg #[.string t.name, .slice a3 t.kids.length c3]) := TmR.mk m2 ⟨f3, m3.below hB⟩
   have hrk := m3.below hB
   obtain ⟨rf, hrow, hrf⟩ := zcl hown hkf
   replace hx := hx.below hB
   have hll : l.length ≤ 1048576 := by omega
   clear HL IH HNK HKW hb hW1 hl1 hl2 hkl m3 m4 hown hkf
   by_cases hn : nn = 0
   rotate_left
   ·have HNO : Hid (Wy.tells es (d + 1) (.mk 5 nn t ks) = none) := Lib.hid (Wy.tells_none HLL.out (by simp [zM, hn]))
    have n1 : (nn != 0) = true := by simpa using hn
    clear hn
    have x0 := hX.2.1 0 _ rfl
    have x1 := hX.2.1 1 _ rfl
    have x2 := hX.2.1 2 _ rfl
    have x3 := hX.2.1 3 _ rfl
    have x4 := hX.2.1 4 _ rfl
    have r0 := hR.2.1 0 _ rfl; have zz0 := hR.2.2 0
    have r1 := hR.2.1 1 _ rfl; have zz1 := hR.2.2 1
    have r2 := hR.2.1 2 _ rfl; have zz2 := hR.2.2 2
    have r3 := hR.2.1 3 _ rfl; have zz3 := hR.2.2 3
    have gR := (((hR.put (k := 0) (by simp) (.string ⟨#[]⟩)).put (k := 1) (by simp) (.slice none 0 0)).put (k := 2) (by simp) (.string ⟨#[]⟩)).put (k := 3) (by simp) (.slice none 0 0)
    simp only [zek, zel] at gR
    have s0 := gR.2.1 0 _ rfl; have s1 := gR.2.1 1 _ rfl; have s2 := gR.2.1 2 _ rfl; have s3 := gR.2.1 3 _ rfl
    go_wp2_with fail
    refine bodyPost_ret (v := .tuple #[.agg #[.string ⟨#[]⟩, .slice none 0 0, .string ⟨#[]⟩, .slice none 0 0], .bool false]) (by simp [results, Tryz.results25, go_sem, s0, s1, s2, s3]) rfl ?_
    exact zy HNO.out ((((hB.setCell (by simp) _).setCell (by simp) _).setCell (by simp) _).setCell (by simp) _)
   subst hn
   have x0 := hX.2.1 0 _ rfl
   have x1 := hX.2.1 1 _ rfl
   have x2 := hX.2.1 2 _ rfl
   have x3 := hX.2.1 3 _ rfl
   have x4 := hX.2.1 4 _ rfl
   by_cases hl0 : l.length = 0
   ·have HNO : Hid (Wy.tells es (d + 1) (.mk 5 0 t ks) = none) := Lib.hid (Wy.tells_none HLL.out (by simp [zM, hl0]))
    have n1 : ((l.length : Int) == 0) = true := by rw [hl0]; rfl
    have r0 := hR.2.1 0 _ rfl; have zz0 := hR.2.2 0
    have r1 := hR.2.1 1 _ rfl; have zz1 := hR.2.2 1
    have r2 := hR.2.1 2 _ rfl; have zz2 := hR.2.2 2
    have r3 := hR.2.1 3 _ rfl; have zz3 := hR.2.2 3
    have gR := (((hR.put (k := 0) (by simp) (.string ⟨#[]⟩)).put (k := 1) (by simp) (.slice none 0 0)).put (k := 2) (by simp) (.string ⟨#[]⟩)).put (k := 3) (by simp) (.slice none 0 0)
    simp only [zek, zel] at gR
    have s0 := gR.2.1 0 _ rfl; have s1 := gR.2.1 1 _ rfl; have s2 := gR.2.1 2 _ rfl; have s3 := gR.2.1 3 _ rfl
    go_wp2_with fail
    refine bodyPost_ret (v := .tuple #[.agg #[.string ⟨#[]⟩, .slice none 0 0, .string ⟨#[]⟩, .slice none 0 0], .bool false]) (by simp [results, Tryz.results25, go_sem, s0, s1, s2, s3]) rfl ?_
    exact zy HNO.out ((((hB.setCell (by simp) _).setCell (by simp) _).setCell (by simp) _).setCell (by simp) _)
   have n1 : ((l.length : Int) == 0) = false := by simpa using (by omega : ¬ ((l.length : Int) = 0))
   go_wp2_with fail
   refine (zaJ t.name _ m2).mono ?_
   rintro e u1 ⟨rfl, rfl⟩
   cases hnm : zaa t.name
   ·have HNO : Hid (Wy.tells es (d + 1) (.mk 5 0 t ks) = none) := Lib.hid (Wy.tells_none HLL.out (by simp [zM, wf_name hnm]))
    clear hnm
    have r0 := hR.2.1 0 _ rfl; have zz0 := hR.2.2 0
    have r1 := hR.2.1 1 _ rfl; have zz1 := hR.2.2 1
    have r2 := hR.2.1 2 _ rfl; have zz2 := hR.2.2 2
    have r3 := hR.2.1 3 _ rfl; have zz3 := hR.2.2 3
    have gR := (((hR.put (k := 0) (by simp) (.string ⟨#[]⟩)).put (k := 1) (by simp) (.slice none 0 0)).put (k := 2) (by simp) (.string ⟨#[]⟩)).put (k := 3) (by simp) (.slice none 0 0)
    simp only [zek, zel] at gR
    have s0 := gR.2.1 0 _ rfl; have s1 := gR.2.1 1 _ rfl; have s2 := gR.2.1 2 _ rfl; have s3 := gR.2.1 3 _ rfl
    go_wp2_with fail
    refine bodyPost_ret (v := .tuple #[.agg #[.string ⟨#[]⟩, .slice none 0 0, .string ⟨#[]⟩, .slice none 0 0], .bool false]) (by simp [results, Tryz.results25, go_sem, s0, s1, s2, s3]) rfl ?_
    exact zy HNO.out ((((hB.setCell (by simp) _).setCell (by simp) _).setCell (by simp) _).setCell (by simp) _)
   by_cases hk0 : t.kids.length = 0
   rotate_left
   ·have HNO : Hid (Wy.tells es (d + 1) (.mk 5 0 t ks) = none) := Lib.hid (Wy.tells_none HLL.out (by simp [zM, hk0]))
    have n2 : decide ((0 : Int) < (t.kids.length : Int)) = true := decide_eq_true (by omega)
    clear hnm
    have r0 := hR.2.1 0 _ rfl; have zz0 := hR.2.2 0
    have r1 := hR.2.1 1 _ rfl; have zz1 := hR.2.2 1
    have r2 := hR.2.1 2 _ rfl; have zz2 := hR.2.2 2
    have r3 := hR.2.1 3 _ rfl; have zz3 := hR.2.2 3
    have gR := (((hR.put (k := 0) (by simp) (.string ⟨#[]⟩)).put (k := 1) (by simp) (.slice none 0 0)).put (k := 2) (by simp) (.string ⟨#[]⟩)).put (k := 3) (by simp) (.slice none 0 0)
    simp only [zek, zel] at gR
    have s0 := gR.2.1 0 _ rfl; have s1 := gR.2.1 1 _ rfl; have s2 := gR.2.1 2 _ rfl; have s3 := gR.2.1 3 _ rfl
    go_wp2_with fail
    refine bodyPost_ret (v := .tuple #[.agg #[.string ⟨#[]⟩, .slice none 0 0, .string ⟨#[]⟩, .slice none 0 0], .bool false]) (by simp [results, Tryz.results25, go_sem, s0, s1, s2, s3]) rfl ?_
    exact zy HNO.out ((((hB.setCell (by simp) _).setCell (by simp) _).setCell (by simp) _).setCell (by simp) _)
   have n2 : decide ((0 : Int) < (t.kids.length : Int)) = false := decide_eq_false (by omega)
   clear hnm
   obtain ⟨kb, ko, rfl, hkbz, hkbm⟩ := zm hrow (by omega)
   have hO := Bx.new wr [.string t.name, .slice none 0 0, .string t.name, .slice none 0 0] 36
   have hro : ∀ b ∈ rf, b < wr.heap.size := fun b hb => hrow.lt _ b hb
   have hRO := hR.1
   have hBz := hB.size
   have hba := zb wr (.cells #[.string t.name, .slice none 0 0, .string t.name, .slice none 0 0] 36)
   replace hX := hX.below hba
   replace hR := hR.below hba
   replace ht := ht.below hba
   replace hrk := hrk.below hba
   replace hrow := hrow.below hba
   replace hx := hx.below hba
   replace hB := hB.trans (hba.mono hB.size)
   obtain ⟨O, hOe⟩ : ∃ B, B = wr.heap.size := ⟨_, rfl⟩
   rw [← hOe] at hO hro hRO
   go_upto_region 33 with fail
   rw [← hOe]
   clear hba hOe ht hrk hx hX x0 x1 x2 x3 x4
   generalize wr.alloc (.cells #[.string t.name, .slice none 0 0, .string t.name, .slice none 0 0] 36) = v0 at *
   have T0 := TwoR.nil v0 (O + 1) hO.1
   have hOv : O + 1 ≤ v0.heap.size := hO.1
   go_wp2_with fail
   go_loopw [177] (fun iv wq => ∃ (k : Nat) (va vb : Value) (fa fb : List Nat), k ≤ l.length ∧ iv = .int .i64 k ∧ TwoR wq (O + 1) va vb ((l.take k).map Eqn.a) ((l.take k).map Eqn.b) fa fb ∧ (∀ b ∈ fa, b < O ∧ (b < lo ∨ w.heap.size + 1 + 1 ≤ b)) ∧ (∀ b ∈ fb, b < O ∧ (b < lo ∨ w.heap.size + 1 + 1 ≤ b)) ∧ Bx [.string t.name, va, .string t.name, vb] O wq ∧ Bx [.string ⟨#[]⟩, .slice none 0 0, .string ⟨#[]⟩, .slice none 0 0] (w.heap.size + 1) wq ∧ Below w.heap.size w wq ∧ Below O v0 wq) (fun iv _ => l.length - (intOf iv).toNat)
   case atStart => exact ⟨0, _, _, [], [], Nat.zero_le _, rfl, by simpa using T0, by simp, by simp, hO, hR, hB, Below.refl _ _⟩
   case round =>
    clear T0 hO hR hB
    obtain ⟨k, va, vb, fa, fb, hkl, rfl, T, hfa, hfb, hO, hR, hB, hbO⟩ := hrel
    obtain ⟨wq, rfl⟩ : ∃ x, x = wr := ⟨_, rfl⟩
    by_cases hlt : k < l.length
    ·obtain ⟨sa1, sa2, sa3, rfl⟩ := T.ha.form'
     obtain ⟨sb1, sb2, sb3, rfl⟩ := T.hb.form'
     obtain ⟨i1, p1, fxa, i3, p3, fxb, d0, d1, d2, d3, na, ra, nb, rb, hsub⟩ := Eqn.at (hrow.belowB hbO hro) hlt
     have hfxa : ∀ b ∈ fxa, b < O ∧ (b < lo ∨ w.heap.size + 1 + 1 ≤ b) := fun b hb => ⟨hro b (hsub b (by simp [hb])), hrf b (hsub b (by simp [hb]))⟩
     have hfxb : ∀ b ∈ fxb, b < O ∧ (b < lo ∨ w.heap.size + 1 + 1 ≤ b) := fun b hb => ⟨hro b (hsub b (by simp [hb])), hrf b (hsub b (by simp [hb]))⟩
     have hfaO : ∀ b ∈ fa ++ fxa, b < O := fun b hb => by rcases zer.1 hb with h | h; exact (hfa b h).1; exact (hfxa b h).1
     have hfbO : ∀ b ∈ fb ++ fxb, b < O := fun b hb => by rcases zer.1 hb with h | h; exact (hfb b h).1; exact (hfxb b h).1
     have hfaO2 : ∀ b ∈ fa ++ fxa, b < O ∧ (b < lo ∨ w.heap.size + 1 + 1 ≤ b) := fun b hb => by rcases zer.1 hb with h | h; exact hfa b h; exact hfxa b h
     have hfbO2 : ∀ b ∈ fb ++ fxb, b < O ∧ (b < lo ∨ w.heap.size + 1 + 1 ≤ b) := fun b hb => by rcases zer.1 hb with h | h; exact hfb b h; exact hfxb b h
     have hTA : (l.take (k + 1)).map Eqn.a = (l.take k).map Eqn.a ++ [l[k].a] := by rw [zeq hlt, zeu]; rfl
     have hTB : (l.take (k + 1)).map Eqn.b = (l.take k).map Eqn.b ++ [l[k].b] := by rw [zeq hlt, zeu]; rfl
     have HTA := Lib.hid hTA
     have HTB := Lib.hid hTB
     have hlma : ((l.take k).map Eqn.a).length ≤ 1048576 := by rw [zew, List.length_take]; omega
     have hlmb : ((l.take k).map Eqn.b).length ≤ 1048576 := by rw [zew, List.length_take]; omega
     clear hsub hTA hTB
     have hE := Bx.new wq [.string l[k].a.name, .slice i1 l[k].a.kids.length p1, .string l[k].b.name, .slice i3 l[k].b.kids.length p3] 36
     have nEa : _ ≠ some wq.heap.size := T.newA
     have nEb : _ ≠ some wq.heap.size := T.newB
     have hOq : O < wq.heap.size := by have := hbO.size; omega
     have hba := zb wq (.cells #[.string l[k].a.name, .slice i1 l[k].a.kids.length p1, .string l[k].b.name, .slice i3 l[k].b.kids.length p3] 36)
     replace hO := hO.below hba
     replace hR := hR.below hba
     replace ra := ra.below hba
     replace rb := rb.below hba
     replace T := T.below hba
     replace hB := hB.trans (hba.mono hB.size)
     replace hbO := hbO.trans (hba.mono (by have := T.sz; have := hbO.size; omega))
     obtain ⟨EB, hEB⟩ : ∃ B, B = wq.heap.size := ⟨_, rfl⟩
     rw [← hEB] at hE nEa nEb
     have hEO : O < EB := by omega
     go_upto_region 36 with fail
     rw [← hEB]
     clear hba hEB d0 d1 d2 d3
     generalize wq.alloc (.cells #[.string l[k].a.name, .slice i1 l[k].a.kids.length p1, .string l[k].b.name, .slice i3 l[k].b.kids.length p3] 36) = W1 at *
     refine Till.start (F := (fun U : World => U.cell? ⟨O, 1, none⟩ = some (.slice sa1 sa2 sa3) ∧ U.cell? ⟨O, 3, none⟩ = some (.slice sb1 sb2 sb3) ∧ U.cell? ⟨EB, 0, none⟩ = some (.string l[k].a.name) ∧ U.cell? ⟨EB, 1, none⟩ = some (.slice i1 l[k].a.kids.length p1) ∧ U.cell? ⟨EB, 2, none⟩ = some (.string l[k].b.name) ∧ U.cell? ⟨EB, 3, none⟩ = some (.slice i3 l[k].b.kids.length p3))) (s0 := 16) (by kernel_rfl) ?_
     have hbd := zi W1
     replace hO := hO.below hbd
     replace hE := hE.below hbd
     replace hR := hR.below hbd
     replace ra := ra.below hbd
     replace rb := rb.below hbd
     replace T := T.below hbd
     replace hbO := hbO.trans (hbd.mono (by have := hbO.size; omega))
     replace hB := hB.trans (hbd.mono hB.size)
     clear hbd
     generalize W1.drew = Wd at *
     have hF : (fun U : World => U.cell? ⟨O, 1, none⟩ = some (.slice sa1 sa2 sa3) ∧ U.cell? ⟨O, 3, none⟩ = some (.slice sb1 sb2 sb3) ∧ U.cell? ⟨EB, 0, none⟩ = some (.string l[k].a.name) ∧ U.cell? ⟨EB, 1, none⟩ = some (.slice i1 l[k].a.kids.length p1) ∧ U.cell? ⟨EB, 2, none⟩ = some (.string l[k].b.name) ∧ U.cell? ⟨EB, 3, none⟩ = some (.slice i3 l[k].b.kids.length p3)) Wd := ⟨hO.2.1 1 _ rfl, hO.2.1 3 _ rfl, hE.2.1 0 _ rfl, hE.2.1 1 _ rfl, hE.2.1 2 _ rfl, hE.2.1 3 _ rfl⟩
     refine Till.take (i := 0) (v := (.pointer (some ⟨O, 0, none⟩))) rfl (by kernel_rfl) (by kernel_rfl) (by kernel_rfl) (fun _ _ _ h => h) (by kernel_rfl) (Or.inl ⟨by rfl, fun U hU => ?_⟩) hF ?_
     ·obtain ⟨o1F, o3F, e0F, e1F, e2F, e3F⟩ := hU
      go_simp
     try simp only [Act.put, zej, zek, zel]
     refine Till.take (i := 1) (v := (.pointer (some ⟨O, 1, none⟩))) rfl (by kernel_rfl) (by kernel_rfl) (by kernel_rfl) (fun _ _ _ h => h) (by kernel_rfl) (Or.inl ⟨by rfl, fun U hU => ?_⟩) hF ?_
     ·obtain ⟨o1F, o3F, e0F, e1F, e2F, e3F⟩ := hU
      go_simp
     try simp only [Act.put, zej, zek, zel]
     refine Till.take (i := 2) (v := (.slice sa1 sa2 sa3)) rfl (by kernel_rfl) (by kernel_rfl) (by kernel_rfl) (fun _ _ _ h => h) (by kernel_rfl) (Or.inl ⟨by rfl, fun U hU => ?_⟩) hF ?_
     ·obtain ⟨o1F, o3F, e0F, e1F, e2F, e3F⟩ := hU
      go_simp
     try simp only [Act.put, zej, zek, zel]
     refine Till.take (i := 3) (v := (.pointer (some ⟨EB, 0, none⟩))) rfl (by kernel_rfl) (by kernel_rfl) (by kernel_rfl) (fun _ _ _ h => h) (by kernel_rfl) (Or.inl ⟨by rfl, fun U hU => ?_⟩) hF ?_
     ·obtain ⟨o1F, o3F, e0F, e1F, e2F, e3F⟩ := hU
      go_simp
     try simp only [Act.put, zej, zek, zel]
     refine Till.take (i := 4) (v := (.agg #[.string l[k].a.name, .slice i1 l[k].a.kids.length p1])) rfl (by kernel_rfl) (by kernel_rfl) (by kernel_rfl) (fun _ _ _ h => h) (by kernel_rfl) (Or.inl ⟨by rfl, fun U hU => ?_⟩) hF ?_
     ·obtain ⟨o1F, o3F, e0F, e1F, e2F, e3F⟩ := hU
      go_simp
     try simp only [Act.put, zej, zek, zel]
     refine Till.take (i := 7) (v := (.pointer (some ⟨O, 2, none⟩))) rfl (by kernel_rfl) (by kernel_rfl) (by kernel_rfl) (fun _ _ _ h => h) (by kernel_rfl) (Or.inl ⟨by rfl, fun U hU => ?_⟩) hF ?_
     ·obtain ⟨o1F, o3F, e0F, e1F, e2F, e3F⟩ := hU
      go_simp
     try simp only [Act.put, zej, zek, zel]
     refine Till.take (i := 8) (v := (.pointer (some ⟨O, 3, none⟩))) rfl (by kernel_rfl) (by kernel_rfl) (by kernel_rfl) (fun _ _ _ h => h) (by kernel_rfl) (Or.inl ⟨by rfl, fun U hU => ?_⟩) hF ?_
     ·obtain ⟨o1F, o3F, e0F, e1F, e2F, e3F⟩ := hU
      go_simp
     try simp only [Act.put, zej, zek, zel]
     refine Till.take (i := 9) (v := (.slice sb1 sb2 sb3)) rfl (by kernel_rfl) (by kernel_rfl) (by kernel_rfl) (fun _ _ _ h => h) (by kernel_rfl) (Or.inl ⟨by rfl, fun U hU => ?_⟩) hF ?_
     ·obtain ⟨o1F, o3F, e0F, e1F, e2F, e3F⟩ := hU
      go_simp
     try simp only [Act.put, zej, zek, zel]
     refine Till.takeP (i := 10) (v := (.pointer (some ⟨EB, 2, none⟩))) [11, 12, 13, 16] rfl (by kernel_rfl) (by kernel_rfl) (by kernel_rfl) (fun _ _ _ h => h) (by kernel_rfl) (Or.inl ⟨by rfl, fun U hU => ?_⟩) hF ?_
     ·obtain ⟨o1F, o3F, e0F, e1F, e2F, e3F⟩ := hU
      go_simp
     try simp only [Act.put, zej, zek, zel]
     refine Till.takeP (i := 11) (v := (.agg #[.string l[k].b.name, .slice i3 l[k].b.kids.length p3])) [12, 13, 16] rfl (by kernel_rfl) (by kernel_rfl) (by kernel_rfl) (fun _ _ _ h => h) (by kernel_rfl) (Or.inl ⟨by rfl, fun U hU => ?_⟩) hF ?_
     ·obtain ⟨o1F, o3F, e0F, e1F, e2F, e3F⟩ := hU
      go_simp
     try simp only [Act.put, zej, zek, zel]
     refine Till.two9 (i := 5) (j := 12) (by kernel_rfl) rfl rfl (fun J9 hK => ?_) (fun J9 hK => ?_)
     ·go_simp
      have hSa := Bx.new Wd [.string l[k].a.name, .slice i1 l[k].a.kids.length p1] 29
      have nSaa : _ ≠ some Wd.heap.size := T.newA
      have nSab : _ ≠ some Wd.heap.size := T.newB
      have hba := zb Wd (.cells #[.string l[k].a.name, .slice i1 l[k].a.kids.length p1] 29)
      replace hO := hO.below hba
      replace hE := hE.below hba
      replace hR := hR.below hba
      replace T := T.below hba
      replace ra := ra.below hba
      replace rb := rb.below hba
      replace hbO := hbO.trans (hba.mono (by have := hbO.size; omega))
      replace hB := hB.trans (hba.mono hB.size)
      clear hba
      generalize Wd.alloc (.cells #[.string l[k].a.name, .slice i1 l[k].a.kids.length p1] 29) = W2 at *
      replace hF : (fun U : World => U.cell? ⟨O, 1, none⟩ = some (.slice sa1 sa2 sa3) ∧ U.cell? ⟨O, 3, none⟩ = some (.slice sb1 sb2 sb3) ∧ U.cell? ⟨EB, 0, none⟩ = some (.string l[k].a.name) ∧ U.cell? ⟨EB, 1, none⟩ = some (.slice i1 l[k].a.kids.length p1) ∧ U.cell? ⟨EB, 2, none⟩ = some (.string l[k].b.name) ∧ U.cell? ⟨EB, 3, none⟩ = some (.slice i3 l[k].b.kids.length p3)) W2 := ⟨hO.2.1 1 _ rfl, hO.2.1 3 _ rfl, hE.2.1 0 _ rfl, hE.2.1 1 _ rfl, hE.2.1 2 _ rfl, hE.2.1 3 _ rfl⟩
      refine hK.out _ _ (fun _ => hF) ?_
      clear hK
      try simp only [Act.put, zej, zek, zel]
      refine Till.two9 (i := 6) (j := 12) (by kernel_rfl) rfl rfl (fun J9 hK => ?_) (fun J9 hK => ?_)
      ·refine zN zal rfl _ _ rfl (O + 1) _ _ _ rfl (by exact T.ha) ⟨Wd.heap.size, 0, none⟩ 1 1 [(l[k].a).cd] [.string l[k].a.name, .slice i1 l[k].a.kids.length p1] fxa rfl rfl ?rd1 ?k1 ?cells1 ?na1 ?bytes1 ?len1 ?base1 ?next1
       case rd1 => simpa using Tm.rdvs na ra
       case k1 => simp [Tm.cd_len]
       case cells1 => exact fun j u hj => by simpa [Addr.add_lit] using hSa.2.1 j u hj
       case na1 => exact fun b hb => T.neA (Nat.lt_succ_of_lt (hfxa b hb).1)
       case bytes1 => have := hlma; simp only [zew, List.length_cons, List.length_nil] at this ⊢; omega
       case len1 => have := hlma; simp only [zew, List.length_cons, List.length_nil] at this ⊢; omega
       case base1 => exact T.sz
       intro v' W3 ho hg hv hs4
       obtain ⟨ga1, ga2, ga3, rfl⟩ := ho.form'
       have hzg := hg.size
       replace hO := hO.grown hg (T.neA (by omega))
       replace hE := hE.grown hg nEa
       replace hR := hR.grown hg (T.neA (by omega))
       have rn : ∀ b, b < O + 1 → W3.heap[b]? = W2.heap[b]? := fun b hb => Moved.block ⟨hg, hv⟩ (by have := T.sz; omega) (T.neA hb)
       replace ra := ra.same _ (fun b hb => rn b (Nat.lt_succ_of_lt (hfxa b hb).1))
       replace rb := rb.same _ (fun b hb => rn b (Nat.lt_succ_of_lt (hfxb b hb).1))
       clear rn
       replace hbO := zf hbO hg (by have := hbO.size; omega) (fun q hq => by have := (T.ha.block hq).1; omega)
       replace hB := zf hB hg hB.size (fun q hq => by have := (T.ha.block hq).1; omega)
       replace T := T.appA ho hg hv (fun b hb => Nat.lt_succ_of_lt (hfxa b hb).1)
       clear ho hg hv hs4 hSa nSaa nSab hzg
       replace hF : (fun U : World => U.cell? ⟨O, 1, none⟩ = some (.slice sa1 sa2 sa3) ∧ U.cell? ⟨O, 3, none⟩ = some (.slice sb1 sb2 sb3) ∧ U.cell? ⟨EB, 0, none⟩ = some (.string l[k].a.name) ∧ U.cell? ⟨EB, 1, none⟩ = some (.slice i1 l[k].a.kids.length p1) ∧ U.cell? ⟨EB, 2, none⟩ = some (.string l[k].b.name) ∧ U.cell? ⟨EB, 3, none⟩ = some (.slice i3 l[k].b.kids.length p3)) W3 := ⟨hO.2.1 1 _ rfl, hO.2.1 3 _ rfl, hE.2.1 0 _ rfl, hE.2.1 1 _ rfl, hE.2.1 2 _ rfl, hE.2.1 3 _ rfl⟩
       refine hK.out _ _ (fun _ => hF) ?_
       clear hK
       try simp only [Act.put, zej, zek, zel]
       refine Till.takeP (i := 14) (v := (.pointer (some ⟨O, 0, none⟩))) [15, 16] rfl (by kernel_rfl) (by kernel_rfl) (by kernel_rfl) (fun _ _ _ h => h) (by kernel_rfl) (Or.inl ⟨by rfl, fun U hU => ?_⟩) hF ?_
       ·obtain ⟨o1F, o3F, e0F, e1F, e2F, e3F⟩ := hU
        go_simp
       try simp only [Act.put, zej, zek, zel]
       refine Till.take (i := 15) (v := (.pointer (some ⟨O, 1, none⟩))) rfl (by kernel_rfl) (by kernel_rfl) (by kernel_rfl) (fun _ _ _ h => h) (by kernel_rfl) (Or.inl ⟨by rfl, fun U hU => ?_⟩) hF ?_
       ·obtain ⟨o1F, o3F, e0F, e1F, e2F, e3F⟩ := hU
        go_simp
       try simp only [Act.put, zej, zek, zel]
       refine Till.one (i := 12) (by kernel_rfl) rfl (fun J9 hK => ?_)
       go_simp
       have hSb := Bx.new W3 [.string l[k].b.name, .slice i3 l[k].b.kids.length p3] 29
       have nSba : _ ≠ some W3.heap.size := T.newA
       have nSbb : _ ≠ some W3.heap.size := T.newB
       have hba := zb W3 (.cells #[.string l[k].b.name, .slice i3 l[k].b.kids.length p3] 29)
       replace hO := hO.below hba
       replace hE := hE.below hba
       replace hR := hR.below hba
       replace T := T.below hba
       replace ra := ra.below hba
       replace rb := rb.below hba
       replace hbO := hbO.trans (hba.mono (by have := hbO.size; omega))
       replace hB := hB.trans (hba.mono hB.size)
       clear hba
       generalize W3.alloc (.cells #[.string l[k].b.name, .slice i3 l[k].b.kids.length p3] 29) = W4 at *
       replace hF : (fun U : World => U.cell? ⟨O, 1, none⟩ = some (.slice sa1 sa2 sa3) ∧ U.cell? ⟨O, 3, none⟩ = some (.slice sb1 sb2 sb3) ∧ U.cell? ⟨EB, 0, none⟩ = some (.string l[k].a.name) ∧ U.cell? ⟨EB, 1, none⟩ = some (.slice i1 l[k].a.kids.length p1) ∧ U.cell? ⟨EB, 2, none⟩ = some (.string l[k].b.name) ∧ U.cell? ⟨EB, 3, none⟩ = some (.slice i3 l[k].b.kids.length p3)) W4 := ⟨hO.2.1 1 _ rfl, hO.2.1 3 _ rfl, hE.2.1 0 _ rfl, hE.2.1 1 _ rfl, hE.2.1 2 _ rfl, hE.2.1 3 _ rfl⟩
       refine hK.out _ _ (fun _ => hF) ?_
       clear hK
       try simp only [Act.put, zej, zek, zel]
       refine Till.one (i := 13) (by kernel_rfl) rfl (fun J9 hK => ?_)
       refine zN zal rfl _ _ rfl (O + 1) _ _ _ rfl (by exact T.hb) ⟨W3.heap.size, 0, none⟩ 1 1 [(l[k].b).cd] [.string l[k].b.name, .slice i3 l[k].b.kids.length p3] fxb rfl rfl ?rd2 ?k2 ?cells2 ?na2 ?bytes2 ?len2 ?base2 ?next2
       case rd2 => simpa using Tm.rdvs nb rb
       case k2 => simp [Tm.cd_len]
       case cells2 => exact fun j u hj => by simpa [Addr.add_lit] using hSb.2.1 j u hj
       case na2 => exact fun b hb => T.neB (Nat.lt_succ_of_lt (hfxb b hb).1)
       case bytes2 => have := hlmb; simp only [zew, List.length_cons, List.length_nil] at this ⊢; omega
       case len2 => have := hlmb; simp only [zew, List.length_cons, List.length_nil] at this ⊢; omega
       case base2 => exact T.sz
       intro v' W5 ho hg hv hs4
       obtain ⟨gb1, gb2, gb3, rfl⟩ := ho.form'
       have hzg := hg.size
       replace hO := hO.grown hg (T.neB (by omega))
       replace hE := hE.grown hg nEb
       replace hR := hR.grown hg (T.neB (by omega))
       have rn : ∀ b, b < O + 1 → W5.heap[b]? = W4.heap[b]? := fun b hb => Moved.block ⟨hg, hv⟩ (by have := T.sz; omega) (T.neB hb)
       replace ra := ra.same _ (fun b hb => rn b (Nat.lt_succ_of_lt (hfxa b hb).1))
       replace rb := rb.same _ (fun b hb => rn b (Nat.lt_succ_of_lt (hfxb b hb).1))
       clear rn
       replace hbO := zf hbO hg (by have := hbO.size; omega) (fun q hq => by have := (T.hb.block hq).1; omega)
       replace hB := zf hB hg hB.size (fun q hq => by have := (T.hb.block hq).1; omega)
       replace T := T.appB ho hg hv (fun b hb => Nat.lt_succ_of_lt (hfxb b hb).1)
       clear ho hg hv hs4 hSb nSba nSbb hzg
       replace hF : (fun U : World => U.cell? ⟨O, 1, none⟩ = some (.slice sa1 sa2 sa3) ∧ U.cell? ⟨O, 3, none⟩ = some (.slice sb1 sb2 sb3) ∧ U.cell? ⟨EB, 0, none⟩ = some (.string l[k].a.name) ∧ U.cell? ⟨EB, 1, none⟩ = some (.slice i1 l[k].a.kids.length p1) ∧ U.cell? ⟨EB, 2, none⟩ = some (.string l[k].b.name) ∧ U.cell? ⟨EB, 3, none⟩ = some (.slice i3 l[k].b.kids.length p3)) W5 := ⟨hO.2.1 1 _ rfl, hO.2.1 3 _ rfl, hE.2.1 0 _ rfl, hE.2.1 1 _ rfl, hE.2.1 2 _ rfl, hE.2.1 3 _ rfl⟩
       refine hK.out _ _ (fun _ => hF) ?_
       clear hK
       try simp only [Act.put, zej, zek, zel]
       have o1z := hO.2.1 1 _ rfl; have o3z := hO.2.1 3 _ rfl; have p1z := hO.2.2 1; have p3z := hO.2.2 3
       refine Till.one (i := 16) (by kernel_rfl) rfl (fun J9 hK => ?_)
       go_simp
       have oo1 := hO.2.2 1; have oo3 := hO.2.2 3
       replace hO := hO.put (k := 1) (by simp) (.slice ga1 ga2 ga3)
       simp only [zek, zel] at hO
       replace hR := hR.put_other (c := O) (k := 1) (by omega) (.slice ga1 ga2 ga3)
       replace T := T.put (b := O) (k := 1) (by omega) (fun h => by have := hfaO _ h; omega) (fun h => by have := hfbO _ h; omega) (.slice ga1 ga2 ga3)
       replace hB := Below.setCell hB (show w.heap.size ≤ (⟨O, 1, none⟩ : Addr).block by simp only; omega) (.slice ga1 ga2 ga3)
       replace hbO := Below.setCell hbO (show O ≤ (⟨O, 1, none⟩ : Addr).block by simp only; omega) (.slice ga1 ga2 ga3)
       clear oo1 oo3
       refine hK.out _ _ (fun h => absurd h (by decide)) ?_
       clear hK hF o1z
       try simp only [Act.put, zej, zek, zel]
       refine Till.one (i := 17) (by kernel_rfl) rfl (fun J9 hK => ?_)
       go_simp
       refine hK.out _ _ (fun h => absurd h (by decide)) ?_
       clear hK
       try simp only [Act.put, zej, zek, zel]
       refine Till.one (i := 18) (by kernel_rfl) rfl (fun J9 hK => ?_)
       go_simp
       refine hK.out _ _ (fun h => absurd h (by decide)) ?_
       clear hK
       try simp only [Act.put, zej, zek, zel]
       have o3y := hO.2.1 3 _ rfl; have p3y := hO.2.2 3
       refine Till.one (i := 19) (by kernel_rfl) rfl (fun J9 hK => ?_)
       go_simp
       have oo1 := hO.2.2 1; have oo3 := hO.2.2 3
       replace hO := hO.put (k := 3) (by simp) (.slice gb1 gb2 gb3)
       simp only [zek, zel] at hO
       replace hR := hR.put_other (c := O) (k := 3) (by omega) (.slice gb1 gb2 gb3)
       replace T := T.put (b := O) (k := 3) (by omega) (fun h => by have := hfaO _ h; omega) (fun h => by have := hfbO _ h; omega) (.slice gb1 gb2 gb3)
       replace hB := Below.setCell hB (show w.heap.size ≤ (⟨O, 3, none⟩ : Addr).block by simp only; omega) (.slice gb1 gb2 gb3)
       replace hbO := Below.setCell hbO (show O ≤ (⟨O, 3, none⟩ : Addr).block by simp only; omega) (.slice gb1 gb2 gb3)
       clear oo1 oo3
       refine hK.out _ _ (fun h => absurd h (by decide)) ?_
       clear hK o3y p3y
       try simp only [Act.put, zej, zek, zel]
       refine Till.done (by kernel_rfl) ?_ _
       go_wp2_with fail
       go_roundw
       case rel => exact ⟨k + 1, _, _, _, _, by omega, by go_num, by rw [HTA.out, HTB.out]; exact T, hfaO2, hfbO2, hO, hR, hB, hbO⟩
       case measure => simp [intOf]; omega
      ·go_simp
       have hSb := Bx.new W2 [.string l[k].b.name, .slice i3 l[k].b.kids.length p3] 29
       have nSba : _ ≠ some W2.heap.size := T.newA
       have nSbb : _ ≠ some W2.heap.size := T.newB
       have hba := zb W2 (.cells #[.string l[k].b.name, .slice i3 l[k].b.kids.length p3] 29)
       replace hO := hO.below hba
       replace hE := hE.below hba
       replace hR := hR.below hba
       replace hSa := hSa.below hba
       replace T := T.below hba
       replace ra := ra.below hba
       replace rb := rb.below hba
       replace hbO := hbO.trans (hba.mono (by have := hbO.size; omega))
       replace hB := hB.trans (hba.mono hB.size)
       clear hba
       generalize W2.alloc (.cells #[.string l[k].b.name, .slice i3 l[k].b.kids.length p3] 29) = W3 at *
       replace hF : (fun U : World => U.cell? ⟨O, 1, none⟩ = some (.slice sa1 sa2 sa3) ∧ U.cell? ⟨O, 3, none⟩ = some (.slice sb1 sb2 sb3) ∧ U.cell? ⟨EB, 0, none⟩ = some (.string l[k].a.name) ∧ U.cell? ⟨EB, 1, none⟩ = some (.slice i1 l[k].a.kids.length p1) ∧ U.cell? ⟨EB, 2, none⟩ = some (.string l[k].b.name) ∧ U.cell? ⟨EB, 3, none⟩ = some (.slice i3 l[k].b.kids.length p3)) W3 := ⟨hO.2.1 1 _ rfl, hO.2.1 3 _ rfl, hE.2.1 0 _ rfl, hE.2.1 1 _ rfl, hE.2.1 2 _ rfl, hE.2.1 3 _ rfl⟩
       refine hK.out _ _ (fun _ => hF) ?_
       clear hK
       try simp only [Act.put, zej, zek, zel]
       refine Till.one (i := 6) (by kernel_rfl) rfl (fun J9 hK => ?_)
       refine zN zal rfl _ _ rfl (O + 1) _ _ _ rfl (by exact T.ha) ⟨Wd.heap.size, 0, none⟩ 1 1 [(l[k].a).cd] [.string l[k].a.name, .slice i1 l[k].a.kids.length p1] fxa rfl rfl ?rd3 ?k3 ?cells3 ?na3 ?bytes3 ?len3 ?base3 ?next3
       case rd3 => simpa using Tm.rdvs na ra
       case k3 => simp [Tm.cd_len]
       case cells3 => exact fun j u hj => by simpa [Addr.add_lit] using hSa.2.1 j u hj
       case na3 => exact fun b hb => T.neA (Nat.lt_succ_of_lt (hfxa b hb).1)
       case bytes3 => have := hlma; simp only [zew, List.length_cons, List.length_nil] at this ⊢; omega
       case len3 => have := hlma; simp only [zew, List.length_cons, List.length_nil] at this ⊢; omega
       case base3 => exact T.sz
       intro v' W4 ho hg hv hs4
       obtain ⟨ga1, ga2, ga3, rfl⟩ := ho.form'
       have hzg := hg.size
       replace hO := hO.grown hg (T.neA (by omega))
       replace hE := hE.grown hg nEa
       replace hR := hR.grown hg (T.neA (by omega))
       replace hSb := hSb.grown hg nSba
       have rn : ∀ b, b < O + 1 → W4.heap[b]? = W3.heap[b]? := fun b hb => Moved.block ⟨hg, hv⟩ (by have := T.sz; omega) (T.neA hb)
       replace ra := ra.same _ (fun b hb => rn b (Nat.lt_succ_of_lt (hfxa b hb).1))
       replace rb := rb.same _ (fun b hb => rn b (Nat.lt_succ_of_lt (hfxb b hb).1))
       clear rn
       replace hbO := zf hbO hg (by have := hbO.size; omega) (fun q hq => by have := (T.ha.block hq).1; omega)
       replace hB := zf hB hg hB.size (fun q hq => by have := (T.ha.block hq).1; omega)
       replace T := T.appA ho hg hv (fun b hb => Nat.lt_succ_of_lt (hfxa b hb).1)
       clear ho hg hv hs4 hSa nSaa nSab hzg
       replace hF : (fun U : World => U.cell? ⟨O, 1, none⟩ = some (.slice sa1 sa2 sa3) ∧ U.cell? ⟨O, 3, none⟩ = some (.slice sb1 sb2 sb3) ∧ U.cell? ⟨EB, 0, none⟩ = some (.string l[k].a.name) ∧ U.cell? ⟨EB, 1, none⟩ = some (.slice i1 l[k].a.kids.length p1) ∧ U.cell? ⟨EB, 2, none⟩ = some (.string l[k].b.name) ∧ U.cell? ⟨EB, 3, none⟩ = some (.slice i3 l[k].b.kids.length p3)) W4 := ⟨hO.2.1 1 _ rfl, hO.2.1 3 _ rfl, hE.2.1 0 _ rfl, hE.2.1 1 _ rfl, hE.2.1 2 _ rfl, hE.2.1 3 _ rfl⟩
       refine hK.out _ _ (fun _ => hF) ?_
       clear hK
       try simp only [Act.put, zej, zek, zel]
       refine Till.takeP (i := 14) (v := (.pointer (some ⟨O, 0, none⟩))) [15, 16] rfl (by kernel_rfl) (by kernel_rfl) (by kernel_rfl) (fun _ _ _ h => h) (by kernel_rfl) (Or.inl ⟨by rfl, fun U hU => ?_⟩) hF ?_
       ·obtain ⟨o1F, o3F, e0F, e1F, e2F, e3F⟩ := hU
        go_simp
       try simp only [Act.put, zej, zek, zel]
       refine Till.take (i := 15) (v := (.pointer (some ⟨O, 1, none⟩))) rfl (by kernel_rfl) (by kernel_rfl) (by kernel_rfl) (fun _ _ _ h => h) (by kernel_rfl) (Or.inl ⟨by rfl, fun U hU => ?_⟩) hF ?_
       ·obtain ⟨o1F, o3F, e0F, e1F, e2F, e3F⟩ := hU
        go_simp
       try simp only [Act.put, zej, zek, zel]
       refine Till.one (i := 13) (by kernel_rfl) rfl (fun J9 hK => ?_)
       refine zN zal rfl _ _ rfl (O + 1) _ _ _ rfl (by exact T.hb) ⟨W2.heap.size, 0, none⟩ 1 1 [(l[k].b).cd] [.string l[k].b.name, .slice i3 l[k].b.kids.length p3] fxb rfl rfl ?rd4 ?k4 ?cells4 ?na4 ?bytes4 ?len4 ?base4 ?next4
       case rd4 => simpa using Tm.rdvs nb rb
       case k4 => simp [Tm.cd_len]
       case cells4 => exact fun j u hj => by simpa [Addr.add_lit] using hSb.2.1 j u hj
       case na4 => exact fun b hb => T.neB (Nat.lt_succ_of_lt (hfxb b hb).1)
       case bytes4 => have := hlmb; simp only [zew, List.length_cons, List.length_nil] at this ⊢; omega
       case len4 => have := hlmb; simp only [zew, List.length_cons, List.length_nil] at this ⊢; omega
       case base4 => exact T.sz
       intro v' W5 ho hg hv hs4
       obtain ⟨gb1, gb2, gb3, rfl⟩ := ho.form'
       have hzg := hg.size
       replace hO := hO.grown hg (T.neB (by omega))
       replace hE := hE.grown hg nEb
       replace hR := hR.grown hg (T.neB (by omega))
       have rn : ∀ b, b < O + 1 → W5.heap[b]? = W4.heap[b]? := fun b hb => Moved.block ⟨hg, hv⟩ (by have := T.sz; omega) (T.neB hb)
       replace ra := ra.same _ (fun b hb => rn b (Nat.lt_succ_of_lt (hfxa b hb).1))
       replace rb := rb.same _ (fun b hb => rn b (Nat.lt_succ_of_lt (hfxb b hb).1))
       clear rn
       replace hbO := zf hbO hg (by have := hbO.size; omega) (fun q hq => by have := (T.hb.block hq).1; omega)
       replace hB := zf hB hg hB.size (fun q hq => by have := (T.hb.block hq).1; omega)
       replace T := T.appB ho hg hv (fun b hb => Nat.lt_succ_of_lt (hfxb b hb).1)
       clear ho hg hv hs4 hSb nSba nSbb hzg
       replace hF : (fun U : World => U.cell? ⟨O, 1, none⟩ = some (.slice sa1 sa2 sa3) ∧ U.cell? ⟨O, 3, none⟩ = some (.slice sb1 sb2 sb3) ∧ U.cell? ⟨EB, 0, none⟩ = some (.string l[k].a.name) ∧ U.cell? ⟨EB, 1, none⟩ = some (.slice i1 l[k].a.kids.length p1) ∧ U.cell? ⟨EB, 2, none⟩ = some (.string l[k].b.name) ∧ U.cell? ⟨EB, 3, none⟩ = some (.slice i3 l[k].b.kids.length p3)) W5 := ⟨hO.2.1 1 _ rfl, hO.2.1 3 _ rfl, hE.2.1 0 _ rfl, hE.2.1 1 _ rfl, hE.2.1 2 _ rfl, hE.2.1 3 _ rfl⟩
       refine hK.out _ _ (fun _ => hF) ?_
       clear hK
       try simp only [Act.put, zej, zek, zel]
       have o1z := hO.2.1 1 _ rfl; have o3z := hO.2.1 3 _ rfl; have p1z := hO.2.2 1; have p3z := hO.2.2 3
       refine Till.one (i := 16) (by kernel_rfl) rfl (fun J9 hK => ?_)
       go_simp
       have oo1 := hO.2.2 1; have oo3 := hO.2.2 3
       replace hO := hO.put (k := 1) (by simp) (.slice ga1 ga2 ga3)
       simp only [zek, zel] at hO
       replace hR := hR.put_other (c := O) (k := 1) (by omega) (.slice ga1 ga2 ga3)
       replace T := T.put (b := O) (k := 1) (by omega) (fun h => by have := hfaO _ h; omega) (fun h => by have := hfbO _ h; omega) (.slice ga1 ga2 ga3)
       replace hB := Below.setCell hB (show w.heap.size ≤ (⟨O, 1, none⟩ : Addr).block by simp only; omega) (.slice ga1 ga2 ga3)
       replace hbO := Below.setCell hbO (show O ≤ (⟨O, 1, none⟩ : Addr).block by simp only; omega) (.slice ga1 ga2 ga3)
       clear oo1 oo3
       refine hK.out _ _ (fun h => absurd h (by decide)) ?_
       clear hK hF o1z
       try simp only [Act.put, zej, zek, zel]
       refine Till.one (i := 17) (by kernel_rfl) rfl (fun J9 hK => ?_)
       go_simp
       refine hK.out _ _ (fun h => absurd h (by decide)) ?_
       clear hK
       try simp only [Act.put, zej, zek, zel]
       refine Till.one (i := 18) (by kernel_rfl) rfl (fun J9 hK => ?_)
       go_simp
       refine hK.out _ _ (fun h => absurd h (by decide)) ?_
       clear hK
       try simp only [Act.put, zej, zek, zel]
       have o3y := hO.2.1 3 _ rfl; have p3y := hO.2.2 3
       refine Till.one (i := 19) (by kernel_rfl) rfl (fun J9 hK => ?_)
       go_simp
       have oo1 := hO.2.2 1; have oo3 := hO.2.2 3
       replace hO := hO.put (k := 3) (by simp) (.slice gb1 gb2 gb3)
       simp only [zek, zel] at hO
       replace hR := hR.put_other (c := O) (k := 3) (by omega) (.slice gb1 gb2 gb3)
       replace T := T.put (b := O) (k := 3) (by omega) (fun h => by have := hfaO _ h; omega) (fun h => by have := hfbO _ h; omega) (.slice gb1 gb2 gb3)
       replace hB := Below.setCell hB (show w.heap.size ≤ (⟨O, 3, none⟩ : Addr).block by simp only; omega) (.slice gb1 gb2 gb3)
       replace hbO := Below.setCell hbO (show O ≤ (⟨O, 3, none⟩ : Addr).block by simp only; omega) (.slice gb1 gb2 gb3)
       clear oo1 oo3
       refine hK.out _ _ (fun h => absurd h (by decide)) ?_
       clear hK o3y p3y
       try simp only [Act.put, zej, zek, zel]
       refine Till.done (by kernel_rfl) ?_ _
       go_wp2_with fail
       go_roundw
       case rel => exact ⟨k + 1, _, _, _, _, by omega, by go_num, by rw [HTA.out, HTB.out]; exact T, hfaO2, hfbO2, hO, hR, hB, hbO⟩
       case measure => simp [intOf]; omega
     ·go_simp
      have hSb := Bx.new Wd [.string l[k].b.name, .slice i3 l[k].b.kids.length p3] 29
      have nSba : _ ≠ some Wd.heap.size := T.newA
      have nSbb : _ ≠ some Wd.heap.size := T.newB
      have hba := zb Wd (.cells #[.string l[k].b.name, .slice i3 l[k].b.kids.length p3] 29)
      replace hO := hO.below hba
      replace hE := hE.below hba
      replace hR := hR.below hba
      replace T := T.below hba
      replace ra := ra.below hba
      replace rb := rb.below hba
      replace hbO := hbO.trans (hba.mono (by have := hbO.size; omega))
      replace hB := hB.trans (hba.mono hB.size)
      clear hba
      generalize Wd.alloc (.cells #[.string l[k].b.name, .slice i3 l[k].b.kids.length p3] 29) = W2 at *
      replace hF : (fun U : World => U.cell? ⟨O, 1, none⟩ = some (.slice sa1 sa2 sa3) ∧ U.cell? ⟨O, 3, none⟩ = some (.slice sb1 sb2 sb3) ∧ U.cell? ⟨EB, 0, none⟩ = some (.string l[k].a.name) ∧ U.cell? ⟨EB, 1, none⟩ = some (.slice i1 l[k].a.kids.length p1) ∧ U.cell? ⟨EB, 2, none⟩ = some (.string l[k].b.name) ∧ U.cell? ⟨EB, 3, none⟩ = some (.slice i3 l[k].b.kids.length p3)) W2 := ⟨hO.2.1 1 _ rfl, hO.2.1 3 _ rfl, hE.2.1 0 _ rfl, hE.2.1 1 _ rfl, hE.2.1 2 _ rfl, hE.2.1 3 _ rfl⟩
      refine hK.out _ _ (fun _ => hF) ?_
      clear hK
      try simp only [Act.put, zej, zek, zel]
      refine Till.one (i := 5) (by kernel_rfl) rfl (fun J9 hK => ?_)
      go_simp
      have hSa := Bx.new W2 [.string l[k].a.name, .slice i1 l[k].a.kids.length p1] 29
      have nSaa : _ ≠ some W2.heap.size := T.newA
      have nSab : _ ≠ some W2.heap.size := T.newB
      have hba := zb W2 (.cells #[.string l[k].a.name, .slice i1 l[k].a.kids.length p1] 29)
      replace hO := hO.below hba
      replace hE := hE.below hba
      replace hR := hR.below hba
      replace hSb := hSb.below hba
      replace T := T.below hba
      replace ra := ra.below hba
      replace rb := rb.below hba
      replace hbO := hbO.trans (hba.mono (by have := hbO.size; omega))
      replace hB := hB.trans (hba.mono hB.size)
      clear hba
      generalize W2.alloc (.cells #[.string l[k].a.name, .slice i1 l[k].a.kids.length p1] 29) = W3 at *
      replace hF : (fun U : World => U.cell? ⟨O, 1, none⟩ = some (.slice sa1 sa2 sa3) ∧ U.cell? ⟨O, 3, none⟩ = some (.slice sb1 sb2 sb3) ∧ U.cell? ⟨EB, 0, none⟩ = some (.string l[k].a.name) ∧ U.cell? ⟨EB, 1, none⟩ = some (.slice i1 l[k].a.kids.length p1) ∧ U.cell? ⟨EB, 2, none⟩ = some (.string l[k].b.name) ∧ U.cell? ⟨EB, 3, none⟩ = some (.slice i3 l[k].b.kids.length p3)) W3 := ⟨hO.2.1 1 _ rfl, hO.2.1 3 _ rfl, hE.2.1 0 _ rfl, hE.2.1 1 _ rfl, hE.2.1 2 _ rfl, hE.2.1 3 _ rfl⟩
      refine hK.out _ _ (fun _ => hF) ?_
      clear hK
      try simp only [Act.put, zej, zek, zel]
      refine Till.one (i := 6) (by kernel_rfl) rfl (fun J9 hK => ?_)
      refine zN zal rfl _ _ rfl (O + 1) _ _ _ rfl (by exact T.ha) ⟨W2.heap.size, 0, none⟩ 1 1 [(l[k].a).cd] [.string l[k].a.name, .slice i1 l[k].a.kids.length p1] fxa rfl rfl ?rd5 ?k5 ?cells5 ?na5 ?bytes5 ?len5 ?base5 ?next5
      case rd5 => simpa using Tm.rdvs na ra
      case k5 => simp [Tm.cd_len]
      case cells5 => exact fun j u hj => by simpa [Addr.add_lit] using hSa.2.1 j u hj
      case na5 => exact fun b hb => T.neA (Nat.lt_succ_of_lt (hfxa b hb).1)
      case bytes5 => have := hlma; simp only [zew, List.length_cons, List.length_nil] at this ⊢; omega
      case len5 => have := hlma; simp only [zew, List.length_cons, List.length_nil] at this ⊢; omega
      case base5 => exact T.sz
      intro v' W4 ho hg hv hs4
      obtain ⟨ga1, ga2, ga3, rfl⟩ := ho.form'
      have hzg := hg.size
      replace hO := hO.grown hg (T.neA (by omega))
      replace hE := hE.grown hg nEa
      replace hR := hR.grown hg (T.neA (by omega))
      replace hSb := hSb.grown hg nSba
      have rn : ∀ b, b < O + 1 → W4.heap[b]? = W3.heap[b]? := fun b hb => Moved.block ⟨hg, hv⟩ (by have := T.sz; omega) (T.neA hb)
      replace ra := ra.same _ (fun b hb => rn b (Nat.lt_succ_of_lt (hfxa b hb).1))
      replace rb := rb.same _ (fun b hb => rn b (Nat.lt_succ_of_lt (hfxb b hb).1))
      clear rn
      replace hbO := zf hbO hg (by have := hbO.size; omega) (fun q hq => by have := (T.ha.block hq).1; omega)
      replace hB := zf hB hg hB.size (fun q hq => by have := (T.ha.block hq).1; omega)
      replace T := T.appA ho hg hv (fun b hb => Nat.lt_succ_of_lt (hfxa b hb).1)
      clear ho hg hv hs4 hSa nSaa nSab hzg
      replace hF : (fun U : World => U.cell? ⟨O, 1, none⟩ = some (.slice sa1 sa2 sa3) ∧ U.cell? ⟨O, 3, none⟩ = some (.slice sb1 sb2 sb3) ∧ U.cell? ⟨EB, 0, none⟩ = some (.string l[k].a.name) ∧ U.cell? ⟨EB, 1, none⟩ = some (.slice i1 l[k].a.kids.length p1) ∧ U.cell? ⟨EB, 2, none⟩ = some (.string l[k].b.name) ∧ U.cell? ⟨EB, 3, none⟩ = some (.slice i3 l[k].b.kids.length p3)) W4 := ⟨hO.2.1 1 _ rfl, hO.2.1 3 _ rfl, hE.2.1 0 _ rfl, hE.2.1 1 _ rfl, hE.2.1 2 _ rfl, hE.2.1 3 _ rfl⟩
      refine hK.out _ _ (fun _ => hF) ?_
      clear hK
      try simp only [Act.put, zej, zek, zel]
      refine Till.takeP (i := 14) (v := (.pointer (some ⟨O, 0, none⟩))) [15, 16] rfl (by kernel_rfl) (by kernel_rfl) (by kernel_rfl) (fun _ _ _ h => h) (by kernel_rfl) (Or.inl ⟨by rfl, fun U hU => ?_⟩) hF ?_
      ·obtain ⟨o1F, o3F, e0F, e1F, e2F, e3F⟩ := hU
       go_simp
      try simp only [Act.put, zej, zek, zel]
      refine Till.take (i := 15) (v := (.pointer (some ⟨O, 1, none⟩))) rfl (by kernel_rfl) (by kernel_rfl) (by kernel_rfl) (fun _ _ _ h => h) (by kernel_rfl) (Or.inl ⟨by rfl, fun U hU => ?_⟩) hF ?_
      ·obtain ⟨o1F, o3F, e0F, e1F, e2F, e3F⟩ := hU
       go_simp
      try simp only [Act.put, zej, zek, zel]
      refine Till.one (i := 13) (by kernel_rfl) rfl (fun J9 hK => ?_)
      refine zN zal rfl _ _ rfl (O + 1) _ _ _ rfl (by exact T.hb) ⟨Wd.heap.size, 0, none⟩ 1 1 [(l[k].b).cd] [.string l[k].b.name, .slice i3 l[k].b.kids.length p3] fxb rfl rfl ?rd6 ?k6 ?cells6 ?na6 ?bytes6 ?len6 ?base6 ?next6
      case rd6 => simpa using Tm.rdvs nb rb
      case k6 => simp [Tm.cd_len]
      case cells6 => exact fun j u hj => by simpa [Addr.add_lit] using hSb.2.1 j u hj
      case na6 => exact fun b hb => T.neB (Nat.lt_succ_of_lt (hfxb b hb).1)
      case bytes6 => have := hlmb; simp only [zew, List.length_cons, List.length_nil] at this ⊢; omega
      case len6 => have := hlmb; simp only [zew, List.length_cons, List.length_nil] at this ⊢; omega
      case base6 => exact T.sz
      intro v' W5 ho hg hv hs4
      obtain ⟨gb1, gb2, gb3, rfl⟩ := ho.form'
      have hzg := hg.size
      replace hO := hO.grown hg (T.neB (by omega))
      replace hE := hE.grown hg nEb
      replace hR := hR.grown hg (T.neB (by omega))
      have rn : ∀ b, b < O + 1 → W5.heap[b]? = W4.heap[b]? := fun b hb => Moved.block ⟨hg, hv⟩ (by have := T.sz; omega) (T.neB hb)
      replace ra := ra.same _ (fun b hb => rn b (Nat.lt_succ_of_lt (hfxa b hb).1))
      replace rb := rb.same _ (fun b hb => rn b (Nat.lt_succ_of_lt (hfxb b hb).1))
      clear rn
      replace hbO := zf hbO hg (by have := hbO.size; omega) (fun q hq => by have := (T.hb.block hq).1; omega)
      replace hB := zf hB hg hB.size (fun q hq => by have := (T.hb.block hq).1; omega)
      replace T := T.appB ho hg hv (fun b hb => Nat.lt_succ_of_lt (hfxb b hb).1)
      clear ho hg hv hs4 hSb nSba nSbb hzg
      replace hF : (fun U : World => U.cell? ⟨O, 1, none⟩ = some (.slice sa1 sa2 sa3) ∧ U.cell? ⟨O, 3, none⟩ = some (.slice sb1 sb2 sb3) ∧ U.cell? ⟨EB, 0, none⟩ = some (.string l[k].a.name) ∧ U.cell? ⟨EB, 1, none⟩ = some (.slice i1 l[k].a.kids.length p1) ∧ U.cell? ⟨EB, 2, none⟩ = some (.string l[k].b.name) ∧ U.cell? ⟨EB, 3, none⟩ = some (.slice i3 l[k].b.kids.length p3)) W5 := ⟨hO.2.1 1 _ rfl, hO.2.1 3 _ rfl, hE.2.1 0 _ rfl, hE.2.1 1 _ rfl, hE.2.1 2 _ rfl, hE.2.1 3 _ rfl⟩
      refine hK.out _ _ (fun _ => hF) ?_
      clear hK
      try simp only [Act.put, zej, zek, zel]
      have o1z := hO.2.1 1 _ rfl; have o3z := hO.2.1 3 _ rfl; have p1z := hO.2.2 1; have p3z := hO.2.2 3
      refine Till.one (i := 16) (by kernel_rfl) rfl (fun J9 hK => ?_)
      go_simp
      have oo1 := hO.2.2 1; have oo3 := hO.2.2 3
      replace hO := hO.put (k := 1) (by simp) (.slice ga1 ga2 ga3)
      simp only [zek, zel] at hO
      replace hR := hR.put_other (c := O) (k := 1) (by omega) (.slice ga1 ga2 ga3)
      replace T := T.put (b := O) (k := 1) (by omega) (fun h => by have := hfaO _ h; omega) (fun h => by have := hfbO _ h; omega) (.slice ga1 ga2 ga3)
      replace hB := Below.setCell hB (show w.heap.size ≤ (⟨O, 1, none⟩ : Addr).block by simp only; omega) (.slice ga1 ga2 ga3)
      replace hbO := Below.setCell hbO (show O ≤ (⟨O, 1, none⟩ : Addr).block by simp only; omega) (.slice ga1 ga2 ga3)
      clear oo1 oo3
      refine hK.out _ _ (fun h => absurd h (by decide)) ?_
      clear hK hF o1z
      try simp only [Act.put, zej, zek, zel]
      refine Till.one (i := 17) (by kernel_rfl) rfl (fun J9 hK => ?_)
      go_simp
      refine hK.out _ _ (fun h => absurd h (by decide)) ?_
      clear hK
      try simp only [Act.put, zej, zek, zel]
      refine Till.one (i := 18) (by kernel_rfl) rfl (fun J9 hK => ?_)
      go_simp
      refine hK.out _ _ (fun h => absurd h (by decide)) ?_
      clear hK
      try simp only [Act.put, zej, zek, zel]
      have o3y := hO.2.1 3 _ rfl; have p3y := hO.2.2 3
      refine Till.one (i := 19) (by kernel_rfl) rfl (fun J9 hK => ?_)
      go_simp
      have oo1 := hO.2.2 1; have oo3 := hO.2.2 3
      replace hO := hO.put (k := 3) (by simp) (.slice gb1 gb2 gb3)
      simp only [zek, zel] at hO
      replace hR := hR.put_other (c := O) (k := 3) (by omega) (.slice gb1 gb2 gb3)
      replace T := T.put (b := O) (k := 3) (by omega) (fun h => by have := hfaO _ h; omega) (fun h => by have := hfbO _ h; omega) (.slice gb1 gb2 gb3)
      replace hB := Below.setCell hB (show w.heap.size ≤ (⟨O, 3, none⟩ : Addr).block by simp only; omega) (.slice gb1 gb2 gb3)
      replace hbO := Below.setCell hbO (show O ≤ (⟨O, 3, none⟩ : Addr).block by simp only; omega) (.slice gb1 gb2 gb3)
      clear oo1 oo3
      refine hK.out _ _ (fun h => absurd h (by decide)) ?_
      clear hK o3y p3y
      try simp only [Act.put, zej, zek, zel]
      refine Till.done (by kernel_rfl) ?_ _
      go_wp2_with fail
      go_roundw
      case rel => exact ⟨k + 1, _, _, _, _, by omega, by go_num, by rw [HTA.out, HTB.out]; exact T, hfaO2, hfbO2, hO, hR, hB, hbO⟩
      case measure => simp [intOf]; omega
    ·obtain rfl : k = l.length := by omega
     rw [List.take_length] at T
     obtain ⟨⟨fra, hra, hfra⟩, frb, hrb, hfrb⟩ := T.rd
     obtain ⟨ga, gc, rfl, _, _⟩ := zd hra
     obtain ⟨ja, jc, rfl, _, _⟩ := zd hrb
     simp only [zew] at hra hrb hO
     have hTA : TmR wq (.mk t.name (l.map Eqn.a)) (.agg #[.string t.name, .slice ga l.length gc]) := TmR.mk m2 ⟨_, hra⟩
     have hTB : TmR wq (.mk t.name (l.map Eqn.b)) (.agg #[.string t.name, .slice ja l.length jc]) := TmR.mk m2 ⟨_, hrb⟩
     have hfab : ∀ b ∈ fra ++ frb, b < lo ∨ w.heap.size + 1 + 1 ≤ b := fun b hb => by
      rcases zer.1 hb with h | h
      ·rcases hfra b h with h | h
       ·exact (hfa b h).2
       ·right; omega
      ·rcases hfrb b h with h | h
       ·exact (hfb b h).2
       ·right; omega
     obtain ⟨ba, hba⟩ : ∃ b, (Tm.mk t.name (l.map Eqn.a)).wf = b := ⟨_, rfl⟩
     obtain ⟨bw, hbb⟩ : ∃ b, (Tm.mk t.name (l.map Eqn.b)).wf = b := ⟨_, rfl⟩
     have HWA := Lib.hid hba
     have HWB := Lib.hid hbb
     have HY : Hid (Wy.tells es (d + 1) (.mk 5 0 t ks) = if (ba && bw) = true then some ⟨.mk t.name (l.map Eqn.a), .mk t.name (l.map Eqn.b)⟩ else none) := Lib.hid (by
      have h0 : 0 < l.length := by omega
      cases ba
      ·exact Wy.tells_none HLL.out (by simp [zM, hba])
      ·cases bw
       ·exact Wy.tells_none HLL.out (by simp [zM, hbb])
       ·exact Wy.tells_some HLL.out (by simp [zM, hba, hbb, h0, hk0]))
     clear hba hbb T hfa hfb hfra hfrb hk0 hl0
     go_upto_region 38 with fail
     cases ba
     ·refine Ever.start (F := (fun U : World => U.cell? ⟨O, 0, none⟩ = some (.string t.name) ∧ U.cell? ⟨O, 1, none⟩ = some (.slice ga l.length gc) ∧ U.cell? ⟨O, 2, none⟩ = some (.string t.name) ∧ U.cell? ⟨O, 3, none⟩ = some (.slice ja l.length jc))) (by kernel_rfl) ?_
      have hF : (fun U : World => U.cell? ⟨O, 0, none⟩ = some (.string t.name) ∧ U.cell? ⟨O, 1, none⟩ = some (.slice ga l.length gc) ∧ U.cell? ⟨O, 2, none⟩ = some (.string t.name) ∧ U.cell? ⟨O, 3, none⟩ = some (.slice ja l.length jc)) _ := ⟨hO.2.1 0 _ rfl, hO.2.1 1 _ rfl, hO.2.1 2 _ rfl, hO.2.1 3 _ rfl⟩
      refine Ever.take (i := 0) (v := (.agg #[.string t.name, .slice ga l.length gc, .string t.name, .slice ja l.length jc])) rfl (by kernel_rfl) (by kernel_rfl) (by kernel_rfl) (fun _ _ _ h => h) (Or.inl ⟨by rfl, fun U hU => ?_⟩) hF ?_
      ·obtain ⟨o0F, o1F, o2F, o3F⟩ := hU
       go_simp
      try simp only [Act.put, zej, zek, zel]
      refine Ever.take (i := 1) (v := (.pointer (some ⟨O, 0, none⟩))) rfl (by kernel_rfl) (by kernel_rfl) (by kernel_rfl) (fun _ _ _ h => h) (Or.inl ⟨by rfl, fun U hU => ?_⟩) hF ?_
      ·obtain ⟨o0F, o1F, o2F, o3F⟩ := hU
       go_simp
      try simp only [Act.put, zej, zek, zel]
      refine Ever.take (i := 2) (v := (.agg #[.string t.name, .slice ga l.length gc])) rfl (by kernel_rfl) (by kernel_rfl) (by kernel_rfl) (fun _ _ _ h => h) (Or.inl ⟨by rfl, fun U hU => ?_⟩) hF ?_
      ·obtain ⟨o0F, o1F, o2F, o3F⟩ := hU
       go_simp
      try simp only [Act.put, zej, zek, zel]
      refine Ever.one (i := 3) (by kernel_rfl) rfl (fun J9 hK => ?_)
      go_simp
      go_wp2_with (go_at_call 53; refine (zai (.mk t.name (l.map Eqn.a)) _ _ (by exact hTA.drew)).mono ?_; rintro e u2 ⟨rfl, hbu⟩)
      rw [HWA.out]
      replace hbu := zh hbu
      replace hO := hO.below hbu
      replace hR := hR.below hbu
      replace hra := hra.below hbu
      replace hTB := hTB.below hbu
      replace hrb := hrb.below hbu
      replace hB := hB.trans (hbu.mono hB.size)
      clear hbu
      replace hF : (fun U : World => U.cell? ⟨O, 0, none⟩ = some (.string t.name) ∧ U.cell? ⟨O, 1, none⟩ = some (.slice ga l.length gc) ∧ U.cell? ⟨O, 2, none⟩ = some (.string t.name) ∧ U.cell? ⟨O, 3, none⟩ = some (.slice ja l.length jc)) _ := ⟨hO.2.1 0 _ rfl, hO.2.1 1 _ rfl, hO.2.1 2 _ rfl, hO.2.1 3 _ rfl⟩
      refine hK.out _ _ hF ?_
      clear hK
      try simp only [Act.put, zej, zek, zel]
      refine Ever.take (i := 4) (v := (.bool false)) rfl (by kernel_rfl) (by kernel_rfl) (by kernel_rfl) (fun _ _ _ h => h) (Or.inl ⟨by rfl, fun U hU => ?_⟩) hF ?_
      ·obtain ⟨o0F, o1F, o2F, o3F⟩ := hU
       go_simp
      try simp only [Act.put, zej, zek, zel]
      refine Ever.take (i := 5) (v := undef) rfl (by kernel_rfl) (by kernel_rfl) (by kernel_rfl) (fun _ _ _ h => h) (Or.inr ⟨by go_simp, rfl⟩) hF ?_
      try simp only [Act.put, zej, zek, zel]
      refine Ever.take (i := 6) (v := undef) rfl (by kernel_rfl) (by kernel_rfl) (by kernel_rfl) (fun _ _ _ h => h) (Or.inr ⟨by go_simp, rfl⟩) hF ?_
      try simp only [Act.put, zej, zek, zel]
      refine Ever.one (i := 7) (by kernel_rfl) rfl (fun J9 hK => ?_)
      go_simp
      refine hK.out _ _ hF ?_
      clear hK
      try simp only [Act.put, zej, zek, zel]
      refine Ever.take (i := 8) (v := (.bool false)) rfl (by kernel_rfl) (by kernel_rfl) (by kernel_rfl) (fun _ _ _ h => h) (Or.inl ⟨by rfl, fun U hU => ?_⟩) hF ?_
      ·obtain ⟨o0F, o1F, o2F, o3F⟩ := hU
       go_simp
      try simp only [Act.put, zej, zek, zel]
      refine Ever.one (i := 9) (by kernel_rfl) rfl (fun J9 hK => ?_)
      have r0 := hR.2.1 0 _ rfl; have zz0 := hR.2.2 0
      have r1 := hR.2.1 1 _ rfl; have zz1 := hR.2.2 1
      have r2 := hR.2.1 2 _ rfl; have zz2 := hR.2.2 2
      have r3 := hR.2.1 3 _ rfl; have zz3 := hR.2.2 3
      go_simp
      have gR := (((hR.put (k := 0) (by simp) (.string t.name)).put (k := 1) (by simp) (.slice ga l.length gc)).put (k := 2) (by simp) (.string t.name)).put (k := 3) (by simp) (.slice ja l.length jc)
      simp only [zek, zel] at gR
      replace hO := (((hO.put_other (c := w.heap.size + 1) (k := 0) (by omega) (.string t.name)).put_other (c := w.heap.size + 1) (k := 1) (by omega) (.slice ga l.length gc)).put_other (c := w.heap.size + 1) (k := 2) (by omega) (.string t.name)).put_other (c := w.heap.size + 1) (k := 3) (by omega) (.slice ja l.length jc)
      replace hF : (fun U : World => U.cell? ⟨O, 0, none⟩ = some (.string t.name) ∧ U.cell? ⟨O, 1, none⟩ = some (.slice ga l.length gc) ∧ U.cell? ⟨O, 2, none⟩ = some (.string t.name) ∧ U.cell? ⟨O, 3, none⟩ = some (.slice ja l.length jc)) _ := ⟨hO.2.1 0 _ rfl, hO.2.1 1 _ rfl, hO.2.1 2 _ rfl, hO.2.1 3 _ rfl⟩
      refine hK.out _ _ hF ?_
      clear hK
      try simp only [Act.put, zej, zek, zel]
      refine Ever.one (i := 10) (by kernel_rfl) rfl (fun J9 hK => ?_)
      go_simp
      refine hK.out _ _ hF ?_
      clear hK
      try simp only [Act.put, zej, zek, zel]
      refine Ever.done (by kernel_rfl) ?_ _
      have s0 := gR.2.1 0 _ rfl; have s1 := gR.2.1 1 _ rfl; have s2 := gR.2.1 2 _ rfl; have s3 := gR.2.1 3 _ rfl
      go_wp2_with fail
      refine bodyPost_ret (v := .tuple #[.agg #[.string t.name, .slice ga l.length gc, .string t.name, .slice ja l.length jc], .bool false]) (by simp [results, Tryz.results25, go_sem, s0, s1, s2, s3]) rfl ?_
      have hq := (cong_rd m2 hra hrb).same _ (fun b hb => zc8 (r := w.heap.size + 1) (v0 := .string t.name) (v1 := .slice ga l.length gc) (v2 := .string t.name) (v3 := .slice ja l.length jc) b (by have := hfab b hb; omega))
      exact zaM (q := ⟨.mk t.name (l.map Eqn.a), .mk t.name (l.map Eqn.b)⟩) HY.out hq (fun b hb => by have := hfab b hb; omega) ((((hB.setCell (by simp) _).setCell (by simp) _).setCell (by simp) _).setCell (by simp) _)
     ·refine Ever.start (F := (fun U : World => U.cell? ⟨O, 0, none⟩ = some (.string t.name) ∧ U.cell? ⟨O, 1, none⟩ = some (.slice ga l.length gc) ∧ U.cell? ⟨O, 2, none⟩ = some (.string t.name) ∧ U.cell? ⟨O, 3, none⟩ = some (.slice ja l.length jc))) (by kernel_rfl) ?_
      have hF : (fun U : World => U.cell? ⟨O, 0, none⟩ = some (.string t.name) ∧ U.cell? ⟨O, 1, none⟩ = some (.slice ga l.length gc) ∧ U.cell? ⟨O, 2, none⟩ = some (.string t.name) ∧ U.cell? ⟨O, 3, none⟩ = some (.slice ja l.length jc)) _ := ⟨hO.2.1 0 _ rfl, hO.2.1 1 _ rfl, hO.2.1 2 _ rfl, hO.2.1 3 _ rfl⟩
      refine Ever.take (i := 0) (v := (.agg #[.string t.name, .slice ga l.length gc, .string t.name, .slice ja l.length jc])) rfl (by kernel_rfl) (by kernel_rfl) (by kernel_rfl) (fun _ _ _ h => h) (Or.inl ⟨by rfl, fun U hU => ?_⟩) hF ?_
      ·obtain ⟨o0F, o1F, o2F, o3F⟩ := hU
       go_simp
      try simp only [Act.put, zej, zek, zel]
      refine Ever.take (i := 1) (v := (.pointer (some ⟨O, 0, none⟩))) rfl (by kernel_rfl) (by kernel_rfl) (by kernel_rfl) (fun _ _ _ h => h) (Or.inl ⟨by rfl, fun U hU => ?_⟩) hF ?_
      ·obtain ⟨o0F, o1F, o2F, o3F⟩ := hU
       go_simp
      try simp only [Act.put, zej, zek, zel]
      refine Ever.take (i := 2) (v := (.agg #[.string t.name, .slice ga l.length gc])) rfl (by kernel_rfl) (by kernel_rfl) (by kernel_rfl) (fun _ _ _ h => h) (Or.inl ⟨by rfl, fun U hU => ?_⟩) hF ?_
      ·obtain ⟨o0F, o1F, o2F, o3F⟩ := hU
       go_simp
      try simp only [Act.put, zej, zek, zel]
      refine Ever.one (i := 3) (by kernel_rfl) rfl (fun J9 hK => ?_)
      go_simp
      go_wp2_with (go_at_call 53; refine (zai (.mk t.name (l.map Eqn.a)) _ _ (by exact hTA.drew)).mono ?_; rintro e u2 ⟨rfl, hbu⟩)
      rw [HWA.out]
      replace hbu := zh hbu
      replace hO := hO.below hbu
      replace hR := hR.below hbu
      replace hra := hra.below hbu
      replace hTB := hTB.below hbu
      replace hrb := hrb.below hbu
      replace hB := hB.trans (hbu.mono hB.size)
      clear hbu
      replace hF : (fun U : World => U.cell? ⟨O, 0, none⟩ = some (.string t.name) ∧ U.cell? ⟨O, 1, none⟩ = some (.slice ga l.length gc) ∧ U.cell? ⟨O, 2, none⟩ = some (.string t.name) ∧ U.cell? ⟨O, 3, none⟩ = some (.slice ja l.length jc)) _ := ⟨hO.2.1 0 _ rfl, hO.2.1 1 _ rfl, hO.2.1 2 _ rfl, hO.2.1 3 _ rfl⟩
      refine hK.out _ _ hF ?_
      clear hK
      try simp only [Act.put, zej, zek, zel]
      refine Ever.take (i := 4) (v := (.bool true)) rfl (by kernel_rfl) (by kernel_rfl) (by kernel_rfl) (fun _ _ _ h => h) (Or.inl ⟨by rfl, fun U hU => ?_⟩) hF ?_
      ·obtain ⟨o0F, o1F, o2F, o3F⟩ := hU
       go_simp
      try simp only [Act.put, zej, zek, zel]
      refine Ever.take (i := 5) (v := (.pointer (some ⟨O, 2, none⟩))) rfl (by kernel_rfl) (by kernel_rfl) (by kernel_rfl) (fun _ _ _ h => h) (Or.inl ⟨by go_simp, fun U hU => ?_⟩) hF ?_
      ·obtain ⟨o0F, o1F, o2F, o3F⟩ := hU
       go_simp
      try simp only [Act.put, zej, zek, zel]
      refine Ever.take (i := 6) (v := (.agg #[.string t.name, .slice ja l.length jc])) rfl (by kernel_rfl) (by kernel_rfl) (by kernel_rfl) (fun _ _ _ h => h) (Or.inl ⟨by go_simp, fun U hU => ?_⟩) hF ?_
      ·obtain ⟨o0F, o1F, o2F, o3F⟩ := hU
       go_simp
      try simp only [Act.put, zej, zek, zel]
      refine Ever.one (i := 7) (by kernel_rfl) rfl (fun J9 hK => ?_)
      go_simp
      go_wp2_with (go_at_call 53; refine (zai (.mk t.name (l.map Eqn.b)) _ _ (by exact hTB)).mono ?_; rintro e u3 ⟨rfl, hbu⟩)
      rw [HWB.out]
      replace hO := hO.below hbu
      replace hR := hR.below hbu
      replace hra := hra.below hbu
      replace hTB := hTB.below hbu
      replace hrb := hrb.below hbu
      replace hB := hB.trans (hbu.mono hB.size)
      clear hbu
      replace hF : (fun U : World => U.cell? ⟨O, 0, none⟩ = some (.string t.name) ∧ U.cell? ⟨O, 1, none⟩ = some (.slice ga l.length gc) ∧ U.cell? ⟨O, 2, none⟩ = some (.string t.name) ∧ U.cell? ⟨O, 3, none⟩ = some (.slice ja l.length jc)) _ := ⟨hO.2.1 0 _ rfl, hO.2.1 1 _ rfl, hO.2.1 2 _ rfl, hO.2.1 3 _ rfl⟩
      refine hK.out _ _ hF ?_
      clear hK
      try simp only [Act.put, zej, zek, zel]
      refine Ever.take (i := 8) (v := (.bool bw)) rfl (by kernel_rfl) (by kernel_rfl) (by kernel_rfl) (fun _ _ _ h => h) (Or.inl ⟨by rfl, fun U hU => ?_⟩) hF ?_
      ·obtain ⟨o0F, o1F, o2F, o3F⟩ := hU
       go_simp
      try simp only [Act.put, zej, zek, zel]
      refine Ever.one (i := 9) (by kernel_rfl) rfl (fun J9 hK => ?_)
      have r0 := hR.2.1 0 _ rfl; have zz0 := hR.2.2 0
      have r1 := hR.2.1 1 _ rfl; have zz1 := hR.2.2 1
      have r2 := hR.2.1 2 _ rfl; have zz2 := hR.2.2 2
      have r3 := hR.2.1 3 _ rfl; have zz3 := hR.2.2 3
      go_simp
      have gR := (((hR.put (k := 0) (by simp) (.string t.name)).put (k := 1) (by simp) (.slice ga l.length gc)).put (k := 2) (by simp) (.string t.name)).put (k := 3) (by simp) (.slice ja l.length jc)
      simp only [zek, zel] at gR
      replace hO := (((hO.put_other (c := w.heap.size + 1) (k := 0) (by omega) (.string t.name)).put_other (c := w.heap.size + 1) (k := 1) (by omega) (.slice ga l.length gc)).put_other (c := w.heap.size + 1) (k := 2) (by omega) (.string t.name)).put_other (c := w.heap.size + 1) (k := 3) (by omega) (.slice ja l.length jc)
      replace hF : (fun U : World => U.cell? ⟨O, 0, none⟩ = some (.string t.name) ∧ U.cell? ⟨O, 1, none⟩ = some (.slice ga l.length gc) ∧ U.cell? ⟨O, 2, none⟩ = some (.string t.name) ∧ U.cell? ⟨O, 3, none⟩ = some (.slice ja l.length jc)) _ := ⟨hO.2.1 0 _ rfl, hO.2.1 1 _ rfl, hO.2.1 2 _ rfl, hO.2.1 3 _ rfl⟩
      refine hK.out _ _ hF ?_
      clear hK
      try simp only [Act.put, zej, zek, zel]
      refine Ever.one (i := 10) (by kernel_rfl) rfl (fun J9 hK => ?_)
      go_simp
      refine hK.out _ _ hF ?_
      clear hK
      try simp only [Act.put, zej, zek, zel]
      refine Ever.done (by kernel_rfl) ?_ _
      have s0 := gR.2.1 0 _ rfl; have s1 := gR.2.1 1 _ rfl; have s2 := gR.2.1 2 _ rfl; have s3 := gR.2.1 3 _ rfl
      go_wp2_with fail
      refine bodyPost_ret (v := .tuple #[.agg #[.string t.name, .slice ga l.length gc, .string t.name, .slice ja l.length jc], .bool bw]) (by simp [results, Tryz.results25, go_sem, s0, s1, s2, s3]) rfl ?_
      have hq := (cong_rd m2 hra hrb).same _ (fun b hb => zc8 (r := w.heap.size + 1) (v0 := .string t.name) (v1 := .slice ga l.length gc) (v2 := .string t.name) (v3 := .slice ja l.length jc) b (by have := hfab b hb; omega))
      exact zaM (q := ⟨.mk t.name (l.map Eqn.a), .mk t.name (l.map Eqn.b)⟩) HY.out hq (fun b hb => by have := hfab b hb; omega) ((((hB.setCell (by simp) _).setCell (by simp) _).setCell (by simp) _).setCell (by simp) _)
end Go.Proofs.YtlefdhhnlbpbkaaGreat
end
