/- Parts of the proof: WhT. -/
import Derived.Test.YtlefdhhnlbpbkaaGreatPv31
section
namespace Go.Proofs.YtlefdhhnlbpbkaaGreat
open Go Go.RowKit
set_option linter.unusedVariables false
set_option linter.unusedSimpArgs false
set_option maxRecDepth 100000
set_option maxHeartbeats 16000000
theorem link_neg {one : Nat → Wy} {k : Int} {j : Nat} (h : k = -1 - (j : Int)) : zaD one k = .mk 3 0 ⟨⟨#[]⟩, []⟩ [one j] := by
 unfold zaD
 rw [if_pos (by omega), show (-1 - k).toNat = j from by omega]
theorem link_pos {one : Nat → Wy} {k : Int} {j : Nat} (h : k = (j : Int)) : zaD one k = one j := by
 unfold zaD
 rw [if_neg (by omega), show k.toNat = j from by omega]
theorem zd9 {one : Nat → Wy} {l : List Int} {i : Nat} (hi : i < l.length) (h : 0 < i) : zV one (l.take (i + 1)) = .mk 4 0 ⟨⟨#[]⟩, []⟩ [zV one (l.take i), zaD one l[i]] := by
 rw [zeq hi, zdl]
 intro e
 have := congrArg List.length e
 simp only [List.length_take, List.length_nil] at this
 omega
theorem chain_one {one : Nat → Wy} {l : List Int} (hi : 0 < l.length) : zV one (l.take 1) = zaD one l[0] := by
 cases l with
 | nil => simp at hi
 | cons k ks => simp [zV]
theorem Own.pair {w : World} {base e k : Nat} {vs us : List Value} {d c : List CD} {f g : List Nat} (hb : base ≤ w.heap.size) (hr : RdVs (w.alloc (.cells (vs ++ us).toArray e)) d vs f) (hq : RdVs (w.alloc (.cells (vs ++ us).toArray e)) c us g) (hk : d.length = k) (hc : c.length = k) (hf : ∀ b ∈ f ++ g, b < w.heap.size) :
  Own (w.alloc (.cells (vs ++ us).toArray e)) base e k (.slice (some ⟨w.heap.size, 0, none⟩) 2 2) [d, c] (f ++ g) := by
 have hl : vs.length = k := by rw [hr.length, hk]
 have hm : us.length = k := by rw [hq.length, hc]
 refine ⟨vs ++ us, ⟨by simp [hl, hm]; omega, .inr ⟨w.heap.size, 2, (vs ++ us).toArray, rfl, hb, heap_alloc_new w _, Nat.le_refl _, by simp [maxLen], by simp [hl, hm]; omega, ?_⟩⟩, by simpa using hr.app hq, by simp [hk, hc], fun b hb' e => ?_⟩
 ·rw [List.take_of_length_le (by simp [hl, hm]; omega)]
 ·have h1 := hf b hb'
  have h2 : w.heap.size = b := Option.some.inj e
  omega
theorem Box.belowB9 {w w' : World} {B b : Nat} {vs : List Value} (h : Box vs b w) (hb : Below B w w') (hlt : b < B) : Box vs b w' :=
 ⟨zep h.1 hb.size, fun j u hu => zl (hb.block b hlt) (h.2.1 j u hu), fun j => (zc (hb.block b hlt)).trans (h.2.2 j)⟩
theorem zdI {w w' : World} {B C : Nat} (h : Below B w w') (hC : C ≤ B) : Below C w w' := h.mono hC
theorem zcg (ps : List Tm) (st : List Stp) (pv sv : Value) (n : Nat) (hn : n ≤ st.length) (one : Nat → Wy) (W0 : Nat → Nat → Wy) (hfit : Hid (∀ s ∈ st, zax ps s)) (hsl : st.length ≤ 1000000) (hpl : ps.length ≤ 1000000) (hsz : Hid (∀ t ∈ ps, t.size ≤ 1000000000))
  (hone : ∀ j, j < n → ∀ (sf : List Nat) (w : World), TmsR w ps pv → Rd w (.sl (st.map Stp.cd)) sv sf → Calls Tryz.prog 78 #[pv, sv, .int .i64 j] w (zdp (one j) w))
  (hWr : Hid (∀ a b : Nat, wayL st n (ps.length + 1) a b [(a : Int)] = [] → W0 a b = .mk 1 0 (ps.getD a ⟨⟨#[]⟩, []⟩) []))
  (hWc : Hid (∀ (a b : Nat) (l : List Int), wayL st n (ps.length + 1) a b [(a : Int)] = l → l ≠ [] → W0 a b = zV one l)) : WhyAll ps st pv sv n W0 := by
 intro a b sf w ha hb hv hs
 obtain ⟨pa, pc, rfl, hpc1, hpc2⟩ := hv.form
 obtain ⟨sa, sc, rfl, hsc1, hsc2⟩ := zd hs
 obtain ⟨pb, po, rfl, hpb⟩ := hv.addr (by omega)
 have hR := Box.new w [.int .i64 0, .int .i64 0, .string ⟨#[]⟩, .slice none 0 0, .slice none 0 0] 32
 have hb0 := zb w (.cells #[.int .i64 0, .int .i64 0, .string ⟨#[]⟩, .slice none 0 0, .slice none 0 0] 32)
 have hz0 : w.heap.size + 1 ≤ (w.alloc (.cells #[.int .i64 0, .int .i64 0, .string ⟨#[]⟩, .slice none 0 0, .slice none 0 0] 32)).heap.size := by simp
 go_enter Tryz.func49, Tryz.ntmps49
 go_upto_region 1 with fail
 generalize w.alloc (.cells #[.int .i64 0, .int .i64 0, .string ⟨#[]⟩, .slice none 0 0, .slice none 0 0] 32) = w0 at *
 have hb1 := zb w0 (.cells #[.int .i64 a] 3)
 have hc1 := zv w0 #[.int .i64 a] 3 0
 have hv1 := hv.below hb0
 have hs1 := hs.below hb0
 have hR1 := hR.below hb1
 have hbw1 := hb0.trans (hb1.mono (by omega))
 go_wp2_with fail
 refine (l5Way_any ps st _ hfit hsl hpl n hn b ps.length a [(a : Int)] sf _ _ _ (Lib.hid (unseen_le _ _)) (by simp; omega) (hs1.below hb1) (ints_one (zaA (by omega)) hc1 (by simp))).mono ?_
 rintro e w2 ⟨rv, rf, rfl, hrr, hrf, hb2⟩
 obtain ⟨l, hl⟩ : ∃ l, wayL st n (ps.length + 1) a b [(a : Int)] = l := ⟨_, rfl⟩
 rw [hl] at hrr
 have hwin : WayIn n l ∧ l.length ≤ ps.length + 1 := by
  rw [← hl]; unfold wayL
  cases h9 : way st n (ps.length + 1) a b [(a : Int)] with
  | none => exact ⟨(fun k hk => by cases hk), Nat.zero_le _⟩
  | some m => exact zdF _ _ _ _ _ _ _ h9
 have hll := hwin.2
 have HWIN := Lib.hid hwin.1
 clear hwin
 have HL := Lib.hid hl
 clear hl
 obtain ⟨ra, rc, rfl, hrc1, hrc2⟩ := zd hrr
 replace hR := hR1.below hb2
 have hbw2 := hbw1.trans (hb2.mono hbw1.size)
 have hv2 := (hv1.below hb1).below hb2
 have hs2 := (hs1.below hb1).below hb2
 have hz2 := hbw2.size
 clear hb1 hc1 hv1 hs1 hR1 hbw1 hb2 hrf hb0 hz0 hv hs
 generalize (way st n (ps.length + 1) a b [(a : Int)]).isSome = okv at *
 rcases Nat.eq_zero_or_pos l.length with hl0 | hl0
 ·have hl1 : ((l.length : Int) == 0) = true := by simp [hl0]
  have HW := Lib.hid (hWr.out a b (by rw [HL.out]; exact List.eq_nil_of_length_eq_zero hl0))
  have hgd : ps.getD a ⟨⟨#[]⟩, []⟩ = ps[a] := by rw [List.getD_eq_getElem?_getD, List.getElem?_eq_getElem ha]; rfl
  have HG := Lib.hid hgd
  clear hl0 hgd
  obtain ⟨ka, kc, d0, d1, hkn, hkr⟩ := hv2.at ha
  have hgs := hsz.out _ (zes ha)
  go_wp2_with fail
  refine (zS _ ps[a] _ _ (Nat.le_refl _) hgs (TmR.mk hkn hkr)).mono ?_
  rintro e w3 ⟨kv, kf, rfl, hkv, hkf, hb3⟩
  obtain ⟨va, vc, rfl, _, _⟩ := zd hkv
  have hR2 := hR.1
  replace hR := hR.below hb3
  have hbw3 := hbw2.trans (hb3.mono hbw2.size)
  have gR := hR.puts [.int .i64 1, .int .i64 0, .string ps[a].name, .slice va ps[a].kids.length vc, .slice none 0 0] rfl
  have hKK := (Same2.refl w.heap.size w.heap.size w3).sets (b := w.heap.size) (.inl rfl) (ze 0 [.int .i64 1, .int .i64 0, .string ps[a].name, .slice va ps[a].kids.length vc, .slice none 0 0])
  have hBE := zr (b := w.heap.size) (Nat.le_refl _) (ze 0 [.int .i64 1, .int .i64 0, .string ps[a].name, .slice va ps[a].kids.length vc, .slice none 0 0]) hbw3
  simp only [zA, ze] at gR hKK hBE
  have r0 := hR.2.1 0 _ rfl; have r1 := hR.2.1 1 _ rfl; have r2 := hR.2.1 2 _ rfl; have r3 := hR.2.1 3 _ rfl; have r4 := hR.2.1 4 _ rfl
  have z0 := hR.2.2 0; have z1 := hR.2.2 1; have z2 := hR.2.2 2; have z3 := hR.2.2 3; have z4 := hR.2.2 4
  have hkf2 : ∀ x ∈ kf, x ≠ w.heap.size ∧ w.heap.size ≤ x := fun x hx => by have := (hkf.2 x hx).1; omega
  go_wp2_with fail
  have e0 := gR.2.1 0 _ rfl; have e1 := gR.2.1 1 _ rfl; have e2 := gR.2.1 2 _ rfl; have e3 := gR.2.1 3 _ rfl; have e4 := gR.2.1 4 _ rfl
  refine bodyPost_ret (v := .agg #[.int .i64 1, .int .i64 0, .string ps[a].name, .slice va ps[a].kids.length vc, .slice none 0 0]) (by simp [results, Tryz.results49, go_sem, e0, e1, e2, e3, e4]) rfl ?_
  refine ⟨va, vc, none, 0, kf ++ [], by rw [HW.out, HG.out]; rfl, ?_, by simpa using fun x hx => (hkf2 x hx).2, hBE, by rw [HW.out]; exact KidsOwn.nil rfl⟩
  rw [HW.out, HG.out]
  exact Wy.close (x := .mk 1 0 ps[a] []) (show I64 1 from ⟨by decide, by decide⟩) (show I64 0 from ⟨by decide, by decide⟩) hkn (hkv.same2 hKK (fun x hx => ⟨(hkf2 x hx).1, (hkf2 x hx).1⟩)) (zcy _)
 ·have hl1 : ((l.length : Int) == 0) = false := by simpa using (fun e => by rw [e] at hl0; simp at hl0 : ¬ l = [])
  have HW := Lib.hid (hWc.out a b l HL.out (fun e => by rw [e] at hl0; simp at hl0))
  have hO := Box.new w2 [.int .i64 0, .int .i64 0, .string ⟨#[]⟩, .slice none 0 0, .slice none 0 0] 32
  have hb3 := zb w2 (.cells #[.int .i64 0, .int .i64 0, .string ⟨#[]⟩, .slice none 0 0, .slice none 0 0] 32)
  obtain ⟨ob, hob⟩ : ∃ z, z = w2.heap.size := ⟨_, rfl⟩
  rw [← hob] at hO
  have hRo : w.heap.size < ob := by have := hR.1; omega
  go_upto_region 5 with fail
  rw [← hob]
  generalize w2.alloc (.cells #[.int .i64 0, .int .i64 0, .string ⟨#[]⟩, .slice none 0 0, .slice none 0 0] 32) = w3 at *
  rw [← hob] at hb3
  have hob2 : w2.heap.size ≤ ob := Nat.le_of_eq hob.symm
  clear hob
  go_wp2_with fail
  go_loopw [14] (fun iv wr => ∃ (i : Nat) (W : Wy) (a3 : Option Addr) (c3 : Nat) (a4 : Option Addr) (c4 : Nat) (fp : List Nat), i ≤ l.length ∧ iv = .int .i64 i ∧ Hid (W = zV one (l.take i)) ∧ Box [.int .i64 W.rule, .int .i64 W.n, .string W.t.name, .slice a3 W.t.kids.length c3, .slice a4 W.kids.length c4] ob wr ∧ RdVs wr W.cd [.int .i64 W.rule, .int .i64 W.n, .string W.t.name, .slice a3 W.t.kids.length c3, .slice a4 W.kids.length c4] fp ∧ (∀ x ∈ fp, ob < x) ∧ KidsOwn (ob + 1) wr W (.slice a4 W.kids.length c4) ∧ Below ob w2 wr) (fun iv _ => l.length - (intOf iv).toNat)
  case atStart => exact ⟨0, .mk 0 0 ⟨⟨#[]⟩, []⟩ [], none, 0, none, 0, [], Nat.zero_le _, rfl, Lib.hid (by simp [zV]), hO, zbG ⟨by decide, by decide⟩ ⟨by decide, by decide⟩ (Nat.zero_le _), by simp, KidsOwn.nil rfl, hb3⟩
  case round =>
   clear hO hb3
   obtain ⟨i, W, a3, c3, a4, c4, fp, hi, rfl, HCH, hO, hrw, hfp, hko, hbo⟩ := hrel
   obtain ⟨wq, hwq⟩ : ∃ z, z = wr := ⟨_, rfl⟩
   have hrr1 := hrr.below (hbo.mono hob2)
   have hv3 := hv2.below (hbo.mono hob2)
   have hs3 := hs2.below (hbo.mono hob2)
   have hR3 := hR.below (hbo.mono hob2)
   by_cases hlt : i < l.length
   ·obtain ⟨rb, ro, rfl, hrb, _⟩ := zm hrr1 (by omega)
    obtain ⟨q0, hki⟩ := zL hrr1 hlt
    have hkin := HWIN.out _ (zes hlt)
    obtain ⟨kk, hkk⟩ : ∃ z, l[i] = z := ⟨_, rfl⟩
    rw [hkk] at q0 hki hkin
    have HKK := Lib.hid hkk
    clear hkk
    have hqb := Box.new wr [.int .i64 0, .int .i64 0, .string ⟨#[]⟩, .slice none 0 0, .slice none 0 0] 32
    have hba := zb wr (.cells #[.int .i64 0, .int .i64 0, .string ⟨#[]⟩, .slice none 0 0, .slice none 0 0] 32)
    obtain ⟨qb, hqbe⟩ : ∃ z, z = wr.heap.size := ⟨_, rfl⟩
    rw [← hqbe] at hqb
    have hoq : ob < qb := by have := hO.1; omega
    have hfq : ∀ x ∈ fp, x < qb := fun x hx => by have := hrw.lt _ x hx; omega
    go_upto_if 49 with (fail)
    rw [← hqbe]
    replace hO := hO.below hba
    replace hrw := hrw.below hba
    replace hrr1 := hrr1.below hba
    replace hv3 := hv3.below hba
    replace hs3 := hs3.below hba
    replace hR3 := hR3.below hba
    replace hbo := hbo.trans (hba.mono (by omega))
    replace hko := hko.below hba
    rw [← hqbe] at hba
    clear q0 hwq hqbe
    generalize wr.alloc (.cells #[.int .i64 0, .int .i64 0, .string ⟨#[]⟩, .slice none 0 0, .slice none 0 0] 32) = v0 at *
    go_cut [16] from 37 to 67 (fun qv wx => ∃ (L : Wy) (e3 : Option Addr) (g3 : Nat) (e4 : Option Addr) (g4 : Nat) (f9 : List Nat), qv = .pointer (some ⟨qb, 0, none⟩) ∧ Hid (L = zaD one kk) ∧ Box [.int .i64 L.rule, .int .i64 L.n, .string L.t.name, .slice e3 L.t.kids.length g3, .slice e4 L.kids.length g4] qb wx ∧ RdVs wx L.cd [.int .i64 L.rule, .int .i64 L.n, .string L.t.name, .slice e3 L.t.kids.length g3, .slice e4 L.kids.length g4] f9 ∧ (∀ x ∈ f9, qb < x) ∧ KidsOwn (qb + 1) wx L (.slice e4 L.kids.length g4) ∧ Below qb v0 wx)
    case first =>
     have q0 := hqb.2.1 0 _ rfl; have q1 := hqb.2.1 1 _ rfl; have q2 := hqb.2.1 2 _ rfl; have q3 := hqb.2.1 3 _ rfl; have q4 := hqb.2.1 4 _ rfl
     by_cases hk0 : kk < 0
     ·obtain ⟨j, hj⟩ : ∃ j : Nat, kk = -1 - (j : Int) := ⟨(-1 - kk).toNat, by omega⟩
      have hjn : j < n := by omega
      have HLK := Lib.hid (link_neg (one := one) hj)
      have hd0 : decide (kk < 0) = true := by simpa using hk0
      have hsub : -1 - kk = (j : Int) := by omega
      clear hk0 hkin hj q0 q1 q2 q3 q4
      have ql := hqb.1
      go_wp2_with fail
      refine (hone j hjn _ _ hv3 hs3).mono ?_
      rintro e v1 ⟨e3, g3, e4, g4, f9, rfl, hr9, hf9, hb9, hk9⟩
      have hf9q : ∀ x ∈ f9, qb < x := fun x hx => by have := hf9 x hx; omega
      replace hqb := hqb.below hb9
      have hq1 := hqb.1
      have hbq := zdI hb9 (C := qb) (by omega)
      have gQ0 := hqb.puts [.int .i64 3, .int .i64 0, .string ⟨#[]⟩, .slice none 0 0, .slice (some ⟨v1.heap.size, 0, none⟩) 1 1] rfl
      have hKK := (Same2.refl qb qb v1).sets (b := qb) (.inl rfl) (ze 0 [.int .i64 3, .int .i64 0, .string ⟨#[]⟩, .slice none 0 0, .slice (some ⟨v1.heap.size, 0, none⟩) 1 1])
      have hBq0 := zr (b := qb) (Nat.le_refl _) (ze 0 [.int .i64 3, .int .i64 0, .string ⟨#[]⟩, .slice none 0 0, .slice (some ⟨v1.heap.size, 0, none⟩) 1 1]) hbq
      simp only [zA, ze] at gQ0 hKK hBq0
      have hr90 := hr9.same2 hKK (fun x hx => by have := hf9q x hx; omega)
      have q0 := hqb.2.1 0 _ rfl; have q1 := hqb.2.1 1 _ rfl; have q2 := hqb.2.1 2 _ rfl; have q3 := hqb.2.1 3 _ rfl; have q4 := hqb.2.1 4 _ rfl
      have p0 := hqb.2.2 0; have p1 := hqb.2.2 1; have p2 := hqb.2.2 2; have p3 := hqb.2.2 3; have p4 := hqb.2.2 4
      clear hqb hKK hbq hr9 hf9 hb9 hO hrw hrr1 hv3 hs3 hR3 hbo
      go_wp2_with fail
      have hsU : (((((v1.setCell ⟨qb, 0, none⟩ (.int .i64 3)).setCell ⟨qb, 1, none⟩ (.int .i64 0)).setCell ⟨qb, 2, none⟩ (.string ⟨#[]⟩)).setCell ⟨qb, 3, none⟩ (.slice none 0 0)).setCell ⟨qb, 4, none⟩ (.slice (some ⟨v1.heap.size, 0, none⟩) 1 1)).heap.size = v1.heap.size := by simp
      generalize ((((v1.setCell ⟨qb, 0, none⟩ (.int .i64 3)).setCell ⟨qb, 1, none⟩ (.int .i64 0)).setCell ⟨qb, 2, none⟩ (.string ⟨#[]⟩)).setCell ⟨qb, 3, none⟩ (.slice none 0 0)).setCell ⟨qb, 4, none⟩ (.slice (some ⟨v1.heap.size, 0, none⟩) 1 1) = U9 at *
      have hbk := zb U9 (.cells #[.int .i64 (one j).rule, .int .i64 (one j).n, .string (one j).t.name, .slice e3 (one j).t.kids.length g3, .slice e4 (one j).kids.length g4] 32)
      have hcn := zn U9 [.int .i64 (one j).rule, .int .i64 (one j).n, .string (one j).t.name, .slice e3 (one j).t.kids.length g3, .slice e4 (one j).kids.length g4] 32
      have hkl : U9.heap.size < (U9.alloc (.cells #[.int .i64 (one j).rule, .int .i64 (one j).n, .string (one j).t.name, .slice e3 (one j).t.kids.length g3, .slice e4 (one j).kids.length g4] 32)).heap.size := by simp
      have hkr2 := wys_one (hr90.below hbk) (fun j u hj => by have h9 := hcn j u hj; rw [Addr.add_lit, Nat.zero_add] at h9; exact h9) hkl
      have gQ := gQ0.below hbk
      have hBq := hBq0.trans (hbk.mono (by omega))
      rw [hsU] at hkr2
      have hqU : ∀ x ∈ v1.heap.size :: f9, qb < x := fun x hx => by
       rcases zev.1 hx with rfl | hx
       ·exact hq1
       ·exact hf9q x hx
      have hkU : KidsOwn (qb + 1) (U9.alloc (.cells #[.int .i64 (one j).rule, .int .i64 (one j).n, .string (one j).t.name, .slice e3 (one j).t.kids.length g3, .slice e4 (one j).kids.length g4] 32)) (.mk 3 0 ⟨⟨#[]⟩, []⟩ [one j]) (.slice (some ⟨v1.heap.size, 0, none⟩) 1 1) := ⟨f9, by rw [← hsU]; exact Own.single (by omega) (hr90.below hbk) (Wy.cd_len _) (hr90.lt _), fun x hx => hf9q x hx, .inl rfl⟩
      clear hcn hkl hbk gQ0 hBq0
      go_meet
      case rel => exact ⟨.mk 3 0 ⟨⟨#[]⟩, []⟩ [one j], none, 0, some ⟨v1.heap.size, 0, none⟩, 1, v1.heap.size :: f9, rfl, Lib.hid HLK.out.symm, gQ, zcz ⟨by decide, by decide⟩ ⟨by decide, by decide⟩ (Nat.zero_le _) rfl hkr2, hqU, hkU, hBq⟩
     ·obtain ⟨j, hj⟩ : ∃ j : Nat, kk = (j : Int) := ⟨kk.toNat, by omega⟩
      have hjn : j < n := by omega
      have HLK := Lib.hid (link_pos (one := one) hj)
      have hd0 : decide (kk < 0) = false := by simpa using hk0
      have ql := hqb.1
      clear hk0 hkin q0 q1 q2 q3 q4
      subst hj
      go_wp2_with fail
      refine (hone j hjn _ _ hv3 hs3).mono ?_
      rintro e v1 ⟨e3, g3, e4, g4, f9, rfl, hr9, hf9, hb9, hk9⟩
      have hf9q : ∀ x ∈ f9, qb < x := fun x hx => by have := hf9 x hx; omega
      replace hqb := hqb.below hb9
      have hq1 := hqb.1
      have hbq := zdI hb9 (C := qb) (by omega)
      have gQ := hqb.puts [.int .i64 (one j).rule, .int .i64 (one j).n, .string (one j).t.name, .slice e3 (one j).t.kids.length g3, .slice e4 (one j).kids.length g4] rfl
      have hKK := (Same2.refl qb qb v1).sets (b := qb) (.inl rfl) (ze 0 [.int .i64 (one j).rule, .int .i64 (one j).n, .string (one j).t.name, .slice e3 (one j).t.kids.length g3, .slice e4 (one j).kids.length g4])
      have hBq := zr (b := qb) (Nat.le_refl _) (ze 0 [.int .i64 (one j).rule, .int .i64 (one j).n, .string (one j).t.name, .slice e3 (one j).t.kids.length g3, .slice e4 (one j).kids.length g4]) hbq
      simp only [zA, ze] at gQ hKK hBq
      have hr92 := hr9.same2 hKK (fun x hx => by have := hf9q x hx; omega)
      have hKK2 := hKK
      have hqv : qb + 1 ≤ v0.heap.size := ql
      have q0 := hqb.2.1 0 _ rfl; have q1 := hqb.2.1 1 _ rfl; have q2 := hqb.2.1 2 _ rfl; have q3 := hqb.2.1 3 _ rfl; have q4 := hqb.2.1 4 _ rfl
      have p0 := hqb.2.2 0; have p1 := hqb.2.2 1; have p2 := hqb.2.2 2; have p3 := hqb.2.2 3; have p4 := hqb.2.2 4
      clear hqb hKK hbq hr9 hf9 hb9 hO hrw hrr1 hv3 hs3 hR3 hbo
      go_wp2_with fail
      go_meet
      case rel => exact ⟨one j, e3, g3, e4, g4, f9, rfl, Lib.hid HLK.out.symm, gQ, hr92, hf9q, (hk9.mono (by omega)).same2 hKK2 (by omega), hBq⟩
    case rest =>
    clear hqb
    obtain ⟨L, e3, g3, e4, g4, f9, rfl, HLK, hqb, hr9, hf9, hkq, hbq⟩ := hcut
    replace hO := hO.belowB9 hbq hoq
    replace hrw := hrw.belowB hbq hfq
    replace hbo := hbo.trans (hbq.mono (by omega))
    have hOl := hO.1
    have hql := hqb.1
    have hf9o : ∀ x ∈ f9, ob < x := fun x hx => by have := hf9 x hx; omega
    clear hrr1 hv3 hs3 hR3 hba hbq
    obtain ⟨v2, rfl⟩ : ∃ z, z = wc := ⟨_, rfl⟩
    by_cases hi0 : i = 0
    ·have ht : ((i : Int) == 0) = true := by subst hi0; rfl
     have HCH2 : Hid (L = zV one (l.take (i + 1))) := Lib.hid (by subst hi0; rw [HLK.out, chain_one hlt, HKK.out])
     have gO := hO.puts [.int .i64 L.rule, .int .i64 L.n, .string L.t.name, .slice e3 L.t.kids.length g3, .slice e4 L.kids.length g4] rfl
     have hKK := (Same2.refl ob ob v2).sets (b := ob) (.inl rfl) (ze 0 [.int .i64 L.rule, .int .i64 L.n, .string L.t.name, .slice e3 L.t.kids.length g3, .slice e4 L.kids.length g4])
     have hBo := zr (b := ob) (Nat.le_refl _) (ze 0 [.int .i64 L.rule, .int .i64 L.n, .string L.t.name, .slice e3 L.t.kids.length g3, .slice e4 L.kids.length g4]) hbo
     simp only [zA, ze] at gO hKK hBo
     have hr92 := hr9.same2 hKK (fun x hx => by have := hf9o x hx; omega)
     have hkO := (hkq.mono (lo' := ob + 1) (by omega)).same2 hKK (by omega)
     have q0 := hqb.2.1 0 _ rfl; have q1 := hqb.2.1 1 _ rfl; have q2 := hqb.2.1 2 _ rfl; have q3 := hqb.2.1 3 _ rfl; have q4 := hqb.2.1 4 _ rfl
     have o0 := hO.2.1 0 _ rfl; have o1 := hO.2.1 1 _ rfl; have o2 := hO.2.1 2 _ rfl; have o3 := hO.2.1 3 _ rfl; have o4 := hO.2.1 4 _ rfl
     have p0 := hO.2.2 0; have p1 := hO.2.2 1; have p2 := hO.2.2 2; have p3 := hO.2.2 3; have p4 := hO.2.2 4
     clear hqb hKK hr9 hO hrw hbo hi0
     go_wp2_with fail
     go_roundw
     case rel => exact ⟨i + 1, L, e3, g3, e4, g4, f9, by omega, by go_num, HCH2, gO, hr92, hf9o, hkO, hBo⟩
     case measure => simp [intOf]; omega
    ·have ht : ((i : Int) == 0) = false := by simpa using hi0
     have HCH2 : Hid (Wy.mk 4 0 ⟨⟨#[]⟩, []⟩ [W, L] = zV one (l.take (i + 1))) := Lib.hid (by rw [zd9 hlt (by omega), HLK.out, HCH.out, HKK.out])
     have gO0 := hO.puts [.int .i64 4, .int .i64 0, .string ⟨#[]⟩, .slice none 0 0, .slice (some ⟨v2.heap.size, 0, none⟩) 2 2] rfl
     have hKK := (Same2.refl ob ob v2).sets (b := ob) (.inl rfl) (ze 0 [.int .i64 4, .int .i64 0, .string ⟨#[]⟩, .slice none 0 0, .slice (some ⟨v2.heap.size, 0, none⟩) 2 2])
     have hBo0 := zr (b := ob) (Nat.le_refl _) (ze 0 [.int .i64 4, .int .i64 0, .string ⟨#[]⟩, .slice none 0 0, .slice (some ⟨v2.heap.size, 0, none⟩) 2 2]) hbo
     simp only [zA, ze] at gO0 hKK hBo0
     have hrw0 := hrw.same2 hKK (fun x hx => by have := hfp x hx; omega)
     have hr90 := hr9.same2 hKK (fun x hx => by have := hf9o x hx; omega)
     have q0 := hqb.2.1 0 _ rfl; have q1 := hqb.2.1 1 _ rfl; have q2 := hqb.2.1 2 _ rfl; have q3 := hqb.2.1 3 _ rfl; have q4 := hqb.2.1 4 _ rfl
     have o0 := hO.2.1 0 _ rfl; have o1 := hO.2.1 1 _ rfl; have o2 := hO.2.1 2 _ rfl; have o3 := hO.2.1 3 _ rfl; have o4 := hO.2.1 4 _ rfl
     have p0 := hO.2.2 0; have p1 := hO.2.2 1; have p2 := hO.2.2 2; have p3 := hO.2.2 3; have p4 := hO.2.2 4
     clear hqb hKK hr9 hO hrw hbo hi0
     go_wp2_with fail
     have hsU : (((((v2.setCell ⟨ob, 0, none⟩ (.int .i64 4)).setCell ⟨ob, 1, none⟩ (.int .i64 0)).setCell ⟨ob, 2, none⟩ (.string ⟨#[]⟩)).setCell ⟨ob, 3, none⟩ (.slice none 0 0)).setCell ⟨ob, 4, none⟩ (.slice (some ⟨v2.heap.size, 0, none⟩) 2 2)).heap.size = v2.heap.size := by simp
     generalize ((((v2.setCell ⟨ob, 0, none⟩ (.int .i64 4)).setCell ⟨ob, 1, none⟩ (.int .i64 0)).setCell ⟨ob, 2, none⟩ (.string ⟨#[]⟩)).setCell ⟨ob, 3, none⟩ (.slice none 0 0)).setCell ⟨ob, 4, none⟩ (.slice (some ⟨v2.heap.size, 0, none⟩) 2 2) = U9 at *
     have hbk := zb U9 (.cells #[.int .i64 W.rule, .int .i64 W.n, .string W.t.name, .slice a3 W.t.kids.length c3, .slice a4 W.kids.length c4, .int .i64 L.rule, .int .i64 L.n, .string L.t.name, .slice e3 L.t.kids.length g3, .slice e4 L.kids.length g4] 32)
     have hcn := zn U9 [.int .i64 W.rule, .int .i64 W.n, .string W.t.name, .slice a3 W.t.kids.length c3, .slice a4 W.kids.length c4, .int .i64 L.rule, .int .i64 L.n, .string L.t.name, .slice e3 L.t.kids.length g3, .slice e4 L.kids.length g4] 32
     have hkl : U9.heap.size < (U9.alloc (.cells #[.int .i64 W.rule, .int .i64 W.n, .string W.t.name, .slice a3 W.t.kids.length c3, .slice a4 W.kids.length c4, .int .i64 L.rule, .int .i64 L.n, .string L.t.name, .slice e3 L.t.kids.length g3, .slice e4 L.kids.length g4] 32)).heap.size := by simp
     have hkr2 := wys_two (hrw0.below hbk) (hr90.below hbk) rfl (fun j u hj => by have h9 := hcn j u (by simpa using hj); rw [Addr.add_lit, Nat.zero_add] at h9; exact h9) hkl
     have gO := gO0.below hbk
     have hBo := hBo0.trans (hbk.mono (by omega))
     rw [hsU] at hkr2
     have hall : ∀ x ∈ v2.heap.size :: (fp ++ f9), ob < x := fun x hx => by
      rcases zev.1 hx with rfl | hx
      ·exact hOl
      ·rcases zer.1 hx with hx | hx
       ·exact hfp x hx
       ·exact hf9o x hx
     have hkU : KidsOwn (ob + 1) (U9.alloc (.cells #[.int .i64 W.rule, .int .i64 W.n, .string W.t.name, .slice a3 W.t.kids.length c3, .slice a4 W.kids.length c4, .int .i64 L.rule, .int .i64 L.n, .string L.t.name, .slice e3 L.t.kids.length g3, .slice e4 L.kids.length g4] 32)) (.mk 4 0 ⟨⟨#[]⟩, []⟩ [W, L]) (.slice (some ⟨v2.heap.size, 0, none⟩) 2 2) := ⟨fp ++ f9, by rw [← hsU]; exact Own.pair (vs := [.int .i64 W.rule, .int .i64 W.n, .string W.t.name, .slice a3 W.t.kids.length c3, .slice a4 W.kids.length c4]) (us := [.int .i64 L.rule, .int .i64 L.n, .string L.t.name, .slice e3 L.t.kids.length g3, .slice e4 L.kids.length g4]) (by omega) (hrw0.below hbk) (hr90.below hbk) (Wy.cd_len _) (Wy.cd_len _) (fun x hx => by rcases zer.1 hx with hx | hx; exact hrw0.lt _ x hx; exact hr90.lt _ x hx), fun x hx => hall x (List.mem_cons_of_mem _ hx), .inl rfl⟩
     clear hcn hkl hbk gO0 hBo0 hrw0 hr90
     go_roundw
     case rel => exact ⟨i + 1, .mk 4 0 ⟨⟨#[]⟩, []⟩ [W, L], none, 0, some ⟨v2.heap.size, 0, none⟩, 2, v2.heap.size :: (fp ++ f9), by omega, by go_num, HCH2, gO, zcz ⟨by decide, by decide⟩ ⟨by decide, by decide⟩ (Nat.zero_le _) rfl hkr2, hall, hkU, hBo⟩
     case measure => simp [intOf]; omega
   ·have ei : i = l.length := by omega
    have HWW : Hid (W0 a b = W) := Lib.hid (by rw [HW.out, HCH.out, ei, List.take_length])
    clear ei
    have gR := hR3.puts [.int .i64 W.rule, .int .i64 W.n, .string W.t.name, .slice a3 W.t.kids.length c3, .slice a4 W.kids.length c4] rfl
    have hKK := (Same2.refl w.heap.size w.heap.size wr).sets (b := w.heap.size) (.inl rfl) (ze 0 [.int .i64 W.rule, .int .i64 W.n, .string W.t.name, .slice a3 W.t.kids.length c3, .slice a4 W.kids.length c4])
    have hBE := zr (b := w.heap.size) (Nat.le_refl _) (ze 0 [.int .i64 W.rule, .int .i64 W.n, .string W.t.name, .slice a3 W.t.kids.length c3, .slice a4 W.kids.length c4]) (hbw2.trans (hbo.mono (by omega)))
    simp only [zA, ze] at gR hKK hBE
    have hrw2 := hrw.same2 hKK (fun x hx => by have := hfp x hx; omega)
    have hKK2 := hKK
    have o0 := hO.2.1 0 _ rfl; have o1 := hO.2.1 1 _ rfl; have o2 := hO.2.1 2 _ rfl; have o3 := hO.2.1 3 _ rfl; have o4 := hO.2.1 4 _ rfl
    have r0 := hR3.2.1 0 _ rfl; have r1 := hR3.2.1 1 _ rfl; have r2 := hR3.2.1 2 _ rfl; have r3 := hR3.2.1 3 _ rfl; have r4 := hR3.2.1 4 _ rfl
    have z0 := hR3.2.2 0; have z1 := hR3.2.2 1; have z2 := hR3.2.2 2; have z3 := hR3.2.2 3; have z4 := hR3.2.2 4
    clear hKK hO hrw hR3 hbo hwq hrr1 hv3 hs3
    go_wp2_with fail
    have e0 := gR.2.1 0 _ rfl; have e1 := gR.2.1 1 _ rfl; have e2 := gR.2.1 2 _ rfl; have e3 := gR.2.1 3 _ rfl; have e4 := gR.2.1 4 _ rfl
    refine bodyPost_ret (v := .agg #[.int .i64 W.rule, .int .i64 W.n, .string W.t.name, .slice a3 W.t.kids.length c3, .slice a4 W.kids.length c4]) (by simp [results, Tryz.results49, go_sem, e0, e1, e2, e3, e4]) rfl ?_
    exact ⟨a3, c3, a4, c4, fp, by rw [HWW.out], by rw [HWW.out]; exact hrw2, fun x hx => by have := hfp x hx; omega, hBE, by rw [HWW.out]; exact (hko.mono (lo' := w.heap.size + 1) (by omega)).same2 hKK2 (by omega) |>.mono (by omega)⟩
theorem l5Why_n (ps : List Tm) (st : List Stp) (pv sv : Value) (ho : Hid (Tm.Ord ps)) (hfit : Hid (∀ s ∈ st, zax ps s)) (hsl : st.length ≤ 1000000) (hpl : ps.length ≤ 1000000) (hsz : Hid (∀ t ∈ ps, t.size ≤ 1000000000)) (hkl : Hid (∀ t ∈ ps, t.kids.length ≤ 1048576)) (F : Nat) : ∀ (n : Nat), n ≤ F → n ≤ st.length → WhyAll ps st pv sv n (fun a b => whyW ps st F n a b) := by
 induction F with
 | zero =>
  intro n hF hn
  obtain rfl : n = 0 := by omega
  refine zcg ps st pv sv 0 hn (fun _ => .mk 0 0 ⟨⟨#[]⟩, []⟩ []) _ hfit hsl hpl hsz (fun j hj => by omega) (Lib.hid (fun a b h => zcQ (Nat.le_refl _) h)) (Lib.hid (fun a b l h hl => absurd (by rw [← h]; exact wayL_zero st _ _ _ _) hl))
 | succ F ih =>
  intro n hF hn
  refine zcg ps st pv sv n hn (fun i => oneW ps st (fun p q => whyW ps st F i p q) i) _ hfit hsl hpl hsz (fun j hj sf w hv hs => l5One_of ps st pv sv _ j (by omega) ho hfit hsl hpl hkl (ih j (by omega) (by omega)) sf w hv hs) (Lib.hid (fun a b h => zcQ hF h)) (Lib.hid (fun a b l h hl => zd3 h hl))
end Go.Proofs.YtlefdhhnlbpbkaaGreat
end
