/- Parts of the proof: LawWhyTellsL. -/
import Derived.Test.YtlefdhhnlbpbkaaGreatPt47
import Derived.Test.YtlefdhhnlbpbkaaGreatPt38
import Derived.Test.YtlefdhhnlbpbkaaGreatPt30
import Derived.Test.YtlefdhhnlbpbkaaGreatPt41
import Derived.Test.YtlefdhhnlbpbkaaGreatPt6
section
namespace Go.Proofs.YtlefdhhnlbpbkaaGreat
open Go Go.RowKit
set_option linter.unusedVariables false
set_option linter.unusedSimpArgs false
set_option maxRecDepth 100000
set_option maxHeartbeats 16000000
theorem zbc (x y : Tm) (vs us : List Value) (f f' : List Nat) (w : World) (hv : RdVs w x.cd vs f) (hx : RdVs w x.cd us f') :
  Calls Tryz.prog 8 #[.agg vs.toArray, .agg us.toArray] w fun e w' => e = .returned (.bool true) ∧ Below w.heap.size w w' := by
 have h := sameTm_x x x vs us f f' w hv hx
 rw [show eqV x.cd x.cd = true by rw [zcv]] at h
 exact h
theorem sides_13w {es : List Eqn} (hl : es.length ≤ 13) (h : ∀ q ∈ es, q.a.size ≤ 45 ∧ q.b.size ≤ 45) : Tm.sizes (zk es) ≤ 2000 := by
 have h1 := zcJ (a := ⟨⟨#[]⟩, []⟩) (b := ⟨⟨#[]⟩, []⟩) hl h (by rw [Tm.size_eq]; simp [Tm.kids, Tm.sizes]) (by rw [Tm.size_eq]; simp [Tm.kids, Tm.sizes])
 rw [Tm.sizes_append] at h1
 omega
theorem Rd.belowB9 {w w' : World} {B : Nat} {d : CD} {v : Value} {fp : List Nat} (h : Rd w d v fp) (hb : Below B w w') (hf : ∀ b, b ∈ fp → b < B) : Rd w' d v fp := h.same d (zH hb hf)
/-- Those equations that are used. -/
def fewE (es : List Eqn) (L : List Int) : List Eqn := L.map fun n => es.getD n.toNat Eqn.zero
theorem fewE_succ {es : List Eqn} {L : List Int} {k m : Nat} (hk : k < L.length) (hm : L[k] = (m : Int)) (h : m < es.length) : fewE es (L.take (k + 1)) = fewE es (L.take k) ++ [es[m]] := by
 unfold fewE
 rw [zeH hk, zeL, List.map_cons, List.map_nil, hm, Int.toNat_natCast, List.getD_eq_getElem?_getD, List.getElem?_eq_getElem h]
 rfl
theorem fewE_sz {es : List Eqn} {L : List Int} (h : ∀ q ∈ es, q.a.size ≤ 45 ∧ q.b.size ≤ 45) : ∀ q ∈ fewE es L, q.a.size ≤ 45 ∧ q.b.size ≤ 45 := fun q hq => by
 obtain ⟨n, _, rfl⟩ := List.mem_map.1 hq
 rw [List.getD_eq_getElem?_getD]
 cases he : es[n.toNat]? with
 | none => simp only [Option.getD_none, Eqn.zero]; constructor <;> (rw [Tm.size_eq]; simp [Tm.kids, Tm.sizes])
 | some e => exact h e (List.mem_of_getElem? he)
theorem whyT_some {s : Sg} {es : List Eqn} {x : Wy} {q : Eqn} (h : whyT s es x = some q) : Wy.tells es 400 x = some q ∧ q.a.size ≤ 45 ∧ q.b.size ≤ 45 := by
 unfold whyT at h
 split at h
 ·split at h
  ·cases h
  ·rename_i q' hq
   split at h
   ·rename_i hok
    obtain rfl := Option.some.inj h
    have h1 := zdF hok q' (by simp)
    unfold Eqn.lit at h1
    exact ⟨hq, by omega, by omega⟩
   ·cases h
 ·cases h
theorem zb0 (v : Value) (w : World) (hv : Byts w v) :
  Calls Tryz.prog 3 #[v] w fun e w' => e = .returned (.bool true) ∧ Below w.heap.size w w' := by
 have hv0 := hv
 obtain ⟨a9, n, cap, rfl, hn1, hn2, _⟩ := hv
 by_cases hlen : n ≤ 1048576
 rotate_left
 ·have hlb0 : decide ((1048576 : Int) < (n : Int)) = true := decide_eq_true (by omega)
  go_enter Tryz.func3, Tryz.ntmps3
  go_wp2_with fail
  go_ret
  exact ⟨rfl, Below.refl _ _⟩
 have hlb0 : decide ((1048576 : Int) < (n : Int)) = false := decide_eq_false (by omega)
 go_enter Tryz.func3, Tryz.ntmps3
 go_wp2_with fail
 refine (zbt _ _ hv0).mono ?_
 rintro e w1 ⟨⟨s, es, r, m, t, ks, sa, sc, ev, a3, c3, a4, c4, sf, ef, wf, hfew, hel, hes, hfit, rfl, hrs, hre, hrw, _, _⟩, hB⟩
 obtain ⟨evA, evC, rfl, hec1, hec2⟩ := zc hre
 have HES := Lib.hid hes
 have hsz := sides_13w hel hes
 have HTH := Lib.hid (hfit.thin (by decide))
 have HUS := Lib.hid hfit.uses
 clear hfew hes hfit
 obtain ⟨sB, hsB⟩ : ∃ F, F = w1.heap.size := ⟨_, rfl⟩
 obtain ⟨wB, hwB⟩ : ∃ G, G = sB + 1 := ⟨_, rfl⟩
 have hS := (Box.new w1 [.slice sa s.syms.length sc] 25).alloc (.cells #[.int .i64 r, .int .i64 m, .string t.name, .slice a3 t.kids.length c3, .slice a4 ks.length c4] 32)
 have hW := Box.new (w1.alloc (.cells #[.slice sa s.syms.length sc] 25)) [.int .i64 r, .int .i64 m, .string t.name, .slice a3 t.kids.length c3, .slice a4 ks.length c4] 32
 rw [World.size_alloc] at hW
 rw [← hsB, ← hwB] at hW
 rw [← hsB] at hS
 go_upto_region 4 with fail
 try rw [← hsB]
 try rw [← hwB]
 have hba : Below w1.heap.size w1 ((w1.alloc (.cells #[.slice sa s.syms.length sc] 25)).alloc (.cells #[.int .i64 r, .int .i64 m, .string t.name, .slice a3 t.kids.length c3, .slice a4 ks.length c4] 32)) := ((Below.refl _ _).alloc (Nat.le_refl _) _).alloc (by simp) _
 replace hrs := hrs.below hba; replace hre := hre.below hba; replace hrw := hrw.below hba
 replace hB := hB.trans (hba.mono hB.size)
 clear hba hsB hwB
 generalize (w1.alloc (.cells #[.slice sa s.syms.length sc] 25)).alloc (.cells #[.int .i64 r, .int .i64 m, .string t.name, .slice a3 t.kids.length c3, .slice a4 ks.length c4] 32) = w2 at *
 obtain ⟨o, HO⟩ : ∃ o, Hid (whyT s es (.mk r m t ks) = o) := ⟨_, Lib.hid rfl⟩
 obtain ⟨q, HQ⟩ : ∃ q, Hid (o.getD Eqn.zero = q) := ⟨_, Lib.hid rfl⟩
 obtain ⟨ok, HK⟩ : ∃ b, Hid (o.isSome = b) := ⟨_, Lib.hid rfl⟩
 have n1 : (ok != ok) = false := by cases ok <;> rfl
 have n2 : (ok == ok) = true := by cases ok <;> rfl
 have s0 := hS.2.1 0 _ rfl; have k0 := hW.2.1 0 _ rfl; have k1 := hW.2.1 1 _ rfl; have k2 := hW.2.1 2 _ rfl; have k3 := hW.2.1 3 _ rfl; have k4 := hW.2.1 4 _ rfl
 go_wp2_with fail
 refine (zdd s es (.mk r m t ks) _ _ _ _ _ _ _ (by omega) (by omega) HTH.out (by exact hrs) (by exact hre) (by exact hrw)).mono ?_
 rintro e w3 ⟨us, fs, rfl, hru, _, hb⟩
 rw [HO.out, HQ.out] at hru
 rw [HO.out, HK.out]
 clear s0 k0 k1 k2 k3 k4
 replace hrs := hrs.below hb
 replace hre := hre.below hb
 replace hrw := hrw.below hb
 replace hS := hS.below hb
 replace hW := hW.below hb
 replace hB := hB.trans (hb.mono hB.size)
 clear hb
 obtain ⟨x1, y1, f1, x3, y3, f3, rfl, rfl, e0, e1, e2, e3⟩ := Eqn.open hru
 clear hru
 obtain ⟨eB, heB⟩ : ∃ F, F = w3.heap.size := ⟨_, rfl⟩
 have hE := Box.new w3 [.string q.a.name, .slice x1 q.a.kids.length y1, .string q.b.name, .slice x3 q.b.kids.length y3] 36
 rw [← heB] at hE
 go_upto_region 5 with fail
 try rw [← heB]
 have hb := zb w3 (.cells #[.string q.a.name, .slice x1 q.a.kids.length y1, .string q.b.name, .slice x3 q.b.kids.length y3] 36)
 replace hrs := hrs.below hb
 replace hre := hre.below hb
 replace hrw := hrw.below hb
 replace hS := hS.below hb
 replace hW := hW.below hb
 replace e1 := e1.below hb
 replace e3 := e3.below hb
 replace hB := hB.trans (hb.mono hB.size)
 clear hb
 clear heB
 generalize w3.alloc (.cells #[.string q.a.name, .slice x1 q.a.kids.length y1, .string q.b.name, .slice x3 q.b.kids.length y3] 36) = w4 at *
 have s0 := hS.2.1 0 _ rfl; have k0 := hW.2.1 0 _ rfl; have k1 := hW.2.1 1 _ rfl; have k2 := hW.2.1 2 _ rfl; have k3 := hW.2.1 3 _ rfl; have k4 := hW.2.1 4 _ rfl
 go_wp2_with fail
 refine (zcM s es (.mk r m t ks) _ _ _ _ _ _ _ (by omega) (by omega) HTH.out (by exact hrs) (by exact hre) (by exact hrw)).mono ?_
 rintro e w5 ⟨us, fs, rfl, hru, _, hb⟩
 rw [HO.out, HQ.out] at hru
 rw [HO.out, HK.out]
 clear s0 k0 k1 k2 k3 k4
 replace hrs := hrs.below hb
 replace hre := hre.below hb
 replace hrw := hrw.below hb
 replace hS := hS.below hb
 replace hW := hW.below hb
 replace hE := hE.below hb
 replace e1 := e1.below hb
 replace e3 := e3.below hb
 replace hB := hB.trans (hb.mono hB.size)
 clear hb
 obtain ⟨u1, z1, g1', u3, z3, g3', rfl, rfl, g0, g1, g2, g3⟩ := Eqn.open hru
 clear hru
 obtain ⟨xB, hxB⟩ : ∃ F, F = w5.heap.size := ⟨_, rfl⟩
 have hX := Box.new w5 [.string q.a.name, .slice u1 q.a.kids.length z1, .string q.b.name, .slice u3 q.b.kids.length z3] 36
 rw [← hxB] at hX
 go_upto_region 6 with fail
 try rw [← hxB]
 have hb := zb w5 (.cells #[.string q.a.name, .slice u1 q.a.kids.length z1, .string q.b.name, .slice u3 q.b.kids.length z3] 36)
 replace hrs := hrs.below hb
 replace hre := hre.below hb
 replace hrw := hrw.below hb
 replace hS := hS.below hb
 replace hW := hW.below hb
 replace hE := hE.below hb
 replace e1 := e1.below hb
 replace e3 := e3.below hb
 replace g1 := g1.below hb
 replace g3 := g3.below hb
 replace hB := hB.trans (hb.mono hB.size)
 clear hb
 clear hxB
 generalize w5.alloc (.cells #[.string q.a.name, .slice u1 q.a.kids.length z1, .string q.b.name, .slice u3 q.b.kids.length z3] 36) = w6 at *
 have b0 := hE.2.1 0 _ rfl; have b1 := hE.2.1 1 _ rfl; have b2 := hE.2.1 2 _ rfl; have b3 := hE.2.1 3 _ rfl; have d0 := hX.2.1 0 _ rfl; have d1 := hX.2.1 1 _ rfl; have d2 := hX.2.1 2 _ rfl; have d3 := hX.2.1 3 _ rfl
 go_wp2_with fail
 refine (zbc q.a q.a _ _ _ _ _ (by exact Tm.close e0 e1) (by exact Tm.close g0 g1)).mono ?_
 rintro e v1 ⟨rfl, hb⟩
 clear b0 b1 b2 b3 d0 d1 d2 d3
 replace hrs := hrs.below hb
 replace hre := hre.below hb
 replace hrw := hrw.below hb
 replace hS := hS.below hb
 replace hW := hW.below hb
 replace hE := hE.below hb
 replace hX := hX.below hb
 replace e1 := e1.below hb
 replace e3 := e3.below hb
 replace g1 := g1.below hb
 replace g3 := g3.below hb
 replace hB := hB.trans (hb.mono hB.size)
 clear hb
 have b0 := hE.2.1 0 _ rfl; have b1 := hE.2.1 1 _ rfl; have b2 := hE.2.1 2 _ rfl; have b3 := hE.2.1 3 _ rfl; have d0 := hX.2.1 0 _ rfl; have d1 := hX.2.1 1 _ rfl; have d2 := hX.2.1 2 _ rfl; have d3 := hX.2.1 3 _ rfl
 go_wp2_with fail
 refine (zbc q.b q.b _ _ _ _ _ (by exact Tm.close e2 e3) (by exact Tm.close g2 g3)).mono ?_
 rintro e v2 ⟨rfl, hb⟩
 clear b0 b1 b2 b3 d0 d1 d2 d3
 replace hrs := hrs.below hb
 replace hre := hre.below hb
 replace hrw := hrw.below hb
 replace hS := hS.below hb
 replace hW := hW.below hb
 replace hE := hE.below hb
 replace hX := hX.below hb
 replace e1 := e1.below hb
 replace e3 := e3.below hb
 replace g1 := g1.below hb
 replace g3 := g3.below hb
 replace hB := hB.trans (hb.mono hB.size)
 clear hb
 have b0 := hE.2.1 0 _ rfl; have b1 := hE.2.1 1 _ rfl; have b2 := hE.2.1 2 _ rfl; have b3 := hE.2.1 3 _ rfl; have d0 := hX.2.1 0 _ rfl; have d1 := hX.2.1 1 _ rfl; have d2 := hX.2.1 2 _ rfl; have d3 := hX.2.1 3 _ rfl
 cases ok
 ·clear n1 n2
  go_wp2_with fail
  refine (zbc q.a q.a _ _ _ _ _ (by exact Tm.close e0 e1) (by exact Tm.close g0 g1)).mono ?_
  rintro e v3 ⟨rfl, hb⟩
  clear b0 b1 b2 b3 d0 d1 d2 d3
  replace hrs := hrs.below hb
  replace hre := hre.below hb
  replace hrw := hrw.below hb
  replace hS := hS.below hb
  replace hW := hW.below hb
  replace hE := hE.below hb
  replace hX := hX.below hb
  replace e1 := e1.below hb
  replace e3 := e3.below hb
  replace g1 := g1.below hb
  replace g3 := g3.below hb
  replace hB := hB.trans (hb.mono hB.size)
  clear hb
  have b0 := hE.2.1 0 _ rfl; have b1 := hE.2.1 1 _ rfl; have b2 := hE.2.1 2 _ rfl; have b3 := hE.2.1 3 _ rfl; have d0 := hX.2.1 0 _ rfl; have d1 := hX.2.1 1 _ rfl; have d2 := hX.2.1 2 _ rfl; have d3 := hX.2.1 3 _ rfl
  go_wp2_with fail
  refine (zbc q.b q.b _ _ _ _ _ (by exact Tm.close e2 e3) (by exact Tm.close g2 g3)).mono ?_
  rintro e v4 ⟨rfl, hb⟩
  clear b0 b1 b2 b3 d0 d1 d2 d3
  replace hrs := hrs.below hb
  replace hre := hre.below hb
  replace hrw := hrw.below hb
  replace hS := hS.below hb
  replace hW := hW.below hb
  replace hE := hE.below hb
  replace hX := hX.below hb
  replace e1 := e1.below hb
  replace e3 := e3.below hb
  replace g1 := g1.below hb
  replace g3 := g3.below hb
  replace hB := hB.trans (hb.mono hB.size)
  clear hb
  have b0 := hE.2.1 0 _ rfl; have b1 := hE.2.1 1 _ rfl; have b2 := hE.2.1 2 _ rfl; have b3 := hE.2.1 3 _ rfl; have d0 := hX.2.1 0 _ rfl; have d1 := hX.2.1 1 _ rfl; have d2 := hX.2.1 2 _ rfl; have d3 := hX.2.1 3 _ rfl
  go_wp2_with fail
  go_ret
  exact ⟨rfl, hB⟩
 clear n1 n2
 have HT : Hid (Wy.tells es 400 (.mk r m t ks) = some q ∧ q.a.size ≤ 45 ∧ q.b.size ≤ 45) := Lib.hid (by
  have h1 := HK.out
  cases o with
  | none => simp at h1
  | some q' =>
   have h2 := HQ.out
   simp only [Option.getD_some] at h2
   subst h2
   exact whyT_some HO.out)
 have hqa := HT.out.2.1
 have hqb := HT.out.2.2
 clear HO HQ HK b0 b1 b2 b3 d0 d1 d2 d3
 obtain ⟨L, HL⟩ : ∃ L, Hid (once (Wy.mk r m t ks).uses = L) := ⟨_, Lib.hid rfl⟩
 have HM : Hid (∀ x, x ∈ L ↔ x ∈ (Wy.mk r m t ks).uses) := Lib.hid (fun x => by rw [← HL.out]; exact once_mem _ x)
 have HIN : Hid (∀ x ∈ L, 0 ≤ x ∧ x < es.length) := Lib.hid (fun x hx => by
  have h1 := Wy.tells_uses 400 _ _ HT.out.1 x ((HM.out x).1 hx)
  omega)
 have hLl : L.length ≤ 13 := by
  have h1 := up_len L 0 es.length (by rw [← HL.out]; exact once_up _) (fun x hx => HIN.out x hx)
  omega
 have k0 := hW.2.1 0 _ rfl; have k1 := hW.2.1 1 _ rfl; have k2 := hW.2.1 2 _ rfl; have k3 := hW.2.1 3 _ rfl; have k4 := hW.2.1 4 _ rfl
 go_wp2_with fail
 refine (zdE (.mk r m t ks) _ _ _ HTH.out HUS.out (by exact hrw)).mono ?_
 rintro e w7 ⟨lv, lf, rfl, hrl, _, hb⟩
 rw [HL.out] at hrl
 obtain ⟨la, lc, rfl, _, _⟩ := zc hrl
 replace hrs := hrs.below hb
 replace hre := hre.below hb
 replace hS := hS.below hb
 replace hE := hE.below hb
 replace e1 := e1.below hb
 replace e3 := e3.below hb
 replace hB := hB.trans (hb.mono hB.size)
 clear hb
 clear k0 k1 k2 k3 k4 HTH HUS HL
 have hown0 := Own.empty w7 w7.heap.size 36 4 (Nat.le_refl _)
 go_upto_region 10 with fail
 have hb := zb w7 (.cells #[] 36)
 have hrl0 := hrl
 replace hrl := hrl.below hb
 have hre0 := hre; have hS0 := hS; have hE0 := hE; have hrs0 := hrs; have e10 := e1; have e30 := e3; have hB0 := hB
 replace hrs := hrs.below hb
 replace hre := hre.below hb
 replace hS := hS.below hb
 replace hE := hE.below hb
 replace e1 := e1.below hb
 replace e3 := e3.below hb
 replace hB := hB.trans (hb.mono hB.size)
 clear hb
 have hgz : w7.heap.size < (w7.alloc (.cells #[] 36)).heap.size := by simp
 obtain ⟨G, hG⟩ : ∃ G, G = w7.heap.size := ⟨_, rfl⟩
 rw [← hG] at hown0 hgz ⊢
 generalize w7.alloc (.cells #[] 36) = w8 at *
 have hrG : ∀ b ∈ ef, b < G := fun b hb => by have := hre0.lt _ b hb; omega
 have hlG : ∀ b ∈ lf, b < G := fun b hb => by have := hrl0.lt _ b hb; omega
 have hsG : sB < G ∧ eB < G := by have h1 := hS0.1; have h2 := hE0.1; omega
 have hsfG : ∀ b ∈ sf, b < G := fun b hb => by have := hrs0.lt _ b hb; omega
 have he1G : ∀ b ∈ f1, b < G := fun b hb => by have := e10.lt _ b hb; omega
 have he3G : ∀ b ∈ f3, b < G := fun b hb => by have := e30.lt _ b hb; omega
 have hB8 : w.heap.size ≤ G := by have := hB0.size; omega
 clear hre0 hrl0 hS0 hE0 hrs0 e10 e30 hB0 hG
 go_wp2_with fail
 go_loopw [11, 12] (fun ov i wr => ∃ (k : Nat) (fp : List Nat), k ≤ L.length ∧ i = .int .i64 k ∧ Own wr G 36 4 ov ((fewE es (L.take k)).map Eqn.cd) fp ∧ (∀ b ∈ fp, b < G) ∧ Below G w8 wr) (fun _ i _ => L.length - (intOf i).toNat)
 case atStart => exact ⟨0, [], Nat.zero_le _, rfl, hown0, (fun b hb => by cases hb), Below.refl _ _⟩
 case round =>
  clear hown0
  obtain ⟨k, fp, hkl, rfl, hown, hfp, hbl⟩ := hrel
  have hzl := hbl.size
  have hrl1 := hrl.belowB9 hbl hlG
  have hre1 := hre.belowB9 hbl hrG
  by_cases hlt : k < L.length
  ·obtain ⟨hn0, hn1⟩ := HIN.out _ (zeJ hlt)
   obtain ⟨mm, hmm⟩ := Int.eq_ofNat_of_zero_le hn0
   have hml : mm < es.length := by omega
   obtain ⟨lb, lo, rfl, hlbs, _⟩ := zo hrl1 (by omega)
   obtain ⟨eb, eo, rfl, hebs, _⟩ := zo hre1 (by omega)
   obtain ⟨i0, i1⟩ := zaa hrl1 hlt
   rw [hmm] at i0
   obtain ⟨p1, p2, p3, p4, p5, p6, j0, j1, j2, j3, k0, k1, k2, k3, hjf⟩ := Eqn.at hre1 hml
   have HS9 := Lib.hid (fewE_succ hlt hmm hml)
   obtain ⟨oa, on, oc, rfl⟩ := hown.form'
   have hrow : ∀ b, (Value.slice oa on oc).ownBlock = some b → G ≤ b ∧ b < wr.heap.size := fun b hb => hown.block hb
   have hcl := Eqn.close k0 k1 k2 k3
   have hal := zb wr (.cells #[.string es[mm].a.name, .slice p1 es[mm].a.kids.length p2, .string es[mm].b.name, .slice p4 es[mm].b.kids.length p5] 36)
   have hsa : (wr.alloc (.cells #[.string es[mm].a.name, .slice p1 es[mm].a.kids.length p2, .string es[mm].b.name, .slice p4 es[mm].b.kids.length p5] 36)).heap.size = wr.heap.size + 1 := by simp
   have hfl : (fewE es (L.take k)).length ≤ 13 := by unfold fewE; rw [zeN, List.length_take]; omega
   have hlb1 : lb < wr.heap.size := hlbs
   have hmn : ¬ ((es.length : Int) ≤ (mm : Int)) := by omega
   have hm0 : ¬ ((mm : Int) < 0) := by omega
   clear hmm hn0 hn1
   go_wp2_with (at_builtin; refine zp zI rfl _ _ rfl G _ _ fp rfl (hown.below hal) ⟨wr.heap.size, 0, none⟩ 1 1 [es[mm].cd] [.string es[mm].a.name, .slice p1 es[mm].a.kids.length p2, .string es[mm].b.name, .slice p4 es[mm].b.kids.length p5] (p3 ++ p6) rfl rfl ?rd ?k ?cells ?na ?bytes ?len ?base ?next)
   try (case rd => simpa using hcl.below hal)
   case k => first | exact Eqn.cd_len _ | (intro x hx; rw [List.mem_singleton.1 hx]; exact Eqn.cd_len _)
   try (case cells => exact zn _ _ _)
   case na => intro b hb h; have h1 := hrG b (hjf b (by first | exact hb | exact zeI.2 hb)); have h2 := hrow b h; omega
   case bytes => first | omega | (simp; omega)
   case len => first | omega | (simp; omega)
   case base => first | omega | (simp; omega)
   case next =>
    intro v9 w9 hown9 hg9 hv9 hs9
    have hb9 := ze (hbl.alloc (by omega) _) hg9 (by rw [World.size_alloc]; omega) (fun b hb => (hrow b hb).1)
    go_wp2_with fail
    go_roundw
    case rel =>
     refine ⟨k + 1, fp ++ (p3 ++ p6), by omega, by go_num, ?_, ?_, hb9⟩
     ·rw [HS9.out, zeL]; simpa using hown9
     ·intro b hb
      rcases zeI.1 hb with hb | hb
      ·exact hfp b hb
      ·exact hrG b (hjf b hb)
    case measure => simp [intOf]; omega
  ·have he : L.take k = L := List.take_of_length_le (by omega)
   rw [he] at hown
   clear he hre1 hrl1
   obtain ⟨F, HF⟩ : ∃ F, Hid (fewE es L = F) := ⟨_, Lib.hid rfl⟩
   have hFl : F.length ≤ 13 := by rw [← HF.out]; unfold fewE; rw [zeN]; omega
   have HFS : Hid (∀ p ∈ F, p.a.size ≤ 45 ∧ p.b.size ≤ 45) := Lib.hid (by rw [← HF.out]; exact fewE_sz HES.out)
   rw [HF.out] at hown
   obtain ⟨ff, hrf⟩ := hown.rd'
   obtain ⟨fa, fc, rfl, _, _⟩ := zc hrf
   have hfbig := zcJ hFl HFS.out hqa hqb
   have hB9 := hB.trans (hbl.mono hB8)
   have hS9 := hS.belowB9 hbl hsG.1
   have hE9 := hE.belowB9 hbl hsG.2
   have hrs9 := hrs.belowB hbl hsfG
   have e19 := e1.belowB9 hbl he1G
   have e39 := e3.belowB9 hbl he3G
   have s0 := hS9.2.1 0 _ rfl; have b0 := hE9.2.1 0 _ rfl; have b1 := hE9.2.1 1 _ rfl; have b2 := hE9.2.1 2 _ rfl; have b3 := hE9.2.1 3 _ rfl; have hlS := hS9.1; have hlE := hE9.1
   have hal := zb wr (.cells #[.string q.a.name, .slice x1 q.a.kids.length y1, .string q.b.name, .slice x3 q.b.kids.length y3] 29)
   have hra := (Tm.close e0 e19).below hal
   have hrb := (Tm.close e2 e39).below hal
   obtain ⟨fm, hrm⟩ := zcA (a := q.a) (b := q.b) (g := wr.heap.size) hra hrb (by rw [World.size_alloc]; omega) (zi wr [.string q.a.name, .slice x1 q.a.kids.length y1, .string q.b.name, .slice x3 q.b.kids.length y3] 29)
   go_wp2_with fail
   refine (zcN s F [q.a, q.b] _ _ _ _ _ _ _ (by omega) (by omega) (by exact hrs9.below hal) (by exact hrf.below hal) (by exact hrm)).mono ?_
   rintro e w10 ⟨pv, sv, fp1, fp2, rfl, hrp, hrv, _, hb10⟩
   obtain ⟨pa, pc, rfl, _, _⟩ := zc hrp
   obtain ⟨va, vc, rfl, _, _⟩ := zc hrv
   have hbb := hal.trans (hb10.mono (by rw [World.size_alloc]; omega))
   obtain ⟨N, HN⟩ : ∃ N, Hid ((zbM s F [q.a, q.b]).1.length = N) := ⟨_, Lib.hid rfl⟩
   rw [HN.out]
   have hB10 := hB9.trans (hbb.mono hB9.size)
   have hS10 := hS9.below hbb
   have hE10 := hE9.below hbb
   clear s0 b0 b1 b2 b3 hrm
   have s0 := hS10.2.1 0 _ rfl; have b0 := hE10.2.1 0 _ rfl; have b1 := hE10.2.1 1 _ rfl; have b2 := hE10.2.1 2 _ rfl; have b3 := hE10.2.1 3 _ rfl
   by_cases hN : N = 0
   ·have tk : ((N : Int) == 0) = true := by simp [hN]
    clear hN
    go_wp2_with fail
    go_ret
    exact ⟨rfl, hB10⟩
   ·have tk : ((N : Int) == 0) = false := by simpa using hN
    have HSI : Hid (zC s F q.a q.b = true) := Lib.hid (by
     have hm : zQ s F [q.a, q.b] = true := by
      cases h : zQ s F [q.a, q.b] with
      | true => rfl
      | false => have h1 := HN.out; rw [zcY h] at h1; exact absurd h1.symm hN
     refine zei HT.out.1 (fun n hn e he => ?_) hm
     rw [← HF.out]
     exact List.mem_map.2 ⟨n, (HM.out n).2 hn, by rw [List.getD_eq_getElem?_getD, he]; rfl⟩)
    clear hN
    go_wp2_with fail
    refine (zez s F q.a q.b _ _ _ _ _ _ _ _ _ (by omega) (by omega) (by exact hrs9.below hbb) (by exact hrf.below hbb) (by exact (Tm.close e0 e19).below hbb) (by exact (Tm.close e2 e39).below hbb)).mono ?_
    rintro e w11 ⟨rfl, hb11⟩
    rw [HSI.out]
    go_wp2_with fail
    go_ret
    exact ⟨rfl, hB10.trans (hb11.mono hB10.size)⟩
end Go.Proofs.YtlefdhhnlbpbkaaGreat
end
