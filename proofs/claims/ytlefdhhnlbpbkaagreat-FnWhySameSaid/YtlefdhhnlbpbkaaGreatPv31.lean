/- Parts of the proof: WhS. -/
import Derived.Test.YtlefdhhnlbpbkaaGreatPv30
import Derived.Test.YtlefdhhnlbpbkaaGreatPv20
import Derived.Test.YtlefdhhnlbpbkaaGreatPv8
import Derived.Test.YtlefdhhnlbpbkaaGreatPv22
section
namespace Go.Proofs.YtlefdhhnlbpbkaaGreat
open Go Go.RowKit
set_option linter.unusedVariables false
set_option linter.unusedSimpArgs false
set_option maxRecDepth 100000
set_option maxHeartbeats 16000000
/-- The row of a reason's parts is the call's own. -/
def KidsOwn (lo : Nat) (w : World) (W : Wy) (v : Value) : Prop := ∃ kf, Own w lo 32 5 v (W.kids.map Wy.cd) kf ∧ (∀ x ∈ kf, lo ≤ x) ∧ (W.t.kids = [] ∨ v.ownBlock = none)
theorem KidsOwn.nil {lo : Nat} {w : World} {W : Wy} (h : W.kids = []) : KidsOwn lo w W (.slice none 0 0) := ⟨[], by rw [h]; exact Own.nil _ _ _ _, by simp, .inr rfl⟩
theorem Own.same2 {A B : Nat} {w w' : World} {base e k : Nat} {v : Value} {es : List (List CD)} {fp : List Nat} (h : Own w base e k v es fp) (hs : Same2 A B w w') (hf : ∀ b ∈ fp, b ≠ A ∧ b ≠ B) (hv : ∀ b, v.ownBlock = some b → b ≠ A ∧ b ≠ B) : Own w' base e k v es fp :=
 h.same (fun b hb => hs b (h.lt b hb) (hf b hb).1 (hf b hb).2) (fun b hb => hs b (h.block hb).2 (hv b hb).1 (hv b hb).2)
theorem KidsOwn.same2 {lo A : Nat} {w w' : World} {W : Wy} {v : Value} (h : KidsOwn lo w W v) (hs : Same2 A A w w') (hA : A < lo) : KidsOwn lo w' W v := by
 obtain ⟨kf, h1, h2, h3⟩ := h
 exact ⟨kf, h1.same2 hs (fun b hb => by have := h2 b hb; omega) (fun b hb => by have := (h1.block hb).1; omega), h2, h3⟩
theorem KidsOwn.mono {lo lo' : Nat} {w : World} {W : Wy} {v : Value} (h : KidsOwn lo w W v) (hl : lo' ≤ lo) : KidsOwn lo' w W v := by
 obtain ⟨kf, h1, h2, h3⟩ := h
 exact ⟨kf, h1.base (fun b hb => Nat.le_trans hl (h1.block hb).1), fun x hx => Nat.le_trans hl (h2 x hx), h3⟩
theorem KidsOwn.below {lo : Nat} {w w' : World} {W : Wy} {v : Value} (h : KidsOwn lo w W v) (hb : Below w.heap.size w w') : KidsOwn lo w' W v := by
 obtain ⟨kf, h1, h2, h3⟩ := h
 exact ⟨kf, h1.below hb, h2, h3⟩
/-- What is there already holds below. -/
theorem KidsOwn.keep {lo B : Nat} {w w0 w' : World} {W : Wy} {v : Value} (h : KidsOwn lo w W v) (h0 : Below w.heap.size w w0) (hB : w.heap.size ≤ B) (hb : Below B w0 w') : KidsOwn lo w' W v := by
 obtain ⟨kf, h1, h2, h3⟩ := h
 refine ⟨kf, (h1.below h0).same (fun b hb' => hb.block b (by have := h1.lt b hb'; omega)) (fun b hb' => hb.block b (by have := (h1.block hb').2; omega)), h2, h3⟩
/-- A reason that comes back, in new memory. -/
def zdp (W : Wy) (w : World) (e : Ending) (w' : World) : Prop := ∃ (a3 : Option Addr) (c3 : Nat) (a4 : Option Addr) (c4 : Nat) (f : List Nat), e = .returned (.agg #[.int .i64 W.rule, .int .i64 W.n, .string W.t.name, .slice a3 W.t.kids.length c3, .slice a4 W.kids.length c4]) ∧
 RdVs w' W.cd [.int .i64 W.rule, .int .i64 W.n, .string W.t.name, .slice a3 W.t.kids.length c3, .slice a4 W.kids.length c4] f ∧ (∀ b ∈ f, w.heap.size ≤ b) ∧ Below w.heap.size w w' ∧ KidsOwn w.heap.size w' W (.slice a4 W.kids.length c4)
def ksW (ps : List Tm) (rec : Nat → Nat → Wy) (x y : Tm) : List Wy := (x.kids.zip y.kids).map fun p => rec (Tm.pos ps p.1) (Tm.pos ps p.2)
theorem ksW_len {ps : List Tm} {rec : Nat → Nat → Wy} {x y : Tm} (h : x.kids.length = y.kids.length) : (ksW ps rec x y).length = x.kids.length := by simp [ksW, h]
theorem ksW_at {ps : List Tm} {rec : Nat → Nat → Wy} {x y : Tm} {k : Nat} (hk : k < (ksW ps rec x y).length) (hx : k < x.kids.length) (hy : k < y.kids.length) : (ksW ps rec x y)[k] = rec (Tm.pos ps x.kids[k]) (Tm.pos ps y.kids[k]) := by simp [ksW]
theorem zd8 {ps : List Tm} {st : List Stp} {rec : Nat → Nat → Wy} {i : Nat} (hi : i < st.length) (h : 0 ≤ st[i].given) : oneW ps st rec i = .mk 2 st[i].given ⟨⟨#[]⟩, []⟩ [] := by
 unfold oneW; rw [List.getElem?_eq_getElem hi]; simp only; rw [if_pos h]
theorem oneW_cong {ps : List Tm} {st : List Stp} {rec : Nat → Nat → Wy} {i p q : Nat} (hi : i < st.length) (h : ¬ 0 ≤ st[i].given) (ha : st[i].a = (p : Int)) (hb : st[i].b = (q : Int)) (hp : p < ps.length) (hq : q < ps.length) : oneW ps st rec i = .mk 5 0 ⟨ps[p].name, []⟩ (ksW ps rec ps[p] ps[q]) := by
 unfold oneW; rw [List.getElem?_eq_getElem hi]; simp only
 rw [if_neg h, ha, hb, Int.toNat_natCast, Int.toNat_natCast, List.getElem?_eq_getElem hp, List.getElem?_eq_getElem hq]
 rfl
theorem zcy (w : World) : Rd w (.sl (([] : List Wy).map Wy.cd)) (.slice none 0 0) [] := by simp only [List.map_nil, Rd]; exact ⟨none, 0, rfl, by simp, by simp [maxLen], by simp⟩
theorem zaL (w : World) : Rd w (.sl (([] : List Tm).map Tm.cd)) (.slice none 0 0) [] := by simp only [List.map_nil, Rd]; exact ⟨none, 0, rfl, by simp, by simp [maxLen], by simp⟩
theorem zbG {w : World} {r n : Int} {s : ByteArray} (hr : I64 r) (hn : I64 n) (hs : s.size ≤ maxLen) : RdVs w (Wy.mk r n ⟨s, []⟩ []).cd [.int .i64 r, .int .i64 n, .string s, .slice none 0 0, .slice none 0 0] [] :=
 Wy.close (x := .mk r n ⟨s, []⟩ []) hr hn hs (zaL w) (zcy w)
theorem zcz {w : World} {r n : Int} {s : ByteArray} {ks : List Wy} {a : Option Addr} {m c : Nat} {f : List Nat} (hr : I64 r) (hn : I64 n) (hs : s.size ≤ maxLen) (hm : m = ks.length) (hk : Rd w (.sl (ks.map Wy.cd)) (.slice a m c) f) : RdVs w (Wy.mk r n ⟨s, []⟩ ks).cd [.int .i64 r, .int .i64 n, .string s, .slice none 0 0, .slice a m c] f := by
 subst hm
 exact Wy.close (x := .mk r n ⟨s, []⟩ ks) (f3 := []) hr hn hs (zaL w) hk
theorem wys_one {w : World} {b : Nat} {W : Wy} {vs : List Value} {f : List Nat} (hr : RdVs w W.cd vs f) (hc : ∀ j u, vs[j]? = some u → w.cell? ⟨b, j, none⟩ = some u) (hb : b < w.heap.size) : Rd w (.sl ([W].map Wy.cd)) (.slice (some ⟨b, 0, none⟩) 1 1) (b :: f) := by
 simp only [Rd]
 refine ⟨_, _, rfl, Nat.le_refl _, by decide, .inr ⟨by simp, b, 0, f, rfl, hb, rfl, ?_⟩⟩
 simp only [List.map_cons, List.map_nil, RdRows]
 exact ⟨vs, f, [], by simp, fun j v hv => by rw [Nat.zero_add]; exact hc j v hv, hr, rfl⟩
theorem wys_two {w : World} {b : Nat} {W V : Wy} {vs us : List Value} {f g : List Nat} (hr : RdVs w W.cd vs f) (hq : RdVs w V.cd us g) (hl : vs.length = 5) (hc : ∀ j u, (vs ++ us)[j]? = some u → w.cell? ⟨b, j, none⟩ = some u) (hb : b < w.heap.size) : Rd w (.sl ([W, V].map Wy.cd)) (.slice (some ⟨b, 0, none⟩) 2 2) (b :: (f ++ g)) := by
 simp only [Rd]
 refine ⟨_, _, rfl, Nat.le_refl _, by decide, .inr ⟨by simp, b, 0, f ++ g, rfl, hb, rfl, ?_⟩⟩
 simp only [List.map_cons, List.map_nil, RdRows]
 have hwl : W.cd.length = 5 := by rw [← hr.length, hl]
 refine ⟨vs, f, g, rfl, fun j v hv => ?_, hr, us, g, [], by simp, fun j v hv => ?_, hq, rfl⟩
 ·rw [Nat.zero_add]; exact hc j v (by rw [List.getElem?_append_left (List.getElem?_eq_some_iff.1 hv).1]; exact hv)
 ·rw [Nat.zero_add, hwl]; exact hc (5 + j) v (by rw [List.getElem?_append_right (by omega), hl, Nat.add_sub_cancel_left]; exact hv)
def WhyAll (ps : List Tm) (st : List Stp) (pv sv : Value) (n : Nat) (rec : Nat → Nat → Wy) : Prop := ∀ (a b : Nat) (sf : List Nat) (w : World), a < ps.length → b < ps.length → TmsR w ps pv → Rd w (.sl (st.map Stp.cd)) sv sf →
 Calls Tryz.prog 49 #[pv, sv, .int .i64 n, .int .i64 a, .int .i64 b] w (zdp (rec a b) w)
theorem l5One_of (ps : List Tm) (st : List Stp) (pv sv : Value) (rec : Nat → Nat → Wy) (i : Nat) (hi : i < st.length) (ho : Hid (Tm.Ord ps)) (hfit : Hid (∀ s ∈ st, zax ps s)) (hsl : st.length ≤ 1000000) (hpl : ps.length ≤ 1000000) (hkl : Hid (∀ t ∈ ps, t.kids.length ≤ 1048576)) (hrec : WhyAll ps st pv sv i rec)
  (sf : List Nat) (w : World) (hv : TmsR w ps pv) (hs : Rd w (.sl (st.map Stp.cd)) sv sf) :
  Calls Tryz.prog 78 #[pv, sv, .int .i64 i] w (zdp (oneW ps st rec i) w) := by
 have HO := ho
 obtain ⟨pa, pc, rfl, hpc1, hpc2⟩ := hv.form
 obtain ⟨sa, sc, rfl, hsc1, hsc2⟩ := zd hs
 obtain ⟨sb, so_, rfl, hsb, _⟩ := zm hs (by omega)
 obtain ⟨d0, d1, d2, ia, ib, ig, _⟩ := Stp.at hs hi
 obtain ⟨p, q, hpa, hqb, hp, hq, hg, hlk⟩ := hfit.out _ (zes hi)
 rw [hpa] at d0
 rw [hqb] at d1
 by_cases hg0 : 0 ≤ st[i].given
 ·have h1 : decide ((0 : Int) ≤ st[i].given) = true := by simpa using hg0
  have HW := Lib.hid (zd8 (ps := ps) (rec := rec) hi hg0)
  clear hg0 hg hlk hpa hqb
  have hb0 := zb w (.cells #[.int .i64 0, .int .i64 0, .string ⟨#[]⟩, .slice none 0 0, .slice none 0 0] 32)
  have hR := Box.new w [.int .i64 0, .int .i64 0, .string ⟨#[]⟩, .slice none 0 0, .slice none 0 0] 32
  go_enter Tryz.func78, Tryz.ntmps78
  go_wp2_with fail
  have r0 := zg w [.int .i64 2, .int .i64 st[i].given, .string ⟨#[]⟩, .slice none 0 0, .slice none 0 0] 32 0 _ rfl; have r1 := zg w [.int .i64 2, .int .i64 st[i].given, .string ⟨#[]⟩, .slice none 0 0, .slice none 0 0] 32 1 _ rfl; have r2 := zg w [.int .i64 2, .int .i64 st[i].given, .string ⟨#[]⟩, .slice none 0 0, .slice none 0 0] 32 2 _ rfl; have r3 := zg w [.int .i64 2, .int .i64 st[i].given, .string ⟨#[]⟩, .slice none 0 0, .slice none 0 0] 32 3 _ rfl; have r4 := zg w [.int .i64 2, .int .i64 st[i].given, .string ⟨#[]⟩, .slice none 0 0, .slice none 0 0] 32 4 _ rfl
  refine bodyPost_ret (v := .agg #[.int .i64 2, .int .i64 st[i].given, .string ⟨#[]⟩, .slice none 0 0, .slice none 0 0]) (by simp [results, Tryz.results78, go_sem, r0, r1, r2, r3, r4]) rfl ?_
  exact ⟨none, 0, none, 0, [], by rw [HW.out]; rfl, by rw [HW.out]; exact zbG ⟨by decide, by decide⟩ ig (Nat.zero_le _), by simp, zb _ _, by rw [HW.out]; exact KidsOwn.nil rfl⟩
 ·have h1 : decide ((0 : Int) ≤ st[i].given) = false := by simpa using hg0
  have HW := Lib.hid (oneW_cong (rec := rec) hi hg0 hpa hqb hp hq)
  have hlen := hlk (by omega)
  have HKL := Lib.hid (ksW_len (ps := ps) (rec := rec) hlen)
  have hlen1 : ps[p].kids.length ≤ ps[q].kids.length := Nat.le_of_eq hlen
  have hlen2 : ps[q].kids.length ≤ ps[p].kids.length := Nat.le_of_eq hlen.symm
  clear hlen
  clear hg0 hg hlk hpa hqb
  obtain ⟨pb, po, rfl, hpb⟩ := hv.addr (by omega)
  obtain ⟨xa, xc, x0, x1, hxn, hxk0⟩ := hv.at hp
  obtain ⟨ya, yc, y0, y1, hyn, hyk0⟩ := hv.at hq
  obtain ⟨xf, hxk⟩ := hxk0
  obtain ⟨yf, hyk⟩ := hyk0
  have hkx := hkl.out _ (zes hp)
  go_enter Tryz.func78, Tryz.ntmps78
  go_wp2_with fail
  go_loopw [10] (fun kv wr => ∃ (k : Nat) (ls : List Wy) (lv : Value) (fp : List Nat), k ≤ ps[p].kids.length ∧ kv = .int .i64 k ∧ Hid (ls = (ksW ps rec ps[p] ps[q]).take k) ∧ Own wr (w.heap.size + 1 + 1 + 1 + 1) 32 5 lv (ls.map Wy.cd) fp ∧ (∀ b ∈ fp, w.heap.size + 1 + 1 + 1 < b) ∧ Box [.int .i64 0, .int .i64 0, .string ⟨#[]⟩, .slice none 0 0, .slice none 0 0] w.heap.size wr ∧ Box [.string ps[p].name, .slice xa ps[p].kids.length xc] (w.heap.size + 1) wr ∧ Box [.string ps[q].name, .slice ya ps[q].kids.length yc] (w.heap.size + 1 + 1) wr ∧ Box [.int .i64 5, .int .i64 0, .string ps[p].name, .slice none 0 0, lv] (w.heap.size + 1 + 1 + 1) wr ∧ Below w.heap.size w wr) (fun kv _ => ps[p].kids.length - (intOf kv).toNat)
  case atStart =>
   have r1 := ((Box.new w [.int .i64 0, .int .i64 0, .string ⟨#[]⟩, .slice none 0 0, .slice none 0 0] 32).alloc (.cells #[.string ps[p].name, .slice xa ps[p].kids.length xc] 29)).alloc (.cells #[.string ps[q].name, .slice ya ps[q].kids.length yc] 29) |>.alloc (.cells #[.int .i64 5, .int .i64 0, .string ps[p].name, .slice none 0 0, .slice none 0 0] 32)
   have r2 := ((Box.new (w.alloc (.cells #[.int .i64 0, .int .i64 0, .string ⟨#[]⟩, .slice none 0 0, .slice none 0 0] 32)) [.string ps[p].name, .slice xa ps[p].kids.length xc] 29).alloc (.cells #[.string ps[q].name, .slice ya ps[q].kids.length yc] 29)).alloc (.cells #[.int .i64 5, .int .i64 0, .string ps[p].name, .slice none 0 0, .slice none 0 0] 32)
   have r3 := (Box.new ((w.alloc (.cells #[.int .i64 0, .int .i64 0, .string ⟨#[]⟩, .slice none 0 0, .slice none 0 0] 32)).alloc (.cells #[.string ps[p].name, .slice xa ps[p].kids.length xc] 29)) [.string ps[q].name, .slice ya ps[q].kids.length yc] 29).alloc (.cells #[.int .i64 5, .int .i64 0, .string ps[p].name, .slice none 0 0, .slice none 0 0] 32)
   have r4 := Box.new (((w.alloc (.cells #[.int .i64 0, .int .i64 0, .string ⟨#[]⟩, .slice none 0 0, .slice none 0 0] 32)).alloc (.cells #[.string ps[p].name, .slice xa ps[p].kids.length xc] 29)).alloc (.cells #[.string ps[q].name, .slice ya ps[q].kids.length yc] 29)) [.int .i64 5, .int .i64 0, .string ps[p].name, .slice none 0 0, .slice none 0 0] 32
   simp only [World.size_alloc] at r2 r3 r4
   exact ⟨0, [], .slice none 0 0, [], Nat.zero_le _, rfl, Lib.hid (by simp), Own.nil _ _ _ _, by simp, r1, r2, r3, r4, (((zb _ _).alloc (by simp) _).alloc (by simp; omega) _).alloc (by simp; omega) _⟩
  case round =>
   clear d0 d1 d2 x0 x1 y0 y1
   obtain ⟨k, ls, lv, fp, hk, rfl, HLS, hown, hfp, hR, hX, hY, hO, hbw⟩ := hrel
   by_cases hlt : k < ps[p].kids.length
   ·have hky : k < ps[q].kids.length := by omega
    obtain ⟨bx, ox, rfl, hbx, _⟩ := zm hxk (by omega)
    obtain ⟨bY, oy, rfl, hbY, _⟩ := zm hyk (by omega)
    obtain ⟨ka, kc, kf, d0, d1, kn, hkr, _⟩ := Tm.at (hxk.below hbw) hlt
    obtain ⟨ja, jc, jf, e0, e1, jn, hjr, _⟩ := Tm.at (hyk.below hbw) hky
    have hkm : ps[p].kids[k] ∈ ps := Tm.Ord.kid HO.out hp (zes hlt)
    have hjm : ps[q].kids[k] ∈ ps := Tm.Ord.kid HO.out hq (zes hky)
    have hkp := (Tm.pos_yes hkm).1
    have hjp := (Tm.pos_yes hjm).1
    have HKA := Lib.hid (ksW_at (ps := ps) (rec := rec) (x := ps[p]) (y := ps[q]) (k := k) (by rw [HKL.out]; exact hlt) hlt hky)
    have hpw := hv.below hbw
    have hsw := hs.below hbw
    obtain ⟨la, ln, lc, rfl⟩ := hown.form'
    have hnl := hown.len
    rw [zew] at hnl
    have hlk : (ls.length : Nat) ≤ k := by rw [HLS.out, List.length_take]; exact Nat.min_le_left _ _
    have o4 := hO.2.1 4 _ rfl; have x1 := hX.2.1 1 _ rfl; have y1 := hY.2.1 1 _ rfl
    have hkm1 : k < ps[p].kids.length := hlt
    go_upto_region 9 with fail
    refine Till.start (F := (fun U : World => U.cell? ⟨w.heap.size + 1 + 1 + 1, 4, none⟩ = some (.slice la ln lc) ∧ U.cell? ⟨w.heap.size + 1, 1, none⟩ = some (.slice (some ⟨bx, ox, none⟩) ps[p].kids.length xc) ∧ U.cell? ⟨w.heap.size + 1 + 1, 1, none⟩ = some (.slice (some ⟨bY, oy, none⟩) ps[q].kids.length yc) ∧ U.cell? ⟨bx, ox + k * 2, none⟩ = some (.string ps[p].kids[k].name) ∧ U.cell? ⟨bx, ox + k * 2 + 1, none⟩ = some (.slice ka ps[p].kids[k].kids.length kc) ∧ U.cell? ⟨bY, oy + k * 2, none⟩ = some (.string (ps[q].kids[k]'hky).name) ∧ U.cell? ⟨bY, oy + k * 2 + 1, none⟩ = some (.slice ja (ps[q].kids[k]'hky).kids.length jc))) (s0 := 22) (by kernel_rfl) ?_
    have hbd := zi wr
    have hF9 : (fun U : World => U.cell? ⟨w.heap.size + 1 + 1 + 1, 4, none⟩ = some (.slice la ln lc) ∧ U.cell? ⟨w.heap.size + 1, 1, none⟩ = some (.slice (some ⟨bx, ox, none⟩) ps[p].kids.length xc) ∧ U.cell? ⟨w.heap.size + 1 + 1, 1, none⟩ = some (.slice (some ⟨bY, oy, none⟩) ps[q].kids.length yc) ∧ U.cell? ⟨bx, ox + k * 2, none⟩ = some (.string ps[p].kids[k].name) ∧ U.cell? ⟨bx, ox + k * 2 + 1, none⟩ = some (.slice ka ps[p].kids[k].kids.length kc) ∧ U.cell? ⟨bY, oy + k * 2, none⟩ = some (.string (ps[q].kids[k]'hky).name) ∧ U.cell? ⟨bY, oy + k * 2 + 1, none⟩ = some (.slice ja (ps[q].kids[k]'hky).kids.length jc)) wr.drew := ⟨o4, x1, y1, d0, d1, e0, e1⟩
    replace hO := hO.below hbd
    replace hX := hX.below hbd
    replace hY := hY.below hbd
    replace hR := hR.below hbd
    replace hown := hown.below hbd
    replace hpw := hpw.below hbd
    replace hsw := hsw.below hbd
    replace hbw := hbw.trans (hbd.mono hbw.size)
    replace hkr := hkr.below hbd
    replace hjr := hjr.below hbd
    clear hbd d0 d1 e0 e1 o4 x1 y1
    generalize wr.drew = v0 at *
    refine Till.take (i := 0) (v := (.pointer (some ⟨w.heap.size + 1 + 1 + 1, 4, none⟩))) rfl (by kernel_rfl) (by kernel_rfl) (by kernel_rfl) (fun _ _ _ h => h) (by kernel_rfl) (Or.inl ⟨by rfl, fun U hU => ?_⟩) hF9 ?_
    ·obtain ⟨u0F, u1F, u2F, u3F, u4F, u5F, u6F⟩ := hU
     go_simp
    try simp only [Act.put, zej, zek, zel]
    refine Till.take (i := 1) (v := (.slice la ln lc)) rfl (by kernel_rfl) (by kernel_rfl) (by kernel_rfl) (fun _ _ _ h => h) (by kernel_rfl) (Or.inl ⟨by rfl, fun U hU => ?_⟩) hF9 ?_
    ·obtain ⟨u0F, u1F, u2F, u3F, u4F, u5F, u6F⟩ := hU
     go_simp
    try simp only [Act.put, zej, zek, zel]
    refine Till.take (i := 2) (v := (.slice (some ⟨pb, po, none⟩) ps.length pc)) rfl (by kernel_rfl) (by kernel_rfl) (by kernel_rfl) (fun _ _ _ h => h) (by kernel_rfl) (Or.inl ⟨by rfl, fun U hU => ?_⟩) hF9 ?_
    ·obtain ⟨u0F, u1F, u2F, u3F, u4F, u5F, u6F⟩ := hU
     go_simp
    try simp only [Act.put, zej, zek, zel]
    refine Till.take (i := 3) (v := (.slice (some ⟨sb, so_, none⟩) st.length sc)) rfl (by kernel_rfl) (by kernel_rfl) (by kernel_rfl) (fun _ _ _ h => h) (by kernel_rfl) (Or.inl ⟨by rfl, fun U hU => ?_⟩) hF9 ?_
    ·obtain ⟨u0F, u1F, u2F, u3F, u4F, u5F, u6F⟩ := hU
     go_simp
    try simp only [Act.put, zej, zek, zel]
    refine Till.take (i := 4) (v := (.int .i64 i)) rfl (by kernel_rfl) (by kernel_rfl) (by kernel_rfl) (fun _ _ _ h => h) (by kernel_rfl) (Or.inl ⟨by rfl, fun U hU => ?_⟩) hF9 ?_
    ·obtain ⟨u0F, u1F, u2F, u3F, u4F, u5F, u6F⟩ := hU
     go_simp
    try simp only [Act.put, zej, zek, zel]
    refine Till.take (i := 5) (v := (.slice (some ⟨pb, po, none⟩) ps.length pc)) rfl (by kernel_rfl) (by kernel_rfl) (by kernel_rfl) (fun _ _ _ h => h) (by kernel_rfl) (Or.inl ⟨by rfl, fun U hU => ?_⟩) hF9 ?_
    ·obtain ⟨u0F, u1F, u2F, u3F, u4F, u5F, u6F⟩ := hU
     go_simp
    try simp only [Act.put, zej, zek, zel]
    refine Till.take (i := 6) (v := (.pointer (some ⟨w.heap.size + 1, 1, none⟩))) rfl (by kernel_rfl) (by kernel_rfl) (by kernel_rfl) (fun _ _ _ h => h) (by kernel_rfl) (Or.inl ⟨by rfl, fun U hU => ?_⟩) hF9 ?_
    ·obtain ⟨u0F, u1F, u2F, u3F, u4F, u5F, u6F⟩ := hU
     go_simp
    try simp only [Act.put, zej, zek, zel]
    refine Till.take (i := 7) (v := (.slice (some ⟨bx, ox, none⟩) ps[p].kids.length xc)) rfl (by kernel_rfl) (by kernel_rfl) (by kernel_rfl) (fun _ _ _ h => h) (by kernel_rfl) (Or.inl ⟨by rfl, fun U hU => ?_⟩) hF9 ?_
    ·obtain ⟨u0F, u1F, u2F, u3F, u4F, u5F, u6F⟩ := hU
     go_simp
    try simp only [Act.put, zej, zek, zel]
    refine Till.take (i := 8) (v := (.int .i64 k)) rfl (by kernel_rfl) (by kernel_rfl) (by kernel_rfl) (fun _ _ _ h => h) (by kernel_rfl) (Or.inl ⟨by rfl, fun U hU => ?_⟩) hF9 ?_
    ·obtain ⟨u0F, u1F, u2F, u3F, u4F, u5F, u6F⟩ := hU
     go_simp
    try simp only [Act.put, zej, zek, zel]
    refine Till.take (i := 9) (v := (.pointer (some ⟨bx, ox + k * 2, none⟩))) rfl (by kernel_rfl) (by kernel_rfl) (by kernel_rfl) (fun _ _ _ h => h) (by kernel_rfl) (Or.inl ⟨by rfl, fun U hU => ?_⟩) hF9 ?_
    ·obtain ⟨u0F, u1F, u2F, u3F, u4F, u5F, u6F⟩ := hU
     go_simp
    try simp only [Act.put, zej, zek, zel]
    refine Till.take (i := 10) (v := (.agg #[.string ps[p].kids[k].name, .slice ka ps[p].kids[k].kids.length kc])) rfl (by kernel_rfl) (by kernel_rfl) (by kernel_rfl) (fun _ _ _ h => h) (by kernel_rfl) (Or.inl ⟨by rfl, fun U hU => ?_⟩) hF9 ?_
    ·obtain ⟨u0F, u1F, u2F, u3F, u4F, u5F, u6F⟩ := hU
     go_simp
    try simp only [Act.put, zej, zek, zel]
    refine Till.take (i := 12) (v := (.slice (some ⟨pb, po, none⟩) ps.length pc)) rfl (by kernel_rfl) (by kernel_rfl) (by kernel_rfl) (fun _ _ _ h => h) (by kernel_rfl) (Or.inl ⟨by rfl, fun U hU => ?_⟩) hF9 ?_
    ·obtain ⟨u0F, u1F, u2F, u3F, u4F, u5F, u6F⟩ := hU
     go_simp
    try simp only [Act.put, zej, zek, zel]
    refine Till.take (i := 13) (v := (.pointer (some ⟨w.heap.size + 1 + 1, 1, none⟩))) rfl (by kernel_rfl) (by kernel_rfl) (by kernel_rfl) (fun _ _ _ h => h) (by kernel_rfl) (Or.inl ⟨by rfl, fun U hU => ?_⟩) hF9 ?_
    ·obtain ⟨u0F, u1F, u2F, u3F, u4F, u5F, u6F⟩ := hU
     go_simp
    try simp only [Act.put, zej, zek, zel]
    refine Till.take (i := 14) (v := (.slice (some ⟨bY, oy, none⟩) ps[q].kids.length yc)) rfl (by kernel_rfl) (by kernel_rfl) (by kernel_rfl) (fun _ _ _ h => h) (by kernel_rfl) (Or.inl ⟨by rfl, fun U hU => ?_⟩) hF9 ?_
    ·obtain ⟨u0F, u1F, u2F, u3F, u4F, u5F, u6F⟩ := hU
     go_simp
    try simp only [Act.put, zej, zek, zel]
    refine Till.take (i := 15) (v := (.int .i64 k)) rfl (by kernel_rfl) (by kernel_rfl) (by kernel_rfl) (fun _ _ _ h => h) (by kernel_rfl) (Or.inl ⟨by rfl, fun U hU => ?_⟩) hF9 ?_
    ·obtain ⟨u0F, u1F, u2F, u3F, u4F, u5F, u6F⟩ := hU
     go_simp
    try simp only [Act.put, zej, zek, zel]
    refine Till.take (i := 16) (v := (.pointer (some ⟨bY, oy + k * 2, none⟩))) rfl (by kernel_rfl) (by kernel_rfl) (by kernel_rfl) (fun _ _ _ h => h) (by kernel_rfl) (Or.inl ⟨by rfl, fun U hU => ?_⟩) hF9 ?_
    ·obtain ⟨u0F, u1F, u2F, u3F, u4F, u5F, u6F⟩ := hU
     go_simp
    try simp only [Act.put, zej, zek, zel]
    refine Till.take (i := 17) (v := (.agg #[.string (ps[q].kids[k]'hky).name, .slice ja (ps[q].kids[k]'hky).kids.length jc])) rfl (by kernel_rfl) (by kernel_rfl) (by kernel_rfl) (fun _ _ _ h => h) (by kernel_rfl) (Or.inl ⟨by rfl, fun U hU => ?_⟩) hF9 ?_
    ·obtain ⟨u0F, u1F, u2F, u3F, u4F, u5F, u6F⟩ := hU
     go_simp
    try simp only [Act.put, zej, zek, zel]
    refine Till.one (i := 11) (by kernel_rfl) rfl (fun J9 hK => ?_)
    go_simp
    go_wp2_with (go_at_call 50; refine (zC ps ps[p].kids[k] _ _ _ HO.out hkm hpw (TmR.mk kn ⟨_, hkr⟩)).mono ?_; rintro e v1 ⟨rfl, hb⟩)
    replace hF9 : (fun U : World => U.cell? ⟨w.heap.size + 1 + 1 + 1, 4, none⟩ = some (.slice la ln lc) ∧ U.cell? ⟨w.heap.size + 1, 1, none⟩ = some (.slice (some ⟨bx, ox, none⟩) ps[p].kids.length xc) ∧ U.cell? ⟨w.heap.size + 1 + 1, 1, none⟩ = some (.slice (some ⟨bY, oy, none⟩) ps[q].kids.length yc) ∧ U.cell? ⟨bx, ox + k * 2, none⟩ = some (.string ps[p].kids[k].name) ∧ U.cell? ⟨bx, ox + k * 2 + 1, none⟩ = some (.slice ka ps[p].kids[k].kids.length kc) ∧ U.cell? ⟨bY, oy + k * 2, none⟩ = some (.string (ps[q].kids[k]'hky).name) ∧ U.cell? ⟨bY, oy + k * 2 + 1, none⟩ = some (.slice ja (ps[q].kids[k]'hky).kids.length jc)) _ := ⟨za hF9.1 hb, za hF9.2.1 hb, za hF9.2.2.1 hb, za hF9.2.2.2.1 hb, za hF9.2.2.2.2.1 hb, za hF9.2.2.2.2.2.1 hb, za hF9.2.2.2.2.2.2 hb⟩
    replace hO := hO.below hb
    replace hX := hX.below hb
    replace hY := hY.below hb
    replace hR := hR.below hb
    replace hown := hown.below hb
    replace hpw := hpw.below hb
    replace hsw := hsw.below hb
    replace hbw := hbw.trans (hb.mono hbw.size)
    replace hjr := hjr.below hb
    clear hb hkr
    refine hK.out _ _ (fun _ => hF9) ?_
    clear hK
    try simp only [Act.put, zej, zek, zel]
    refine Till.one (i := 18) (by kernel_rfl) rfl (fun J9 hK => ?_)
    go_simp
    go_wp2_with (go_at_call 50; refine (zC ps (ps[q].kids[k]'hky) _ _ _ HO.out hjm hpw (TmR.mk jn ⟨_, hjr⟩)).mono ?_; rintro e v2 ⟨rfl, hb⟩)
    replace hF9 : (fun U : World => U.cell? ⟨w.heap.size + 1 + 1 + 1, 4, none⟩ = some (.slice la ln lc) ∧ U.cell? ⟨w.heap.size + 1, 1, none⟩ = some (.slice (some ⟨bx, ox, none⟩) ps[p].kids.length xc) ∧ U.cell? ⟨w.heap.size + 1 + 1, 1, none⟩ = some (.slice (some ⟨bY, oy, none⟩) ps[q].kids.length yc) ∧ U.cell? ⟨bx, ox + k * 2, none⟩ = some (.string ps[p].kids[k].name) ∧ U.cell? ⟨bx, ox + k * 2 + 1, none⟩ = some (.slice ka ps[p].kids[k].kids.length kc) ∧ U.cell? ⟨bY, oy + k * 2, none⟩ = some (.string (ps[q].kids[k]'hky).name) ∧ U.cell? ⟨bY, oy + k * 2 + 1, none⟩ = some (.slice ja (ps[q].kids[k]'hky).kids.length jc)) _ := ⟨za hF9.1 hb, za hF9.2.1 hb, za hF9.2.2.1 hb, za hF9.2.2.2.1 hb, za hF9.2.2.2.2.1 hb, za hF9.2.2.2.2.2.1 hb, za hF9.2.2.2.2.2.2 hb⟩
    replace hO := hO.below hb
    replace hX := hX.below hb
    replace hY := hY.below hb
    replace hR := hR.below hb
    replace hown := hown.below hb
    replace hpw := hpw.below hb
    replace hsw := hsw.below hb
    replace hbw := hbw.trans (hb.mono hbw.size)
    clear hb hjr
    refine hK.out _ _ (fun _ => hF9) ?_
    clear hK
    try simp only [Act.put, zej, zek, zel]
    refine Till.one (i := 19) (by kernel_rfl) rfl (fun J9 hK => ?_)
    go_simp
    go_wp2_with (go_at_call 49; refine (hrec _ _ _ _ hkp hjp hpw hsw).mono ?_; rintro e v3 ⟨a3, c3, a4, c4, wf, rfl, hrw, hwf, hb, -⟩)
    have hwf2 : ∀ b ∈ wf, w.heap.size + 1 + 1 + 1 < b := fun b hb' => by have := hwf b hb'; have := hO.1; omega
    have hwno : ∀ b ∈ wf, (Value.slice la ln lc).ownBlock ≠ some b := fun b hb' e => by have := (hown.block e).2; have := hwf b hb'; omega
    replace hF9 : (fun U : World => U.cell? ⟨w.heap.size + 1 + 1 + 1, 4, none⟩ = some (.slice la ln lc) ∧ U.cell? ⟨w.heap.size + 1, 1, none⟩ = some (.slice (some ⟨bx, ox, none⟩) ps[p].kids.length xc) ∧ U.cell? ⟨w.heap.size + 1 + 1, 1, none⟩ = some (.slice (some ⟨bY, oy, none⟩) ps[q].kids.length yc) ∧ U.cell? ⟨bx, ox + k * 2, none⟩ = some (.string ps[p].kids[k].name) ∧ U.cell? ⟨bx, ox + k * 2 + 1, none⟩ = some (.slice ka ps[p].kids[k].kids.length kc) ∧ U.cell? ⟨bY, oy + k * 2, none⟩ = some (.string (ps[q].kids[k]'hky).name) ∧ U.cell? ⟨bY, oy + k * 2 + 1, none⟩ = some (.slice ja (ps[q].kids[k]'hky).kids.length jc)) _ := ⟨za hF9.1 hb, za hF9.2.1 hb, za hF9.2.2.1 hb, za hF9.2.2.2.1 hb, za hF9.2.2.2.2.1 hb, za hF9.2.2.2.2.2.1 hb, za hF9.2.2.2.2.2.2 hb⟩
    replace hO := hO.below hb
    replace hX := hX.below hb
    replace hY := hY.below hb
    replace hR := hR.below hb
    replace hown := hown.below hb
    replace hpw := hpw.below hb
    replace hsw := hsw.below hb
    replace hbw := hbw.trans (hb.mono hbw.size)
    clear hb hwf
    rw [← HKA.out] at hrw ⊢
    obtain ⟨KW, hKW⟩ : ∃ z, z = (ksW ps rec ps[p] (ps[q]'hq))[k]'(by rw [HKL.out]; exact hlt) := ⟨_, rfl⟩
    rw [← hKW] at hrw ⊢
    have HLS2 : Hid (ls ++ [KW] = (ksW ps rec ps[p] ps[q]).take (k + 1)) := Lib.hid (by rw [hKW, HLS.out, zeq (by rw [HKL.out]; exact hlt)])
    clear hKW HKA
    refine hK.out _ _ (fun _ => hF9) ?_
    clear hK
    try simp only [Act.put, zej, zek, zel]
    refine Till.one (i := 20) (by kernel_rfl) rfl (fun J9 hK => ?_)
    go_simp
    have hba := zb v3 (.cells #[.int .i64 KW.rule, .int .i64 KW.n, .string KW.t.name, .slice a3 KW.t.kids.length c3, .slice a4 KW.kids.length c4] 32)
    have hcn := zn v3 [.int .i64 KW.rule, .int .i64 KW.n, .string KW.t.name, .slice a3 KW.t.kids.length c3, .slice a4 KW.kids.length c4] 32
    have hvl : v3.heap.size < (v3.alloc (.cells #[.int .i64 KW.rule, .int .i64 KW.n, .string KW.t.name, .slice a3 KW.t.kids.length c3, .slice a4 KW.kids.length c4] 32)).heap.size := by simp
    obtain ⟨nb, hnb⟩ : ∃ z, z = v3.heap.size := ⟨_, rfl⟩
    rw [← hnb] at hcn hvl ⊢
    replace hF9 : (fun U : World => U.cell? ⟨w.heap.size + 1 + 1 + 1, 4, none⟩ = some (.slice la ln lc) ∧ U.cell? ⟨w.heap.size + 1, 1, none⟩ = some (.slice (some ⟨bx, ox, none⟩) ps[p].kids.length xc) ∧ U.cell? ⟨w.heap.size + 1 + 1, 1, none⟩ = some (.slice (some ⟨bY, oy, none⟩) ps[q].kids.length yc) ∧ U.cell? ⟨bx, ox + k * 2, none⟩ = some (.string ps[p].kids[k].name) ∧ U.cell? ⟨bx, ox + k * 2 + 1, none⟩ = some (.slice ka ps[p].kids[k].kids.length kc) ∧ U.cell? ⟨bY, oy + k * 2, none⟩ = some (.string (ps[q].kids[k]'hky).name) ∧ U.cell? ⟨bY, oy + k * 2 + 1, none⟩ = some (.slice ja (ps[q].kids[k]'hky).kids.length jc)) _ := ⟨za hF9.1 hba, za hF9.2.1 hba, za hF9.2.2.1 hba, za hF9.2.2.2.1 hba, za hF9.2.2.2.2.1 hba, za hF9.2.2.2.2.2.1 hba, za hF9.2.2.2.2.2.2 hba⟩
    replace hO := hO.below hba
    replace hX := hX.below hba
    replace hY := hY.below hba
    replace hR := hR.below hba
    replace hown := hown.below hba
    replace hpw := hpw.below hba
    replace hsw := hsw.below hba
    replace hbw := hbw.trans (hba.mono hbw.size)
    replace hrw := hrw.below hba
    clear hba hnb
    generalize v3.alloc (.cells #[.int .i64 KW.rule, .int .i64 KW.n, .string KW.t.name, .slice a3 KW.t.kids.length c3, .slice a4 KW.kids.length c4] 32) = v4 at *
    refine hK.out _ _ (fun _ => hF9) ?_
    clear hK
    try simp only [Act.put, zej, zek, zel]
    refine Till.one (i := 21) (by kernel_rfl) rfl (fun J9 hK => ?_)
    refine zN zbm rfl _ _ rfl (w.heap.size + 1 + 1 + 1 + 1) (.slice la ln lc) _ _ (by first | rfl | go_simp) hown ⟨nb, 0, none⟩ 1 1 [KW.cd] [.int .i64 KW.rule, .int .i64 KW.n, .string KW.t.name, .slice a3 KW.t.kids.length c3, .slice a4 KW.kids.length c4] wf rfl rfl (by simpa using hrw) (by simp [Wy.cd_len]) (by exact fun j u hj => by simpa using hcn j u hj) hwno (by rw [zew]; omega) (by rw [zew]; omega) (by have := hO.1; omega) ?_
    intro vC wC hownC hgC hvC hsC
    obtain ⟨aC, nC, cC, rfl⟩ := hownC.form'
    have hrow : ∀ z, (Value.slice la ln lc).ownBlock = some z → w.heap.size + 1 + 1 + 1 + 1 ≤ z := fun z hz => (hown.block hz).1
    have hbwC := zf hbw hgC (by have := hO.1; omega) (fun z hz => by have := hrow z hz; omega)
    replace hO := hO.grown9 hgC (fun z hz e => by have := hrow z hz; omega)
    replace hX := hX.grown9 hgC (fun z hz e => by have := hrow z hz; omega)
    replace hY := hY.grown9 hgC (fun z hz e => by have := hrow z hz; omega)
    replace hR := hR.grown9 hgC (fun z hz e => by have := hrow z hz; omega)
    have hfC : ∀ b ∈ fp ++ wf, w.heap.size + 1 + 1 + 1 < b := fun b hb => (zer.1 hb).elim (hfp b) (hwf2 b)
    rw [show ls.map Wy.cd ++ [KW.cd] = (ls ++ [KW]).map Wy.cd from by simp] at hownC
    have hgx : ∀ z, z < w.heap.size → (Value.slice la ln lc).ownBlock ≠ some z := fun z hz e => by have := hrow z e; omega
    have hgK := hgC
    clear hbw hown hpw hsw hgC hvC hsC hcn hvl hrw hwno hrow
    have hbw := hbwC
    clear hbwC
    replace hF9 : (fun U : World => U.cell? ⟨w.heap.size + 1 + 1 + 1, 4, none⟩ = some (.slice la ln lc) ∧ U.cell? ⟨w.heap.size + 1, 1, none⟩ = some (.slice (some ⟨bx, ox, none⟩) ps[p].kids.length xc) ∧ U.cell? ⟨w.heap.size + 1 + 1, 1, none⟩ = some (.slice (some ⟨bY, oy, none⟩) ps[q].kids.length yc) ∧ U.cell? ⟨bx, ox + k * 2, none⟩ = some (.string ps[p].kids[k].name) ∧ U.cell? ⟨bx, ox + k * 2 + 1, none⟩ = some (.slice ka ps[p].kids[k].kids.length kc) ∧ U.cell? ⟨bY, oy + k * 2, none⟩ = some (.string (ps[q].kids[k]'hky).name) ∧ U.cell? ⟨bY, oy + k * 2 + 1, none⟩ = some (.slice ja (ps[q].kids[k]'hky).kids.length jc)) _ := ⟨hO.2.1 4 _ rfl, hX.2.1 1 _ rfl, hY.2.1 1 _ rfl, zo hgK hF9.2.2.2.1 (hgx _ hbx), zo hgK hF9.2.2.2.2.1 (hgx _ hbx), zo hgK hF9.2.2.2.2.2.1 (hgx _ hbY), zo hgK hF9.2.2.2.2.2.2 (hgx _ hbY)⟩
    clear hgK hgx
    refine hK.out _ _ (fun _ => hF9) ?_
    clear hK
    try simp only [Act.put, zej, zek, zel]
    refine Till.one (i := 22) (by kernel_rfl) rfl (fun J9 hK => ?_)
    go_simp
    refine hK.out _ _ (fun h => absurd h (by decide)) ?_
    clear hK hF9
    try simp only [Act.put, zej, zek, zel]
    refine Till.one (i := 23) (by kernel_rfl) rfl (fun J9 hK => ?_)
    have o4 := hO.2.1 4 _ rfl; have z4 := hO.2.2 4
    go_simp
    have hO9 := hO.put (k := 4) (by simp) (.slice aC nC cC)
    have hX9 := hX.sets_other (b := w.heap.size + 1 + 1 + 1) (.inl (by omega)) [(4, .slice aC nC cC)]
    have hY9 := hY.sets_other (b := w.heap.size + 1 + 1 + 1) (.inl (by omega)) [(4, .slice aC nC cC)]
    have hR9 := hR.sets_other (b := w.heap.size + 1 + 1 + 1) (.inl (by omega)) [(4, .slice aC nC cC)]
    simp only [zek, zel, zA] at hO9 hX9 hY9 hR9
    have hown9 := hownC.same (w' := wC.setCell ⟨w.heap.size + 1 + 1 + 1, 4, none⟩ (.slice aC nC cC)) (zw (fun b hb => Nat.ne_of_gt (hfC b hb))) (fun b hb => Below.heap_setCell _ _ _ _ (Nat.ne_of_gt (by have := (hownC.block hb).1; exact this)))
    have hb9 := hbw.setCell (p := ⟨w.heap.size + 1 + 1 + 1, 4, none⟩) (by simp only; omega) (.slice aC nC cC)
    clear hO hX hY hR hownC hbw
    refine hK.out _ _ (fun h => absurd h (by decide)) ?_
    clear hK o4 z4
    try simp only [Act.put, zej, zek, zel]
    refine Till.done (by kernel_rfl) ?_ _
    go_wp2_with fail
    go_roundw
    case rel => exact ⟨k + 1, ls ++ [KW], _, _, by omega, by go_num, HLS2, hown9, hfC, hR9, hX9, hY9, hO9, hb9⟩
    case measure => simp [intOf]; omega
   ·have ek : k = ps[p].kids.length := by omega
    have hls : ls = ksW ps rec ps[p] ps[q] := by rw [HLS.out, ek, ← HKL.out, List.take_length]
    have hle : ps[p].kids.length = ps[p].kids.length := rfl
    clear ek
    obtain ⟨g9, hr9, hg9m⟩ := hown.rd
    obtain ⟨la, lc, rfl, _, _⟩ := zd hr9
    have hg9 : ∀ b ∈ g9, w.heap.size < b := fun b hb => by
     rcases hg9m with ⟨_, _, rfl⟩ | ⟨z, c, hz, rfl, _, hz4, _⟩
     ·simp at hb
     ·rcases zev.1 hb with rfl | hb
      ·omega
      ·have := hfp b hb; omega
    have HW2 := HW.out
    rw [← hls] at HW2
    have HW3 := Lib.hid HW2
    clear HW HW2 hls hg9m HLS
    have xk1 := hX.2.1 1 _ rfl
    have o0 := hO.2.1 0 _ rfl; have o1 := hO.2.1 1 _ rfl; have o2 := hO.2.1 2 _ rfl; have o3 := hO.2.1 3 _ rfl; have o4 := hO.2.1 4 _ rfl
    have r0 := hR.2.1 0 _ rfl; have r1 := hR.2.1 1 _ rfl; have r2 := hR.2.1 2 _ rfl; have r3 := hR.2.1 3 _ rfl; have r4 := hR.2.1 4 _ rfl
    have z0 := hR.2.2 0; have z1 := hR.2.2 1; have z2 := hR.2.2 2; have z3 := hR.2.2 3; have z4 := hR.2.2 4
    have gR := hR.puts [.int .i64 5, .int .i64 0, .string ps[p].name, .slice none 0 0, .slice la ls.length lc] rfl
    have hKK := (Same2.refl w.heap.size w.heap.size wr).sets (b := w.heap.size) (.inl rfl) (ze 0 [.int .i64 5, .int .i64 0, .string ps[p].name, .slice none 0 0, .slice la ls.length lc])
    have hBE := zr (b := w.heap.size) (Nat.le_refl _) (ze 0 [.int .i64 5, .int .i64 0, .string ps[p].name, .slice none 0 0, .slice la ls.length lc]) hbw
    simp only [zA, ze] at gR hKK hBE
    go_wp2_with fail
    have e0 := gR.2.1 0 _ rfl; have e1 := gR.2.1 1 _ rfl; have e2 := gR.2.1 2 _ rfl; have e3 := gR.2.1 3 _ rfl; have e4 := gR.2.1 4 _ rfl
    refine bodyPost_ret (v := .agg #[.int .i64 5, .int .i64 0, .string ps[p].name, .slice none 0 0, .slice la ls.length lc]) (by simp [results, Tryz.results78, go_sem, e0, e1, e2, e3, e4]) rfl ?_
    exact ⟨none, 0, la, lc, g9, by rw [HW3.out]; rfl, by rw [HW3.out]; exact zcz ⟨by decide, by decide⟩ ⟨by decide, by decide⟩ hxn rfl (hr9.same2 hKK (fun b hb => by have := hg9 b hb; omega)), fun b hb => Nat.le_of_lt (hg9 b hb), hBE, by rw [HW3.out]; exact ⟨fp, (hown.same2 hKK (fun b hb => by have := hfp b hb; omega) (fun b hb => by have := (hown.block hb).1; omega)).base (fun b hb => by have := (hown.block hb).1; omega), fun x hx => by have := hfp x hx; omega, .inl rfl⟩⟩
end Go.Proofs.YtlefdhhnlbpbkaaGreat
end
