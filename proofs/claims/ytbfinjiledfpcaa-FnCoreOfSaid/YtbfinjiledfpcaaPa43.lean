/- Parts of the proof: RdrP. -/
import Derived.Test.YtbfinjiledfpcaaPa42
import Derived.Test.YtbfinjiledfpcaaPa34
import Derived.Test.YtbfinjiledfpcaaPa38
section
namespace Go.Proofs.Ytbfinjiledfpcaa
open Go Go.RowKit
set_option linter.unusedVariables false
set_option linter.unusedSimpArgs false
set_option maxRecDepth 100000
set_option maxHeartbeats 16000000
theorem zcb {es : List (List CD)} {K : Nat} (h : ∀ x ∈ es, x.length = K) : es.flatten.length = es.length * K := by
 induction es with
 | nil => simp
 | cons e es ih => rw [List.flatten_cons, zdC, ih (fun x hx => h x (List.mem_cons_of_mem _ hx)), h e (by simp), zdQ, Nat.add_mul]; omega
/-- An element of a row of the call's own. -/
theorem Own.elem {w : World} {base e K g n cap : Nat} {es : List (List CD)} {fp : List Nat} (h : Own w base e K (.slice (some ⟨g, 0, none⟩) n cap) es fp) {k : Nat} (hk : k < es.length) :
  ∃ vs f, (∀ j u, vs[j]? = some u → w.cell? ⟨g, k * K + j, none⟩ = some u) ∧ RdVs w es[k] vs f ∧ ∀ b ∈ f, b ∈ fp ∧ b ≠ g := by
 obtain ⟨xs, h1, h2, h3, h4⟩ := h
 have e2 : es.flatten = (es.take k).flatten ++ (es[k] ++ (es.drop (k + 1)).flatten) := by
  rw [← List.flatten_cons, ← List.flatten_append, ← List.drop_eq_getElem_cons hk, List.take_append_drop]
 rw [e2] at h2; obtain ⟨us, us', f, g', rfl, rfl, ha, hb⟩ := h2.split; obtain ⟨vs, vs', f1, g1, rfl, rfl, hc, hd⟩ := hb.split
 have hl : us.length = k * K := by
  rw [ha.length, zcb (fun x hx => h3 x (List.mem_of_mem_take hx)), List.length_take, Nat.min_eq_left (by omega)]
 refine ⟨vs, f1, fun j u hj => ?_, hc, fun b hb => ⟨by simp [hb], fun e => h4 b (by simp [hb]) (by rw [e]; rfl)⟩⟩; have hjl : j < vs.length := (List.getElem?_eq_some_iff.1 hj).1; have := h1.cells (g := g) rfl (k * K + j) u (by rw [List.getElem?_append_right (by omega), hl, Nat.add_sub_cancel_left, List.getElem?_append_left hjl]; exact hj); rw [Addr.add_lit] at this
 simpa using this
def LightK (fs : List Fm) (k : Nat) : Prop := (∀ x ∈ fs, wtV x.cd ≤ 160000 + k) ∧ wtR (fs.map Fm.cd) ≤ 700000 + k * 160002
theorem LightK.last {fs : List Fm} {k : Nat} (h : LightK fs k) (hk : k ≤ 2) : (∀ x ∈ fs, wtV x.cd ≤ 160002) ∧ wtR (fs.map Fm.cd) ≤ 1020004 :=
 ⟨fun x hx => by have := h.1 x hx; omega, by have := h.2; omega⟩
theorem LightK.not {fs : List Fm} {k d : Nat} (h : LightK fs k) (hk : k < 2) (hd : d < fs.length) : LightK (fs ++ [Fm.mk 2 ⟨Atm.zero, false⟩ [fs[d]]]) (k + 1) := by
 have h1 := h.1 fs[d] (zdB hd)
 have h2 : wtV (Fm.mk 2 ⟨Atm.zero, false⟩ [fs[d]]).cd = 1 + wtV fs[d].cd := by rw [zcS]; simp [wtR]
 refine ⟨fun x hx => ?_, ?_⟩
 ·rcases zdA.1 hx with hx | hx
  ·have := h.1 x hx; omega
  ·rw [List.mem_singleton.1 hx, h2]; omega
 ·rw [zdD, zP]
  have := h.2; simp only [List.map_cons, List.map_nil, wtR, h2]; omega
theorem LightK.keep {fs : List Fm} {k : Nat} (h : LightK fs k) : LightK fs (k + 1) := by
 obtain ⟨h1, h2⟩ := h; refine ⟨fun x hx => ?_, ?_⟩
 ·have := h1 x hx; omega
 ·exact zdS h2 (Nat.add_le_add_left (Nat.mul_le_mul_right _ (Nat.le_succ _)) _)
theorem fm_mk8 {w : World} {ks : List Fm} {k : Int} {xa : Option Addr} {xc : Nat} {fk : List Nat} (hk : I64 k) (h : Rd w (.sl (ks.map Fm.cd)) (.slice xa ks.length xc) fk) : RdVs w (Fm.mk k ⟨Atm.zero, false⟩ ks).cd [.int .i64 k, .int .i64 0, .string ⟨#[]⟩, .slice none 0 0, .string ⟨#[]⟩, .slice none 0 0, .slice none 0 0, .slice none 0 0, .int .i64 0, .bool false, .bool false, .slice xa ks.length xc] fk := by
 have h1 := Fm.close (x := Fm.mk k ⟨Atm.zero, false⟩ ks) (f3 := []) (f5 := []) (f6 := []) (f7 := []) hk (by unfold I64; simp [Fm.L, Atm.zero]) (zdR _) (zR (cd := Tm.cd) (w := w) none 0 (by simp)) (zdR _) (zR (cd := Tm.cd) (w := w) none 0 (by simp)) (zR (cd := Tm.cd) (w := w) none 0 (by simp)) (zR (cd := zm) (w := w) none 0 (by simp)) (by unfold I64; simp [Fm.L, Atm.zero]) h; exact h1
theorem kids18 {w : World} {f : Fm} {vs : List Value} {ff : List Nat} (h : RdVs w f.cd vs ff) (T : TypeId) : Rd (w.alloc (.cells vs.toArray T)) (.sl ([f].map Fm.cd)) (.slice (some ⟨w.heap.size, 0, none⟩) 1 1) (w.heap.size :: ff) :=
 zaN (k := 12) (zj w vs T) (by simpa using h.below (za _ _)) (by simp) (by simp) (by simp) (by omega) (by simp)
/-- What l12List draws; only the forms. -/
def DrawnFs (w : World) (e : Ending) (w' : World) : Prop := ∃ (sa : Option Addr) (sn sc : Nat) (fs : List Fm) (v : Value) (fp : List Nat), fs.length ≤ 7 ∧ ((∀ x ∈ fs, wtV x.cd ≤ 160002) ∧ wtR (fs.map Fm.cd) ≤ 1020004) ∧
 e = .returned (.tuple #[.agg #[.slice sa sn sc], v]) ∧ Own w' w.heap.size 37 12 v (fs.map Fm.cd) fp ∧ ∀ b ∈ fp, w.heap.size ≤ b
theorem zcF (rb p : Nat) (w : World) (hp : p + 3100 ≤ 1000000000) (hr : Rdr w rb p) :
  Calls Try.prog 13 #[.pointer (some ⟨rb, 0, none⟩)] w fun e w' => DrawnFs w e w' ∧ Rdr w' rb (p + 3010) ∧ Only [rb] w w' := by
 have hlt := hr.lt; have hA := Box.new w [.slice none 0 0] 41; have hbn := za w (.cells #[.slice none 0 0] 41); obtain ⟨E, hE⟩ : ∃ E, E = w.heap.size + 1 := ⟨_, rfl⟩
 have hE0 : (w.alloc (.cells #[.slice none 0 0] 41)).heap.size = E := by rw [hE]; simp
 have hE1 : w.heap.size + 1 ≤ E := by omega
 have hE2 : E ≤ w.heap.size + 1 := by omega
 clear hE; go_enter Try.func13, Try.ntmps13; go_upto_region 1 with fail; generalize w.alloc (.cells #[.slice none 0 0] 41) = W0 at *; have hN : Only [rb] w W0 := Only.below hbn; have hr0 := hr.below hbn; clear hbn hr; go_wp2_with fail; refine (zcE rb p _ (by omega) hr0).mono ?_; rintro e w1 ⟨⟨s, fs, a0, c0, v, sf, fp, _, hln, hli, rfl, _, hO, _, _, hfp0⟩, hr1, ho1⟩; rw [hE0] at hO; have hE3 := Nat.le_of_eq hE0; have hE4 := Nat.le_of_eq hE0.symm; clear hE0; have hzA := hA.1; have hz1 := ho1.size; replace hA := hA.only ho1 (by omega); replace hN := hN.trans ho1; obtain ⟨S, hS⟩ : ∃ S, S = w1.heap.size := ⟨_, rfl⟩
 have hfp : ∀ b ∈ fp, w.heap.size < b ∧ b ≠ S := fun b hb => by have := hfp0 b hb; have := hO.lt b hb; omega
 have hvS : ∀ b, v.ownBlock = some b → b ≠ S := fun b hb => by have := (hO.block hb).2; omega
 have hSz : w.heap.size < S := by omega
 have hrS : rb < S := by have := hr1.lt; omega
 have hX := Box.new w1 [.slice a0 s.Y.length c0] 41; rw [← hS] at hX; have HW : Hid (LightK fs 0) := zdH ⟨fun x hx => by have := hli.1 x hx; omega, by have := hli.2; omega⟩; clear hr0 ho1 hli hfp0; obtain ⟨oa, on, oc, rfl⟩ := hO.form'; go_upto_region 2 with fail
 try rw [← hS]
 have hba := za w1 (.cells #[.slice a0 s.Y.length c0] 41); have hRd := hr1; clear hr1; replace hO := hO.below hba; replace hA := hA.below hba; replace hRd := hRd.below hba; replace hN := hN.trans (Only.below hba)
 have hzS : S + 1 ≤ (w1.alloc (.cells #[.slice a0 s.Y.length c0] 41)).heap.size := by rw [zdM]; omega
 clear hba hS hzA hz1; generalize w1.alloc (.cells #[.slice a0 s.Y.length c0] 41) = w2 at *; go_wp2_with fail
 go_loopw [5, 6] (fun ov iv wr => ∃ (k : Nat) (fs : List Fm) (fp : List Nat) (q : Nat), iv = .int .i64 k ∧ k ≤ 2 ∧ fs.length ≤ 7 ∧ q ≤ p + 3000 + 2 * k ∧ Own wr E 37 12 ov (fs.map Fm.cd) fp ∧ (∀ b, ov.ownBlock = some b → b ≠ S) ∧ (∀ b ∈ fp, w.heap.size < b ∧ b ≠ S) ∧ Hid (LightK fs k) ∧ Box [.slice a0 s.Y.length c0] S wr ∧ Box [.slice none 0 0] w.heap.size wr ∧ Rdr wr rb q ∧ Only [rb] w wr ∧ S + 1 ≤ wr.heap.size) (fun _ iv _ => 2 - (intOf iv).toNat)
 case atStart => exact ⟨0, fs, fp, p + 3000, rfl, by omega, hln, by omega, hO, hvS, hfp, HW, hX, hA, hRd, hN, hzS⟩
 case round =>
  clear hO hX hA hRd hN hfp HW hvS hzS hln; obtain ⟨k, fs, fp, q, rfl, hk, hln, hq, hO, hvS, hfp, HW, hX, hA, hRd, hN, hzS⟩ := hrel; obtain ⟨oa, on, oc, rfl⟩ := hO.form'; obtain ⟨_, _, hve, _, _⟩ := hO.form; rw [zdF] at hve; simp only [Value.slice.injEq] at hve
  have hon1 : on ≤ fs.length := by rw [hve.2.1]; omega
  have hon2 : fs.length ≤ on := by rw [hve.2.1]; omega
  clear hve
  by_cases hk2 : k < 2
  rotate_left
  ·have h1 : decide ((k : Int) < 2) = false := decide_eq_false (by omega)
   go_upto_region 8 with fail; have x0 := hX.2.1 0 _ rfl; have y0 := hA.2.1 0 _ rfl; have yf := hA.2.2 0; have g1 := hA.put (k := 0) (by simp) (.slice a0 s.Y.length c0); have hO5 := Only.setsR (b := w.heap.size) (zdI _) [(0, .slice a0 s.Y.length c0)] hN; have hR9 := Rdr.sets (b := w.heap.size) (by omega) [(0, .slice a0 s.Y.length c0)] hRd; have hOw := hO.set_ne (b := w.heap.size) (j := 0) (u := .slice a0 s.Y.length c0) (fun h => by have := hfp _ h; omega) (fun e => by have := (hO.block e).1; omega); simp only [zg] at hO5 hR9; have r0 := g1.2.1 0 _ rfl; have hob5 := hOw.base (base' := w.heap.size) (fun b hb => by have := (hOw.block hb).1; omega); clear g1 hX hA hN hRd hO hOw; go_wp2_with fail; refine bodyPost_ret (v := .tuple #[.agg #[.slice a0 s.Y.length c0], .slice oa on oc]) (by simp [results, Try.results13, go_sem, r0]) rfl ?_; exact ⟨⟨_, _, _, fs, _, fp, by have := hln; omega, LightK.last HW.out (by omega), rfl, hob5, fun b hm => by have := hfp b hm; omega⟩, hR9.mono (by omega), hO5⟩
  have h1 : decide ((k : Int) < 2) = true := decide_eq_true (by omega)
  by_cases h0 : 0 < on
  rotate_left
  ·have h2 : decide ((0 : Int) < (on : Int)) = false := decide_eq_false (by omega)
   go_upto_region 8 with fail; have x0 := hX.2.1 0 _ rfl; have y0 := hA.2.1 0 _ rfl; have yf := hA.2.2 0; have g1 := hA.put (k := 0) (by simp) (.slice a0 s.Y.length c0); have hO5 := Only.setsR (b := w.heap.size) (zdI _) [(0, .slice a0 s.Y.length c0)] hN; have hR9 := Rdr.sets (b := w.heap.size) (by omega) [(0, .slice a0 s.Y.length c0)] hRd; have hOw := hO.set_ne (b := w.heap.size) (j := 0) (u := .slice a0 s.Y.length c0) (fun h => by have := hfp _ h; omega) (fun e => by have := (hO.block e).1; omega); simp only [zg] at hO5 hR9; have r0 := g1.2.1 0 _ rfl; have hob5 := hOw.base (base' := w.heap.size) (fun b hb => by have := (hOw.block hb).1; omega); clear g1 hX hA hN hRd hO hOw; go_wp2_with fail; refine bodyPost_ret (v := .tuple #[.agg #[.slice a0 s.Y.length c0], .slice oa on oc]) (by simp [results, Try.results13, go_sem, r0]) rfl ?_; exact ⟨⟨_, _, _, fs, _, fp, by have := hln; omega, LightK.last HW.out (by omega), rfl, hob5, fun b hm => by have := hfp b hm; omega⟩, hR9.mono (by omega), hO5⟩
  have h2 : decide ((0 : Int) < (on : Int)) = true := decide_eq_true (by omega)
  by_cases h5 : on < 5
  rotate_left
  ·have h3 : decide ((on : Int) < 5) = false := decide_eq_false (by omega)
   go_upto_region 8 with fail; have x0 := hX.2.1 0 _ rfl; have y0 := hA.2.1 0 _ rfl; have yf := hA.2.2 0; have g1 := hA.put (k := 0) (by simp) (.slice a0 s.Y.length c0); have hO5 := Only.setsR (b := w.heap.size) (zdI _) [(0, .slice a0 s.Y.length c0)] hN; have hR9 := Rdr.sets (b := w.heap.size) (by omega) [(0, .slice a0 s.Y.length c0)] hRd; have hOw := hO.set_ne (b := w.heap.size) (j := 0) (u := .slice a0 s.Y.length c0) (fun h => by have := hfp _ h; omega) (fun e => by have := (hO.block e).1; omega); simp only [zg] at hO5 hR9; have r0 := g1.2.1 0 _ rfl; have hob5 := hOw.base (base' := w.heap.size) (fun b hb => by have := (hOw.block hb).1; omega); clear g1 hX hA hN hRd hO hOw; go_wp2_with fail; refine bodyPost_ret (v := .tuple #[.agg #[.slice a0 s.Y.length c0], .slice oa on oc]) (by simp [results, Try.results13, go_sem, r0]) rfl ?_; exact ⟨⟨_, _, _, fs, _, fp, by have := hln; omega, LightK.last HW.out (by omega), rfl, hob5, fun b hm => by have := hfp b hm; omega⟩, hR9.mono (by omega), hO5⟩
  have h3 : decide ((on : Int) < 5) = true := decide_eq_true (by omega); go_wp2_with fail; refine (zz rb q 2 _ (by omega) (by omega) (by omega) hRd).mono ?_; rintro e w5 ⟨⟨m, hm, rfl⟩, hRn, ho⟩; have hz5 := ho.size; replace hO := hO.only ho (by omega) (fun h => by have := hfp _ h; omega); replace hX := hX.only ho (by omega); replace hA := hA.only ho (by omega); replace hN := hN.trans ho; clear hRd ho; have hRd := hRn; clear hRn
  by_cases hm0 : m = 0
  rotate_left
  ·have h4 : ((m : Int) == 0) = false := by simpa using (by omega : ¬ ((m : Int) = 0))
   go_upto_region 8 with fail; have x0 := hX.2.1 0 _ rfl; have y0 := hA.2.1 0 _ rfl; have yf := hA.2.2 0; have g1 := hA.put (k := 0) (by simp) (.slice a0 s.Y.length c0); have hO5 := Only.setsR (b := w.heap.size) (zdI _) [(0, .slice a0 s.Y.length c0)] hN; have hR9 := Rdr.sets (b := w.heap.size) (by omega) [(0, .slice a0 s.Y.length c0)] hRd; have hOw := hO.set_ne (b := w.heap.size) (j := 0) (u := .slice a0 s.Y.length c0) (fun h => by have := hfp _ h; omega) (fun e => by have := (hO.block e).1; omega); simp only [zg] at hO5 hR9; have r0 := g1.2.1 0 _ rfl; have hob5 := hOw.base (base' := w.heap.size) (fun b hb => by have := (hOw.block hb).1; omega); clear g1 hX hA hN hRd hO hOw; go_wp2_with fail; refine bodyPost_ret (v := .tuple #[.agg #[.slice a0 s.Y.length c0], .slice oa on oc]) (by simp [results, Try.results13, go_sem, r0]) rfl ?_; exact ⟨⟨_, _, _, fs, _, fp, by have := hln; omega, LightK.last HW.out (by omega), rfl, hob5, fun b hm => by have := hfp b hm; omega⟩, hR9.mono (by omega), hO5⟩
  subst hm0; go_wp2_with fail; refine (zz rb (q + 1) (on : Int) _ (by omega) (by omega) (by omega) hRd).mono ?_; rintro e w6 ⟨⟨d, hd, rfl⟩, hRn, ho⟩; have hz6 := ho.size; replace hO := hO.only ho (by omega) (fun h => by have := hfp _ h; omega); replace hX := hX.only ho (by omega); replace hA := hA.only ho (by omega); replace hN := hN.trans ho; clear hRd ho; have hRd := hRn; clear hRn
  have hdl : d < fs.length := by omega
  obtain ⟨fr, hrr, _⟩ := hO.rd; obtain ⟨g, off, rfl, hgz, _⟩ := zo hrr (by omega); clear hrr
  obtain rfl : off = 0 := by
   obtain ⟨xs, hxs, _⟩ := hO
   rcases hxs.2 with ⟨h, _⟩ | ⟨_, _, _, h, _⟩
   ·simp at h
   ·simp only [Value.slice.injEq, Option.some.injEq, Addr.mk.injEq] at h; exact h.1.2.1
  obtain ⟨vs, fx, hcx, hrx, hfx⟩ := hO.elem (k := d) (by simpa using hdl); rw [List.getElem_map] at hrx; obtain ⟨xa3, xc3, xf3, xa5, xc5, xf5, xa6, xc6, xf6, xa7, xc7, xf7, xa11, xc11, xf11, rfl, -, xm0, xm1, xm2, xm3, xm4, xm5, xm6, xm7, xm8, xm9⟩ := Fm.open hrx; clear xm0 xm1 xm2 xm3 xm4 xm5 xm6 xm7 xm8 xm9; obtain ⟨x0, x1, x2, x3, x4, x5, x6, x7, x8, x9, x10, x11⟩ := yR12 hcx rfl; rw [Nat.add_zero] at x0; clear hcx; go_upto_region 6 with fail; obtain ⟨K, hK⟩ : ∃ q, q = w6.heap.size := ⟨_, rfl⟩; obtain ⟨X, hX9⟩ : ∃ q, q = K + 1 := ⟨_, rfl⟩; have hra := kids18 hrx 37; have hV := Box.new (w6.alloc (.cells (yTa fs[d] xa3 xc3 xa5 xc5 xa6 xc6 xa7 xc7 xa11 xc11) 37)) [.int .i64 2, .int .i64 0, .string ⟨#[]⟩, .slice none 0 0, .string ⟨#[]⟩, .slice none 0 0, .slice none 0 0, .slice none 0 0, .int .i64 0, .bool false, .bool false, .slice (some ⟨w6.heap.size, 0, none⟩) 1 1] 37; rw [zdM] at hV; rw [← hK, ← hX9] at hV; rw [← hK] at hra; rw [← hK]
  try rw [← hX9]
  have hba : Below w6.heap.size w6 ((w6.alloc (.cells (yTa fs[d] xa3 xc3 xa5 xc5 xa6 xc6 xa7 xc7 xa11 xc11) 37)).alloc (.cells #[.int .i64 2, .int .i64 0, .string ⟨#[]⟩, .slice none 0 0, .string ⟨#[]⟩, .slice none 0 0, .slice none 0 0, .slice none 0 0, .int .i64 0, .bool false, .bool false, .slice (some ⟨K, 0, none⟩) 1 1] 37)) := ((zdT _ _).alloc (zdI _) _).alloc (by simp) _; have hrf := (fm_mk8 (k := 2) (by unfold I64; simp) hra).below (za _ (.cells #[.int .i64 2, .int .i64 0, .string ⟨#[]⟩, .slice none 0 0, .string ⟨#[]⟩, .slice none 0 0, .slice none 0 0, .slice none 0 0, .int .i64 0, .bool false, .bool false, .slice (some ⟨K, 0, none⟩) 1 1] 37)); have hOz := fun b h => (hO.block (b := b) h).2; have hOl := hO.lt; replace hO := hO.below hba; replace hX := hX.below hba; replace hA := hA.below hba; replace hRd := hRd.below hba; replace hN := hN.trans (Only.below hba)
  have hKX : K + 1 ≤ X := by omega
  have hzX : X + 1 ≤ ((w6.alloc (.cells (yTa fs[d] xa3 xc3 xa5 xc5 xa6 xc6 xa7 xc7 xa11 xc11) 37)).alloc (.cells #[.int .i64 2, .int .i64 0, .string ⟨#[]⟩, .slice none 0 0, .string ⟨#[]⟩, .slice none 0 0, .slice none 0 0, .slice none 0 0, .int .i64 0, .bool false, .bool false, .slice (some ⟨K, 0, none⟩) 1 1] 37)).heap.size := by rw [zdM, zdM]; omega
  have hKS : S < K := by omega
  have hKg : g < K := by omega
  have hff : ∀ b ∈ K :: fx, (w.heap.size < b ∧ b ≠ S) ∧ b ≠ g := fun b hb => by
   rcases zdE.1 hb with rfl | hb
   ·omega
   ·exact ⟨hfp b (hfx b hb).1, (hfx b hb).2⟩
  have HN := zdH (LightK.not HW.out hk2 hdl)
  have hwn : wtV (Fm.mk 2 ⟨Atm.zero, false⟩ [fs[d]]).cd ≤ 1048576 := by have := HN.out.1 _ (List.mem_append_right _ (List.mem_singleton.2 rfl)); omega
  clear hba hK hX9 hra hrx hfx hOz hOl x0 x1 x2 x3 x4 x5 x6 x7 x8 x9 x10 x11; generalize (w6.alloc (.cells (yTa fs[d] xa3 xc3 xa5 xc5 xa6 xc6 xa7 xc7 xa11 xc11) 37)).alloc (.cells #[.int .i64 2, .int .i64 0, .string ⟨#[]⟩, .slice none 0 0, .string ⟨#[]⟩, .slice none 0 0, .slice none 0 0, .slice none 0 0, .int .i64 0, .bool false, .bool false, .slice (some ⟨K, 0, none⟩) 1 1] 37) = w7 at *; obtain ⟨nf, hnf⟩ : ∃ nf, nf = Fm.mk 2 ⟨Atm.zero, false⟩ [fs[d]] := ⟨_, rfl⟩; rw [← hnf] at hrf HN hwn; clear hnf; obtain ⟨v0, v1, v2, v3, v4, v5, v6, v7, v8, v9, v10, v11⟩ := yR12 hV.2.1 rfl; go_wp2_with fail; refine (zcx nf _ _ _ hwn (by exact hrf)).mono ?_; rintro e w8 ⟨rfl, hb8⟩; have hz8 := hb8.size; replace hRd := hRd.below hb8; replace hO := hO.below hb8; replace hX := hX.below hb8; replace hA := hA.below hb8; replace hV := hV.below hb8; replace hrf := hrf.below hb8; replace hN := hN.trans (Only.below hb8); clear hb8 v0 v1 v2 v3 v4 v5 v6 v7 v8 v9 v10 v11
  cases hok : nf.okF
  ·go_wp2_with fail
   go_roundw
   case rel => exact ⟨k + 1, fs, fp, q + 1 + 1, by go_num, by omega, hln, by omega, hO, hvS, hfp, zdH HW.out.keep, hX, hA, hRd, hN, by omega⟩
   case measure => simp [intOf]; omega
  ·have v0 := hV.2.1 0 _ rfl
   have v1 := hV.2.1 1 _ rfl; have v2 := hV.2.1 2 _ rfl; have v3 := hV.2.1 3 _ rfl; have v4 := hV.2.1 4 _ rfl; have v5 := hV.2.1 5 _ rfl; have v6 := hV.2.1 6 _ rfl; have v7 := hV.2.1 7 _ rfl; have v8 := hV.2.1 8 _ rfl; have v9 := hV.2.1 9 _ rfl; have v10 := hV.2.1 10 _ rfl; have v11 := hV.2.1 11 _ rfl
   have hna : ∀ b ∈ K :: fx, (Value.slice (some ⟨g, 0, none⟩) on oc).ownBlock ≠ some b := fun b hb e => by
    have := (hff b hb).2; simp only [Value.ownBlock, Option.some.injEq] at e; omega
   go_wp2_with (at_builtin; refine zp zG rfl _ _ rfl E _ _ _ rfl (by exact hO.below (za _ _)) ⟨w8.heap.size, 0, none⟩ 1 1 [nf.cd] [.int .i64 2, .int .i64 0, .string ⟨#[]⟩, .slice none 0 0, .string ⟨#[]⟩, .slice none 0 0, .slice none 0 0, .slice none 0 0, .int .i64 0, .bool false, .bool false, .slice (some ⟨K, 0, none⟩) 1 1] (K :: fx) rfl rfl ?rd ?k ?cells ?na ?bytes ?len ?base ?next)
   try (case rd => simpa using hrf.below (za _ _))
   try (case k => simp [Fm.cd_len])
   try (case cells => exact zl _ _ _)
   try (case na => exact hna)
   try (case bytes => simp; omega)
   try (case len => simp; omega)
   case base => first | omega | (rw [zdM]; omega) | (simp; omega)
   case next =>
    intro v' w9 hown9 hg hv' hs9; have hba := za w8 (.cells #[.int .i64 2, .int .i64 0, .string ⟨#[]⟩, .slice none 0 0, .string ⟨#[]⟩, .slice none 0 0, .slice none 0 0, .slice none 0 0, .int .i64 0, .bool false, .bool false, .slice (some ⟨K, 0, none⟩) 1 1] 37); have hrow : ∀ q, (Value.slice (some ⟨g, 0, none⟩) on oc).ownBlock = some q → E ≤ q ∧ q ≠ S := fun q hq => ⟨(hO.block hq).1, hvS q hq⟩; have hX9 := (hX.below hba).grownB hg (fun q hq => (hrow q hq).2); have hA9 := (hA.below hba).grownB hg (fun q hq => by have := (hrow q hq).1; omega); have hr9 := (hRd.below hba).grown hg (fun q hq => by have := (hrow q hq).1; omega); have hN9 := (hN.trans (Only.below hba)).grown hg (fun q hq => by have := (hrow q hq).1; omega)
    have hz9 : S + 1 ≤ w9.heap.size := by have := hg.size; rw [zdM] at this; omega
    have hvS9 : ∀ b, v'.ownBlock = some b → b ≠ S := fun b hb => by
     rcases hv' b hb with h | h
     ·exact hvS b h
     ·first | omega | (rw [zdM] at h; omega)
    have hfp9 : ∀ b ∈ fp ++ (K :: fx), w.heap.size < b ∧ b ≠ S := fun b hm => by
     rcases zdA.1 hm with h | h
     ·exact hfp b h
     ·exact (hff b h).1
    obtain ⟨fs', hfs⟩ : ∃ fs', fs' = fs ++ [nf] := ⟨_, rfl⟩
    have hl9 : fs'.length = fs.length + 1 := by rw [hfs]; simp
    have hO9 : Own w9 E 37 12 v' (fs'.map Fm.cd) (fp ++ (K :: fx)) := by rw [hfs, zdD]; exact hown9
    rw [← hfs] at HN
    have hle9 : fs'.length ≤ 7 := by omega
    clear hl9 hfs hX hA hRd hN hown9 hg hv' hs9 hrow hO hba; go_wp2_with fail; go_roundw
    case rel => exact ⟨k + 1, fs', _, q + 1 + 1, by go_num, by omega, hle9, by omega, hO9, hvS9, hfp9, HN, hX9, hA9, hr9, hN9, hz9⟩
    case measure => simp [intOf]; omega
def DrawnFI (e : Ending) (w' : World) : Prop := ∃ (fs : List Fm) (ns : List Int) (fa : Option Addr) (fc : Nat) (na : Option Addr) (nc : Nat) (ff g : List Nat), fs.length ≤ 7 ∧ ns.length ≤ 4 ∧ wtR (fs.map Fm.cd) ≤ 1020004 ∧
 e = .returned (.tuple #[.slice fa fs.length fc, .slice na ns.length nc]) ∧ Rd w' (.sl (fs.map Fm.cd)) (.slice fa fs.length fc) ff ∧ Rd w' (.sl (ns.map zm)) (.slice na ns.length nc) g
theorem zbG (v : Value) (w : World) (hv : Byts w v) :
  Calls Try.prog 5 #[v] w fun e w' => DrawnFI e w' ∧ Below w.heap.size w w' := by
 go_enter Try.func5, Try.ntmps5; go_wp2_with fail; refine (zcj v _ (by exact hv)).mono ?_; rintro e u1 ⟨rfl, hu1, hb1⟩; have hBW := hb1; have hzu := hb1.size; obtain ⟨rb, hrb⟩ : ∃ rb, rb = w.heap.size := ⟨_, rfl⟩; rw [← hrb] at hu1 ⊢
 have hrw1 : rb ≤ w.heap.size := by omega
 have hrw2 : w.heap.size ≤ rb := by omega
 clear hrb hb1; have hl1 := hu1.lt; go_wp2_with fail; refine (zcF rb 0 _ (by omega) hu1).mono ?_; rintro e w1 ⟨⟨sa, sn, sc, fs, fv, fp, hln, ⟨_, hwt⟩, rfl, hO, hfp⟩, hr1, ho1⟩
 have hnr : rb ∉ fp := fun h => by have := hfp _ h; omega
 obtain ⟨ff, hrr, hff⟩ := hO.rd
 have hnf : rb ∉ ff := fun h => by
  rcases hff with ⟨_, _, rfl⟩ | ⟨c, _, hc, rfl, _⟩
  ·simp at h
  ·rcases zdE.1 h with rfl | h
   ·have := (hO.block hc).1; omega
   ·exact hnr h
 replace hBW := hBW.trans (ho1.toBelow (B := w.heap.size) (by omega) (fun b hb => by simp at hb; omega)); have hz1 := ho1.size; clear ho1 hO hff hfp hu1; obtain ⟨fa, fc, rfl, hf1, hf2⟩ := zc hrr; go_upto_region 3 with fail; have hba := za w1 (.cells #[.slice sa sn sc] 41); replace hrr := hrr.below hba; replace hr1 := hr1.below hba; replace hBW := hBW.trans (hba.mono hBW.size); clear hba; generalize w1.alloc (.cells #[.slice sa sn sc] 41) = w2 at *; obtain ⟨E, hE⟩ : ∃ E, E = w2.heap.size := ⟨_, rfl⟩; have hO := Own.empty w2 E 3 1 (by omega); rw [← hE] at hO
 have hEr : rb < E := by have := hr1.lt; omega
 have hfE : ∀ b ∈ ff, b < E := fun b hb => by rw [hE]; exact hrr.lt _ b hb
 have hwE : w.heap.size ≤ E := by have := hBW.size; omega
 go_upto_region 4 with fail; rw [← hE]; have hba := za w2 (.cells #[] 3); replace hrr := hrr.below hba; replace hr1 := hr1.below hba; replace hBW := hBW.trans (hba.mono hBW.size)
 have hzE : E + 1 ≤ (w2.alloc (.cells #[] 3)).heap.size := by rw [zdM]; omega
 clear hba hE; generalize w2.alloc (.cells #[] 3) = w3 at *; go_wp2_with fail; refine (zz rb (0 + 3010) 4 _ (by omega) (by omega) (by omega) hr1).mono ?_; rintro e w4 ⟨⟨m, hm, rfl⟩, hr4, ho⟩; have hz4 := ho.size; replace hO := hO.only ho (by omega) (by simp); replace hrr := hrr.only ho hnf; replace hBW := hBW.trans (ho.toBelow (B := w.heap.size) (by omega) (fun b hb => by simp at hb; omega)); clear ho hr1; go_wp2_with fail
 go_loopw [7, 8] (fun ov iv wr => ∃ (k : Nat) (ns : List Int) (q : Nat), iv = .int .i64 k ∧ k + ns.length ≤ 3 ∧ q + k ≤ 3100 ∧ Own wr E 3 1 ov (ns.map zm) [] ∧ Rd wr (.sl (fs.map Fm.cd)) (.slice fa fs.length fc) ff ∧ Rdr wr rb q ∧ Below w.heap.size w wr ∧ E + 1 ≤ wr.heap.size) (fun ov iv _ => (intOf iv).toNat)
 case atStart => exact ⟨m, [], 0 + 3010 + 1, rfl, by simp; omega, by omega, hO, hrr, hr4, hBW, by omega⟩
 case round =>
  clear hO hrr hr4 hBW; obtain ⟨k, ns, q, rfl, hk, hq, hO, hrr, hrd, hBW, hzr⟩ := hrel; obtain ⟨oa, on, oc, rfl⟩ := hO.form'; have hOb := fun b h => (hO.block (b := b) h).1
  by_cases hn : (0 : Int) < (k : Int)
  ·go_wp2_with fail
   refine (zap 6 [0, 1, 2, 0, -1, 9] [.int .i64 0, .int .i64 1, .int .i64 2, .int .i64 0, .int .i64 (-1), .int .i64 9] rfl rfl rb q _ _ (by omega) (by simp) (by simp) (by exact Lst.new hrd.lt _ _) (hrd.below (za _ _))).mono ?_; rintro e w5 ⟨⟨z, hz, rfl⟩, hRn, ho⟩
   have hzb : -1 ≤ z ∧ z ≤ 9 := by simp at hz; omega
   have hbn := za wr (.cells #[.int .i64 0, .int .i64 1, .int .i64 2, .int .i64 0, .int .i64 (-1), .int .i64 9] 3); have hz5 := ho.size; rw [zdM] at hz5; replace hO := (hO.below hbn).only ho (by omega) (by simp); replace hrr := (hrr.below hbn).only ho hnf; replace hBW := (hBW.trans (hbn.mono hBW.size)).trans (ho.toBelow (B := w.heap.size) (by rw [zdM]; have := hBW.size; omega) (fun b hb => by simp at hb; omega)); clear hbn ho hz; go_wp2_with (at_builtin; refine zp zat rfl _ _ rfl E _ _ _ rfl (by exact hO.below (za _ _)) ⟨w5.heap.size, 0, none⟩ 1 1 [zm z] [.int .i64 z] [] rfl rfl ?rd ?k ?cells ?na ?bytes ?len ?base ?next)
   case rd => simpa using zbR (w := w5.alloc (.cells #[.int .i64 z] 3)) [z] (by intro y hy; simp at hy; subst hy; unfold I64; omega)
   try (case k => simp [zm])
   try (case cells => exact zl _ _ _)
   try (case na => simp)
   try (case bytes => simp; omega)
   try (case len => simp; omega)
   case base => first | omega | (rw [zdM]; omega) | (simp; omega)
   case next =>
    intro v' w9 hown9 hg hv' hs9; have hba := za w5 (.cells #[.int .i64 z] 3); have hr9 := (hRn.below hba).grown hg (fun q hq => by have := hOb q hq; omega); have hrr9 := (hrr.below hba).same _ (fun b hm => hg.block b (by rw [zdM]; have := hfE b hm; omega) (fun e => by have := hOb b e.symm; have := hfE b hm; omega)); have hB9 := zh (hBW.trans (hba.mono hBW.size)) hg (by rw [zdM]; have := hBW.size; omega) (fun q hq => by have := hOb q hq; omega)
    have hz9 : E + 1 ≤ w9.heap.size := by have := hg.size; rw [zdM] at this; omega
    obtain ⟨ns', hns⟩ : ∃ ns', ns' = ns ++ [z] := ⟨_, rfl⟩
    have hl9 : ns'.length = ns.length + 1 := by rw [hns]; simp
    have hO9 : Own w9 E 3 1 v' (ns'.map zm) [] := by rw [hns, zdD]; exact hown9
    have hle9 : ns'.length ≤ ns.length + 1 := by omega
    clear hl9 hns hRn hrr hBW hown9 hg hv' hs9 hO hba hrd; go_wp2_with fail; go_roundw
    case rel => exact ⟨k - 1, ns', q + 1, by go_num, by omega, by omega, hO9, hrr9, hr9, hB9, hz9⟩
    case measure => simp [intOf]; omega
  ·obtain rfl : k = 0 := by omega
   obtain ⟨g, hrn⟩ := hO.rd'; obtain ⟨na, nc, hve, _, _⟩ := zc hrn; rw [hve] at hrn; rw [hve]; clear hve; go_wp2_with fail
   go_ret2
   exact ⟨⟨fs, ns, _, _, _, _, _, _, hln, by omega, hwt, rfl, hrr, hrn⟩, hBW⟩
end Go.Proofs.Ytbfinjiledfpcaa
end
