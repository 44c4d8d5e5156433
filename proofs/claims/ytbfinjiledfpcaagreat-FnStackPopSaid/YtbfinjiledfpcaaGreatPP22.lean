/- Parts of the proof: StkV StkX SameD SameE StkY LawStackPopL. -/
import Derived.Test.YtbfinjiledfpcaaGreatPP19
import Derived.Test.YtbfinjiledfpcaaGreatPP17
import Derived.Test.YtbfinjiledfpcaaGreatPP21
import Derived.Test.YtbfinjiledfpcaaGreatPP7
import Derived.Test.YtbfinjiledfpcaaGreatPP13
import Derived.Test.YtbfinjiledfpcaaGreatPP18
import Derived.BigQuiet
section
namespace Go.Proofs.YtbfinjiledfpcaaGreat
open Go Go.RowKit
set_option linter.unusedVariables false
set_option linter.unusedSimpArgs false
set_option maxRecDepth 100000
set_option maxHeartbeats 16000000
def StkLite (n : Nat) (K : Stk) : Prop := SgFit 5 2 K.sig ∧ wtV K.cd ≤ 200 + n * 75040
theorem zbU : wtV (Stk.mk ⟨[]⟩ []).cd = 0 := by rw [zad]; rfl
theorem zbV (N A : Nat) : SgFit N A ⟨[]⟩ := ⟨zgw _, fun y hy => by cases hy⟩
theorem StkLite.mono {n m : Nat} {K : Stk} (h : StkLite n K) (hm : n ≤ m) : StkLite m K := by
 obtain ⟨h1, h2⟩ := h; have h3 := Nat.mul_le_mul_right 75040 hm; have h4 : wtV K.cd ≤ 200 + m * 75040 := zgx h2 (Nat.add_le_add_left h3 200); exact And.intro h1 h4
theorem zff {s : Sg} (h : s.few) (h2 : s.nice) : SgFit 5 2 s := by
 refine ⟨h.1, fun y hy => ⟨h.2 y hy, ?_⟩⟩; unfold Sg.nice at h2; rw [List.all_eq_true] at h2; have := h2 y hy; simp only [zau, zgl, decide_eq_true_eq] at this; omega
theorem lite_new {s : Sg} (h : s.few) (h2 : s.nice) : StkLite 0 (zbT s) := by
 have hf := zff h h2; unfold zbT
 split
 ·have h1 := zeU hf.2
  have h3 : wtV s.cd = s.Y.length + wtR (s.Y.map Sy.cd) := by unfold Sg.cd; simp only [zai, zgk]
  have h4 := hf.1; have h5 : s.Y.length * (2 + 4) ≤ 5 * 6 := Nat.mul_le_mul h4 (zgn _); refine ⟨hf, ?_⟩; rw [zad]; simp only [List.map_cons, List.map_nil, wtR, zE, wtV, wtC, zgv, List.length_nil]; omega
 ·exact ⟨zbV _ _, by rw [zbU]; omega⟩
theorem lite_push {n : Nat} {K : Stk} (h : StkLite n K) : StkLite (n + 1) K.push.1 := by
 unfold Stk.push
 split
 ·split
  ·refine ⟨h.1, ?_⟩
   have h2 := h.2; rw [← za1 K, zad] at h2; rw [zad]; simp only [zgi, List.map_cons, List.map_nil, zS, wtR, zE, wtV, wtC, zgh, zgv, List.length_nil] at h2 ⊢; omega
  ·exact h.mono (by omega)
 ·exact ⟨zbV _ _, by rw [zbU]; omega⟩
theorem lite_pop {n : Nat} {K : Stk} (h : StkLite n K) : StkLite (n + 1) K.pop.1 := by
 unfold Stk.pop
 split
 ·split
  ·exact h.mono (by omega)
  ·refine ⟨h.1, ?_⟩
   have h2 := h.2; have h3 := zv zE K.E (K.E.length - 1); rw [← za1 K, zad] at h2; rw [zad, List.map_take, List.length_take]; omega
 ·exact ⟨zbV _ _, by rw [zbU]; omega⟩
theorem zeW {K : Stk} (h : K.okK = true) : ∃ a l, K.E = a ++ [l] := by
 rcases List.eq_nil_or_concat K.E with h1 | ⟨a, l, h1⟩
 ·have := (Stk.okK_len h).1; rw [h1] at this; simp at this
 ·exact ⟨a, l, by rw [h1, List.concat_eq_append]⟩
theorem lite_tell {n : Nat} {K : Stk} {f : Fm} (h : StkLite n K) (hf : wtV f.cd ≤ 75030) : StkLite (n + 1) (K.tell f).1 := by
 unfold Stk.tell
 split
 ·rename_i hk
  split
  ·obtain ⟨a, l, hl⟩ := zeW hk
   refine ⟨h.1, ?_⟩; rw [zdQ hl]; have h2 := h.2; omega
  ·exact h.mono (by omega)
 ·exact ⟨zbV _ _, by rw [zbU]; omega⟩
/-- A stack and what is told, as they come back. -/
def DrawnKT (w : World) (e : Ending) (w' : World) : Prop := ∃ (K : Stk) (l : List Atm) (sa : Option Addr) (sc : Nat) (la : Option Addr) (lc : Nat) (ta : Option Addr) (tc : Nat) (kf lf : List Nat), StkLite 6 K ∧ (1 ≤ l.length ∧ l.length ≤ 6 ∧ ∀ x ∈ l, x.few) ∧
 e = .returned (.tuple #[.agg #[.slice sa K.sig.Y.length sc, .slice la K.E.length lc], .slice ta l.length tc]) ∧ RdVs w' K.cd [.slice sa K.sig.Y.length sc, .slice la K.E.length lc] kf ∧ Rd w' (.sl (l.map Atm.cd)) (.slice ta l.length tc) lf ∧ (∀ b ∈ kf, w.heap.size ≤ b) ∧ ∀ b ∈ lf, w.heap.size ≤ b
theorem zeX (rb p : Nat) (w : World) (hp : p + 3000 ≤ 1000000000) (hr : Rdr w rb p) :
  Calls Tryz.prog 69 #[.pointer (some ⟨rb, 0, none⟩)] w fun e w' => DrawnKT w e w' ∧ Rdr w' rb (p + 2000) ∧ Only [rb] w w' := by
 have hlt := hr.lt; have hA := Box.new w [.slice none 0 0, .slice none 0 0] 53; have hbn := zb w (.cells #[.slice none 0 0, .slice none 0 0] 53); go_enter Tryz.func69, Tryz.ntmps69; go_upto_region 1 with fail; generalize w.alloc (.cells #[.slice none 0 0, .slice none 0 0] 53) = W0 at *; have hN : Only [rb] w W0 := Only.below hbn; have hr0 := hr.below hbn; clear hbn hr; go_wp2_with fail; refine (zdq rb p _ (by omega) hr0).mono ?_; rintro e w1 ⟨⟨s, vs, sf, ⟨hfew, hnice⟩, rfl, hrs, hsf⟩, hr1, ho1⟩; obtain ⟨a0, c0, _, rfl, rfl, m0⟩ := Sg.open hrs; have hzA := hA.1
 have hnr : rb ∉ sf := fun h => by have := hsf _ h; omega
 have hz1 := ho1.size; replace hA := hA.only ho1 (by omega); replace hN := hN.trans ho1; clear hr0 ho1 m0; obtain ⟨S, hS⟩ : ∃ S, S = w1.heap.size := ⟨_, rfl⟩
 have hSz : w.heap.size < S := by omega
 have hX := Box.new w1 [.slice a0 s.Y.length c0] 25; rw [← hS] at hX; go_upto_region 2 with fail; rw [← hS]; have hba := zb w1 (.cells #[.slice a0 s.Y.length c0] 25); replace hA := hA.below hba; replace hN := hN.trans (Only.below hba); replace hr1 := hr1.below hba; replace hrs := hrs.below hba; clear hba hS hzA hz1; generalize w1.alloc (.cells #[.slice a0 s.Y.length c0] 25) = w2 at *; have x0 := hX.2.1 0 _ rfl; go_wp2_with fail; refine (zb3 s _ sf rb (p + 1) _ (by omega) hfew hnice (by exact hrs) hnr hr1).mono ?_; rintro e w3 ⟨⟨l, lv, lf, ⟨hl1, hl6, hlx⟩, rfl, hrl, hlg0⟩, hRd, ho3⟩; obtain ⟨ta, tc, rfl, _, _⟩ := zg hrl; have hXz := hX.1; have HL := zgm hlx; have hz3 := ho3.size
 have hlf0 : ∀ b ∈ lf, w.heap.size < b := fun b hb => by have := hlg0 b hb; omega
 replace hA := hA.only ho3 (by omega); replace hX := hX.only ho3 (by omega); replace hN := hN.trans ho3; replace hrs := hrs.only ho3 hnr; clear hr1 ho3 hlx x0; have x0 := hX.2.1 0 _ rfl; go_wp2_with fail; refine (zdV s _ _ _ (by have := (zff hfew hnice).wt (by omega) (by omega); omega) (by exact hrs)).mono ?_; rintro e w4 ⟨us, kf, rfl, hrk, hk0, hb4⟩; obtain ⟨sa, sc, _, la, lc, _, rfl, _, _, _⟩ := Stk.open hrk; have HK : Hid (StkLite 0 (zbT s)) := zgm (lite_new hfew hnice)
 have hkf0 : ∀ b ∈ kf, w.heap.size < b := fun b hb => by have := (hk0.2 b hb).1; omega
 replace hA := hA.below hb4; replace hrl := hrl.below hb4; replace hRd := hRd.below hb4; replace hN := hN.trans (Only.below hb4); have hz4 := hb4.size; clear hb4 hk0 x0 hX; obtain ⟨K, hK⟩ : ∃ K, K = zbT s := ⟨_, rfl⟩; rw [← hK] at hrk HK ⊢; clear hK; obtain ⟨KB, hKB⟩ : ∃ S, S = w4.heap.size := ⟨_, rfl⟩; have hX := Box.new w4 [.slice sa K.sig.Y.length sc, .slice la K.E.length lc] 53; rw [← hKB] at hX
 have hkf : ∀ b ∈ kf, w.heap.size < b ∧ b ≠ KB := fun b hb => by have := hkf0 b hb; have := hrk.lt _ b hb; omega
 have hlf : ∀ b ∈ lf, w.heap.size < b ∧ b < KB := fun b hb => by have := hlf0 b hb; have := hrl.lt _ b hb; omega
 have hrK : rb < KB := by have := hRd.lt; omega
 have hwK : w.heap.size < KB := by omega
 go_upto_region 4 with fail; rw [← hKB]; have hba := zb w4 (.cells #[.slice sa K.sig.Y.length sc, .slice la K.E.length lc] 53); replace hA := hA.below hba; replace hrk := hrk.below hba; replace hrl := hrl.below hba; replace hRd := hRd.below hba; replace hN := hN.trans (Only.below hba); have hzK : KB + 1 ≤ (w4.alloc (.cells #[.slice sa K.sig.Y.length sc, .slice la K.E.length lc] 53)).heap.size := hX.1; clear hba hKB hkf0 hlf0 hlg0; generalize w4.alloc (.cells #[.slice sa K.sig.Y.length sc, .slice la K.E.length lc] 53) = w5 at *; go_wp2_with fail; refine (zaV 5 [3, 4, 6, 2, 0] [.int .i64 3, .int .i64 4, .int .i64 6, .int .i64 2, .int .i64 0] rfl rfl rb (p + 1 + 600) _ _ (by omega) (by simp) (by simp) (by exact Lst.new hRd.lt _ _) (hRd.below (zb _ _))).mono ?_; rintro e w6 ⟨⟨n0, hn0, rfl⟩, hRn, ho⟩; obtain ⟨n, rfl, hn6⟩ : ∃ n : Nat, n0 = (n : Int) ∧ n ≤ 6 := ⟨n0.toNat, by simp at hn0; omega, by simp at hn0; omega⟩; have hbn := zb w5 (.cells #[.int .i64 3, .int .i64 4, .int .i64 6, .int .i64 2, .int .i64 0] 3); have hz6 := ho.size; rw [zgr] at hz6; replace hX := (hX.below hbn).only ho (by omega); replace hA := (hA.below hbn).only ho (by omega); replace hrk := (hrk.below hbn).only ho (fun h => by have := hkf _ h; omega); replace hrl := (hrl.below hbn).only ho (fun h => by have := hlf _ h; omega); replace hN := (hN.trans (Only.below hbn)).trans ho; clear hRd hbn ho hn0; go_wp2_with fail
 go_loopw [7] (fun iv wr => ∃ (k n : Nat) (K : Stk) (sa : Option Addr) (sc : Nat) (la : Option Addr) (lc : Nat) (kf : List Nat) (q : Nat), iv = .int .i64 k ∧ k + n ≤ 6 ∧ q + k * 200 ≤ p + 2000 ∧ Hid (StkLite n K) ∧ RdVs wr K.cd [.slice sa K.sig.Y.length sc, .slice la K.E.length lc] kf ∧ (∀ b ∈ kf, w.heap.size < b ∧ b ≠ KB) ∧ Box [.slice sa K.sig.Y.length sc, .slice la K.E.length lc] KB wr ∧ Box [.slice none 0 0, .slice none 0 0] w.heap.size wr ∧ Rd wr (.sl (l.map Atm.cd)) (.slice ta l.length tc) lf ∧ Rdr wr rb q ∧ Only [rb] w wr ∧ KB + 1 ≤ wr.heap.size) (fun iv _ => (intOf iv).toNat)
 case atStart => exact ⟨n, 0, K, sa, sc, la, lc, kf, p + 1 + 600 + 1, rfl, by omega, by omega, HK, hrk, hkf, hX, hA, hrl, hRn, hN, by omega⟩
 case round =>
  clear hX hA hrk hrl hRn hN HK hkf hzK hz6; obtain ⟨k, n, K, sa, sc, la, lc, kf, q, rfl, hk, hq, HK, hrk, hkf, hX, hA, hrl, hRd, hN, hzr⟩ := hrel
  by_cases hn : (0 : Int) < (k : Int)
  ·have x0 := hX.2.1 0 _ rfl; have x1 := hX.2.1 1 _ rfl
   obtain ⟨V, hVe⟩ : ∃ V, V = wr.heap.size := ⟨_, rfl⟩; have hV := Box.new wr [.slice sa K.sig.Y.length sc, .slice la K.E.length lc] 53; rw [← hVe] at hV
   have hkV : ∀ b ∈ kf, b ≠ V := fun b hb => by have := hrk.lt _ b hb; omega
   have hKV : KB < V := by omega
   have hba := zb wr (.cells #[.slice sa K.sig.Y.length sc, .slice la K.E.length lc] 53); go_upto_region 8 with fail; rw [← hVe]; replace hX := hX.below hba; replace hA := hA.below hba; replace hrk := hrk.below hba; replace hrl := hrl.below hba; replace hRd := hRd.below hba; replace hN := hN.trans (Only.below hba); have hzV : V + 1 ≤ (wr.alloc (.cells #[.slice sa K.sig.Y.length sc, .slice la K.E.length lc] 53)).heap.size := hV.1; clear hba hVe x0 x1
   have hlV : ∀ b ∈ lf, b ≠ V := fun b hb => by have := hlf b hb; omega
   generalize wr.alloc (.cells #[.slice sa K.sig.Y.length sc, .slice la K.E.length lc] 53) = u4 at *; go_wp2_with fail; refine (zU rb q 4 _ (by omega) (by omega) (by omega) hRd).mono ?_; rintro e u5 ⟨⟨m, hm, rfl⟩, hRn, ho⟩; have hz5 := ho.size; replace hX := hX.only ho (by omega); replace hA := hA.only ho (by omega); replace hrk := hrk.only ho (fun h => by have := hkf _ h; omega); replace hrl := hrl.only ho (fun h => by have := hlf _ h; omega); replace hN := hN.trans ho; replace hV := hV.only ho (by omega); clear hRd ho; have hRd := hRn; clear hRn
   by_cases m0 : m = 0
   ·subst m0
    have x0 := hX.2.1 0 _ rfl; have x1 := hX.2.1 1 _ rfl; go_wp2_with fail; refine (zbt K _ _ _ (by have := HK.out.2; omega) (by exact hrk)).mono ?_; rintro e w6 ⟨us, k2f, rfl, hr2, hk2', hb6⟩; obtain ⟨s2a, s2c, _, l2a, l2c, _, rfl, _, _, _⟩ := Stk.open hr2
    have hk2 : ∀ b ∈ k2f, KB < b ∧ V < b := fun b hb => by have := (hk2'.2 b hb).1; omega
    obtain ⟨ob, hob⟩ : ∃ b, b = K.push.2 := ⟨_, rfl⟩; rw [← hob]; clear hob hk2' x0 x1; have hz6 := hb6.size; replace hX := hX.below hb6; replace hA := hA.below hb6; replace hrk := hrk.below hb6; replace hrl := hrl.below hb6; replace hRd := hRd.below hb6; replace hN := hN.trans (Only.below hb6); replace hV := hV.below hb6; clear hb6; have v0 := hV.2.1 0 _ rfl; have v1 := hV.2.1 1 _ rfl; have vf0 := hV.2.2 0; have vf1 := hV.2.2 1; have gV := hV.puts [.slice s2a K.push.1.sig.Y.length s2c, .slice l2a K.push.1.E.length l2c] rfl; replace hX := hX.sets_other (b := V) (by omega) (zd 0 [.slice s2a K.push.1.sig.Y.length s2c, .slice l2a K.push.1.E.length l2c]); replace hA := hA.sets_other (b := V) (by omega) (zd 0 [.slice s2a K.push.1.sig.Y.length s2c, .slice l2a K.push.1.E.length l2c]); replace hN := Only.setsR (b := V) (by omega) (zd 0 [.slice s2a K.push.1.sig.Y.length s2c, .slice l2a K.push.1.E.length l2c]) hN; replace hRd := Rdr.sets (b := V) (by omega) (zd 0 [.slice s2a K.push.1.sig.Y.length s2c, .slice l2a K.push.1.E.length l2c]) hRd; have hKK := (Same2.refl V V w6).sets (b := V) (.inl rfl) (zd 0 [.slice s2a K.push.1.sig.Y.length s2c, .slice l2a K.push.1.E.length l2c]); replace hrk := hrk.same2 hKK (fun b hb => by have := hkV b hb; omega); replace hrl := hrl.same2 hKK (fun b hb => by have := hlf b hb; omega); replace hr2 := hr2.same2 hKK (fun b hb => by have := hk2 b hb; omega); simp only [zi, zd] at gV hX hA hN hRd hrk hrl hr2; clear hKK hV; go_upto_region 16 with fail; clear v0 v1; generalize (w6.setCell ⟨V, 0, none⟩ (.slice s2a K.push.1.sig.Y.length s2c)).setCell ⟨V, 1, none⟩ (.slice l2a K.push.1.E.length l2c) = w7 at *; have hV := gV; clear gV vf0 vf1; have hz7 := hV.1
    cases ob
    ·clear hr2 hk2 hV
     go_wp2_with fail; go_roundw
     case rel => exact ⟨k - 1, n, K, sa, sc, la, lc, kf, (q + 1), by go_num, by omega, by omega, HK, hrk, hkf, hX, hA, hrl, hRd, hN, by omega⟩
     case measure => simp [intOf]; omega
    ·have v0 := hV.2.1 0 _ rfl; have v1 := hV.2.1 1 _ rfl
     have x0 := hX.2.1 0 _ rfl; have x1 := hX.2.1 1 _ rfl; have xf0 := hX.2.2 0; have xf1 := hX.2.2 1; have hK2 := zgm (lite_push HK.out); have gX := hX.puts [.slice s2a K.push.1.sig.Y.length s2c, .slice l2a K.push.1.E.length l2c] rfl; replace hA := hA.sets_other (b := KB) (by omega) (zd 0 [.slice s2a K.push.1.sig.Y.length s2c, .slice l2a K.push.1.E.length l2c]); replace hN := Only.setsR (b := KB) (by omega) (zd 0 [.slice s2a K.push.1.sig.Y.length s2c, .slice l2a K.push.1.E.length l2c]) hN; replace hRd := Rdr.sets (b := KB) (by omega) (zd 0 [.slice s2a K.push.1.sig.Y.length s2c, .slice l2a K.push.1.E.length l2c]) hRd; have hKK := (Same2.refl KB KB w7).sets (b := KB) (.inl rfl) (zd 0 [.slice s2a K.push.1.sig.Y.length s2c, .slice l2a K.push.1.E.length l2c]); replace hrl := hrl.same2 hKK (fun b hb => by have := hlf b hb; omega); replace hr2 := hr2.same2 hKK (fun b hb => by have := hk2 b hb; omega); have hz9 : KB + 1 ≤ (zi KB (zd 0 [.slice s2a K.push.1.sig.Y.length s2c, .slice l2a K.push.1.E.length l2c]) w7).heap.size := gX.1; simp only [zi, zd] at gX hA hN hRd hrl hr2 hz9; clear hKK hX hrk hkf hV; go_wp2_with fail; go_roundw
     case rel => exact ⟨k - 1, n + 1, _, _, _, _, _, k2f, (q + 1), by go_num, by omega, by omega, hK2, hr2, fun b hb => by have := hk2 b hb; omega, gX, hA, hrl, hRd, hN, hz9⟩
     case measure => simp [intOf]; omega
   have e0 : ((m : Int) == 0) = false := by simpa using (by omega : ¬ ((m : Int) = 0))
   by_cases m1 : m = 1
   ·subst m1
    go_wp2_with fail; refine (zU rb (q + 1) 2 _ (by omega) (by omega) (by omega) hRd).mono ?_; rintro e u6 ⟨⟨j, hj, rfl⟩, hRn, ho⟩; have hz6' := ho.size; replace hX := hX.only ho (by omega); replace hA := hA.only ho (by omega); replace hrk := hrk.only ho (fun h => by have := hkf _ h; omega); replace hrl := hrl.only ho (fun h => by have := hlf _ h; omega); replace hN := hN.trans ho; replace hV := hV.only ho (by omega); clear hRd ho; have hRd := hRn; clear hRn
    by_cases j0 : j = 0
    ·subst j0
     have x0 := hX.2.1 0 _ rfl; have x1 := hX.2.1 1 _ rfl; go_wp2_with fail; refine (zdP K _ _ _ (by have := HK.out.2; omega) (by exact hrk)).mono ?_; rintro e w6 ⟨us, k2f, rfl, hr2, hk2', hb6⟩; obtain ⟨s2a, s2c, _, l2a, l2c, _, rfl, _, _, _⟩ := Stk.open hr2
     have hk2 : ∀ b ∈ k2f, KB < b ∧ V < b := fun b hb => by have := hk2' b hb; omega
     obtain ⟨ob, hob⟩ : ∃ b, b = K.pop.2 := ⟨_, rfl⟩; rw [← hob]; clear hob hk2' x0 x1; have hz6 := hb6.size; replace hX := hX.below hb6; replace hA := hA.below hb6; replace hrk := hrk.below hb6; replace hrl := hrl.below hb6; replace hRd := hRd.below hb6; replace hN := hN.trans (Only.below hb6); replace hV := hV.below hb6; clear hb6; have v0 := hV.2.1 0 _ rfl; have v1 := hV.2.1 1 _ rfl; have vf0 := hV.2.2 0; have vf1 := hV.2.2 1; have gV := hV.puts [.slice s2a K.pop.1.sig.Y.length s2c, .slice l2a K.pop.1.E.length l2c] rfl; replace hX := hX.sets_other (b := V) (by omega) (zd 0 [.slice s2a K.pop.1.sig.Y.length s2c, .slice l2a K.pop.1.E.length l2c]); replace hA := hA.sets_other (b := V) (by omega) (zd 0 [.slice s2a K.pop.1.sig.Y.length s2c, .slice l2a K.pop.1.E.length l2c]); replace hN := Only.setsR (b := V) (by omega) (zd 0 [.slice s2a K.pop.1.sig.Y.length s2c, .slice l2a K.pop.1.E.length l2c]) hN; replace hRd := Rdr.sets (b := V) (by omega) (zd 0 [.slice s2a K.pop.1.sig.Y.length s2c, .slice l2a K.pop.1.E.length l2c]) hRd; have hKK := (Same2.refl V V w6).sets (b := V) (.inl rfl) (zd 0 [.slice s2a K.pop.1.sig.Y.length s2c, .slice l2a K.pop.1.E.length l2c]); replace hrk := hrk.same2 hKK (fun b hb => by have := hkV b hb; omega); replace hrl := hrl.same2 hKK (fun b hb => by have := hlf b hb; omega); replace hr2 := hr2.same2 hKK (fun b hb => by have := hk2 b hb; omega); simp only [zi, zd] at gV hX hA hN hRd hrk hrl hr2; clear hKK hV; go_upto_region 16 with fail; clear v0 v1; generalize (w6.setCell ⟨V, 0, none⟩ (.slice s2a K.pop.1.sig.Y.length s2c)).setCell ⟨V, 1, none⟩ (.slice l2a K.pop.1.E.length l2c) = w7 at *; have hV := gV; clear gV vf0 vf1; have hz7 := hV.1
     cases ob
     ·clear hr2 hk2 hV
      go_wp2_with fail; go_roundw
      case rel => exact ⟨k - 1, n, K, sa, sc, la, lc, kf, (q + 1 + 1), by go_num, by omega, by omega, HK, hrk, hkf, hX, hA, hrl, hRd, hN, by omega⟩
      case measure => simp [intOf]; omega
     ·have v0 := hV.2.1 0 _ rfl; have v1 := hV.2.1 1 _ rfl
      have x0 := hX.2.1 0 _ rfl; have x1 := hX.2.1 1 _ rfl; have xf0 := hX.2.2 0; have xf1 := hX.2.2 1; have hK2 := zgm (lite_pop HK.out); have gX := hX.puts [.slice s2a K.pop.1.sig.Y.length s2c, .slice l2a K.pop.1.E.length l2c] rfl; replace hA := hA.sets_other (b := KB) (by omega) (zd 0 [.slice s2a K.pop.1.sig.Y.length s2c, .slice l2a K.pop.1.E.length l2c]); replace hN := Only.setsR (b := KB) (by omega) (zd 0 [.slice s2a K.pop.1.sig.Y.length s2c, .slice l2a K.pop.1.E.length l2c]) hN; replace hRd := Rdr.sets (b := KB) (by omega) (zd 0 [.slice s2a K.pop.1.sig.Y.length s2c, .slice l2a K.pop.1.E.length l2c]) hRd; have hKK := (Same2.refl KB KB w7).sets (b := KB) (.inl rfl) (zd 0 [.slice s2a K.pop.1.sig.Y.length s2c, .slice l2a K.pop.1.E.length l2c]); replace hrl := hrl.same2 hKK (fun b hb => by have := hlf b hb; omega); replace hr2 := hr2.same2 hKK (fun b hb => by have := hk2 b hb; omega); have hz9 : KB + 1 ≤ (zi KB (zd 0 [.slice s2a K.pop.1.sig.Y.length s2c, .slice l2a K.pop.1.E.length l2c]) w7).heap.size := gX.1; simp only [zi, zd] at gX hA hN hRd hrl hr2 hz9; clear hKK hX hrk hkf hV; go_wp2_with fail; go_roundw
      case rel => exact ⟨k - 1, n + 1, _, _, _, _, _, k2f, (q + 1 + 1), by go_num, by omega, by omega, hK2, hr2, fun b hb => by have := hk2 b hb; omega, gX, hA, hrl, hRd, hN, hz9⟩
      case measure => simp [intOf]; omega
    ·have j1 : ((j : Int) == 0) = false := by simpa using (by omega : ¬ ((j : Int) = 0))
     clear hV; go_wp2_with fail; go_roundw
     case rel => exact ⟨k - 1, n, K, sa, sc, la, lc, kf, (q + 1 + 1), by go_num, by omega, by omega, HK, hrk, hkf, hX, hA, hrl, hRd, hN, by omega⟩
     case measure => simp [intOf]; omega
   have e1 : ((m : Int) == 1) = false := by simpa using (by omega : ¬ ((m : Int) = 1))
   have hbd := zj u5; replace hX := hX.below hbd; replace hA := hA.below hbd; replace hrk := hrk.below hbd; replace hrl := hrl.below hbd; replace hRd := hRd.below hbd; replace hN := hN.trans (Only.below hbd); replace hV := hV.below hbd; clear hbd; go_upto_region 10 with fail; refine Till.start (F := (fun U : World => U.cell? ⟨KB, 0, none⟩ = some (.slice sa K.sig.Y.length sc) ∧ U.cell? ⟨KB, 1, none⟩ = some (.slice la K.E.length lc))) (s0 := 12) (by kernel_rfl) ?_; have hF : (fun U : World => U.cell? ⟨KB, 0, none⟩ = some (.slice sa K.sig.Y.length sc) ∧ U.cell? ⟨KB, 1, none⟩ = some (.slice la K.E.length lc)) _ := And.intro (hX.2.1 0 _ rfl) (hX.2.1 1 _ rfl); refine Till.take (i := 0) (v := (.agg #[.slice sa K.sig.Y.length sc, .slice la K.E.length lc])) rfl (by kernel_rfl) (by kernel_rfl) (by kernel_rfl) (fun _ _ _ h => h) (by kernel_rfl) (Or.inl ⟨by rfl, fun U hU => ?_⟩) hF ?_
   ·obtain ⟨u0F, u1F⟩ := hU
    go_simp
   try simp only [zgA]
   refine Till.take (i := 1) (v := (.pointer (some ⟨rb, 0, none⟩))) rfl (by kernel_rfl) (by kernel_rfl) (by kernel_rfl) (fun _ _ _ h => h) (by kernel_rfl) (Or.inl ⟨by rfl, fun U hU => ?_⟩) hF ?_
   ·obtain ⟨u0F, u1F⟩ := hU
    go_simp
   try simp only [zgA]
   refine Till.take (i := 2) (v := (.slice ta l.length tc)) rfl (by kernel_rfl) (by kernel_rfl) (by kernel_rfl) (fun _ _ _ h => h) (by kernel_rfl) (Or.inl ⟨by rfl, fun U hU => ?_⟩) hF ?_
   ·obtain ⟨u0F, u1F⟩ := hU
    go_simp
   try simp only [zgA]
   refine Till.take (i := 3) (v := (.pointer (some ⟨rb, 0, none⟩))) rfl (by kernel_rfl) (by kernel_rfl) (by kernel_rfl) (fun _ _ _ h => h) (by kernel_rfl) (Or.inl ⟨by rfl, fun U hU => ?_⟩) hF ?_
   ·obtain ⟨u0F, u1F⟩ := hU
    go_simp
   try simp only [zgA]
   refine Till.one (i := 4) (by kernel_rfl) rfl (fun J9 hK => ?_); go_simp; have hba : Below u5.drew.heap.size u5.drew (u5.alloc (.cells #[.int .i64 1, .int .i64 2] 3)).drew := zdX (zb u5 _).drew; have hLn : Lst rb [.int .i64 1, .int .i64 2] u5.heap.size (u5.alloc (.cells #[.int .i64 1, .int .i64 2] 3)).drew := (Lst.new (w := u5) hRd.lt _ _).drew; replace hX := hX.below hba; replace hA := hA.below hba; replace hrk := hrk.below hba; replace hrl := hrl.below hba; replace hRd := hRd.below hba; replace hN := hN.trans (Only.below hba); replace hV := hV.below hba; replace hF := And.intro (hX.2.1 0 _ rfl) (hX.2.1 1 _ rfl); have hzb := hba.size; clear hba; refine hK.out _ _ (fun _ => hF) ?_; clear hK
   try simp only [zgA]
   generalize (u5.alloc (.cells #[.int .i64 1, .int .i64 2] 3)).drew = u6 at *; refine Till.one (i := 5) (by kernel_rfl) rfl (fun J9 hK => ?_); go_simp; go_wp2_with (go_at_call 71; refine (zaV 2 [1, 2] [.int .i64 1, .int .i64 2] rfl rfl rb (q + 1) _ _ (by omega) (by simp) (by simp) (by exact hLn) hRd).mono ?_; rintro e u7 ⟨⟨dv, hdv, rfl⟩, hRn, ho⟩)
   have hd1 : 1 ≤ dv ∧ dv ≤ 2 := by simp at hdv; omega
   have hz7 := ho.size; replace hX := hX.only ho (by omega); replace hA := hA.only ho (by omega); replace hrk := hrk.only ho (fun h => by have := hkf _ h; omega); replace hrl := hrl.only ho (fun h => by have := hlf _ h; omega); replace hN := hN.trans ho; replace hV := hV.only ho (by omega); clear hRd ho hdv hLn; have hRd := hRn; clear hRn; replace hF := And.intro (hX.2.1 0 _ rfl) (hX.2.1 1 _ rfl); refine hK.out _ _ (fun _ => hF) ?_; clear hK
   try simp only [zgA]
   refine Till.one (i := 6) (by kernel_rfl) rfl (fun J9 hK => ?_); go_simp; go_wp2_with (go_at_call 70; refine (zdS 2 l _ lf dv rb ((q + 1) + 1) _ (by omega) (by omega) (by omega) (by simp only [gcap]; omega) hl1 hl6 HL (by exact hrl) (fun h => by have := hlf _ h; omega) (by exact hRd)).mono ?_; rintro e u8 ⟨⟨f, vf, ff, hwf, rfl, hrf, hff⟩, hRn, ho⟩)
   have HWF : wtV f.cd ≤ 75030 := by have h4 : fcap 2 = 15006 := rfl; rw [h4] at hwf; omega
   have hz8 := ho.size; replace hX := hX.only ho (by omega); replace hA := hA.only ho (by omega); replace hrk := hrk.only ho (fun h => by have := hkf _ h; omega); replace hrl := hrl.only ho (fun h => by have := hlf _ h; omega); replace hN := hN.trans ho; replace hV := hV.only ho (by omega); clear hRd ho hwf; have hRd := hRn; clear hRn; replace hF := And.intro (hX.2.1 0 _ rfl) (hX.2.1 1 _ rfl); refine hK.out _ _ (fun _ => hF) ?_; clear hK
   try simp only [zgA]
   refine Till.one (i := 7) (by kernel_rfl) rfl (fun J9 hK => ?_); go_simp; go_wp2_with (go_at_call 34; refine (zcZ K f _ _ _ _ _ (by have := HK.out.2; omega) (by exact hrk) (by exact hrf)).mono ?_; rintro e w6 ⟨us, k2f, rfl, hr2, hk2', hb6⟩); obtain ⟨s2a, s2c, _, l2a, l2c, _, rfl, _, _, _⟩ := Stk.open hr2
   have hk2 : ∀ b ∈ k2f, KB < b ∧ V < b := fun b hb => by have := hk2' b hb; have := hV.1; omega
   have hz9 := hb6.size; replace hX := hX.below hb6; replace hA := hA.below hb6; replace hrk := hrk.below hb6; replace hrl := hrl.below hb6; replace hRd := hRd.below hb6; replace hN := hN.trans (Only.below hb6); replace hV := hV.below hb6; clear hk2' hb6 hrf; obtain ⟨T2, hT2⟩ : ∃ T, T = K.tell f := ⟨_, rfl⟩; have HT2 : Hid (StkLite (n + 1) T2.1) := zgm (by rw [hT2]; exact lite_tell HK.out HWF); rw [← hT2] at hr2 ⊢; clear hT2 HWF hff; obtain ⟨T1, ob⟩ := T2; replace hF := And.intro (hX.2.1 0 _ rfl) (hX.2.1 1 _ rfl); refine hK.out _ _ (fun _ => hF) ?_; clear hK
   try simp only [zgA]
   refine Till.take (i := 8) (v := (.tuple #[.agg #[.slice s2a T1.sig.Y.length s2c, .slice l2a T1.E.length l2c], .bool ob])) rfl (by kernel_rfl) (by kernel_rfl) (by kernel_rfl) (fun _ _ _ h => h) (by kernel_rfl) (Or.inl ⟨by rfl, fun U hU => ?_⟩) hF ?_
   ·obtain ⟨u0F, u1F⟩ := hU
    go_simp
   try simp only [zgA]
   refine Till.take (i := 9) (v := (.agg #[.slice s2a T1.sig.Y.length s2c, .slice l2a T1.E.length l2c])) rfl (by kernel_rfl) (by kernel_rfl) (by kernel_rfl) (fun _ _ _ h => h) (by kernel_rfl) (Or.inl ⟨by rfl, fun U hU => ?_⟩) hF ?_
   ·obtain ⟨u0F, u1F⟩ := hU
    go_simp
   try simp only [zgA]
   refine Till.take (i := 10) (v := (.bool ob)) rfl (by kernel_rfl) (by kernel_rfl) (by kernel_rfl) (fun _ _ _ h => h) (by kernel_rfl) (Or.inl ⟨by rfl, fun U hU => ?_⟩) hF ?_
   ·obtain ⟨u0F, u1F⟩ := hU
    go_simp
   try simp only [zgA]
   refine Till.one (i := 11) (by kernel_rfl) rfl (fun J9 hK => ?_); have v0 := hV.2.1 0 _ rfl; have v1 := hV.2.1 1 _ rfl; have vf0 := hV.2.2 0; have vf1 := hV.2.2 1; go_simp; have gV := hV.puts [.slice s2a T1.sig.Y.length s2c, .slice l2a T1.E.length l2c] rfl; replace hX := hX.sets_other (b := V) (by omega) (zd 0 [.slice s2a T1.sig.Y.length s2c, .slice l2a T1.E.length l2c]); replace hA := hA.sets_other (b := V) (by omega) (zd 0 [.slice s2a T1.sig.Y.length s2c, .slice l2a T1.E.length l2c]); replace hN := Only.setsR (b := V) (by omega) (zd 0 [.slice s2a T1.sig.Y.length s2c, .slice l2a T1.E.length l2c]) hN; replace hRd := Rdr.sets (b := V) (by omega) (zd 0 [.slice s2a T1.sig.Y.length s2c, .slice l2a T1.E.length l2c]) hRd; have hKK := (Same2.refl V V w6).sets (b := V) (.inl rfl) (zd 0 [.slice s2a T1.sig.Y.length s2c, .slice l2a T1.E.length l2c]); replace hrk := hrk.same2 hKK (fun b hb => by have := hkV b hb; omega); replace hrl := hrl.same2 hKK (fun b hb => by have := hlf b hb; omega); replace hr2 := hr2.same2 hKK (fun b hb => by have := hk2 b hb; omega); simp only [zi, zd] at gV hX hA hN hRd hrk hrl hr2; replace hF := And.intro (hX.2.1 0 _ rfl) (hX.2.1 1 _ rfl); refine hK.out _ _ (fun _ => hF) ?_; clear hK hKK hV v0 v1 vf0 vf1
   try simp only [zgA]
   refine Till.one (i := 12) (by kernel_rfl) rfl (fun J9 hK => ?_); go_simp; refine hK.out _ _ (fun h => absurd h (by decide)) ?_; clear hK hF
   try simp only [zgA]
   refine Till.done (by kernel_rfl) ?_ _; go_upto_region 16 with fail; generalize (w6.setCell ⟨V, 0, none⟩ (.slice s2a T1.sig.Y.length s2c)).setCell ⟨V, 1, none⟩ (.slice l2a T1.E.length l2c) = w7 at *; have hV := gV; clear gV; have hz7 := hV.1
   cases ob
   ·clear hr2 hk2 hV
    go_wp2_with fail; go_roundw
    case rel => exact ⟨k - 1, n, K, sa, sc, la, lc, kf, ((q + 1) + 1 + gcap 2), by go_num, by omega, by simp only [gcap]; omega, HK, hrk, hkf, hX, hA, hrl, hRd, hN, by omega⟩
    case measure => simp [intOf]; omega
   ·have v0 := hV.2.1 0 _ rfl; have v1 := hV.2.1 1 _ rfl
    have x0 := hX.2.1 0 _ rfl; have x1 := hX.2.1 1 _ rfl; have xf0 := hX.2.2 0; have xf1 := hX.2.2 1; have hK2 := zgm (HT2.out); have gX := hX.puts [.slice s2a T1.sig.Y.length s2c, .slice l2a T1.E.length l2c] rfl; replace hA := hA.sets_other (b := KB) (by omega) (zd 0 [.slice s2a T1.sig.Y.length s2c, .slice l2a T1.E.length l2c]); replace hN := Only.setsR (b := KB) (by omega) (zd 0 [.slice s2a T1.sig.Y.length s2c, .slice l2a T1.E.length l2c]) hN; replace hRd := Rdr.sets (b := KB) (by omega) (zd 0 [.slice s2a T1.sig.Y.length s2c, .slice l2a T1.E.length l2c]) hRd; have hKK := (Same2.refl KB KB w7).sets (b := KB) (.inl rfl) (zd 0 [.slice s2a T1.sig.Y.length s2c, .slice l2a T1.E.length l2c]); replace hrl := hrl.same2 hKK (fun b hb => by have := hlf b hb; omega); replace hr2 := hr2.same2 hKK (fun b hb => by have := hk2 b hb; omega); have hz9 : KB + 1 ≤ (zi KB (zd 0 [.slice s2a T1.sig.Y.length s2c, .slice l2a T1.E.length l2c]) w7).heap.size := gX.1; simp only [zi, zd] at gX hA hN hRd hrl hr2 hz9; clear hKK hX hrk hkf hV; go_wp2_with fail; go_roundw
    case rel => exact ⟨k - 1, n + 1, _, _, _, _, _, k2f, ((q + 1) + 1 + gcap 2), by go_num, by omega, by simp only [gcap]; omega, hK2, hr2, fun b hb => by have := hk2 b hb; omega, gX, hA, hrl, hRd, hN, hz9⟩
    case measure => simp [intOf]; omega
  ·obtain rfl : k = 0 := by omega
   have x0 := hX.2.1 0 _ rfl; have x1 := hX.2.1 1 _ rfl; go_upto_region 18 with fail; have yr0 := hA.2.1 0 _ rfl; have yr1 := hA.2.1 1 _ rfl; have zr0 := hA.2.2 0; have zr1 := hA.2.2 1; have gR := hA.puts [.slice sa K.sig.Y.length sc, .slice la K.E.length lc] rfl; have hO5 := Only.setsR (b := w.heap.size) (zgn _) (zd 0 [.slice sa K.sig.Y.length sc, .slice la K.E.length lc]) hN; have hR9 := Rdr.sets (b := w.heap.size) (by omega) (zd 0 [.slice sa K.sig.Y.length sc, .slice la K.E.length lc]) hRd; have hKK := (Same2.refl w.heap.size w.heap.size wr).sets (b := w.heap.size) (.inl rfl) (zd 0 [.slice sa K.sig.Y.length sc, .slice la K.E.length lc]); simp only [zi, zd] at gR hO5 hR9 hKK; have r0 := gR.2.1 0 _ rfl; have r1 := gR.2.1 1 _ rfl; have hrk2 := hrk.same2 hKK (fun b hb => by have := hkf b hb; omega); have hrl2 := hrl.same2 hKK (fun b hb => by have := hlf b hb; omega); clear gR hKK hN hRd hrk hrl hA hX; go_wp2_with fail; refine bodyPost_ret (v := .tuple #[.agg #[.slice sa K.sig.Y.length sc, .slice la K.E.length lc], .slice ta l.length tc]) (by simp [results, Tryz.results69, go_sem, r0, r1]) rfl ?_; exact ⟨⟨K, l, _, _, _, _, _, _, kf, lf, HK.out.mono (by omega), ⟨hl1, hl6, HL.out⟩, rfl, hrk2, hrl2, fun b hb => by have := hkf b hb; omega, fun b hb => by have := hlf b hb; omega⟩, hR9.mono (by omega), hO5⟩
def DrawnKF (e : Ending) (w' : World) : Prop := ∃ (K : Stk) (f : Fm) (sa : Option Addr) (sc : Nat) (la : Option Addr) (lc : Nat) (b3 : Option Addr) (d3 : Nat) (b5 : Option Addr) (d5 : Nat) (b6 : Option Addr) (d6 : Nat) (b7 : Option Addr) (d7 : Nat) (b11 : Option Addr) (d11 : Nat) (kf ff : List Nat), wtV K.cd ≤ 460000 ∧ wtV f.cd ≤ 160000 ∧
 e = .returned (.tuple #[.agg #[.slice sa K.sig.Y.length sc, .slice la K.E.length lc], .agg (yTa f b3 d3 b5 d5 b6 d6 b7 d7 b11 d11)]) ∧ RdVs w' K.cd [.slice sa K.sig.Y.length sc, .slice la K.E.length lc] kf ∧ RdVs w' f.cd (yTl f b3 d3 b5 d5 b6 d6 b7 d7 b11 d11) ff
theorem lite_fit {K : Stk} (h : StkLite 6 K) : zbu 5 2 451000 K := ⟨h.1, zgx h.2 (by decide)⟩
theorem zb5 (v : Value) (w : World) (hv : Byts w v) :
  Calls Tryz.prog 32 #[v] w fun e w' => DrawnKF e w' ∧ Below w.heap.size w w' := by
 have hA := (Box.new w [.slice none 0 0, .slice none 0 0] 53).alloc (.cells yYa 36); have hC := Box.new (w.alloc (.cells #[.slice none 0 0, .slice none 0 0] 53)) yYl 36; rw [zgr] at hC; have hbn : Below w.heap.size w ((w.alloc (.cells #[.slice none 0 0, .slice none 0 0] 53)).alloc (.cells yYa 36)) := ((zgy _ _).alloc (zgn _) _).alloc (by simp) _
 have hs0 : ((w.alloc (.cells #[.slice none 0 0, .slice none 0 0] 53)).alloc (.cells yYa 36)).heap.size = w.heap.size + 2 := by simp
 go_enter Tryz.func32, Tryz.ntmps32; go_upto_region 1 with fail; generalize (w.alloc (.cells #[.slice none 0 0, .slice none 0 0] 53)).alloc (.cells yYa 36) = W0 at *; go_wp2_with fail; refine (zeA v _ (by exact hv.below hbn)).mono ?_; rintro e u1 ⟨rfl, hu1, hb1⟩; rw [hs0] at hu1 ⊢; replace hA := hA.below hb1; replace hC := hC.below hb1; have hBW := hbn.trans (hb1.mono (by omega)); have hzu := hb1.size; rw [hs0] at hzu; obtain ⟨rb, hrb⟩ : ∃ rb, rb = w.heap.size + 2 := ⟨_, rfl⟩; rw [← hrb] at hu1 ⊢
 have hrw1 : rb ≤ w.heap.size + 2 := by omega
 have hrw2 : w.heap.size + 2 ≤ rb := by omega
 clear hrb hb1 hs0 hbn; have hl1 := hu1.lt; go_wp2_with fail; refine (zeX rb 0 _ (by omega) hu1).mono ?_; rintro e w1 ⟨⟨K, l, sa, sc, la, lc, ta, tc, kf, lf, hlite, ⟨hl1', hl6, hlx⟩, rfl, hrk, hrl, hkf0, hlf0⟩, hRd, ho1⟩; have HL := zgm hlx; have HF := zgm (lite_fit hlite); clear hlx hlite; have hz1 := ho1.size
 have hkf : ∀ b ∈ kf, rb < b := fun b hb => by have := hkf0 b hb; omega
 have hlf : ∀ b ∈ lf, rb < b := fun b hb => by have := hlf0 b hb; omega
 replace hA := hA.only ho1 (by omega); replace hC := hC.only ho1 (by omega); replace hBW := hBW.trans (ho1.toBelow (B := w.heap.size) (by omega) (fun b hb => by simp at hb; omega)); clear ho1 hu1 hkf0 hlf0; obtain ⟨KB, hKB⟩ : ∃ S, S = w1.heap.size := ⟨_, rfl⟩; have hX := Box.new w1 [.slice sa K.sig.Y.length sc, .slice la K.E.length lc] 53; rw [← hKB] at hX
 have hrK : rb < KB := by have := hRd.lt; omega
 go_upto_region 3 with fail; rw [← hKB]; have hba := zb w1 (.cells #[.slice sa K.sig.Y.length sc, .slice la K.E.length lc] 53); replace hA := hA.below hba; replace hC := hC.below hba; replace hrk := hrk.below hba; replace hrl := hrl.below hba; replace hRd := hRd.below hba; replace hBW := hBW.trans (hba.mono (by have := hBW.size; omega)); have hzK : KB + 1 ≤ (w1.alloc (.cells #[.slice sa K.sig.Y.length sc, .slice la K.E.length lc] 53)).heap.size := hX.1; clear hba hKB; generalize w1.alloc (.cells #[.slice sa K.sig.Y.length sc, .slice la K.E.length lc] 53) = w2 at *; go_wp2_with fail; refine (zaV 2 [1, 2] [.int .i64 1, .int .i64 2] rfl rfl rb (0 + 2000) _ _ (by omega) (by simp) (by simp) (by exact Lst.new hRd.lt _ _) (hRd.below (zb _ _))).mono ?_; rintro e w3 ⟨⟨dv, hdv, rfl⟩, hRn, ho⟩
 have hd1 : 1 ≤ dv ∧ dv ≤ 2 := by simp at hdv; omega
 have hbn := zb w2 (.cells #[.int .i64 1, .int .i64 2] 3); have hz3 := ho.size; rw [zgr] at hz3; replace hA := hA.below hbn; replace hC := hC.below hbn; replace hX := hX.below hbn; replace hrk := hrk.below hbn; replace hrl := hrl.below hbn; replace hRd := hRd.below hbn; replace hBW := hBW.trans (hbn.mono (by have := hBW.size; omega)); replace hA := hA.only ho (by omega); replace hC := hC.only ho (by omega); replace hX := hX.only ho (by omega); replace hrk := hrk.only ho (fun h => by have := hkf _ h; omega); replace hrl := hrl.only ho (fun h => by have := hlf _ h; omega); replace hBW := hBW.trans (ho.toBelow (B := w.heap.size) (by have := hBW.size; omega) (fun b hb => by simp at hb; omega)); clear hRd hbn ho hdv; have hRd := hRn; clear hRn; go_wp2_with fail; refine (zdS 2 l _ lf dv rb (0 + 2000 + 1) _ (by omega) (by omega) (by omega) (by simp only [gcap]; omega) hl1' hl6 HL (by exact hrl) (fun h => by have := hlf _ h; omega) (by exact hRd)).mono ?_; rintro e w4 ⟨⟨f, vf, ff, hwf0, rfl, hrf, hff0⟩, hRn, ho⟩; obtain ⟨b3, d3, _, b5, d5, _, b6, d6, _, b7, d7, _, b11, d11, _, rfl, -, n0, n1, n2, n3, n4, n5, n6, n7, n8, n9⟩ := Fm.open hrf; clear n0 n1 n2 n3 n4 n5 n6 n7 n8 n9
 have hwf : wtV f.cd ≤ 160000 := by have h4 : fcap 2 = 15006 := rfl; rw [h4] at hwf0; omega
 have hff : ∀ b ∈ ff, rb < b := fun b hb => by
  rcases hff0 b hb with h | h
  ·exact hlf b h
  ·omega
 have hz4 := ho.size; replace hA := hA.only ho (by omega); replace hC := hC.only ho (by omega); replace hX := hX.only ho (by omega); replace hrk := hrk.only ho (fun h => by have := hkf _ h; omega); replace hrl := hrl.only ho (fun h => by have := hlf _ h; omega); replace hBW := hBW.trans (ho.toBelow (B := w.heap.size) (by have := hBW.size; omega) (fun b hb => by simp at hb; omega)); clear hRd ho hwf0 hff0; have hRd := hRn; clear hRn; obtain ⟨F, hFe⟩ : ∃ S, S = w4.heap.size := ⟨_, rfl⟩; have hF := Box.new w4 (yTl f b3 d3 b5 d5 b6 d6 b7 d7 b11 d11) 36; rw [← hFe] at hF
 have hKF : KB < F := by have := hX.1; omega
 have hkF : ∀ b ∈ kf, b < F := fun b hb => by have := hrk.lt _ b hb; omega
 have hlF : ∀ b ∈ lf, b < F := fun b hb => by have := hrl.lt _ b hb; omega
 have hffF : ∀ b ∈ ff, b < F := fun b hb => by rw [hFe]; exact hrf.lt _ b hb
 go_upto_region 4 with fail; rw [← hFe]; have hba := zb w4 (.cells (yTa f b3 d3 b5 d5 b6 d6 b7 d7 b11 d11) 36); replace hA := hA.below hba; replace hC := hC.below hba; replace hX := hX.below hba; replace hrk := hrk.below hba; replace hrl := hrl.below hba; replace hRd := hRd.below hba; replace hBW := hBW.trans (hba.mono (by have := hBW.size; omega)); replace hrf := hrf.below hba; have hzF : F + 1 ≤ (w4.alloc (.cells (yTa f b3 d3 b5 d5 b6 d6 b7 d7 b11 d11) 36)).heap.size := hF.1; clear hba hFe; generalize w4.alloc (.cells (yTa f b3 d3 b5 d5 b6 d6 b7 d7 b11 d11) 36) = w5 at *; go_wp2_with fail; refine (zU rb (0 + 2000 + 1 + gcap 2) 12 _ (by simp only [gcap]; omega) (by omega) (by omega) hRd).mono ?_; rintro e u ⟨⟨d, hd, rfl⟩, hRn, ho⟩; have hzu5 := ho.size; replace hA := hA.only ho (by omega); replace hC := hC.only ho (by omega); replace hX := hX.only ho (by omega); replace hF := hF.only ho (by omega); replace hrk := hrk.only ho (fun h => by have := hkf _ h; omega); replace hrl := hrl.only ho (fun h => by have := hlf _ h; omega); replace hrf := hrf.only ho (fun h => by have := hff _ h; omega); replace hBW := hBW.trans (ho.toBelow (B := w.heap.size) (by have := hBW.size; omega) (fun b hb => by simp at hb; omega)); clear hRd ho; have hRd := hRn.mono (q := 2020) (by simp only [gcap]; omega); clear hRn
 by_cases d0 : d = 0
 ·subst d0
  go_wp2_with fail; refine (zfV rb 2020 _ (by omega) (by exact hRd)).mono ?_; rintro e u7 ⟨⟨s2, g, a2, c2, g3, j3, g5, j5, g6, j6, g7, j7, g11, j11, sf2, gf, _, hwg, rfl, _, hrg, _, hgf⟩, hRn, ho⟩; have hzu7 := ho.size; have hFl := hF.1; replace hA := hA.only ho (by omega); replace hC := hC.only ho (by omega); replace hX := hX.only ho (by omega); replace hrk := hrk.only ho (fun h => by have := hkf _ h; omega); replace hrl := hrl.only ho (fun h => by have := hlf _ h; omega); replace hBW := hBW.trans (ho.toBelow (B := w.heap.size) (by have := hBW.size; omega) (fun b hb => by simp at hb; omega)); replace hF := hF.only ho (by omega); clear hRd ho hrf hff hwf; have hRd := hRn; clear hRn
  have hff : ∀ b ∈ gf, rb < b ∧ F < b := fun b hb => by have := hgf b hb; omega
  obtain ⟨y0, y1, y2, y3, y4, y5, y6, y7, y8, y9, y10, y11⟩ := yR12 hF.2.1 rfl; obtain ⟨z0, z1, z2, z3, z4, z5, z6, z7, z8, z9, z10, z11⟩ := yQ12 hF.2.2; have gF := hF.puts (yTl g g3 j3 g5 j5 g6 j6 g7 j7 g11 j11) rfl; replace hA := hA.sets_other (b := F) (by omega) (zd 0 (yTl g g3 j3 g5 j5 g6 j6 g7 j7 g11 j11)); replace hC := hC.sets_other (b := F) (by omega) (zd 0 (yTl g g3 j3 g5 j5 g6 j6 g7 j7 g11 j11)); replace hX := hX.sets_other (b := F) (by omega) (zd 0 (yTl g g3 j3 g5 j5 g6 j6 g7 j7 g11 j11)); replace hBW := zab (b := F) (by omega) (zd 0 (yTl g g3 j3 g5 j5 g6 j6 g7 j7 g11 j11)) hBW; replace hRd := Rdr.sets (b := F) (by omega) (zd 0 (yTl g g3 j3 g5 j5 g6 j6 g7 j7 g11 j11)) hRd; have hKK := (Same2.refl F F u7).sets (b := F) (.inl rfl) (zd 0 (yTl g g3 j3 g5 j5 g6 j6 g7 j7 g11 j11)); replace hrk := hrk.same2 hKK (fun b hb => by have := hkF b hb; omega); replace hrl := hrl.same2 hKK (fun b hb => by have := hlF b hb; omega); have hrf := hrg.same2 hKK (fun b hb => by have := hff b hb; omega); simp only [zi, zd] at gF hA hC hX hBW hRd hrk hrl hrf; clear hKK hF hrg; go_upto_region 6 with fail; clear y0 z0 y1 z1 y2 z2 y3 z3 y4 z4 y5 z5 y6 z6 y7 z7 y8 z8 y9 z9 y10 z10 y11 z11; generalize (((((((((((u7.setCell ⟨F, 0, none⟩ (.int .i64 g.kind)).setCell ⟨F, 1, none⟩ (.int .i64 g.L.M.kind)).setCell ⟨F, 2, none⟩ (.string g.L.M.a.name)).setCell ⟨F, 3, none⟩ (.slice g3 g.L.M.a.K.length j3)).setCell ⟨F, 4, none⟩ (.string g.L.M.b.name)).setCell ⟨F, 5, none⟩ (.slice g5 g.L.M.b.K.length j5)).setCell ⟨F, 6, none⟩ (.slice g6 g.L.M.N.length j6)).setCell ⟨F, 7, none⟩ (.slice g7 g.L.M.T.length j7)).setCell ⟨F, 8, none⟩ (.int .i64 g.L.M.O)).setCell ⟨F, 9, none⟩ (.bool g.L.M.C)).setCell ⟨F, 10, none⟩ (.bool g.L.no)).setCell ⟨F, 11, none⟩ (.slice g11 g.K.length j11) = u at *; have hF := gF; clear gF; have hwf := hwg; replace hff : ∀ b ∈ gf, rb < b := fun b hb => (hff b hb).1; have hbd := zj u; replace hA := hA.below hbd; replace hC := hC.below hbd; replace hX := hX.below hbd; replace hF := hF.below hbd; replace hrf := hrf.below hbd; replace hrk := hrk.below hbd; replace hrl := hrl.below hbd; replace hRd := hRd.below hbd; replace hBW := hBW.trans (hbd.mono (by have := hBW.size; omega)); clear hbd; have hKu := hX.1; go_upto_region 6 with fail; refine Till.start (F := (fun U : World => U.cell? ⟨KB, 0, none⟩ = some (.slice sa K.sig.Y.length sc) ∧ U.cell? ⟨KB, 1, none⟩ = some (.slice la K.E.length lc) ∧ (yTd g g3 j3 g5 j5 g6 j6 g7 j7 g11 j11 U F))) (s0 := 5) (by kernel_rfl) ?_; have hF9 : (fun U : World => U.cell? ⟨KB, 0, none⟩ = some (.slice sa K.sig.Y.length sc) ∧ U.cell? ⟨KB, 1, none⟩ = some (.slice la K.E.length lc) ∧ (yTd g g3 j3 g5 j5 g6 j6 g7 j7 g11 j11 U F)) _ := ⟨hX.2.1 0 _ rfl, hX.2.1 1 _ rfl, hF.2.1 0 _ rfl, hF.2.1 1 _ rfl, hF.2.1 2 _ rfl, hF.2.1 3 _ rfl, hF.2.1 4 _ rfl, hF.2.1 5 _ rfl, hF.2.1 6 _ rfl, hF.2.1 7 _ rfl, hF.2.1 8 _ rfl, hF.2.1 9 _ rfl, hF.2.1 10 _ rfl, hF.2.1 11 _ rfl⟩; refine Till.take (i := 0) (v := (.pointer (some ⟨rb, 0, none⟩))) rfl (by kernel_rfl) (by kernel_rfl) (by kernel_rfl) (fun _ _ _ h => h) (by kernel_rfl) (Or.inl ⟨by rfl, fun U hU => ?_⟩) hF9 ?_
  ·obtain ⟨u0F, u1F, u2F, u3F, u4F, u5F, u6F, u7F, u8F, u9F, u10F, u11F, u12F, u13F⟩ := hU
   go_simp
  try simp only [zgA]
  refine Till.take (i := 1) (v := (.agg #[.slice sa K.sig.Y.length sc, .slice la K.E.length lc])) rfl (by kernel_rfl) (by kernel_rfl) (by kernel_rfl) (fun _ _ _ h => h) (by kernel_rfl) (Or.inl ⟨by rfl, fun U hU => ?_⟩) hF9 ?_
  ·obtain ⟨u0F, u1F, u2F, u3F, u4F, u5F, u6F, u7F, u8F, u9F, u10F, u11F, u12F, u13F⟩ := hU
   go_simp
  try simp only [zgA]
  refine Till.take (i := 3) (v := (.agg (yTa g g3 j3 g5 j5 g6 j6 g7 j7 g11 j11))) rfl (by kernel_rfl) (by kernel_rfl) (by kernel_rfl) (fun _ _ _ h => h) (by kernel_rfl) (Or.inl ⟨by rfl, fun U hU => ?_⟩) hF9 ?_
  ·obtain ⟨u0F, u1F, u2F, u3F, u4F, u5F, u6F, u7F, u8F, u9F, u10F, u11F, u12F, u13F⟩ := hU
   go_simp
  try simp only [zgA]
  refine Till.one (i := 2) (by kernel_rfl) rfl (fun J9 hK => ?_); go_simp; go_wp2_with (go_at_call 73; refine (zcR 5 2 451000 K _ kf rb (2020 + 1000) _ (by omega) (by omega) (by omega) HF.out (by omega) (by exact hrk) (fun h => by have := hkf _ h; omega) hRd).mono ?_; rintro e w3 ⟨⟨K9, a9, c9, m9, n9, k9, hfit, rfl, hr9, hk9⟩, hR3, ho3⟩); have HF9 := zgm hfit.2; have hz39 := ho3.size; replace hA := hA.only ho3 (by omega); replace hC := hC.only ho3 (by omega); replace hX := hX.only ho3 (by omega); replace hF := hF.only ho3 (by omega); replace hrk := hrk.only ho3 (fun h => by have := hkf _ h; omega); replace hrl := hrl.only ho3 (fun h => by have := hlf _ h; omega); replace hrf := hrf.only ho3 (fun h => by have := hff _ h; omega); replace hBW := hBW.trans (ho3.toBelow (B := w.heap.size) (by have := hBW.size; omega) (fun b hb => by simp at hb; omega)); clear ho3 hRd hfit; replace hF9 : (fun U : World => U.cell? ⟨KB, 0, none⟩ = some (.slice sa K.sig.Y.length sc) ∧ U.cell? ⟨KB, 1, none⟩ = some (.slice la K.E.length lc) ∧ (yTd g g3 j3 g5 j5 g6 j6 g7 j7 g11 j11 U F)) _ := ⟨hX.2.1 0 _ rfl, hX.2.1 1 _ rfl, hF.2.1 0 _ rfl, hF.2.1 1 _ rfl, hF.2.1 2 _ rfl, hF.2.1 3 _ rfl, hF.2.1 4 _ rfl, hF.2.1 5 _ rfl, hF.2.1 6 _ rfl, hF.2.1 7 _ rfl, hF.2.1 8 _ rfl, hF.2.1 9 _ rfl, hF.2.1 10 _ rfl, hF.2.1 11 _ rfl⟩; refine hK.out _ _ (fun _ => hF9) ?_; clear hK
  try simp only [zgA]
  refine Till.one (i := 4) (by kernel_rfl) rfl (fun J9 hK => ?_); have yr0 := hA.2.1 0 _ rfl; have yr1 := hA.2.1 1 _ rfl; have zr0 := hA.2.2 0; have zr1 := hA.2.2 1; go_simp; have gA := hA.puts [.slice a9 K9.sig.Y.length c9, .slice m9 K9.E.length n9] rfl; have gC := hC.sets_other (b := w.heap.size) (by omega) (zd 0 [.slice a9 K9.sig.Y.length c9, .slice m9 K9.E.length n9]); have gX := hX.sets_other (b := w.heap.size) (by omega) (zd 0 [.slice a9 K9.sig.Y.length c9, .slice m9 K9.E.length n9]); have gF := hF.sets_other (b := w.heap.size) (by omega) (zd 0 [.slice a9 K9.sig.Y.length c9, .slice m9 K9.E.length n9]); have hBE := zab (b := w.heap.size) (zgn _) (zd 0 [.slice a9 K9.sig.Y.length c9, .slice m9 K9.E.length n9]) hBW; have hK1 := (Same2.refl w.heap.size (w.heap.size + 1) w3).sets (b := w.heap.size) (.inl rfl) (zd 0 [.slice a9 K9.sig.Y.length c9, .slice m9 K9.E.length n9]); simp only [zi, zd] at gA gC gX gF hBE hK1; clear hA hC hX hF hBW yr0 yr1 zr0 zr1; have hX := gX; have hF := gF; refine hK.out _ _ (fun _ => ⟨hX.2.1 0 _ rfl, hX.2.1 1 _ rfl, hF.2.1 0 _ rfl, hF.2.1 1 _ rfl, hF.2.1 2 _ rfl, hF.2.1 3 _ rfl, hF.2.1 4 _ rfl, hF.2.1 5 _ rfl, hF.2.1 6 _ rfl, hF.2.1 7 _ rfl, hF.2.1 8 _ rfl, hF.2.1 9 _ rfl, hF.2.1 10 _ rfl, hF.2.1 11 _ rfl⟩) ?_; clear hK
  try simp only [zgA]
  refine Till.one (i := 5) (by kernel_rfl) rfl (fun J9 hK => ?_); obtain ⟨y0, y1, y2, y3, y4, y5, y6, y7, y8, y9, y10, y11⟩ := yR12 gC.2.1 rfl; obtain ⟨z0, z1, z2, z3, z4, z5, z6, z7, z8, z9, z10, z11⟩ := yQ12 gC.2.2; go_simp; generalize (w3.setCell ⟨w.heap.size, 0, none⟩ (.slice a9 K9.sig.Y.length c9)).setCell ⟨w.heap.size, 1, none⟩ (.slice m9 K9.E.length n9) = w4 at *; have gC2 := gC.puts (yTl g g3 j3 g5 j5 g6 j6 g7 j7 g11 j11) rfl; have gA2 := gA.sets_other (b := w.heap.size + 1) (by omega) (zd 0 (yTl g g3 j3 g5 j5 g6 j6 g7 j7 g11 j11)); have hBE2 := zab (b := w.heap.size + 1) (by omega) (zd 0 (yTl g g3 j3 g5 j5 g6 j6 g7 j7 g11 j11)) hBE; have hK2 := hK1.sets (b := w.heap.size + 1) (.inr rfl) (zd 0 (yTl g g3 j3 g5 j5 g6 j6 g7 j7 g11 j11)); simp only [zi, zd] at gC2 gA2 hBE2 hK2; refine hK.out _ _ (fun h => absurd h (by decide)) ?_; clear hK y0 z0 y1 z1 y2 z2 y3 z3 y4 z4 y5 z5 y6 z6 y7 z7 y8 z8 y9 z9 y10 z10 y11 z11
  try simp only [zgA]
  refine Till.done (by kernel_rfl) ?_ _; have r0 := gA2.2.1 0 _ rfl; have r1 := gA2.2.1 1 _ rfl; obtain ⟨e0, e1, e2, e3, e4, e5, e6, e7, e8, e9, e10, e11⟩ := yR12 gC2.2.1 rfl; have hr92 := hr9.same2 hK2 (fun b hb => by have := hk9 b hb; omega); have hrf2 := hrf.same2 hK2 (fun b hb => by have := hff b hb; omega); clear gC2 gA2 gC gA gX gF hX hF hF9 hBE hK1 hK2 hr9 hrf; go_wp2_with fail; refine bodyPost_ret (v := .tuple #[.agg #[.slice a9 K9.sig.Y.length c9, .slice m9 K9.E.length n9], .agg (yTa g g3 j3 g5 j5 g6 j6 g7 j7 g11 j11)]) (by simp [results, Tryz.results32, go_sem, r0, r1, e0, e1, e2, e3, e4, e5, e6, e7, e8, e9, e10, e11]) rfl ?_; exact ⟨⟨K9, g, _, _, _, _, _, _, _, _, _, _, _, _, _, _, _, _, by have := HF9.out; omega, hwf, rfl, hr92, hrf2⟩, hBE2⟩
 ·have d1 : ((d : Int) == 0) = false := by simpa using (by omega : ¬ ((d : Int) = 0))
  have hbd := zj u; replace hA := hA.below hbd; replace hC := hC.below hbd; replace hX := hX.below hbd; replace hF := hF.below hbd; replace hrf := hrf.below hbd; replace hrk := hrk.below hbd; replace hrl := hrl.below hbd; replace hRd := hRd.below hbd; replace hBW := hBW.trans (hbd.mono (by have := hBW.size; omega)); clear hbd; have hKu := hX.1; go_upto_region 6 with fail; refine Till.start (F := (fun U : World => U.cell? ⟨KB, 0, none⟩ = some (.slice sa K.sig.Y.length sc) ∧ U.cell? ⟨KB, 1, none⟩ = some (.slice la K.E.length lc) ∧ (yTd f b3 d3 b5 d5 b6 d6 b7 d7 b11 d11 U F))) (s0 := 5) (by kernel_rfl) ?_; have hF9 : (fun U : World => U.cell? ⟨KB, 0, none⟩ = some (.slice sa K.sig.Y.length sc) ∧ U.cell? ⟨KB, 1, none⟩ = some (.slice la K.E.length lc) ∧ (yTd f b3 d3 b5 d5 b6 d6 b7 d7 b11 d11 U F)) _ := ⟨hX.2.1 0 _ rfl, hX.2.1 1 _ rfl, hF.2.1 0 _ rfl, hF.2.1 1 _ rfl, hF.2.1 2 _ rfl, hF.2.1 3 _ rfl, hF.2.1 4 _ rfl, hF.2.1 5 _ rfl, hF.2.1 6 _ rfl, hF.2.1 7 _ rfl, hF.2.1 8 _ rfl, hF.2.1 9 _ rfl, hF.2.1 10 _ rfl, hF.2.1 11 _ rfl⟩; refine Till.take (i := 0) (v := (.pointer (some ⟨rb, 0, none⟩))) rfl (by kernel_rfl) (by kernel_rfl) (by kernel_rfl) (fun _ _ _ h => h) (by kernel_rfl) (Or.inl ⟨by rfl, fun U hU => ?_⟩) hF9 ?_
  ·obtain ⟨u0F, u1F, u2F, u3F, u4F, u5F, u6F, u7F, u8F, u9F, u10F, u11F, u12F, u13F⟩ := hU
   go_simp
  try simp only [zgA]
  refine Till.take (i := 1) (v := (.agg #[.slice sa K.sig.Y.length sc, .slice la K.E.length lc])) rfl (by kernel_rfl) (by kernel_rfl) (by kernel_rfl) (fun _ _ _ h => h) (by kernel_rfl) (Or.inl ⟨by rfl, fun U hU => ?_⟩) hF9 ?_
  ·obtain ⟨u0F, u1F, u2F, u3F, u4F, u5F, u6F, u7F, u8F, u9F, u10F, u11F, u12F, u13F⟩ := hU
   go_simp
  try simp only [zgA]
  refine Till.take (i := 3) (v := (.agg (yTa f b3 d3 b5 d5 b6 d6 b7 d7 b11 d11))) rfl (by kernel_rfl) (by kernel_rfl) (by kernel_rfl) (fun _ _ _ h => h) (by kernel_rfl) (Or.inl ⟨by rfl, fun U hU => ?_⟩) hF9 ?_
  ·obtain ⟨u0F, u1F, u2F, u3F, u4F, u5F, u6F, u7F, u8F, u9F, u10F, u11F, u12F, u13F⟩ := hU
   go_simp
  try simp only [zgA]
  refine Till.one (i := 2) (by kernel_rfl) rfl (fun J9 hK => ?_); go_simp; go_wp2_with (go_at_call 73; refine (zcR 5 2 451000 K _ kf rb (2020) _ (by omega) (by omega) (by omega) HF.out (by omega) (by exact hrk) (fun h => by have := hkf _ h; omega) hRd).mono ?_; rintro e w3 ⟨⟨K9, a9, c9, m9, n9, k9, hfit, rfl, hr9, hk9⟩, hR3, ho3⟩); have HF9 := zgm hfit.2; have hz39 := ho3.size; replace hA := hA.only ho3 (by omega); replace hC := hC.only ho3 (by omega); replace hX := hX.only ho3 (by omega); replace hF := hF.only ho3 (by omega); replace hrk := hrk.only ho3 (fun h => by have := hkf _ h; omega); replace hrl := hrl.only ho3 (fun h => by have := hlf _ h; omega); replace hrf := hrf.only ho3 (fun h => by have := hff _ h; omega); replace hBW := hBW.trans (ho3.toBelow (B := w.heap.size) (by have := hBW.size; omega) (fun b hb => by simp at hb; omega)); clear ho3 hRd hfit; replace hF9 : (fun U : World => U.cell? ⟨KB, 0, none⟩ = some (.slice sa K.sig.Y.length sc) ∧ U.cell? ⟨KB, 1, none⟩ = some (.slice la K.E.length lc) ∧ (yTd f b3 d3 b5 d5 b6 d6 b7 d7 b11 d11 U F)) _ := ⟨hX.2.1 0 _ rfl, hX.2.1 1 _ rfl, hF.2.1 0 _ rfl, hF.2.1 1 _ rfl, hF.2.1 2 _ rfl, hF.2.1 3 _ rfl, hF.2.1 4 _ rfl, hF.2.1 5 _ rfl, hF.2.1 6 _ rfl, hF.2.1 7 _ rfl, hF.2.1 8 _ rfl, hF.2.1 9 _ rfl, hF.2.1 10 _ rfl, hF.2.1 11 _ rfl⟩; refine hK.out _ _ (fun _ => hF9) ?_; clear hK
  try simp only [zgA]
  refine Till.one (i := 4) (by kernel_rfl) rfl (fun J9 hK => ?_); have yr0 := hA.2.1 0 _ rfl; have yr1 := hA.2.1 1 _ rfl; have zr0 := hA.2.2 0; have zr1 := hA.2.2 1; go_simp; have gA := hA.puts [.slice a9 K9.sig.Y.length c9, .slice m9 K9.E.length n9] rfl; have gC := hC.sets_other (b := w.heap.size) (by omega) (zd 0 [.slice a9 K9.sig.Y.length c9, .slice m9 K9.E.length n9]); have gX := hX.sets_other (b := w.heap.size) (by omega) (zd 0 [.slice a9 K9.sig.Y.length c9, .slice m9 K9.E.length n9]); have gF := hF.sets_other (b := w.heap.size) (by omega) (zd 0 [.slice a9 K9.sig.Y.length c9, .slice m9 K9.E.length n9]); have hBE := zab (b := w.heap.size) (zgn _) (zd 0 [.slice a9 K9.sig.Y.length c9, .slice m9 K9.E.length n9]) hBW; have hK1 := (Same2.refl w.heap.size (w.heap.size + 1) w3).sets (b := w.heap.size) (.inl rfl) (zd 0 [.slice a9 K9.sig.Y.length c9, .slice m9 K9.E.length n9]); simp only [zi, zd] at gA gC gX gF hBE hK1; clear hA hC hX hF hBW yr0 yr1 zr0 zr1; have hX := gX; have hF := gF; refine hK.out _ _ (fun _ => ⟨hX.2.1 0 _ rfl, hX.2.1 1 _ rfl, hF.2.1 0 _ rfl, hF.2.1 1 _ rfl, hF.2.1 2 _ rfl, hF.2.1 3 _ rfl, hF.2.1 4 _ rfl, hF.2.1 5 _ rfl, hF.2.1 6 _ rfl, hF.2.1 7 _ rfl, hF.2.1 8 _ rfl, hF.2.1 9 _ rfl, hF.2.1 10 _ rfl, hF.2.1 11 _ rfl⟩) ?_; clear hK
  try simp only [zgA]
  refine Till.one (i := 5) (by kernel_rfl) rfl (fun J9 hK => ?_); obtain ⟨y0, y1, y2, y3, y4, y5, y6, y7, y8, y9, y10, y11⟩ := yR12 gC.2.1 rfl; obtain ⟨z0, z1, z2, z3, z4, z5, z6, z7, z8, z9, z10, z11⟩ := yQ12 gC.2.2; go_simp; generalize (w3.setCell ⟨w.heap.size, 0, none⟩ (.slice a9 K9.sig.Y.length c9)).setCell ⟨w.heap.size, 1, none⟩ (.slice m9 K9.E.length n9) = w4 at *; have gC2 := gC.puts (yTl f b3 d3 b5 d5 b6 d6 b7 d7 b11 d11) rfl; have gA2 := gA.sets_other (b := w.heap.size + 1) (by omega) (zd 0 (yTl f b3 d3 b5 d5 b6 d6 b7 d7 b11 d11)); have hBE2 := zab (b := w.heap.size + 1) (by omega) (zd 0 (yTl f b3 d3 b5 d5 b6 d6 b7 d7 b11 d11)) hBE; have hK2 := hK1.sets (b := w.heap.size + 1) (.inr rfl) (zd 0 (yTl f b3 d3 b5 d5 b6 d6 b7 d7 b11 d11)); simp only [zi, zd] at gC2 gA2 hBE2 hK2; refine hK.out _ _ (fun h => absurd h (by decide)) ?_; clear hK y0 z0 y1 z1 y2 z2 y3 z3 y4 z4 y5 z5 y6 z6 y7 z7 y8 z8 y9 z9 y10 z10 y11 z11
  try simp only [zgA]
  refine Till.done (by kernel_rfl) ?_ _; have r0 := gA2.2.1 0 _ rfl; have r1 := gA2.2.1 1 _ rfl; obtain ⟨e0, e1, e2, e3, e4, e5, e6, e7, e8, e9, e10, e11⟩ := yR12 gC2.2.1 rfl; have hr92 := hr9.same2 hK2 (fun b hb => by have := hk9 b hb; omega); have hrf2 := hrf.same2 hK2 (fun b hb => by have := hff b hb; omega); clear gC2 gA2 gC gA gX gF hX hF hF9 hBE hK1 hK2 hr9 hrf; go_wp2_with fail; refine bodyPost_ret (v := .tuple #[.agg #[.slice a9 K9.sig.Y.length c9, .slice m9 K9.E.length n9], .agg (yTa f b3 d3 b5 d5 b6 d6 b7 d7 b11 d11)]) (by simp [results, Tryz.results32, go_sem, r0, r1, e0, e1, e2, e3, e4, e5, e6, e7, e8, e9, e10, e11]) rfl ?_; exact ⟨⟨K9, f, _, _, _, _, _, _, _, _, _, _, _, _, _, _, _, _, by have := HF9.out; omega, hwf, rfl, hr92, hrf2⟩, hBE2⟩
theorem sameFm_n (n : Nat) : ∀ (x y : Fm) (vs us : List Value) (f f' : List Nat) (w : World), ndV x.cd ≤ n → RdVs w x.cd vs f → RdVs w y.cd us f' → Calls Tryz.prog 25 #[.agg vs.toArray, .agg us.toArray] w fun e w' => e = .returned (.bool (eqV x.cd y.cd)) ∧ Below w.heap.size w w' := by
 induction n with
 | zero => intro x y vs us f f' w hn; have h : 0 < ndV x.cd := (by rw [Fm.cd_eq]; simp [ndV, ndC]; try omega); omega
 | succ n ih =>
  intro x y vs us f f' w hn hv hx
  have HK : Hid (∀ k ∈ x.K, ndV k.cd ≤ n) := fun k hk => by have := Fm.kid_nd hk; omega
  have IH := zgm ih; clear ih; obtain ⟨a3, c3, f3, a5, c5, f5, a6, c6, f6, a7, c7, f7, a11, c11, f11, rfl, _, m0, m1, m2, m3, m4, m5, m6, m7, m8, m9⟩ := Fm.open hv; obtain ⟨a3', c3', f3', a5', c5', f5', a6', c6', f6', a7', c7', f7', a11', c11', f11', rfl, _, m0', m1', m2', m3', m4', m5', m6', m7', m8', m9'⟩ := Fm.open hx; go_enter Tryz.func25, Tryz.ntmps25
  cases tk1 : (x.kind == y.kind)
  ·have HF := zgm (Fm.eqv_kind tk1)
   go_wp2_with fail; go_ret; exact ⟨retB HF.out.symm, (((zgy _ _).alloc (zgn _) _).alloc (by simp) _)⟩
  have HT_kind := zgm tk1
  cases tk2 : (x.L.no == y.L.no)
  ·have HF := zgm (Fm.eqv_lit_no tk2)
   go_wp2_with fail; go_ret; exact ⟨retB HF.out.symm, (((zgy _ _).alloc (zgn _) _).alloc (by simp) _)⟩
  have HT_lit_no := zgm tk2; go_wp2_with fail; refine (zcw x.L.M y.L.M _ _ _ _ _ (by exact (Atm.close m1 m2 m3 m4 m5 m6 m7 m8).below (((zgy _ _).alloc (zgn _) _).alloc (by simp) _)) (by exact (Atm.close m1' m2' m3' m4' m5' m6' m7' m8').below (((zgy _ _).alloc (zgn _) _).alloc (by simp) _))).mono ?_; rintro e w1 ⟨rfl, hb1⟩; obtain ⟨hx1, hy1, hz1, hB1⟩ := box2 (w := w) (wr := w1) (cs := (yTa x a3 c3 a5 c5 a6 c6 a7 c7 a11 c11)) (ds := (yTa y a3' c3' a5' c5' a6' c6' a7' c7' a11' c11')) (T := 36) (U := 36) (zl hb1 (by simp))
  cases hq1 : eqV x.L.M.cd y.L.M.cd
  ·have HF := zgm (Fm.eqv_lit_atom hq1)
   clear hq1; go_wp2_with fail; go_ret; exact ⟨retB HF.out.symm, hB1⟩
  have HT_lit_atom := zgm hq1; clear hq1; go_wp2_with fail; refine ((zd3 x.K y.K (fun k hk y' vs us f f' w => IH.out k y' vs us f f' w (HK.out k hk))) _ _ _ _ _ (by exact m9.below hB1) (by exact m9'.below hB1)).mono ?_; rintro e w2 ⟨rfl, hb2⟩; have hB2 := hB1.trans (hb2.mono (by omega)); have hx2 := zh hx1 (by omega) hb2; have hy2 := zh hy1 (by omega) hb2; have hz2 := zgx hz1 hb2.size; clear hx1 hy1
  cases hq2 : eqR (x.K.map Fm.cd) (y.K.map Fm.cd)
  ·have HF := zgm (Fm.eqv_kids hq2)
   clear hq2; go_wp2_with fail; go_ret; exact ⟨retB HF.out.symm, hB2⟩
  have HT_kids := zgm hq2; clear hq2; go_wp2_with fail; go_ret
  exact ⟨retB (by rw [Fm.eqv, HT_kind.out, HT_lit_no.out, HT_lit_atom.out, HT_kids.out]; try rfl), hB2⟩
theorem sameFm_x (x y : Fm) (vs us : List Value) (f f' : List Nat) (w : World) (hv : RdVs w x.cd vs f) (hx : RdVs w y.cd us f') :
  Calls Tryz.prog 25 #[.agg vs.toArray, .agg us.toArray] w fun e w' => e = .returned (.bool (eqV x.cd y.cd)) ∧ Below w.heap.size w w' := sameFm_n _ x y vs us f f' w (zgn _) hv hx
theorem eqV_fms (x y : List Fm) : eqV (zE x) (zE y) = eqR (x.map Fm.cd) (y.map Fm.cd) := by simp only [zE, zde]
theorem sameFms_x (x y : List Fm) (v u : Value) (f f' : List Nat) (w : World) (hv : Rd w (.sl (x.map Fm.cd)) v f) (hx : Rd w (.sl (y.map Fm.cd)) u f') :
  Calls Tryz.prog 68 #[v, u] w fun e w' => e = .returned (.bool (eqV (zE x) (zE y))) ∧ Below w.heap.size w w' := by
 obtain ⟨a, c, rfl, hc1, hc2⟩ := zg hv; obtain ⟨a', c', rfl, hc1', hc2'⟩ := zg hx; rw [eqV_fms]; go_enter Tryz.func68, Tryz.ntmps68; go_wp2_with fail; refine (zd3 x y (fun x _ y vs us f f' w => sameFm_x x y vs us f f' w) _ _ _ _ _ hv hx).mono ?_; rintro e w1 ⟨rfl, hb1⟩; go_wp2_with fail; go_ret; exact ⟨rfl, hb1⟩
theorem zeY (xs ys : List (List Fm)) (v u : Value) (f f' : List Nat) (w : World) (hv : Rd w (.sl (xs.map zE)) v f) (hx : Rd w (.sl (ys.map zE)) u f') : Calls Tryz.prog 67 #[v, u, .func (.func 68) #[] #[]] w fun e w' => e = .returned (.bool (eqR (xs.map zE) (ys.map zE))) ∧ Below w.heap.size w w' := zfo xs ys (fun x _ y v u f f' w hv hx => sameFms_x x y v u f f' w hv hx) v u f f' w hv hx
theorem sameStk_x (x y : Stk) (vs us : List Value) (f f' : List Nat) (w : World) (hv : RdVs w x.cd vs f) (hx : RdVs w y.cd us f') :
  Calls Tryz.prog 31 #[.agg vs.toArray, .agg us.toArray] w fun e w' => e = .returned (.bool (eqV x.cd y.cd)) ∧ Below w.heap.size w w' := by
 obtain ⟨a0, c0, f0, a1, c1, f1, rfl, _, m0, m1⟩ := Stk.open hv; obtain ⟨a0', c0', f0', a1', c1', f1', rfl, _, m0', m1'⟩ := Stk.open hx; go_enter Tryz.func31, Tryz.ntmps31; go_wp2_with fail; refine (sameSg_x x.sig y.sig _ _ _ _ _ (by exact (Sg.close m0).below (((zgy _ _).alloc (zgn _) _).alloc (by simp) _)) (by exact (Sg.close m0').below (((zgy _ _).alloc (zgn _) _).alloc (by simp) _))).mono ?_; rintro e w1 ⟨rfl, hb1⟩; obtain ⟨hx1, hy1, hz1, hB1⟩ := box2 (w := w) (wr := w1) (cs := #[.slice a0 x.sig.Y.length c0, .slice a1 x.E.length c1]) (ds := #[.slice a0' y.sig.Y.length c0', .slice a1' y.E.length c1']) (T := 53) (U := 53) (zl hb1 (by simp))
 cases hq1 : eqV x.sig.cd y.sig.cd
 ·have HF := zgm (Stk.eqv_sig hq1)
  clear hq1; go_wp2_with fail; go_ret; exact ⟨retB HF.out.symm, hB1⟩
 have HT_sig := zgm hq1; clear hq1; go_wp2_with fail; refine (zeY x.E y.E _ _ _ _ _ (by exact m1.below hB1) (by exact m1'.below hB1)).mono ?_; rintro e w2 ⟨rfl, hb2⟩; have hB2 := hB1.trans (hb2.mono (by omega)); have hx2 := zh hx1 (by omega) hb2; have hy2 := zh hy1 (by omega) hb2; have hz2 := zgx hz1 hb2.size; clear hx1 hy1
 cases hq2 : eqR (x.E.map zE) (y.E.map zE)
 ·have HF := zgm (Stk.eqv_levels hq2)
  clear hq2; go_wp2_with fail; go_ret; exact ⟨retB HF.out.symm, hB2⟩
 have HT_levels := zgm hq2; clear hq2; go_wp2_with fail; go_ret
 exact ⟨retB (by rw [Stk.eqv, HT_sig.out, HT_levels.out]; try rfl), hB2⟩
def RtOut (P : Stk) (b : Bool) (w : World) (e : Ending) (w' : World) : Prop := ∃ (us : List Value) (fs : List Nat), e = .returned (.tuple #[.agg us.toArray, .bool b]) ∧ RdVs w' P.cd us fs ∧ Below w.heap.size w w'
theorem push_as (K P : Stk) (b : Bool) (h : K.push = (P, b)) (vs : List Value) (gk : List Nat) (w : World) (hbig : wtV K.cd ≤ 1048576) (hv : RdVs w K.cd vs gk) :
  Calls Tryz.prog 27 #[.agg vs.toArray] w (RtOut P b w) := by
 refine (zdM K vs gk w hbig hv).mono ?_; rintro e w' ⟨us, fs, he, hr, _, hb⟩; rw [h] at he hr; exact ⟨us, fs, he, hr, hb⟩
theorem pushS_as (K P : Stk) (b : Bool) (h : K.push = (P, b)) (vs : List Value) (gk : List Nat) (w : World) (hbig : wtV K.cd ≤ 1048576) (hv : RdVs w K.cd vs gk) :
  Calls Tryz.prog 28 #[.agg vs.toArray] w (RtOut P b w) := by
 refine (zbt K vs gk w hbig hv).mono ?_; rintro e w' ⟨us, fs, he, hr, _, hb⟩; rw [h] at he hr; exact ⟨us, fs, he, hr, hb⟩
theorem pop_as (K P : Stk) (b : Bool) (h : K.pop = (P, b)) (vs : List Value) (gk : List Nat) (w : World) (hbig : wtV K.cd ≤ 1048576) (hv : RdVs w K.cd vs gk) :
  Calls Tryz.prog 29 #[.agg vs.toArray] w (RtOut P b w) := by
 refine (zep K vs gk w hbig hv).mono ?_; rintro e w' ⟨us, fs, he, hr, _, hb⟩; rw [h] at he hr; exact ⟨us, fs, he, hr, hb⟩
theorem tell_as (K P : Stk) (f : Fm) (b : Bool) (h : K.tell f = (P, b)) (vs : List Value) (us : List Value) (gk : List Nat) (ff : List Nat) (w : World) (hbig : wtV K.cd + (wtV f.cd + 1) ≤ 1048576) (hv : RdVs w K.cd vs gk) (hf : RdVs w f.cd us ff) :
  Calls Tryz.prog 33 #[.agg vs.toArray, .agg us.toArray] w (RtOut P b w) := by
 refine (zdR K f vs us gk ff w hbig hv hf).mono ?_; rintro e w' ⟨us, fs, he, hr, _, hb⟩; rw [h] at he hr; exact ⟨us, fs, he, hr, hb⟩
theorem zcS (P : Stk) (vs us : List Value) (f g : List Nat) (w : World) (hv : RdVs w P.cd vs f) (hu : RdVs w P.cd us g) :
  Calls Tryz.prog 31 #[.agg vs.toArray, .agg us.toArray] w fun e w' => e = .returned (.bool true) ∧ Below w.heap.size w w' := by
 have h := sameStk_x P P vs us f g w hv hu
 have he : eqV P.cd P.cd = true := by rw [zaS]
 rw [he] at h; exact h
theorem zfg (K : Stk) : Stk.mk K.sig K.E = K := by cases K; rfl
theorem push_yes {K P : Stk} (h : K.push = (P, true)) : K.okK = true ∧ K.E.length < 4 ∧ P = ⟨K.sig, K.E ++ [[]]⟩ := by
 unfold Stk.push at h
 split at h
 ·rename_i hk
  split at h
  ·rename_i h4
   simp only [Prod.mk.injEq, and_true] at h; exact ⟨hk, h4, h.symm⟩
  ·simp at h
 ·simp at h
theorem okK_flat {K : Stk} {ls : List (List Fm)} (h : K.okK = true) (h1 : 1 ≤ ls.length) (h4 : ls.length ≤ 4) (hf : ls.flatten = K.E.flatten) : (Stk.mk K.sig ls).okK = true := by
 simp only [Stk.okK, zgl, decide_eq_true_eq] at h ⊢; rw [hf]; exact ⟨⟨by omega, by omega⟩, h.2⟩
/-- What was pushed, told and popped is what was there. -/
theorem turn_law {K P T U : Stk} {f : Fm} {b c : Bool} (h : K.push = (P, true)) (ht : P.tell f = (T, b)) (hu : T.pop = (U, c)) : U = K ∧ c = true := by
 obtain ⟨hk, h4, rfl⟩ := push_yes h; have hl := Stk.okK_len hk; have hp : (Stk.mk K.sig (K.E ++ [[]])).okK = true := okK_flat hk (by simp) (by simp; omega) (by simp)
 have key : ∀ (l : List Fm), (Stk.mk K.sig (K.E ++ [l])).okK = true → (Stk.mk K.sig (K.E ++ [l])).pop = (K, true) := fun l hl' => by
  rw [Stk.pop_yes hl' (by simp; omega)]; simp [zfg]
 unfold Stk.tell at ht; rw [if_pos hp] at ht
 split at ht
 ·rename_i ho
  rw [Stk.told_eq (a := K.E) (l := []) rfl] at ho ht; simp only [Prod.mk.injEq] at ht; rw [← ht.1, key _ ho] at hu; simp only [Prod.mk.injEq] at hu; exact ⟨hu.1.symm, hu.2.symm⟩
 ·simp only [Prod.mk.injEq] at ht
  rw [← ht.1, key _ hp] at hu; simp only [Prod.mk.injEq] at hu; exact ⟨hu.1.symm, hu.2.symm⟩
theorem tell_wt {K T : Stk} {f : Fm} {b : Bool} (h : K.tell f = (T, b)) : wtV T.cd ≤ wtV K.cd + (wtV f.cd + 1) := by
 unfold Stk.tell at h
 split at h
 ·rename_i hk
  split at h
  ·simp only [Prod.mk.injEq] at h
   rcases List.eq_nil_or_concat K.E with h1 | ⟨a, l, h1⟩
   ·have := (Stk.okK_len hk).1; rw [h1] at this; simp at this
   ·rw [← h.1, zdQ (a := a) (l := l) (by rw [h1, List.concat_eq_append])]
    exact zgn _
  ·simp only [Prod.mk.injEq] at h
   rw [← h.1]; omega
 ·simp only [Prod.mk.injEq] at h
  rw [← h.1, zad]; simp [wtR, Sg.cd, wtV, wtC]
theorem push_wt {K P : Stk} {b : Bool} (h : K.push = (P, b)) : wtV P.cd ≤ wtV K.cd + 1 := by
 unfold Stk.push at h
 split at h
 ·split at h
  ·simp only [Prod.mk.injEq] at h
   rw [← h.1, zad]
   conv => rhs; rw [← zfg K]
   rw [zad]; simp only [zgi, List.map_cons, List.map_nil, zS, wtR, zE, wtV, wtC, zgh, zgv, List.length_nil]; omega
  ·simp only [Prod.mk.injEq] at h
   rw [← h.1]; omega
 ·simp only [Prod.mk.injEq] at h
  rw [← h.1, zad]; simp [wtR, Sg.cd, wtV, wtC]
theorem zda (v : Value) (w : World) (hv : Byts w v) :
  Calls Tryz.prog 7 #[v] w fun e w' => e = .returned (.bool true) ∧ Below w.heap.size w w' := by
 have hv0 := hv; obtain ⟨a9, n, cap, rfl, hn1, hn2, _⟩ := hv
 by_cases hlen : n ≤ 1048576
 rotate_left
 ·have hlb0 : decide ((1048576 : Int) < (n : Int)) = true := decide_eq_true (by omega)
  go_enter Tryz.func7, Tryz.ntmps7; go_wp2_with fail; go_ret; exact ⟨rfl, zgy _ _⟩
 have hlb0 : decide ((1048576 : Int) < (n : Int)) = false := decide_eq_false (by omega)
 go_enter Tryz.func7, Tryz.ntmps7; go_wp2_with fail; refine (zb5 _ _ hv0).mono ?_; rintro e w1 ⟨⟨K, f, ka, kc, kl, km, b3, d3, b5, d5, b6, d6, b7, d7, b11, d11, kf, ff, hwt, hwf, rfl, hrk, hrf⟩, hB⟩; obtain ⟨kB, hkB⟩ : ∃ F, F = w1.heap.size := ⟨_, rfl⟩; obtain ⟨fB, hfB⟩ : ∃ G, G = kB + 1 := ⟨_, rfl⟩; have hK := (Box.new w1 [.slice ka K.sig.Y.length kc, .slice kl K.E.length km] 53).alloc (.cells (yTa f b3 d3 b5 d5 b6 d6 b7 d7 b11 d11) 36); have hF := Box.new (w1.alloc (.cells #[.slice ka K.sig.Y.length kc, .slice kl K.E.length km] 53)) (yTl f b3 d3 b5 d5 b6 d6 b7 d7 b11 d11) 36; rw [zgr] at hF; rw [← hkB, ← hfB] at hF; rw [← hkB] at hK; go_upto_region 4 with fail
 try rw [← hkB]
 try rw [← hfB]
 have hba : Below w1.heap.size w1 ((w1.alloc (.cells #[.slice ka K.sig.Y.length kc, .slice kl K.E.length km] 53)).alloc (.cells (yTa f b3 d3 b5 d5 b6 d6 b7 d7 b11 d11) 36)) := ((zgy _ _).alloc (zgn _) _).alloc (by simp) _; replace hrk := hrk.below hba; replace hrf := hrf.below hba; replace hB := hB.trans (hba.mono hB.size); clear hba hkB hfB; generalize (w1.alloc (.cells #[.slice ka K.sig.Y.length kc, .slice kl K.E.length km] 53)).alloc (.cells (yTa f b3 d3 b5 d5 b6 d6 b7 d7 b11 d11) 36) = w2 at *; obtain ⟨⟨P, b1⟩, hP⟩ : ∃ T, K.push = T := ⟨_, rfl⟩; have HP := zgm hP; have hwp := push_wt hP; clear hP; have kq0 := hK.2.1 0 _ rfl; have kq1 := hK.2.1 1 _ rfl; go_wp2_with fail; refine (push_as K P b1 HP.out _ _ _ (by omega) (by exact hrk)).mono ?_; rintro e w3 ⟨us, xf, rfl, hrx, hb⟩; obtain ⟨xa, xc, _, xl, xm, _, rfl, _, _, _⟩ := Stk.open hrx; replace hrk := hrk.below hb; replace hrf := hrf.below hb; replace hK := hK.below hb; replace hF := hF.below hb; replace hB := hB.trans (hb.mono hB.size); clear hb; clear kq0 kq1; obtain ⟨xB, xBe⟩ : ∃ S, S = w3.heap.size := ⟨_, rfl⟩; have hX := Box.new w3 [.slice xa P.sig.Y.length xc, .slice xl P.E.length xm] 53; rw [← xBe] at hX; go_upto_region 5 with fail; rw [← xBe]; have hba := zb w3 (.cells #[.slice xa P.sig.Y.length xc, .slice xl P.E.length xm] 53); replace hrk := hrk.below hba; replace hrf := hrf.below hba; replace hK := hK.below hba; replace hF := hF.below hba; replace hrx := hrx.below hba; replace hB := hB.trans (hba.mono hB.size); clear hba xBe; generalize w3.alloc (.cells #[.slice xa P.sig.Y.length xc, .slice xl P.E.length xm] 53) = w4 at *; have kq0 := hK.2.1 0 _ rfl; have kq1 := hK.2.1 1 _ rfl; go_wp2_with fail; refine (pushS_as K P b1 HP.out _ _ _ (by omega) (by exact hrk)).mono ?_; rintro e w5 ⟨us, yf, rfl, hry, hb⟩; obtain ⟨ya, yc, _, yl, ym, _, rfl, _, _, _⟩ := Stk.open hry; replace hrk := hrk.below hb; replace hrf := hrf.below hb; replace hK := hK.below hb; replace hF := hF.below hb; replace hrx := hrx.below hb; replace hX := hX.below hb; replace hB := hB.trans (hb.mono hB.size); clear hb; clear kq0 kq1; obtain ⟨yB, yBe⟩ : ∃ S, S = w5.heap.size := ⟨_, rfl⟩; have hY := Box.new w5 [.slice ya P.sig.Y.length yc, .slice yl P.E.length ym] 53; rw [← yBe] at hY; go_upto_region 6 with fail; rw [← yBe]; have hba := zb w5 (.cells #[.slice ya P.sig.Y.length yc, .slice yl P.E.length ym] 53); replace hrk := hrk.below hba; replace hrf := hrf.below hba; replace hK := hK.below hba; replace hF := hF.below hba; replace hrx := hrx.below hba; replace hX := hX.below hba; replace hry := hry.below hba; replace hB := hB.trans (hba.mono hB.size); clear hba yBe; generalize w5.alloc (.cells #[.slice ya P.sig.Y.length yc, .slice yl P.E.length ym] 53) = w6 at *
 have n1 : (b1 != b1) = false := by cases b1 <;> rfl
 have i1 : (b1 == b1) = true := by cases b1 <;> rfl
 have xq0 := hX.2.1 0 _ rfl; have xq1 := hX.2.1 1 _ rfl; have yq0 := hY.2.1 0 _ rfl; have yq1 := hY.2.1 1 _ rfl; go_wp2_with fail; refine (zcS P _ _ _ _ _ (by exact hrx) (by exact hry)).mono ?_; rintro e v1 ⟨rfl, hb⟩; replace hrk := hrk.below hb; replace hrf := hrf.below hb; replace hK := hK.below hb; replace hF := hF.below hb; replace hrx := hrx.below hb; replace hX := hX.below hb; replace hry := hry.below hb; replace hY := hY.below hb; replace hB := hB.trans (hb.mono hB.size); clear hb; clear xq0 xq1 yq0 yq1
 cases b1
 ·have xq0 := hX.2.1 0 _ rfl
  have xq1 := hX.2.1 1 _ rfl; have yq0 := hY.2.1 0 _ rfl; have yq1 := hY.2.1 1 _ rfl; go_wp2_with fail; refine (zcS P _ _ _ _ _ (by exact hrx) (by exact hry)).mono ?_; rintro e v2 ⟨rfl, hb⟩; replace hrk := hrk.below hb; replace hrf := hrf.below hb; replace hK := hK.below hb; replace hF := hF.below hb; replace hrx := hrx.below hb; replace hX := hX.below hb; replace hry := hry.below hb; replace hY := hY.below hb; replace hB := hB.trans (hb.mono hB.size); clear hb; clear xq0 xq1 yq0 yq1; go_wp2_with fail; go_ret; exact ⟨rfl, hB⟩
 ·clear n1 i1
  obtain ⟨⟨T, b3'⟩, hT⟩ : ∃ T, P.tell f = T := ⟨_, rfl⟩; obtain ⟨⟨U, b4⟩, hU'⟩ : ∃ V, T.pop = V := ⟨_, rfl⟩; have HT := zgm hT; have HU := zgm hU'; have hwT := tell_wt hT; obtain ⟨rfl, rfl⟩ := turn_law HP.out hT hU'; clear hT hU'; obtain ⟨fq0, fq1, fq2, fq3, fq4, fq5, fq6, fq7, fq8, fq9, fq10, fq11⟩ := yR12 hF.2.1 rfl; have xq0 := hX.2.1 0 _ rfl; have xq1 := hX.2.1 1 _ rfl; go_wp2_with fail; refine (tell_as P T f b3' HT.out _ _ _ _ _ (by omega) (by exact hrx) (by exact hrf)).mono ?_; rintro e v2 ⟨us, tf, rfl, hrt, hb⟩; obtain ⟨ta, tc, _, tl, tm, _, rfl, _, _, _⟩ := Stk.open hrt; replace hrk := hrk.below hb; replace hrf := hrf.below hb; replace hK := hK.below hb; replace hF := hF.below hb; replace hrx := hrx.below hb; replace hX := hX.below hb; replace hry := hry.below hb; replace hY := hY.below hb; replace hB := hB.trans (hb.mono hB.size); clear hb; clear fq0 fq1 fq2 fq3 fq4 fq5 fq6 fq7 fq8 fq9 fq10 fq11 xq0 xq1; obtain ⟨tB, tBe⟩ : ∃ S, S = v2.heap.size := ⟨_, rfl⟩; have hT9 := Box.new v2 [.slice ta T.sig.Y.length tc, .slice tl T.E.length tm] 53; rw [← tBe] at hT9; go_upto_region 9 with fail; rw [← tBe]; have hba := zb v2 (.cells #[.slice ta T.sig.Y.length tc, .slice tl T.E.length tm] 53); replace hrk := hrk.below hba; replace hrf := hrf.below hba; replace hK := hK.below hba; replace hF := hF.below hba; replace hrx := hrx.below hba; replace hX := hX.below hba; replace hry := hry.below hba; replace hY := hY.below hba; replace hrt := hrt.below hba; replace hB := hB.trans (hba.mono hB.size); clear hba tBe; generalize v2.alloc (.cells #[.slice ta T.sig.Y.length tc, .slice tl T.E.length tm] 53) = v3 at *; have tq0 := hT9.2.1 0 _ rfl; have tq1 := hT9.2.1 1 _ rfl; go_wp2_with fail; refine (pop_as T U true HU.out _ _ _ (by omega) (by exact hrt)).mono ?_; rintro e v4 ⟨us, uf, rfl, hru, hb⟩; obtain ⟨ua, uc, _, ul, um, _, rfl, _, _, _⟩ := Stk.open hru; replace hrk := hrk.below hb; replace hrf := hrf.below hb; replace hK := hK.below hb; replace hF := hF.below hb; replace hrx := hrx.below hb; replace hX := hX.below hb; replace hry := hry.below hb; replace hY := hY.below hb; replace hrt := hrt.below hb; replace hT9 := hT9.below hb; replace hB := hB.trans (hb.mono hB.size); clear hb; clear tq0 tq1; obtain ⟨uB, uBe⟩ : ∃ S, S = v4.heap.size := ⟨_, rfl⟩; have hU9 := Box.new v4 [.slice ua U.sig.Y.length uc, .slice ul U.E.length um] 53; rw [← uBe] at hU9; go_upto_region 10 with fail; rw [← uBe]; have hba := zb v4 (.cells #[.slice ua U.sig.Y.length uc, .slice ul U.E.length um] 53); replace hrk := hrk.below hba; replace hrf := hrf.below hba; replace hK := hK.below hba; replace hF := hF.below hba; replace hrx := hrx.below hba; replace hX := hX.below hba; replace hry := hry.below hba; replace hY := hY.below hba; replace hrt := hrt.below hba; replace hT9 := hT9.below hba; replace hru := hru.below hba; replace hB := hB.trans (hba.mono hB.size); clear hba uBe; generalize v4.alloc (.cells #[.slice ua U.sig.Y.length uc, .slice ul U.E.length um] 53) = v5 at *; have kq0 := hK.2.1 0 _ rfl; have kq1 := hK.2.1 1 _ rfl; have uq0 := hU9.2.1 0 _ rfl; have uq1 := hU9.2.1 1 _ rfl; go_wp2_with fail; refine (zcS U _ _ _ _ _ (by exact hru) (by exact hrk)).mono ?_; rintro e v6 ⟨rfl, hb⟩; replace hrk := hrk.below hb; replace hrf := hrf.below hb; replace hK := hK.below hb; replace hF := hF.below hb; replace hrx := hrx.below hb; replace hX := hX.below hb; replace hry := hry.below hb; replace hY := hY.below hb; replace hrt := hrt.below hb; replace hT9 := hT9.below hb; replace hru := hru.below hb; replace hU9 := hU9.below hb; replace hB := hB.trans (hb.mono hB.size); clear hb; clear kq0 kq1 uq0 uq1; go_wp2_with fail; go_ret; exact ⟨rfl, hB⟩
end Go.Proofs.YtbfinjiledfpcaaGreat
end
