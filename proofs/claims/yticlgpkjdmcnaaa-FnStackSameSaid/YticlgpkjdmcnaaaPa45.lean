/- Parts of the proof: RdrJ RdrK StkV StkX. -/
import Derived.Test.YticlgpkjdmcnaaaPa44
import Derived.Test.YticlgpkjdmcnaaaPa43
import Derived.Test.YticlgpkjdmcnaaaPa22
import Derived.Test.YticlgpkjdmcnaaaPa42
import Derived.Test.YticlgpkjdmcnaaaPa23
import Derived.Test.YticlgpkjdmcnaaaPa40
section
namespace Go.Proofs.Yticlgpkjdmcnaaa
open Go Go.RowKit
set_option linter.unusedVariables false
set_option linter.unusedSimpArgs false
set_option maxRecDepth 100000
set_option maxHeartbeats 16000000
def StkLite (n : Nat) (K : Stk) : Prop := SgFit 5 2 K.sig ∧ wtV K.cd ≤ 200 + n * 75040
theorem zbu : wtV (Stk.mk ⟨[]⟩ []).cd = 0 := by rw [zS]; rfl
theorem zbv (N A : Nat) : SgFit N A ⟨[]⟩ := ⟨Nat.zero_le _, fun y hy => by cases hy⟩
theorem StkLite.mono {n m : Nat} {K : Stk} (h : StkLite n K) (hm : n ≤ m) : StkLite m K := by
 obtain ⟨h1, h2⟩ := h
 have h3 := Nat.mul_le_mul_right 75040 hm
 have h4 : wtV K.cd ≤ 200 + m * 75040 := Nat.le_trans h2 (Nat.add_le_add_left h3 200)
 exact And.intro h1 h4
theorem zdv {s : Sg} (h : s.few) (h2 : s.nice) : SgFit 5 2 s := by
 refine ⟨h.1, fun y hy => ⟨h.2 y hy, ?_⟩⟩
 unfold Sg.nice at h2
 rw [List.all_eq_true] at h2
 have := h2 y hy
 simp only [zaC, zeb, decide_eq_true_eq] at this
 omega
theorem lite_new {s : Sg} (h : s.few) (h2 : s.nice) : StkLite 0 (zbt s) := by
 have hf := zdv h h2
 unfold zbt
 split
 ·have h1 := zda hf.2
  have h3 : wtV s.cd = s.syms.length + wtR (s.syms.map Sy.cd) := by unfold Sg.cd; simp only [zao, zea]
  have h4 := hf.1
  have h5 : s.syms.length * (2 + 4) ≤ 5 * 6 := Nat.mul_le_mul h4 (Nat.le_refl _)
  refine ⟨hf, ?_⟩
  rw [zS]
  simp only [List.map_cons, List.map_nil, wtR, zx, wtV, wtC, List.length_cons, List.length_nil]
  omega
 ·exact ⟨zbv _ _, by rw [zbu]; omega⟩
theorem lite_push {n : Nat} {K : Stk} (h : StkLite n K) : StkLite (n + 1) K.push.1 := by
 unfold Stk.push
 split
 ·split
  ·refine ⟨h.1, ?_⟩
   have h2 := h.2
   rw [← zaK K, zS] at h2
   rw [zS]
   simp only [zd8, List.map_cons, List.map_nil, zU, wtR, zx, wtV, wtC, zd7, List.length_cons, List.length_nil] at h2 ⊢
   omega
  ·exact h.mono (by omega)
 ·exact ⟨zbv _ _, by rw [zbu]; omega⟩
theorem lite_pop {n : Nat} {K : Stk} (h : StkLite n K) : StkLite (n + 1) K.pop.1 := by
 unfold Stk.pop
 split
 ·split
  ·exact h.mono (by omega)
  ·refine ⟨h.1, ?_⟩
   have h2 := h.2
   have h3 := zJ zx K.levels (K.levels.length - 1)
   rw [← zaK K, zS] at h2
   rw [zS, List.map_take, List.length_take]
   omega
 ·exact ⟨zbv _ _, by rw [zbu]; omega⟩
theorem zdc {K : Stk} (h : K.okK = true) : ∃ a l, K.levels = a ++ [l] := by
 rcases List.eq_nil_or_concat K.levels with h1 | ⟨a, l, h1⟩
 ·have := (Stk.okK_len h).1; rw [h1] at this; simp at this
 ·exact ⟨a, l, by rw [h1, List.concat_eq_append]⟩
theorem lite_tell {n : Nat} {K : Stk} {f : Fm} (h : StkLite n K) (hf : wtV f.cd ≤ 75030) : StkLite (n + 1) (K.tell f).1 := by
 unfold Stk.tell
 split
 ·rename_i hk
  split
  ·obtain ⟨a, l, hl⟩ := zdc hk
   refine ⟨h.1, ?_⟩
   rw [zc9 hl]
   have h2 := h.2
   omega
  ·exact h.mono (by omega)
 ·exact ⟨zbv _ _, by rw [zbu]; omega⟩
/-- A stack and what is told, as they come back. -/
def DrawnKT (w : World) (e : Ending) (w' : World) : Prop := ∃ (K : Stk) (l : List Atm) (sa : Option Addr) (sc : Nat) (la : Option Addr) (lc : Nat) (ta : Option Addr) (tc : Nat) (kf lf : List Nat), StkLite 6 K ∧ (1 ≤ l.length ∧ l.length ≤ 6 ∧ ∀ x ∈ l, x.few) ∧
 e = .returned (.tuple #[.agg #[.slice sa K.sig.syms.length sc, .slice la K.levels.length lc], .slice ta l.length tc]) ∧ RdVs w' K.cd [.slice sa K.sig.syms.length sc, .slice la K.levels.length lc] kf ∧ Rd w' (.sl (l.map Atm.cd)) (.slice ta l.length tc) lf ∧ (∀ b ∈ kf, w.heap.size ≤ b) ∧ ∀ b ∈ lf, w.heap.size ≤ b
theorem zdd (rb p : Nat) (w : World) (hp : p + 3000 ≤ 1000000000) (hr : Rdr w rb p) :
  Calls Try.prog 8 #[.pointer (some ⟨rb, 0, none⟩)] w fun e w' => DrawnKT w e w' ∧ Rdr w' rb (p + 2000) ∧ Only [rb] w w' := by
 have hlt := hr.lt
 have hA := Box.new w [.slice none 0 0, .slice none 0 0] 28
 have hbn := zb w (.cells #[.slice none 0 0, .slice none 0 0] 28)
 go_enter Try.func8, Try.ntmps8
 go_upto_region 1 with fail
 generalize w.alloc (.cells #[.slice none 0 0, .slice none 0 0] 28) = W0 at *
 have hN : Only [rb] w W0 := Only.below hbn
 have hr0 := hr.below hbn
 clear hbn hr
 go_wp2_with fail
 refine (zdR rb p _ (by omega) hr0).mono ?_
 rintro e w1 ⟨⟨s, vs, sf, ⟨hfew, hnice⟩, rfl, hrs, hsf⟩, hr1, ho1⟩
 obtain ⟨a0, c0, _, rfl, rfl, m0⟩ := Sg.open hrs
 have hzA := hA.1
 have hnr : rb ∉ sf := fun h => by have := hsf _ h; omega
 have hz1 := ho1.size
 replace hA := hA.only ho1 (by omega)
 replace hN := hN.trans ho1
 clear hr0 ho1 m0
 obtain ⟨S, hS⟩ : ∃ S, S = w1.heap.size := ⟨_, rfl⟩
 have hSz : w.heap.size < S := by omega
 have hX := Box.new w1 [.slice a0 s.syms.length c0] 25
 rw [← hS] at hX
 go_upto_region 2 with fail
 rw [← hS]
 have hba := zb w1 (.cells #[.slice a0 s.syms.length c0] 25)
 replace hA := hA.below hba
 replace hN := hN.trans (Only.below hba)
 replace hr1 := hr1.below hba
 replace hrs := hrs.below hba
 clear hba hS hzA hz1
 generalize w1.alloc (.cells #[.slice a0 s.syms.length c0] 25) = w2 at *
 have x0 := hX.2.1 0 _ rfl
 go_wp2_with fail
 refine (zdU s _ sf rb (p + 1) _ (by omega) hfew hnice (by exact hrs) hnr hr1).mono ?_
 rintro e w3 ⟨⟨l, lv, lf, ⟨hl1, hl6, hlx⟩, rfl, hrl, hlg0⟩, hRd, ho3⟩
 obtain ⟨ta, tc, rfl, _, _⟩ := zi hrl
 have hXz := hX.1
 have HL := Lib.hid hlx
 have hz3 := ho3.size
 have hlf0 : ∀ b ∈ lf, w.heap.size < b := fun b hb => by have := hlg0 b hb; omega
 replace hA := hA.only ho3 (by omega)
 replace hX := hX.only ho3 (by omega)
 replace hN := hN.trans ho3
 replace hrs := hrs.only ho3 hnr
 clear hr1 ho3 hlx x0
 have x0 := hX.2.1 0 _ rfl
 go_wp2_with fail
 refine (zcp s _ _ _ (by have := (zdv hfew hnice).wt (by omega) (by omega); omega) (by exact hrs)).mono ?_
 rintro e w4 ⟨us, kf, rfl, hrk, hk0, hb4⟩
 obtain ⟨sa, sc, _, la, lc, _, rfl, _, _, _⟩ := Stk.open hrk
 have HK : Hid (StkLite 0 (zbt s)) := Lib.hid (lite_new hfew hnice)
 have hkf0 : ∀ b ∈ kf, w.heap.size < b := fun b hb => by have := (hk0.2 b hb).1; omega
 replace hA := hA.below hb4
 replace hrl := hrl.below hb4
 replace hRd := hRd.below hb4
 replace hN := hN.trans (Only.below hb4)
 have hz4 := hb4.size
 clear hb4 hk0 x0 hX
 obtain ⟨K, hK⟩ : ∃ K, K = zbt s := ⟨_, rfl⟩
 rw [← hK] at hrk HK ⊢
 clear hK
 obtain ⟨KB, hKB⟩ : ∃ S, S = w4.heap.size := ⟨_, rfl⟩
 have hX := Box.new w4 [.slice sa K.sig.syms.length sc, .slice la K.levels.length lc] 28
 rw [← hKB] at hX
 have hkf : ∀ b ∈ kf, w.heap.size < b ∧ b ≠ KB := fun b hb => by have := hkf0 b hb; have := hrk.lt _ b hb; omega
 have hlf : ∀ b ∈ lf, w.heap.size < b ∧ b < KB := fun b hb => by have := hlf0 b hb; have := hrl.lt _ b hb; omega
 have hrK : rb < KB := by have := hRd.lt; omega
 have hwK : w.heap.size < KB := by omega
 go_upto_region 4 with fail
 rw [← hKB]
 have hba := zb w4 (.cells #[.slice sa K.sig.syms.length sc, .slice la K.levels.length lc] 28)
 replace hA := hA.below hba
 replace hrk := hrk.below hba
 replace hrl := hrl.below hba
 replace hRd := hRd.below hba
 replace hN := hN.trans (Only.below hba)
 have hzK : KB + 1 ≤ (w4.alloc (.cells #[.slice sa K.sig.syms.length sc, .slice la K.levels.length lc] 28)).heap.size := hX.1
 clear hba hKB hkf0 hlf0 hlg0
 generalize w4.alloc (.cells #[.slice sa K.sig.syms.length sc, .slice la K.levels.length lc] 28) = w5 at *
 go_wp2_with fail
 refine (zbf 5 [3, 4, 6, 2, 0] [.int .i64 3, .int .i64 4, .int .i64 6, .int .i64 2, .int .i64 0] rfl rfl rb (p + 1 + 600) _ _ (by omega) (by simp) (by simp) (by exact Lst.new hRd.lt _ _) (hRd.below (zb _ _))).mono ?_
 rintro e w6 ⟨⟨n0, hn0, rfl⟩, hRn, ho⟩
 obtain ⟨n, rfl, hn6⟩ : ∃ n : Nat, n0 = (n : Int) ∧ n ≤ 6 := ⟨n0.toNat, by simp at hn0; omega, by simp at hn0; omega⟩
 have hbn := zb w5 (.cells #[.int .i64 3, .int .i64 4, .int .i64 6, .int .i64 2, .int .i64 0] 3)
 have hz6 := ho.size
 rw [World.size_alloc] at hz6
 replace hX := (hX.below hbn).only ho (by omega)
 replace hA := (hA.below hbn).only ho (by omega)
 replace hrk := (hrk.below hbn).only ho (fun h => by have := hkf _ h; omega)
 replace hrl := (hrl.below hbn).only ho (fun h => by have := hlf _ h; omega)
 replace hN := (hN.trans (Only.below hbn)).trans ho
 clear hRd hbn ho hn0
 go_wp2_with fail
 go_loopw [7] (fun iv wr => ∃ (k n : Nat) (K : Stk) (sa : Option Addr) (sc : Nat) (la : Option Addr) (lc : Nat) (kf : List Nat) (q : Nat), iv = .int .i64 k ∧ k + n ≤ 6 ∧ q + k * 200 ≤ p + 2000 ∧ Hid (StkLite n K) ∧ RdVs wr K.cd [.slice sa K.sig.syms.length sc, .slice la K.levels.length lc] kf ∧ (∀ b ∈ kf, w.heap.size < b ∧ b ≠ KB) ∧ Box [.slice sa K.sig.syms.length sc, .slice la K.levels.length lc] KB wr ∧ Box [.slice none 0 0, .slice none 0 0] w.heap.size wr ∧ Rd wr (.sl (l.map Atm.cd)) (.slice ta l.length tc) lf ∧ Rdr wr rb q ∧ Only [rb] w wr ∧ KB + 1 ≤ wr.heap.size) (fun iv _ => (intOf iv).toNat)
 case atStart => exact ⟨n, 0, K, sa, sc, la, lc, kf, p + 1 + 600 + 1, rfl, by omega, by omega, HK, hrk, hkf, hX, hA, hrl, hRn, hN, by omega⟩
 case round =>
  clear hX hA hrk hrl hRn hN HK hkf hzK hz6
  obtain ⟨k, n, K, sa, sc, la, lc, kf, q, rfl, hk, hq, HK, hrk, hkf, hX, hA, hrl, hRd, hN, hzr⟩ := hrel
  by_cases hn : (0 : Int) < (k : Int)
  ·have x0 := hX.2.1 0 _ rfl; have x1 := hX.2.1 1 _ rfl
   obtain ⟨V, hVe⟩ : ∃ V, V = wr.heap.size := ⟨_, rfl⟩
   have hV := Box.new wr [.slice sa K.sig.syms.length sc, .slice la K.levels.length lc] 28
   rw [← hVe] at hV
   have hkV : ∀ b ∈ kf, b ≠ V := fun b hb => by have := hrk.lt _ b hb; omega
   have hKV : KB < V := by omega
   have hba := zb wr (.cells #[.slice sa K.sig.syms.length sc, .slice la K.levels.length lc] 28)
   go_upto_region 8 with fail
   rw [← hVe]
   replace hX := hX.below hba
   replace hA := hA.below hba
   replace hrk := hrk.below hba
   replace hrl := hrl.below hba
   replace hRd := hRd.below hba
   replace hN := hN.trans (Only.below hba)
   have hzV : V + 1 ≤ (wr.alloc (.cells #[.slice sa K.sig.syms.length sc, .slice la K.levels.length lc] 28)).heap.size := hV.1
   clear hba hVe x0 x1
   have hlV : ∀ b ∈ lf, b ≠ V := fun b hb => by have := hlf b hb; omega
   generalize wr.alloc (.cells #[.slice sa K.sig.syms.length sc, .slice la K.levels.length lc] 28) = u4 at *
   go_wp2_with fail
   refine (zX rb q 4 _ (by omega) (by omega) (by omega) hRd).mono ?_
   rintro e u5 ⟨⟨m, hm, rfl⟩, hRn, ho⟩
   have hz5 := ho.size
   replace hX := hX.only ho (by omega)
   replace hA := hA.only ho (by omega)
   replace hrk := hrk.only ho (fun h => by have := hkf _ h; omega)
   replace hrl := hrl.only ho (fun h => by have := hlf _ h; omega)
   replace hN := hN.trans ho
   replace hV := hV.only ho (by omega)
   clear hRd ho
   have hRd := hRn
   clear hRn
   by_cases m0 : m = 0
   ·subst m0
    have x0 := hX.2.1 0 _ rfl; have x1 := hX.2.1 1 _ rfl
    go_wp2_with fail
    refine (za5 K _ _ _ (by have := HK.out.2; omega) (by exact hrk)).mono ?_
    rintro e w6 ⟨us, k2f, rfl, hr2, hk2', hb6⟩
    obtain ⟨s2a, s2c, _, l2a, l2c, _, rfl, _, _, _⟩ := Stk.open hr2
    have hk2 : ∀ b ∈ k2f, KB < b ∧ V < b := fun b hb => by have := (hk2'.2 b hb).1; omega
    obtain ⟨ob, hob⟩ : ∃ b, b = K.push.2 := ⟨_, rfl⟩
    rw [← hob]
    clear hob hk2' x0 x1
    have hz6 := hb6.size
    replace hX := hX.below hb6
    replace hA := hA.below hb6
    replace hrk := hrk.below hb6
    replace hrl := hrl.below hb6
    replace hRd := hRd.below hb6
    replace hN := hN.trans (Only.below hb6)
    replace hV := hV.below hb6
    clear hb6
    have v0 := hV.2.1 0 _ rfl; have v1 := hV.2.1 1 _ rfl; have vf0 := hV.2.2 0; have vf1 := hV.2.2 1
    have gV := hV.puts [.slice s2a K.push.1.sig.syms.length s2c, .slice l2a K.push.1.levels.length l2c] rfl
    replace hX := hX.sets_other (b := V) (by omega) (ze 0 [.slice s2a K.push.1.sig.syms.length s2c, .slice l2a K.push.1.levels.length l2c])
    replace hA := hA.sets_other (b := V) (by omega) (ze 0 [.slice s2a K.push.1.sig.syms.length s2c, .slice l2a K.push.1.levels.length l2c])
    replace hN := Only.setsR (b := V) (by omega) (ze 0 [.slice s2a K.push.1.sig.syms.length s2c, .slice l2a K.push.1.levels.length l2c]) hN
    replace hRd := Rdr.sets (b := V) (by omega) (ze 0 [.slice s2a K.push.1.sig.syms.length s2c, .slice l2a K.push.1.levels.length l2c]) hRd
    have hKK := (Same2.refl V V w6).sets (b := V) (.inl rfl) (ze 0 [.slice s2a K.push.1.sig.syms.length s2c, .slice l2a K.push.1.levels.length l2c])
    replace hrk := hrk.same2 hKK (fun b hb => by have := hkV b hb; omega)
    replace hrl := hrl.same2 hKK (fun b hb => by have := hlf b hb; omega)
    replace hr2 := hr2.same2 hKK (fun b hb => by have := hk2 b hb; omega)
    simp only [zo, ze] at gV hX hA hN hRd hrk hrl hr2
    clear hKK hV
    go_upto_region 16 with fail
    clear v0 v1
    generalize (w6.setCell ⟨V, 0, none⟩ (.slice s2a K.push.1.sig.syms.length s2c)).setCell ⟨V, 1, none⟩ (.slice l2a K.push.1.levels.length l2c) = w7 at *
    have hV := gV
    clear gV vf0 vf1
    have hz7 := hV.1
    cases ob
    ·clear hr2 hk2 hV
     go_wp2_with fail
     go_roundw
     case rel => exact ⟨k - 1, n, K, sa, sc, la, lc, kf, (q + 1), by go_num, by omega, by omega, HK, hrk, hkf, hX, hA, hrl, hRd, hN, by omega⟩
     case measure => simp [intOf]; omega
    ·have v0 := hV.2.1 0 _ rfl; have v1 := hV.2.1 1 _ rfl
     have x0 := hX.2.1 0 _ rfl; have x1 := hX.2.1 1 _ rfl; have xf0 := hX.2.2 0; have xf1 := hX.2.2 1
     have hK2 := Lib.hid (lite_push HK.out)
     have gX := hX.puts [.slice s2a K.push.1.sig.syms.length s2c, .slice l2a K.push.1.levels.length l2c] rfl
     replace hA := hA.sets_other (b := KB) (by omega) (ze 0 [.slice s2a K.push.1.sig.syms.length s2c, .slice l2a K.push.1.levels.length l2c])
     replace hN := Only.setsR (b := KB) (by omega) (ze 0 [.slice s2a K.push.1.sig.syms.length s2c, .slice l2a K.push.1.levels.length l2c]) hN
     replace hRd := Rdr.sets (b := KB) (by omega) (ze 0 [.slice s2a K.push.1.sig.syms.length s2c, .slice l2a K.push.1.levels.length l2c]) hRd
     have hKK := (Same2.refl KB KB w7).sets (b := KB) (.inl rfl) (ze 0 [.slice s2a K.push.1.sig.syms.length s2c, .slice l2a K.push.1.levels.length l2c])
     replace hrl := hrl.same2 hKK (fun b hb => by have := hlf b hb; omega)
     replace hr2 := hr2.same2 hKK (fun b hb => by have := hk2 b hb; omega)
     have hz9 : KB + 1 ≤ (zo KB (ze 0 [.slice s2a K.push.1.sig.syms.length s2c, .slice l2a K.push.1.levels.length l2c]) w7).heap.size := gX.1
     simp only [zo, ze] at gX hA hN hRd hrl hr2 hz9
     clear hKK hX hrk hkf hV
     go_wp2_with fail
     go_roundw
     case rel => exact ⟨k - 1, n + 1, _, _, _, _, _, k2f, (q + 1), by go_num, by omega, by omega, hK2, hr2, fun b hb => by have := hk2 b hb; omega, gX, hA, hrl, hRd, hN, hz9⟩
     case measure => simp [intOf]; omega
   have e0 : ((m : Int) == 0) = false := by simpa using (by omega : ¬ ((m : Int) = 0))
   by_cases m1 : m = 1
   ·subst m1
    go_wp2_with fail
    refine (zX rb (q + 1) 2 _ (by omega) (by omega) (by omega) hRd).mono ?_
    rintro e u6 ⟨⟨j, hj, rfl⟩, hRn, ho⟩
    have hz6' := ho.size
    replace hX := hX.only ho (by omega)
    replace hA := hA.only ho (by omega)
    replace hrk := hrk.only ho (fun h => by have := hkf _ h; omega)
    replace hrl := hrl.only ho (fun h => by have := hlf _ h; omega)
    replace hN := hN.trans ho
    replace hV := hV.only ho (by omega)
    clear hRd ho
    have hRd := hRn
    clear hRn
    by_cases j0 : j = 0
    ·subst j0
     have x0 := hX.2.1 0 _ rfl; have x1 := hX.2.1 1 _ rfl
     go_wp2_with fail
     refine (zcl K _ _ _ (by have := HK.out.2; omega) (by exact hrk)).mono ?_
     rintro e w6 ⟨us, k2f, rfl, hr2, hk2', hb6⟩
     obtain ⟨s2a, s2c, _, l2a, l2c, _, rfl, _, _, _⟩ := Stk.open hr2
     have hk2 : ∀ b ∈ k2f, KB < b ∧ V < b := fun b hb => by have := hk2' b hb; omega
     obtain ⟨ob, hob⟩ : ∃ b, b = K.pop.2 := ⟨_, rfl⟩
     rw [← hob]
     clear hob hk2' x0 x1
     have hz6 := hb6.size
     replace hX := hX.below hb6
     replace hA := hA.below hb6
     replace hrk := hrk.below hb6
     replace hrl := hrl.below hb6
     replace hRd := hRd.below hb6
     replace hN := hN.trans (Only.below hb6)
     replace hV := hV.below hb6
     clear hb6
     have v0 := hV.2.1 0 _ rfl; have v1 := hV.2.1 1 _ rfl; have vf0 := hV.2.2 0; have vf1 := hV.2.2 1
     have gV := hV.puts [.slice s2a K.pop.1.sig.syms.length s2c, .slice l2a K.pop.1.levels.length l2c] rfl
     replace hX := hX.sets_other (b := V) (by omega) (ze 0 [.slice s2a K.pop.1.sig.syms.length s2c, .slice l2a K.pop.1.levels.length l2c])
     replace hA := hA.sets_other (b := V) (by omega) (ze 0 [.slice s2a K.pop.1.sig.syms.length s2c, .slice l2a K.pop.1.levels.length l2c])
     replace hN := Only.setsR (b := V) (by omega) (ze 0 [.slice s2a K.pop.1.sig.syms.length s2c, .slice l2a K.pop.1.levels.length l2c]) hN
     replace hRd := Rdr.sets (b := V) (by omega) (ze 0 [.slice s2a K.pop.1.sig.syms.length s2c, .slice l2a K.pop.1.levels.length l2c]) hRd
     have hKK := (Same2.refl V V w6).sets (b := V) (.inl rfl) (ze 0 [.slice s2a K.pop.1.sig.syms.length s2c, .slice l2a K.pop.1.levels.length l2c])
     replace hrk := hrk.same2 hKK (fun b hb => by have := hkV b hb; omega)
     replace hrl := hrl.same2 hKK (fun b hb => by have := hlf b hb; omega)
     replace hr2 := hr2.same2 hKK (fun b hb => by have := hk2 b hb; omega)
     simp only [zo, ze] at gV hX hA hN hRd hrk hrl hr2
     clear hKK hV
     go_upto_region 16 with fail
     clear v0 v1
     generalize (w6.setCell ⟨V, 0, none⟩ (.slice s2a K.pop.1.sig.syms.length s2c)).setCell ⟨V, 1, none⟩ (.slice l2a K.pop.1.levels.length l2c) = w7 at *
     have hV := gV
     clear gV vf0 vf1
     have hz7 := hV.1
     cases ob
     ·clear hr2 hk2 hV
      go_wp2_with fail
      go_roundw
      case rel => exact ⟨k - 1, n, K, sa, sc, la, lc, kf, (q + 1 + 1), by go_num, by omega, by omega, HK, hrk, hkf, hX, hA, hrl, hRd, hN, by omega⟩
      case measure => simp [intOf]; omega
     ·have v0 := hV.2.1 0 _ rfl; have v1 := hV.2.1 1 _ rfl
      have x0 := hX.2.1 0 _ rfl; have x1 := hX.2.1 1 _ rfl; have xf0 := hX.2.2 0; have xf1 := hX.2.2 1
      have hK2 := Lib.hid (lite_pop HK.out)
      have gX := hX.puts [.slice s2a K.pop.1.sig.syms.length s2c, .slice l2a K.pop.1.levels.length l2c] rfl
      replace hA := hA.sets_other (b := KB) (by omega) (ze 0 [.slice s2a K.pop.1.sig.syms.length s2c, .slice l2a K.pop.1.levels.length l2c])
      replace hN := Only.setsR (b := KB) (by omega) (ze 0 [.slice s2a K.pop.1.sig.syms.length s2c, .slice l2a K.pop.1.levels.length l2c]) hN
      replace hRd := Rdr.sets (b := KB) (by omega) (ze 0 [.slice s2a K.pop.1.sig.syms.length s2c, .slice l2a K.pop.1.levels.length l2c]) hRd
      have hKK := (Same2.refl KB KB w7).sets (b := KB) (.inl rfl) (ze 0 [.slice s2a K.pop.1.sig.syms.length s2c, .slice l2a K.pop.1.levels.length l2c])
      replace hrl := hrl.same2 hKK (fun b hb => by have := hlf b hb; omega)
      replace hr2 := hr2.same2 hKK (fun b hb => by have := hk2 b hb; omega)
      have hz9 : KB + 1 ≤ (zo KB (ze 0 [.slice s2a K.pop.1.sig.syms.length s2c, .slice l2a K.pop.1.levels.length l2c]) w7).heap.size := gX.1
      simp only [zo, ze] at gX hA hN hRd hrl hr2 hz9
      clear hKK hX hrk hkf hV
      go_wp2_with fail
      go_roundw
      case rel => exact ⟨k - 1, n + 1, _, _, _, _, _, k2f, (q + 1 + 1), by go_num, by omega, by omega, hK2, hr2, fun b hb => by have := hk2 b hb; omega, gX, hA, hrl, hRd, hN, hz9⟩
      case measure => simp [intOf]; omega
    ·have j1 : ((j : Int) == 0) = false := by simpa using (by omega : ¬ ((j : Int) = 0))
     clear hV
     go_wp2_with fail
     go_roundw
     case rel => exact ⟨k - 1, n, K, sa, sc, la, lc, kf, (q + 1 + 1), by go_num, by omega, by omega, HK, hrk, hkf, hX, hA, hrl, hRd, hN, by omega⟩
     case measure => simp [intOf]; omega
   have e1 : ((m : Int) == 1) = false := by simpa using (by omega : ¬ ((m : Int) = 1))
   have hbd := zm u5
   replace hX := hX.below hbd
   replace hA := hA.below hbd
   replace hrk := hrk.below hbd
   replace hrl := hrl.below hbd
   replace hRd := hRd.below hbd
   replace hN := hN.trans (Only.below hbd)
   replace hV := hV.below hbd
   clear hbd
   go_upto_region 10 with fail
   refine Till.start (F := (fun U : World => U.cell? ⟨KB, 0, none⟩ = some (.slice sa K.sig.syms.length sc) ∧ U.cell? ⟨KB, 1, none⟩ = some (.slice la K.levels.length lc))) (s0 := 12) (by kernel_rfl) ?_
   have hF : (fun U : World => U.cell? ⟨KB, 0, none⟩ = some (.slice sa K.sig.syms.length sc) ∧ U.cell? ⟨KB, 1, none⟩ = some (.slice la K.levels.length lc)) _ := And.intro (hX.2.1 0 _ rfl) (hX.2.1 1 _ rfl)
   refine Till.take (i := 0) (v := (.agg #[.slice sa K.sig.syms.length sc, .slice la K.levels.length lc])) rfl (by kernel_rfl) (by kernel_rfl) (by kernel_rfl) (fun _ _ _ h => h) (by kernel_rfl) (Or.inl ⟨by rfl, fun U hU => ?_⟩) hF ?_
   ·obtain ⟨u0F, u1F⟩ := hU
    go_simp
   try simp only [Act.put, zdX, zdY, zdZ]
   refine Till.take (i := 1) (v := (.pointer (some ⟨rb, 0, none⟩))) rfl (by kernel_rfl) (by kernel_rfl) (by kernel_rfl) (fun _ _ _ h => h) (by kernel_rfl) (Or.inl ⟨by rfl, fun U hU => ?_⟩) hF ?_
   ·obtain ⟨u0F, u1F⟩ := hU
    go_simp
   try simp only [Act.put, zdX, zdY, zdZ]
   refine Till.take (i := 2) (v := (.slice ta l.length tc)) rfl (by kernel_rfl) (by kernel_rfl) (by kernel_rfl) (fun _ _ _ h => h) (by kernel_rfl) (Or.inl ⟨by rfl, fun U hU => ?_⟩) hF ?_
   ·obtain ⟨u0F, u1F⟩ := hU
    go_simp
   try simp only [Act.put, zdX, zdY, zdZ]
   refine Till.take (i := 3) (v := (.pointer (some ⟨rb, 0, none⟩))) rfl (by kernel_rfl) (by kernel_rfl) (by kernel_rfl) (fun _ _ _ h => h) (by kernel_rfl) (Or.inl ⟨by rfl, fun U hU => ?_⟩) hF ?_
   ·obtain ⟨u0F, u1F⟩ := hU
    go_simp
   try simp only [Act.put, zdX, zdY, zdZ]
   refine Till.one (i := 4) (by kernel_rfl) rfl (fun J9 hK => ?_)
   go_simp
   have hba : Below u5.drew.heap.size u5.drew (u5.alloc (.cells #[.int .i64 1, .int .i64 2] 3)).drew := zcr (zb u5 _).drew
   have hLn : Lst rb [.int .i64 1, .int .i64 2] u5.heap.size (u5.alloc (.cells #[.int .i64 1, .int .i64 2] 3)).drew := (Lst.new (w := u5) hRd.lt _ _).drew
   replace hX := hX.below hba
   replace hA := hA.below hba
   replace hrk := hrk.below hba
   replace hrl := hrl.below hba
   replace hRd := hRd.below hba
   replace hN := hN.trans (Only.below hba)
   replace hV := hV.below hba
   replace hF := And.intro (hX.2.1 0 _ rfl) (hX.2.1 1 _ rfl)
   have hzb := hba.size
   clear hba
   refine hK.out _ _ (fun _ => hF) ?_
   clear hK
   try simp only [Act.put, zdX, zdY, zdZ]
   generalize (u5.alloc (.cells #[.int .i64 1, .int .i64 2] 3)).drew = u6 at *
   refine Till.one (i := 5) (by kernel_rfl) rfl (fun J9 hK => ?_)
   go_simp
   go_wp2_with (go_at_call 24; refine (zbf 2 [1, 2] [.int .i64 1, .int .i64 2] rfl rfl rb (q + 1) _ _ (by omega) (by simp) (by simp) (by exact hLn) hRd).mono ?_; rintro e u7 ⟨⟨dv, hdv, rfl⟩, hRn, ho⟩)
   have hd1 : 1 ≤ dv ∧ dv ≤ 2 := by simp at hdv; omega
   have hz7 := ho.size
   replace hX := hX.only ho (by omega)
   replace hA := hA.only ho (by omega)
   replace hrk := hrk.only ho (fun h => by have := hkf _ h; omega)
   replace hrl := hrl.only ho (fun h => by have := hlf _ h; omega)
   replace hN := hN.trans ho
   replace hV := hV.only ho (by omega)
   clear hRd ho hdv hLn
   have hRd := hRn
   clear hRn
   replace hF := And.intro (hX.2.1 0 _ rfl) (hX.2.1 1 _ rfl)
   refine hK.out _ _ (fun _ => hF) ?_
   clear hK
   try simp only [Act.put, zdX, zdY, zdZ]
   refine Till.one (i := 6) (by kernel_rfl) rfl (fun J9 hK => ?_)
   go_simp
   go_wp2_with (go_at_call 12; refine (zdb 2 l _ lf dv rb ((q + 1) + 1) _ (by omega) (by omega) (by omega) (by simp only [gcap]; omega) hl1 hl6 HL (by exact hrl) (fun h => by have := hlf _ h; omega) (by exact hRd)).mono ?_; rintro e u8 ⟨⟨f, vf, ff, hwf, rfl, hrf, hff⟩, hRn, ho⟩)
   have HWF : wtV f.cd ≤ 75030 := by have h4 : fcap 2 = 15006 := rfl; rw [h4] at hwf; omega
   have hz8 := ho.size
   replace hX := hX.only ho (by omega)
   replace hA := hA.only ho (by omega)
   replace hrk := hrk.only ho (fun h => by have := hkf _ h; omega)
   replace hrl := hrl.only ho (fun h => by have := hlf _ h; omega)
   replace hN := hN.trans ho
   replace hV := hV.only ho (by omega)
   clear hRd ho hwf
   have hRd := hRn
   clear hRn
   replace hF := And.intro (hX.2.1 0 _ rfl) (hX.2.1 1 _ rfl)
   refine hK.out _ _ (fun _ => hF) ?_
   clear hK
   try simp only [Act.put, zdX, zdY, zdZ]
   refine Till.one (i := 7) (by kernel_rfl) rfl (fun J9 hK => ?_)
   go_simp
   go_wp2_with (go_at_call 11; refine (za6 K f _ _ _ _ _ (by have := HK.out.2; omega) (by exact hrk) (by exact hrf)).mono ?_; rintro e w6 ⟨us, k2f, rfl, hr2, hk2', hb6⟩)
   obtain ⟨s2a, s2c, _, l2a, l2c, _, rfl, _, _, _⟩ := Stk.open hr2
   have hk2 : ∀ b ∈ k2f, KB < b ∧ V < b := fun b hb => by have := hk2' b hb; have := hV.1; omega
   have hz9 := hb6.size
   replace hX := hX.below hb6
   replace hA := hA.below hb6
   replace hrk := hrk.below hb6
   replace hrl := hrl.below hb6
   replace hRd := hRd.below hb6
   replace hN := hN.trans (Only.below hb6)
   replace hV := hV.below hb6
   clear hk2' hb6 hrf
   obtain ⟨T2, hT2⟩ : ∃ T, T = K.tell f := ⟨_, rfl⟩
   have HT2 : Hid (StkLite (n + 1) T2.1) := Lib.hid (by rw [hT2]; exact lite_tell HK.out HWF)
   rw [← hT2] at hr2 ⊢
   clear hT2 HWF hff
   obtain ⟨T1, ob⟩ := T2
   replace hF := And.intro (hX.2.1 0 _ rfl) (hX.2.1 1 _ rfl)
   refine hK.out _ _ (fun _ => hF) ?_
   clear hK
   try simp only [Act.put, zdX, zdY, zdZ]
   refine Till.take (i := 8) (v := (.tuple #[.agg #[.slice s2a T1.sig.syms.length s2c, .slice l2a T1.levels.length l2c], .bool ob])) rfl (by kernel_rfl) (by kernel_rfl) (by kernel_rfl) (fun _ _ _ h => h) (by kernel_rfl) (Or.inl ⟨by rfl, fun U hU => ?_⟩) hF ?_
   ·obtain ⟨u0F, u1F⟩ := hU
    go_simp
   try simp only [Act.put, zdX, zdY, zdZ]
   refine Till.take (i := 9) (v := (.agg #[.slice s2a T1.sig.syms.length s2c, .slice l2a T1.levels.length l2c])) rfl (by kernel_rfl) (by kernel_rfl) (by kernel_rfl) (fun _ _ _ h => h) (by kernel_rfl) (Or.inl ⟨by rfl, fun U hU => ?_⟩) hF ?_
   ·obtain ⟨u0F, u1F⟩ := hU
    go_simp
   try simp only [Act.put, zdX, zdY, zdZ]
   refine Till.take (i := 10) (v := (.bool ob)) rfl (by kernel_rfl) (by kernel_rfl) (by kernel_rfl) (fun _ _ _ h => h) (by kernel_rfl) (Or.inl ⟨by rfl, fun U hU => ?_⟩) hF ?_
   ·obtain ⟨u0F, u1F⟩ := hU
    go_simp
   try simp only [Act.put, zdX, zdY, zdZ]
   refine Till.one (i := 11) (by kernel_rfl) rfl (fun J9 hK => ?_)
   have v0 := hV.2.1 0 _ rfl; have v1 := hV.2.1 1 _ rfl; have vf0 := hV.2.2 0; have vf1 := hV.2.2 1
   go_simp
   have gV := hV.puts [.slice s2a T1.sig.syms.length s2c, .slice l2a T1.levels.length l2c] rfl
   replace hX := hX.sets_other (b := V) (by omega) (ze 0 [.slice s2a T1.sig.syms.length s2c, .slice l2a T1.levels.length l2c])
   replace hA := hA.sets_other (b := V) (by omega) (ze 0 [.slice s2a T1.sig.syms.length s2c, .slice l2a T1.levels.length l2c])
   replace hN := Only.setsR (b := V) (by omega) (ze 0 [.slice s2a T1.sig.syms.length s2c, .slice l2a T1.levels.length l2c]) hN
   replace hRd := Rdr.sets (b := V) (by omega) (ze 0 [.slice s2a T1.sig.syms.length s2c, .slice l2a T1.levels.length l2c]) hRd
   have hKK := (Same2.refl V V w6).sets (b := V) (.inl rfl) (ze 0 [.slice s2a T1.sig.syms.length s2c, .slice l2a T1.levels.length l2c])
   replace hrk := hrk.same2 hKK (fun b hb => by have := hkV b hb; omega)
   replace hrl := hrl.same2 hKK (fun b hb => by have := hlf b hb; omega)
   replace hr2 := hr2.same2 hKK (fun b hb => by have := hk2 b hb; omega)
   simp only [zo, ze] at gV hX hA hN hRd hrk hrl hr2
   replace hF := And.intro (hX.2.1 0 _ rfl) (hX.2.1 1 _ rfl)
   refine hK.out _ _ (fun _ => hF) ?_
   clear hK hKK hV v0 v1 vf0 vf1
   try simp only [Act.put, zdX, zdY, zdZ]
   refine Till.one (i := 12) (by kernel_rfl) rfl (fun J9 hK => ?_)
   go_simp
   refine hK.out _ _ (fun h => absurd h (by decide)) ?_
   clear hK hF
   try simp only [Act.put, zdX, zdY, zdZ]
   refine Till.done (by kernel_rfl) ?_ _
   go_upto_region 16 with fail
   generalize (w6.setCell ⟨V, 0, none⟩ (.slice s2a T1.sig.syms.length s2c)).setCell ⟨V, 1, none⟩ (.slice l2a T1.levels.length l2c) = w7 at *
   have hV := gV
   clear gV
   have hz7 := hV.1
   cases ob
   ·clear hr2 hk2 hV
    go_wp2_with fail
    go_roundw
    case rel => exact ⟨k - 1, n, K, sa, sc, la, lc, kf, ((q + 1) + 1 + gcap 2), by go_num, by omega, by simp only [gcap]; omega, HK, hrk, hkf, hX, hA, hrl, hRd, hN, by omega⟩
    case measure => simp [intOf]; omega
   ·have v0 := hV.2.1 0 _ rfl; have v1 := hV.2.1 1 _ rfl
    have x0 := hX.2.1 0 _ rfl; have x1 := hX.2.1 1 _ rfl; have xf0 := hX.2.2 0; have xf1 := hX.2.2 1
    have hK2 := Lib.hid (HT2.out)
    have gX := hX.puts [.slice s2a T1.sig.syms.length s2c, .slice l2a T1.levels.length l2c] rfl
    replace hA := hA.sets_other (b := KB) (by omega) (ze 0 [.slice s2a T1.sig.syms.length s2c, .slice l2a T1.levels.length l2c])
    replace hN := Only.setsR (b := KB) (by omega) (ze 0 [.slice s2a T1.sig.syms.length s2c, .slice l2a T1.levels.length l2c]) hN
    replace hRd := Rdr.sets (b := KB) (by omega) (ze 0 [.slice s2a T1.sig.syms.length s2c, .slice l2a T1.levels.length l2c]) hRd
    have hKK := (Same2.refl KB KB w7).sets (b := KB) (.inl rfl) (ze 0 [.slice s2a T1.sig.syms.length s2c, .slice l2a T1.levels.length l2c])
    replace hrl := hrl.same2 hKK (fun b hb => by have := hlf b hb; omega)
    replace hr2 := hr2.same2 hKK (fun b hb => by have := hk2 b hb; omega)
    have hz9 : KB + 1 ≤ (zo KB (ze 0 [.slice s2a T1.sig.syms.length s2c, .slice l2a T1.levels.length l2c]) w7).heap.size := gX.1
    simp only [zo, ze] at gX hA hN hRd hrl hr2 hz9
    clear hKK hX hrk hkf hV
    go_wp2_with fail
    go_roundw
    case rel => exact ⟨k - 1, n + 1, _, _, _, _, _, k2f, ((q + 1) + 1 + gcap 2), by go_num, by omega, by simp only [gcap]; omega, hK2, hr2, fun b hb => by have := hk2 b hb; omega, gX, hA, hrl, hRd, hN, hz9⟩
    case measure => simp [intOf]; omega
  ·obtain rfl : k = 0 := by omega
   have x0 := hX.2.1 0 _ rfl; have x1 := hX.2.1 1 _ rfl
   go_upto_region 18 with fail
   have yr0 := hA.2.1 0 _ rfl; have yr1 := hA.2.1 1 _ rfl; have zr0 := hA.2.2 0; have zr1 := hA.2.2 1
   have gR := hA.puts [.slice sa K.sig.syms.length sc, .slice la K.levels.length lc] rfl
   have hO5 := Only.setsR (b := w.heap.size) (Nat.le_refl _) (ze 0 [.slice sa K.sig.syms.length sc, .slice la K.levels.length lc]) hN
   have hR9 := Rdr.sets (b := w.heap.size) (by omega) (ze 0 [.slice sa K.sig.syms.length sc, .slice la K.levels.length lc]) hRd
   have hKK := (Same2.refl w.heap.size w.heap.size wr).sets (b := w.heap.size) (.inl rfl) (ze 0 [.slice sa K.sig.syms.length sc, .slice la K.levels.length lc])
   simp only [zo, ze] at gR hO5 hR9 hKK
   have r0 := gR.2.1 0 _ rfl
   have r1 := gR.2.1 1 _ rfl
   have hrk2 := hrk.same2 hKK (fun b hb => by have := hkf b hb; omega)
   have hrl2 := hrl.same2 hKK (fun b hb => by have := hlf b hb; omega)
   clear gR hKK hN hRd hrk hrl hA hX
   go_wp2_with fail
   refine bodyPost_ret (v := .tuple #[.agg #[.slice sa K.sig.syms.length sc, .slice la K.levels.length lc], .slice ta l.length tc]) (by simp [results, Try.results8, go_sem, r0, r1]) rfl ?_
   exact ⟨⟨K, l, _, _, _, _, _, _, kf, lf, HK.out.mono (by omega), ⟨hl1, hl6, HL.out⟩, rfl, hrk2, hrl2, fun b hb => by have := hkf b hb; omega, fun b hb => by have := hlf b hb; omega⟩, hR9.mono (by omega), hO5⟩
theorem lite_fit {K : Stk} (h : StkLite 6 K) : za7 5 2 451000 K := ⟨h.1, Nat.le_trans h.2 (by decide)⟩
end Go.Proofs.Yticlgpkjdmcnaaa
end
