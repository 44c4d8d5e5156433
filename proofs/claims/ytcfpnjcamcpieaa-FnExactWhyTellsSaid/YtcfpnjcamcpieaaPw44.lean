/- Parts of the proof: MarkTm. -/
import Derived.Lib.QuietBelow
import Derived.Test.YtcfpnjcamcpieaaPw43
import Derived.Test.YtcfpnjcamcpieaaPw19
section
namespace Go.Proofs.Ytcfpnjcamcpieaa
open Go Go.RowKit
set_option linter.unusedVariables false
set_option linter.unusedSimpArgs false
set_option maxRecDepth 100000
set_option maxHeartbeats 16000000
mutual
theorem Tm.cntV_cd : ∀ (t : Tm), cntV t.cd = t.size
 | .mk n ks => by have := Tm.cntR_cds ks; simp only [Tm.cd, cntV, cnt, Tm.size, this]; omega
theorem Tm.cntR_cds : ∀ (ts : List Tm), cntR (ts.map Tm.cd) = Tm.sizes ts
 | [] => by simp [cntR, Tm.sizes]
 | t :: ts => by have := Tm.cntV_cd t; have := Tm.cntR_cds ts; simp only [List.map_cons, cntR, Tm.sizes]; omega
end
theorem za0 {s : ByteArray} : ∀ (w : World) (v : Value) (f : List Nat), Rd w (.str s) v f → f = [] := fun w v f h => by simp only [Rd] at h; exact h.2.2
theorem mtx_size (k : Int) (h : k ≤ 200000000000000) : (mtx k).size ≤ maxLen := by
 unfold mtx
 split
 ·simp [maxLen, ByteArray.size]
 ·simp only [ByteArray.size, List.size_toArray, List.length_cons]
  have h1 : k.toNat < 10 ^ k.toNat := Nat.lt_pow_self (by omega)
  have := zb2 k.toNat k.toNat [] h1
  simp only [List.length_nil] at this
  simp only [maxLen]; omega
theorem zb9 (w : World) (k : Int) (h : k ≤ 200000000000000) : Rd w (.str (mtx k)) (.string (mtx k)) [] := by
 simp only [Rd]; simp [mtx_size k h]
theorem zaC {α β : Type} (f : α → List β) (ts : List α) (k : Nat) (h : k < ts.length) : ((ts.map f).drop k).flatten = f ts[k] ++ ((ts.map f).drop (k + 1)).flatten := by
 rw [List.drop_eq_getElem_cons (by simpa using h), List.flatten_cons, List.getElem_map]
theorem zY {α : Type} (f : α → List CD) (ts : List α) (k : Nat) (h : k < ts.length) (q : Int) : (mkR ((ts.map f).take (k + 1)) q).flatten = (mkR ((ts.map f).take k) q).flatten ++ mkV (f ts[k]) (q + cntR ((ts.map f).take k)) := by
 rw [zc5 (by simpa using h), zbB, List.flatten_append]; simp [mkR]
theorem zv {α : Type} (f : α → List CD) (ts : List α) (k : Nat) (h : k < ts.length) : cntR ((ts.map f).take (k + 1)) = cntR ((ts.map f).take k) + cntV (f ts[k]) := by
 rw [zc5 (by simpa using h), zaL]; simp [cntR]
theorem zz (es : List (List CD)) (k : Nat) : cntR (es.take k) ≤ cntR es := by
 have := zaL (es.take k) (es.drop k); rw [List.take_append_drop] at this; omega
theorem zca {α : Type} (f : α → List CD) (ts : List α) (k n : Nat) (hn : ∀ t, (f t).length = n) (h : k ≤ ts.length) (q : Int) : (mkR ((ts.map f).take k) q).flatten.length = k * n := by
 rw [zb3 _ _ n]
 ·rw [List.length_take, zdb, Nat.min_eq_left h]
 ·intro e he
  have := List.mem_of_mem_take he
  simp only [List.mem_map] at this
  obtain ⟨t, _, rfl⟩ := this
  exact hn t
/-- A whole row, marked or not: read. -/
theorem RdFlat.sl {w : World} {b off n cap k : Nat} {es : List (List CD)} {f : List Nat} (h : RdFlat w b off es.flatten f) (hne : 0 < es.length) (hn : n = es.length) (hc : es.length ≤ cap) (hm : cap ≤ 9223372036854775807) (hb : b < w.heap.size) :
  Rd w (.sl es) (.slice (some ⟨b, off, none⟩) n cap) (b :: f) := by
 simp only [Rd]
 refine ⟨_, cap, by rw [hn], hc, by simpa [maxLen] using hm, .inr ⟨by rintro rfl; simp at hne, b, off, f, rfl, hb, rfl, h.toRows (k := k)⟩⟩
theorem zbX (n : Nat) : ∀ (ts : List Tm) (v : Value) (fp : List Nat) (k : Int) (w : World), Tm.sizes ts ≤ n → 0 < k → k + Tm.sizes ts ≤ 200000000000000 → Rd w (.sl (ts.map Tm.cd)) v fp → Free w fp → fp.Nodup →
  Calls Try.prog 40 #[v, .int .i64 k] w fun e w' => e = .returned (.int .i64 (k + Tm.sizes ts)) ∧ Rd w' (.sl (mkR (ts.map Tm.cd) k)) v fp ∧ Free w' fp ∧ Only fp w w' := by
 induction n with
 | zero =>
  intro ts v fp k w hn h0 h1 hv hf hnd
  have : ts.length = 0 := by have := Tm.sizes_len ts; omega
  obtain rfl := List.eq_nil_of_length_eq_zero this
  obtain ⟨a, cap, rfl, hc1, hc2⟩ := zan hv
  go_enter Try.func40, Try.ntmps40
  go_wp2_with fail
  refine wp_loop_rounds 1 ?_
  rw [rounds_succ]
  go_wp2_with fail
  go_ret
  exact ⟨retI (by simp [Tm.sizes]), by simpa [mkR] using hv, hf, Only.refl _ _⟩
 | succ n ih =>
  intro ts v fp k w hn h0 h1 hv hf hnd
  obtain ⟨a, cap, rfl, hc1, hc2⟩ := zan hv
  have IH := Lib.hid ih
  clear ih
  by_cases hne : 0 < ts.length
  ·obtain ⟨b, off, f, rfl, hbs, rfl, hrows⟩ := hv.addr (by simpa using hne)
   go_enter Try.func40, Try.ntmps40
   go_wp2_with fail
   go_loopw [1, 5] (fun kv iv wr => ∃ (i : Nat) (f1 f3 : List Nat), i ≤ ts.length ∧ iv = .int .i64 i ∧ kv = .int .i64 (k + cntR ((ts.map Tm.cd).take i)) ∧ Hid (f = f1 ++ f3) ∧ MkSt wr b off (mkR ((ts.map Tm.cd).take i) k).flatten ((ts.map Tm.cd).drop i).flatten f1 f3 ∧ Only (b :: f) w wr) (fun _ iv _ => ts.length - (intOf iv).toNat)
   case atStart => exact ⟨0, [], f, Nat.zero_le _, rfl, by simp [cntR], rfl, ⟨RdFlat.nil _ _ _, hrows.toFlat, hf, hnd⟩, Only.refl _ _⟩
   case round =>
    obtain ⟨i, f1, f3, hil, rfl, rfl, hff, hst, honly⟩ := hrel
    have hcs := zz (ts.map Tm.cd) i
    rw [Tm.cntR_cds] at hcs
    have hdl := zca Tm.cd ts i 2 Tm.cd_len hil k
    have hsz := honly.size
    by_cases hlt : i < ts.length
    ·have hc2' := zz (ts.map Tm.cd) (i + 1)
     rw [zv _ _ _ hlt, Tm.cntV_cd, Tm.cntR_cds] at hc2'
     have hs1 := Tm.size_eq ts[i]
     have HS1 := Lib.hid hs1
     have hsm := Tm.size_mem (zc7 hlt)
     have hsk : Tm.sizes ts[i].kids < ts[i].size := by omega
     clear hs1
     go_wp2_with fail
     refine (zV _ _ (by omega) (by omega)).mono ?_
     rintro e w1 ⟨rfl, hb1⟩
     have hst1 := hst.below hb1
     rw [zaC _ _ _ hlt, Tm.cd_eq] at hst1
     obtain ⟨v0, g1, g2, hg, hc0, hr0, _⟩ := hst1.htodo.head
     clear hg
     have hf0 := hst1.free.frozen (b := b) (j := off + i * 2) (by simp)
     have hst2 := hst1.scalar (d' := .str (mtx (k + cntR ((ts.map Tm.cd).take i)))) (u := .string (mtx (k + cntR ((ts.map Tm.cd).take i)))) (za0 _) (fun w' => zb9 w' _ (by omega))
     rw [hdl] at hc0 hst2
     obtain ⟨v1, fe, f2, rfl, hc1', hr1, ht1, hfe, hne1⟩ := hst2.head
     rw [zc8, hdl, List.length_singleton, ← Nat.add_assoc] at hc1' ht1
     obtain ⟨ka, kc, rfl, hk1, hk2⟩ := zan hr1
     clear hr0
     go_wp2_with fail
     refine (IH.out ts[i].kids _ fe _ _ (by omega) (by omega) (by omega) hr1 hfe hne1).mono ?_
     rintro e w3 ⟨rfl, hr3, hf3, ho3⟩
     have hst3 := hst2.slice (by rw [zc8, hdl, List.length_singleton, ← Nat.add_assoc]; exact hc1') (by rw [zc8, hdl, List.length_singleton, ← Nat.add_assoc]; exact ht1) ho3 hr3 hf3
     have hsub : ∀ x ∈ fe, x ∈ b :: f := fun x hx => by rw [hff.out]; simp [hx]
     have honly3 := ((honly.trans (Only.below hb1)).trans (Only.set (a := ⟨b, off + i * 2, none⟩) (u := .string (mtx (k + cntR ((ts.map Tm.cd).take i)))) (by simp))).trans (ho3.mono hsub)
     have HFF : Hid (f = (f1 ++ fe) ++ f2) := by show f = _; rw [hff.out, List.append_assoc]
     have HD : Hid ((mkR ((ts.map Tm.cd).take (i + 1)) k).flatten = (mkR ((ts.map Tm.cd).take i) k).flatten ++ [.str (mtx (k + cntR ((ts.map Tm.cd).take i)))] ++ [.sl (mkR (ts[i].kids.map Tm.cd) (k + cntR ((ts.map Tm.cd).take i) + 1))]) := by
      show _ = _
      rw [zY _ _ _ hlt, Tm.cd_eq]; simp [mkV, mkC, cnt]
     clear hff hsub
     go_wp2_with fail
     go_roundw
     case rel =>
      refine ⟨i + 1, f1 ++ fe, f2, by omega, by go_num, ?_, HFF.out, ?_, honly3⟩
      ·rw [zv _ _ _ hlt, Tm.cntV_cd, HS1.out]; go_num
      ·rw [HD.out]; exact hst3
     case measure => simp [intOf]; omega
    ·have he : i = ts.length := by omega
     have h1 : (ts.map Tm.cd).take i = ts.map Tm.cd := List.take_of_length_le (by simp; omega)
     have h2 : (ts.map Tm.cd).drop i = [] := List.drop_of_length_le (by simp; omega)
     rw [h1] at hst ⊢
     rw [h2] at hst
     obtain rfl := hst.htodo.nil_fp
     have hff' : f = f1 := by rw [hff.out]; simp
     subst hff'
     clear hff
     have hrd := hst.hdone.sl (n := ts.length) (cap := cap) (k := 2) (by rw [zI]; simpa using hne) (by rw [zI]; simp) (by rw [zI]; simpa using hc1) hc2 (hst.free.lt b (by simp))
     have hfr : Free wr (b :: f) := by simpa using hst.free
     have HC := Lib.hid (Tm.cntR_cds ts)
     go_wp2_with fail
     go_ret
     exact ⟨retI (by rw [HC.out]), hrd, hfr, honly⟩
  ·have : ts.length = 0 := by omega
   obtain rfl := List.eq_nil_of_length_eq_zero this
   go_enter Try.func40, Try.ntmps40
   go_wp2_with fail
   refine wp_loop_rounds 1 ?_
   rw [rounds_succ]
   go_wp2_with fail
   go_ret
   exact ⟨retI (by simp [Tm.sizes]), by simpa [mkR] using hv, hf, Only.refl _ _⟩
theorem zct : ∀ (es : List (List CD)) (k : Int) (i : Nat) (h : i < es.length), (mkR es k)[i]'(by rw [zI]; exact h) = mkV es[i] (k + cntR (es.take i))
 | e :: es, k, 0, _ => by simp [mkR, cntR]
 | e :: es, k, i + 1, h => by
  simp only [mkR, List.getElem_cons_succ, List.take_succ_cons, cntR]
  rw [zct es _ i (by simpa using h)]
  congr 1; omega
theorem zbY (n : Nat) : ∀ (ts : List Tm) (v : Value) (fp : List Nat) (k : Int) (w : World), Tm.sizes ts ≤ n → 0 < k → k + Tm.sizes ts ≤ 200000000000000 → Rd w (.sl (mkR (ts.map Tm.cd) k)) v fp →
  Calls Try.prog 66 #[v, .int .i64 k] w fun e w' => e = .returned (.int .i64 (k + Tm.sizes ts)) ∧ Below w.heap.size w w' := by
 induction n with
 | zero =>
  intro ts v fp k w hn h0 h1 hv
  have : ts.length = 0 := by have := Tm.sizes_len ts; omega
  obtain rfl := List.eq_nil_of_length_eq_zero this
  obtain ⟨a, cap, rfl, hc1, hc2⟩ := hv.sl_form
  go_enter Try.func66, Try.ntmps66
  go_wp2_with fail
  refine wp_loop_rounds 1 ?_
  rw [rounds_succ]
  go_wp2_with fail
  go_ret
  exact ⟨retI (by simp [Tm.sizes]), Below.refl _ _⟩
 | succ n ih =>
  intro ts v fp k w hn h0 h1 hv
  obtain ⟨a, cap, hvf, hc1, hc2⟩ := hv.sl_form
  rw [zI, zdb] at hvf hc1
  subst hvf
  have IH := Lib.hid ih
  clear ih
  go_enter Try.func66, Try.ntmps66
  go_wp2_with fail
  go_loopw [1, 5] (fun kv iv wr => ∃ i : Nat, i ≤ ts.length ∧ iv = .int .i64 i ∧ kv = .int .i64 (k + cntR ((ts.map Tm.cd).take i)) ∧ Below w.heap.size w wr) (fun _ iv _ => ts.length - (intOf iv).toNat)
  case atStart => exact ⟨0, Nat.zero_le _, rfl, by simp [cntR], Below.refl _ _⟩
  case round =>
   obtain ⟨i, hil, rfl, rfl, hb⟩ := hrel
   have hcs := zz (ts.map Tm.cd) i
   rw [Tm.cntR_cds] at hcs
   have hsz := hb.size
   by_cases hlt : i < ts.length
   ·obtain ⟨b, off, f, rfl, hbs, rfl, _⟩ := hv.addr (by rw [zI, zdb]; omega)
    have hc2' := zz (ts.map Tm.cd) (i + 1)
    rw [zv _ _ _ hlt, Tm.cntV_cd, Tm.cntR_cds] at hc2'
    have hs1 := Tm.size_eq ts[i]
    have HS1 := Lib.hid hs1
    have hsm := Tm.size_mem (zc7 hlt)
    have hsk : Tm.sizes ts[i].kids < ts[i].size := by omega
    have hpos : 0 < ts[i].size := Tm.size_pos _
    clear hs1
    obtain ⟨vs, g, hcell, hrd, _⟩ := (hv.below hb).row (k := 2) (by
     intro e he
     obtain ⟨j, hj, rfl⟩ := List.getElem_of_mem he
     rw [zct _ _ _ (by rw [zI] at hj; exact hj), zcg, List.getElem_map]; exact Tm.cd_len _) i (by rw [zI, zdb]; exact hlt)
    rw [zct _ _ _ (by rw [zdb]; exact hlt), List.getElem_map, Tm.cd_eq] at hrd
    simp only [mkV, mkC, cnt, RdVs] at hrd
    obtain ⟨v0, vs', g1, g2, rfl, rfl, hr0, v1, vs'', g3, g4, rfl, rfl, hr1, rfl, rfl⟩ := hrd
    simp only [Rd] at hr0
    obtain ⟨rfl, _, rfl⟩ := hr0
    have hr1' : Rd wr (.sl (mkR (ts[i].kids.map Tm.cd) (k + cntR ((ts.map Tm.cd).take i) + 1))) v1 g3 := hr1
    obtain ⟨ka, kc, hv1, hk1, hk2⟩ := hr1'.sl_form
    rw [zI, zdb] at hv1
    subst hv1
    have c0 := hcell 0 _ rfl
    have c1 := hcell 1 _ rfl
    rw [Nat.add_zero] at c0
    clear hcell hr1
    go_wp2_with fail
    have q0 := cell_regrown c0
    have q1 := cell_regrown c1
    refine wp_region_quiet_below (by kernel_rfl) (by kernel_rfl) ?_
    repeat (quiet_step (refine Calls.regrown_of (zV _ _ (by omega) (by omega))))
    refine wpQuiet_nil ?_
    intro w2 hw2
    obtain ⟨⟨dq, osq⟩, hw2⟩ := hw2
    have hb2 : Below wr.heap.size wr w2 := hw2 ▸ below_regrown wr dq osq
    clear hw2 q0 q1
    have c1' := (hb2.cell (p := ⟨b, off + i * 2 + 1, none⟩) (by simp; omega)).trans c1
    go_wp2_with fail
    refine (IH.out ts[i].kids _ _ _ _ (by omega) (by omega) (by omega) (hr1'.below hb2)).mono ?_
    rintro e w3 ⟨rfl, hb3⟩
    go_wp2_with fail
    go_roundw
    case rel =>
     refine ⟨i + 1, by omega, by go_num, ?_, (hb.trans (hb2.mono hsz)).trans (hb3.mono (by have := hb2.size; omega))⟩
     rw [zv _ _ _ hlt, Tm.cntV_cd, HS1.out]; go_num
    case measure => simp [intOf]; omega
   ·have h1 : (ts.map Tm.cd).take i = ts.map Tm.cd := List.take_of_length_le (by simp; omega)
    rw [h1]
    have HC := Lib.hid (Tm.cntR_cds ts)
    go_wp2_with fail
    go_ret
    exact ⟨retI (by rw [HC.out]), hb⟩
end Go.Proofs.Ytcfpnjcamcpieaa
end
