/- laws.markTermS, laws.heldTermS -/
import Derived.Lib.QuietBelow
import Derived.Test.YteclieenkephfaaGreatMarkT
import Derived.Test.YteclieenkephfaaGreatExTm
namespace Go.Proofs.YteclieenkephfaaGreat
open Go Go.RowKit
set_option linter.unusedVariables false
set_option linter.unusedSimpArgs false

mutual
theorem Tm.cntV_cd : ∀ (t : Tm), cntV t.cd = t.size
  | .mk n ks => by have := Tm.cntR_cds ks; simp only [Tm.cd, cntV, cnt, Tm.size, this]; omega
theorem Tm.cntR_cds : ∀ (ts : List Tm), cntR (ts.map Tm.cd) = Tm.sizes ts
  | [] => by simp [cntR, Tm.sizes]
  | t :: ts => by have := Tm.cntV_cd t; have := Tm.cntR_cds ts; simp only [List.map_cons, cntR, Tm.sizes]; omega
end
theorem str_nofp {s : ByteArray} : ∀ (w : World) (v : Value) (f : List Nat), Rd w (.str s) v f → f = [] := fun w v f h => by simp only [Rd] at h; exact h.2.2
theorem mtx_size (k : Int) (h : k ≤ 200000000000000) : (mtx k).size ≤ maxLen := by
  unfold mtx
  split
  · simp [maxLen, ByteArray.size]
  · simp only [ByteArray.size, List.size_toArray, List.length_cons]
    have h1 : k.toNat < 10 ^ k.toNat := Nat.lt_pow_self (by omega)
    have := mtxGo_len k.toNat k.toNat [] h1
    simp only [List.length_nil] at this
    simp only [maxLen]; omega
theorem mtx_rd (w : World) (k : Int) (h : k ≤ 200000000000000) : Rd w (.str (mtx k)) (.string (mtx k)) [] := by
  simp only [Rd]; simp [mtx_size k h]

theorem drop_flat {α β : Type} (f : α → List β) (ts : List α) (k : Nat) (h : k < ts.length) : ((ts.map f).drop k).flatten = f ts[k] ++ ((ts.map f).drop (k + 1)).flatten := by
  rw [List.drop_eq_getElem_cons (by simpa using h), List.flatten_cons, List.getElem_map]
theorem mkR_take_succ {α : Type} (f : α → List CD) (ts : List α) (k : Nat) (h : k < ts.length) (q : Int) : (mkR ((ts.map f).take (k + 1)) q).flatten = (mkR ((ts.map f).take k) q).flatten ++ mkV (f ts[k]) (q + cntR ((ts.map f).take k)) := by
  rw [List.take_succ_eq_append_getElem (by simpa using h), mkR_append, List.flatten_append]; simp [mkR]
theorem cntR_take_succ {α : Type} (f : α → List CD) (ts : List α) (k : Nat) (h : k < ts.length) : cntR ((ts.map f).take (k + 1)) = cntR ((ts.map f).take k) + cntV (f ts[k]) := by
  rw [List.take_succ_eq_append_getElem (by simpa using h), cntR_append]; simp [cntR]
theorem cntR_take_le (es : List (List CD)) (k : Nat) : cntR (es.take k) ≤ cntR es := by
  have := cntR_append (es.take k) (es.drop k); rw [List.take_append_drop] at this; omega
theorem mkR_take_len {α : Type} (f : α → List CD) (ts : List α) (k n : Nat) (hn : ∀ t, (f t).length = n) (h : k ≤ ts.length) (q : Int) : (mkR ((ts.map f).take k) q).flatten.length = k * n := by
  rw [mkR_flat_len _ _ n]
  · rw [List.length_take, List.length_map, Nat.min_eq_left h]
  · intro e he
    have := List.mem_of_mem_take he
    simp only [List.mem_map] at this
    obtain ⟨t, _, rfl⟩ := this
    exact hn t
/-- A whole row, marked or not: read. -/
theorem RdFlat.sl {w : World} {b off n cap k : Nat} {es : List (List CD)} {f : List Nat} (h : RdFlat w b off es.flatten f) (hne : 0 < es.length) (hn : n = es.length) (hc : es.length ≤ cap) (hm : cap ≤ 9223372036854775807) (hb : b < w.heap.size) :
    Rd w (.sl es) (.slice (some ⟨b, off, none⟩) n cap) (b :: f) := by
  simp only [Rd]
  refine ⟨_, cap, by rw [hn], hc, by simpa [maxLen] using hm, .inr ⟨by rintro rfl; simp at hne, b, off, f, rfl, hb, rfl, h.toRows (k := k)⟩⟩

theorem markTermS_any (n : Nat) : ∀ (ts : List Tm) (v : Value) (fp : List Nat) (k : Int) (w : World), Tm.sizes ts ≤ n → 0 < k → k + Tm.sizes ts ≤ 200000000000000 → Rd w (.sl (ts.map Tm.cd)) v fp → Free w fp → fp.Nodup →
    Calls Tryz.prog 33 #[v, .int .i64 k] w fun e w' => e = .returned (.int .i64 (k + Tm.sizes ts)) ∧ Rd w' (.sl (mkR (ts.map Tm.cd) k)) v fp ∧ Free w' fp ∧ Only fp w w' := by
  induction n with
  | zero =>
    intro ts v fp k w hn h0 h1 hv hf hnd
    have : ts.length = 0 := by have := Tm.sizes_len ts; omega
    obtain rfl := List.eq_nil_of_length_eq_zero this
    obtain ⟨a, cap, rfl, hc1, hc2⟩ := tms_form hv
    go_enter Tryz.func33, Tryz.ntmps33
    go_wp2_with fail
    refine wp_loop_rounds 1 ?_
    rw [rounds_succ]
    go_wp2_with fail
    go_ret
    exact ⟨retI (by simp [Tm.sizes]), by simpa [mkR] using hv, hf, Only.refl _ _⟩
  | succ n ih =>
    intro ts v fp k w hn h0 h1 hv hf hnd
    obtain ⟨a, cap, rfl, hc1, hc2⟩ := tms_form hv
    have IH := Lib.hid ih
    clear ih
    by_cases hne : 0 < ts.length
    · obtain ⟨b, off, f, rfl, hbs, rfl, hrows⟩ := hv.addr (by simpa using hne)
      go_enter Tryz.func33, Tryz.ntmps33
      go_wp2_with fail
      go_loopw [1, 5] (fun kv iv wr => ∃ (i : Nat) (f1 f3 : List Nat), i ≤ ts.length ∧ iv = .int .i64 i ∧ kv = .int .i64 (k + cntR ((ts.map Tm.cd).take i)) ∧ Hid (f = f1 ++ f3) ∧ MkSt wr b off (mkR ((ts.map Tm.cd).take i) k).flatten ((ts.map Tm.cd).drop i).flatten f1 f3 ∧ Only (b :: f) w wr) (fun _ iv _ => ts.length - (intOf iv).toNat)
      case atStart => exact ⟨0, [], f, Nat.zero_le _, rfl, by simp [cntR], rfl, ⟨RdFlat.nil _ _ _, hrows.toFlat, hf, hnd⟩, Only.refl _ _⟩
      case round =>
        obtain ⟨i, f1, f3, hil, rfl, rfl, hff, hst, honly⟩ := hrel
        have hcs := cntR_take_le (ts.map Tm.cd) i
        rw [Tm.cntR_cds] at hcs
        have hdl := mkR_take_len Tm.cd ts i 2 Tm.cd_len hil k
        have hsz := honly.size
        by_cases hlt : i < ts.length
        · have hc2' := cntR_take_le (ts.map Tm.cd) (i + 1)
          rw [cntR_take_succ _ _ _ hlt, Tm.cntV_cd, Tm.cntR_cds] at hc2'
          have hs1 := Tm.size_eq ts[i]
          have HS1 := Lib.hid hs1
          have hsm := Tm.size_mem (List.getElem_mem hlt)
          have hsk : Tm.sizes ts[i].kids < ts[i].size := by omega
          clear hs1
          go_wp2_with fail
          refine (markText_any _ _ (by omega) (by omega)).mono ?_
          rintro e w1 ⟨rfl, hb1⟩
          have hst1 := hst.below hb1
          rw [drop_flat _ _ _ hlt, Tm.cd_eq] at hst1
          obtain ⟨v0, g1, g2, hg, hc0, hr0, _⟩ := hst1.htodo.head
          clear hg
          have hf0 := hst1.free.frozen (b := b) (j := off + i * 2) (by simp)
          have hst2 := hst1.scalar (d' := .str (mtx (k + cntR ((ts.map Tm.cd).take i)))) (u := .string (mtx (k + cntR ((ts.map Tm.cd).take i)))) (str_nofp _) (fun w' => mtx_rd w' _ (by omega))
          rw [hdl] at hc0 hst2
          obtain ⟨v1, fe, f2, rfl, hc1', hr1, ht1, hfe, hne1⟩ := hst2.head
          rw [List.length_append, hdl, List.length_singleton, ← Nat.add_assoc] at hc1' ht1
          obtain ⟨ka, kc, rfl, hk1, hk2⟩ := tms_form hr1
          clear hr0
          go_wp2_with fail
          refine (IH.out ts[i].kids _ fe _ _ (by omega) (by omega) (by omega) hr1 hfe hne1).mono ?_
          rintro e w3 ⟨rfl, hr3, hf3, ho3⟩
          have hst3 := hst2.slice (by rw [List.length_append, hdl, List.length_singleton, ← Nat.add_assoc]; exact hc1') (by rw [List.length_append, hdl, List.length_singleton, ← Nat.add_assoc]; exact ht1) ho3 hr3 hf3
          have hsub : ∀ x ∈ fe, x ∈ b :: f := fun x hx => by rw [hff.out]; simp [hx]
          have honly3 := ((honly.trans (Only.below hb1)).trans (Only.set (a := ⟨b, off + i * 2, none⟩) (u := .string (mtx (k + cntR ((ts.map Tm.cd).take i)))) (by simp))).trans (ho3.mono hsub)
          have HFF : Hid (f = (f1 ++ fe) ++ f2) := by show f = _; rw [hff.out, List.append_assoc]
          have HD : Hid ((mkR ((ts.map Tm.cd).take (i + 1)) k).flatten = (mkR ((ts.map Tm.cd).take i) k).flatten ++ [.str (mtx (k + cntR ((ts.map Tm.cd).take i)))] ++ [.sl (mkR (ts[i].kids.map Tm.cd) (k + cntR ((ts.map Tm.cd).take i) + 1))]) := by
            show _ = _
            rw [mkR_take_succ _ _ _ hlt, Tm.cd_eq]; simp [mkV, mkC, cnt]
          clear hff hsub
          go_wp2_with fail
          go_roundw
          case rel =>
            refine ⟨i + 1, f1 ++ fe, f2, by omega, by go_num, ?_, HFF.out, ?_, honly3⟩
            · rw [cntR_take_succ _ _ _ hlt, Tm.cntV_cd, HS1.out]; go_num
            · rw [HD.out]; exact hst3
          case measure => simp [intOf]; omega
        · have he : i = ts.length := by omega
          have h1 : (ts.map Tm.cd).take i = ts.map Tm.cd := List.take_of_length_le (by simp; omega)
          have h2 : (ts.map Tm.cd).drop i = [] := List.drop_of_length_le (by simp; omega)
          rw [h1] at hst ⊢
          rw [h2] at hst
          obtain rfl := hst.htodo.nil_fp
          have hff' : f = f1 := by rw [hff.out]; simp
          subst hff'
          clear hff
          have hrd := hst.hdone.sl (n := ts.length) (cap := cap) (k := 2) (by rw [mkR_len]; simpa using hne) (by rw [mkR_len]; simp) (by rw [mkR_len]; simpa using hc1) hc2 (hst.free.lt b (by simp))
          have hfr : Free wr (b :: f) := by simpa using hst.free
          have HC := Lib.hid (Tm.cntR_cds ts)
          go_wp2_with fail
          go_ret
          exact ⟨retI (by rw [HC.out]), hrd, hfr, honly⟩
    · have : ts.length = 0 := by omega
      obtain rfl := List.eq_nil_of_length_eq_zero this
      go_enter Tryz.func33, Tryz.ntmps33
      go_wp2_with fail
      refine wp_loop_rounds 1 ?_
      rw [rounds_succ]
      go_wp2_with fail
      go_ret
      exact ⟨retI (by simp [Tm.sizes]), by simpa [mkR] using hv, hf, Only.refl _ _⟩

theorem mkR_get : ∀ (es : List (List CD)) (k : Int) (i : Nat) (h : i < es.length), (mkR es k)[i]'(by rw [mkR_len]; exact h) = mkV es[i] (k + cntR (es.take i))
  | e :: es, k, 0, _ => by simp [mkR, cntR]
  | e :: es, k, i + 1, h => by
    simp only [mkR, List.getElem_cons_succ, List.take_succ_cons, cntR]
    rw [mkR_get es _ i (by simpa using h)]
    congr 1; omega

end Go.Proofs.YteclieenkephfaaGreat
