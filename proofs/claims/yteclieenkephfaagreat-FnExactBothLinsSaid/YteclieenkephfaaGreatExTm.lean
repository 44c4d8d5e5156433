/- The exact laws' own functions at terms: sz, to, eq, mark, held. -/
import Derived.Lib.QuietBelow
import Derived.Test.YteclieenkephfaaGreatMark
import Derived.Test.YteclieenkephfaaGreatTermO
namespace Go.Proofs.YteclieenkephfaaGreat
open Go Go.RowKit
set_option linter.unusedVariables false
set_option linter.unusedSimpArgs false

namespace Tm
mutual
def wt : Tm → Nat | .mk n ks => n.size + (ks.length + wtl ks)
def wtl : List Tm → Nat | [] => 0 | t :: ts => wt t + wtl ts
end
def wts (ts : List Tm) : Nat := ts.length + wtl ts
theorem wt_eq (t : Tm) : t.wt = t.name.size + wts t.kids := by cases t; rfl
theorem wtl_append : ∀ (a b : List Tm), wtl (a ++ b) = wtl a + wtl b
  | [], b => by simp [wtl]
  | t :: ts, b => by simp only [List.cons_append, wtl, wtl_append ts b]; omega
theorem wtl_succ (ts : List Tm) (k : Nat) (h : k < ts.length) : wtl (ts.take (k + 1)) = wtl (ts.take k) + wt ts[k] := by
  rw [List.take_succ_eq_append_getElem h, wtl_append]; simp [wtl]
theorem wtl_take (ts : List Tm) (k : Nat) : wtl (ts.take k) ≤ wtl ts := by
  have := wtl_append (ts.take k) (ts.drop k); rw [List.take_append_drop] at this; omega
mutual
theorem size_wt : ∀ (t : Tm), size t ≤ 1 + wt t
  | .mk n ks => by have := sizes_wt ks; simp only [size, wt]; omega
theorem sizes_wt : ∀ (ts : List Tm), sizes ts ≤ ts.length + wtl ts
  | [] => by simp [sizes]
  | t :: ts => by have := size_wt t; have := sizes_wt ts; simp only [sizes, wtl, List.length_cons]; omega
end
theorem sizes_wts (ts : List Tm) : sizes ts ≤ wts ts := sizes_wt ts
end Tm

/-- What is left of a bound when n is taken. -/
def szr (left : Int) (n : Nat) : Int := if (n : Int) ≤ left then left - n else -1
theorem szr_ok {left : Int} {n : Nat} (h : (n : Int) ≤ left) : szr left n = left - n := if_pos h
theorem szr_no {left : Int} {n : Nat} (h : ¬ (n : Int) ≤ left) : szr left n = -1 := if_neg h
theorem szr_bd {left : Int} {n : Nat} (h : 0 ≤ left) : -1 ≤ szr left n ∧ szr left n ≤ left := by unfold szr; split <;> omega

theorem szTermS_any (n : Nat) (ih : ∀ (t : Tm) (v : Value) (left : Int) (w : World), t.size ≤ n → 0 ≤ left → left ≤ 1048576 → TmR w t v →
      Calls Tryz.prog 60 #[v, .int .i64 left] w fun e w' => e = .returned (.int .i64 (szr left t.wt)) ∧ Below w.heap.size w w') :
    ∀ (ts : List Tm) (v : Value) (left : Int) (w : World), (∀ t ∈ ts, t.size ≤ n) → 0 ≤ left → left ≤ 1048576 → TmsR w ts v →
    Calls Tryz.prog 61 #[v, .int .i64 left] w fun e w' => e = .returned (.int .i64 (szr left (Tm.wts ts))) ∧ Below w.heap.size w w' := by
  intro ts v left w hn hl0 hl1 hv
  obtain ⟨a, cap, rfl, hc1, hc2⟩ := hv.form
  have IH := Lib.hid ih
  have HN := Lib.hid hn
  have HW := Lib.hid (show Tm.wts ts = ts.length + Tm.wtl ts from rfl)
  clear ih hn
  by_cases hfit : (ts.length : Int) ≤ left
  · go_enter Tryz.func61, Tryz.ntmps61
    go_wp2_with fail
    go_loopw [1, 5] (fun l i wr => ∃ k : Nat, k ≤ ts.length ∧ i = .int .i64 k ∧ l = .int .i64 (left - ts.length - Tm.wtl (ts.take k)) ∧ 0 ≤ left - ts.length - Tm.wtl (ts.take k) ∧ Below w.heap.size w wr) (fun _ i _ => ts.length - (intOf i).toNat)
    case atStart => exact ⟨0, Nat.zero_le _, rfl, by simp [Tm.wtl], by simp [Tm.wtl]; omega, Below.refl _ _⟩
    case round =>
      obtain ⟨k, hkl, rfl, rfl, hpos, hb⟩ := hrel
      have hz := hb.size
      by_cases hlt : k < ts.length
      · obtain ⟨b, off, rfl, hbs⟩ := hv.addr (by omega)
        obtain ⟨ka, kc, c0, c1, hss, hkk⟩ := (hv.below hb).at hlt
        have hbz : b < wr.heap.size := by omega
        have hbd := szr_bd (n := ts[k].wt) hpos
        have HS := Lib.hid (Tm.wtl_succ ts k hlt)
        have hwk := Tm.wtl_take ts (k + 1)
        rw [HS.out] at hwk
        go_wp2_with fail
        refine (IH.out ts[k] _ _ _ (HN.out _ (List.getElem_mem hlt)) hpos (by omega) (TmR.mk hss hkk)).mono ?_
        rintro e w2 ⟨rfl, hb2⟩
        go_wp2_with fail
        · go_ret
          refine ⟨retI ?_, hb.trans (hb2.mono hz)⟩
          rw [szr_no]
          rw [HW.out]
          intro h
          rw [szr_ok (by omega)] at *
          omega
        · have hok : (ts[k].wt : Int) ≤ left - ts.length - Tm.wtl (ts.take k) := Classical.byContradiction fun h => by have := szr_no h; omega
          rw [szr_ok hok]
          go_roundw
          case rel => exact ⟨k + 1, by omega, by go_num, by rw [HS.out]; go_num, by rw [HS.out]; omega, hb.trans (hb2.mono hz)⟩
          case measure => simp [intOf]; omega
      · have he : ts.take k = ts := List.take_of_length_le (by omega)
        rw [he] at hpos ⊢
        go_wp2_with fail
        go_ret
        exact ⟨retI (by rw [HW.out, szr_ok (by omega)]; omega), hb⟩
  · go_enter Tryz.func61, Tryz.ntmps61
    go_wp2_with fail
    go_ret
    exact ⟨retI (by rw [HW.out, szr_no (by omega)]), Below.refl _ _⟩

theorem szTerm_any (n : Nat) : ∀ (t : Tm) (v : Value) (left : Int) (w : World), t.size ≤ n → 0 ≤ left → left ≤ 1048576 → TmR w t v →
      Calls Tryz.prog 60 #[v, .int .i64 left] w fun e w' => e = .returned (.int .i64 (szr left t.wt)) ∧ Below w.heap.size w w' := by
  induction n with
  | zero => intro t; have := t.size_pos; omega
  | succ n ih =>
    rintro t v left w hn hl0 hl1 ⟨kv, rfl, hs, hk⟩
    obtain ⟨a, cap, rfl, hc1, hc2⟩ := hk.form
    have HK : Hid (∀ x ∈ t.kids, x.size ≤ n) := fun x hx => by have := Tm.size_kid_mem hx; omega
    have IH := Lib.hid ih
    have HW := Lib.hid (Tm.wt_eq t)
    clear ih
    have hs' : t.name.size ≤ 9223372036854775807 := by simpa [maxLen] using hs
    by_cases hfit : (t.name.size : Int) ≤ left
    · have hbd := szr_bd (left := left - t.name.size) (n := Tm.wts t.kids) (by omega)
      go_enter Tryz.func60, Tryz.ntmps60
      go_wp2_with fail
      refine (szTermS_any n IH.out t.kids _ _ _ HK.out (by omega) (by omega) (hk.below (below_alloc _ _))).mono ?_
      rintro e w2 ⟨rfl, hb2⟩
      have hfin : szr left t.wt = szr (left - t.name.size) (Tm.wts t.kids) := by
        rw [HW.out]; unfold szr; split <;> split <;> omega
      have HF := Lib.hid hfin
      clear hfin
      go_wp2_with fail
      · go_ret
        refine ⟨retI ?_, (below_alloc _ _).trans (hb2.mono (by simp))⟩
        rw [HF.out]; omega
      · go_ret
        exact ⟨retI HF.out.symm, (below_alloc _ _).trans (hb2.mono (by simp))⟩
    · go_enter Tryz.func60, Tryz.ntmps60
      go_wp2_with fail
      go_ret
      exact ⟨retI (by rw [HW.out, szr_no (by omega)]), below_alloc _ _⟩

theorem szTerms (ts : List Tm) (v : Value) (left : Int) (w : World) (h0 : 0 ≤ left) (h1 : left ≤ 1048576) (hv : TmsR w ts v) :
    Calls Tryz.prog 61 #[v, .int .i64 left] w fun e w' => e = .returned (.int .i64 (szr left (Tm.wts ts))) ∧ Below w.heap.size w w' :=
  szTermS_any (Tm.sizes ts) (szTerm_any _) ts v left w (fun _ ht => Tm.size_mem ht) h0 h1 hv

def zTm : List CD := [.str ⟨#[]⟩, .sl []]
theorem zTm_rd (w : World) : RdVs w zTm [.string ⟨#[]⟩, .slice none 0 0] [] := by
  simp only [zTm, RdVs, Rd]
  exact ⟨_, _, [], [], rfl, rfl, ⟨rfl, by simp [maxLen, ByteArray.size], rfl⟩, _, _, [], [], rfl, rfl, ⟨none, 0, rfl, by simp, by simp [maxLen], by simp⟩, rfl, rfl⟩
theorem zTm_nofp : NoFp zTm := fun w vs f h => by
  simp only [zTm, RdVs, Rd] at h
  obtain ⟨v, vs', f1, f2, rfl, rfl, ⟨_, _, rfl⟩, v2, vs2, f3, f4, rfl, rfl, ⟨a, cap, _, _, _, h⟩, rfl, rfl⟩ := h
  rcases h with ⟨_, rfl⟩ | ⟨h, _⟩
  · rfl
  · simp at h

theorem toTermS_any (n : Nat) (ih : ∀ (t : Tm) (v : Value) (w : World), t.size ≤ n → t.wt ≤ 1048576 → TmR w t v →
      Calls Tryz.prog 70 #[v] w fun e w' => ∃ kv fp, e = .returned (.agg #[.string t.name, kv]) ∧ Rd w' (.sl (t.kids.map Tm.cd)) kv fp ∧ Fresh w.heap.size w' fp ∧ Below w.heap.size w w') :
    ∀ (ts : List Tm) (v : Value) (w : World), (∀ t ∈ ts, t.size ≤ n) → Tm.wts ts ≤ 1048576 → TmsR w ts v →
    Calls Tryz.prog 71 #[v] w fun e w' => ∃ kv fp, e = .returned kv ∧ Rd w' (.sl (ts.map Tm.cd)) kv fp ∧ Fresh w.heap.size w' fp ∧ Below w.heap.size w w' := by
  intro ts v w hn hbig hv
  obtain ⟨a, cap, rfl, hc1, hc2⟩ := hv.form
  have IH := Lib.hid ih
  have HN := Lib.hid hn
  clear ih hn
  have hlen : ts.length + Tm.wtl ts ≤ 1048576 := hbig
  go_enter Tryz.func71, Tryz.ntmps71
  go_wp2_with (at_make; refine wpList_mk slTerm _ rfl _ _ rfl w.heap.size zTm (fun w => zTm_rd w) ts.length rfl rfl (by omega) (by omega) (Nat.le_refl _) ?_)
  intro w1 hown0 hb0 hz0
  go_wp2_with fail
  go_loopw [4] (fun i wr => ∃ (k : Nat) (fp : List Nat), k ≤ ts.length ∧ i = .int .i64 k ∧ Own wr w.heap.size 60 2 (.slice (some ⟨w.heap.size, 0, none⟩) ts.length ts.length) ((ts.take k).map Tm.cd ++ List.replicate (ts.length - k) zTm) fp ∧ Fresh (w.heap.size + 1) wr fp ∧ Below w.heap.size w wr ∧ w.heap.size < wr.heap.size) (fun i _ => ts.length - (intOf i).toNat)
  case atStart => exact ⟨0, [], Nat.zero_le _, rfl, by simpa using hown0, Fresh.nil _ _, hb0, hz0⟩
  case round =>
    clear hown0 hb0 hz0
    obtain ⟨k, fp, hkl, rfl, hown, hfr, hb, hz⟩ := hrel
    by_cases hlt : k < ts.length
    · obtain ⟨b, off, rfl, hbs⟩ := hv.addr (by omega)
      obtain ⟨ka, kc, c0, c1, hss, hkk⟩ := (hv.below hb).at hlt
      have hwk := Tm.wtl_take ts (k + 1)
      rw [Tm.wtl_succ ts k hlt] at hwk
      go_wp2_with fail
      refine (IH.out ts[k] _ _ (HN.out _ (List.getElem_mem hlt)) (by omega) (TmR.mk hss hkk)).mono ?_
      rintro e w2 ⟨kv, fk, rfl, hrk, hfk, hb2⟩
      obtain ⟨ka', kc', rfl, hd1, hd2⟩ := tms_form hrk
      have hown2 := hown.below hb2
      rw [show ts.length - k = (ts.length - (k + 1)) + 1 from by omega, List.replicate_succ] at hown2
      obtain ⟨zs, zf, hzc, hzr⟩ := hown2.cells
      have hzl := hzr.length
      rw [List.length_map, List.length_take, Nat.min_eq_left (by omega)] at hzc
      have hz0 := hzc 0 _ (List.getElem?_eq_getElem (by rw [hzl]; simp [zTm]))
      have hz1 := hzc 1 _ (List.getElem?_eq_getElem (by rw [hzl]; simp [zTm]))
      have hfz := hown2.free
      have hf0 := hfz (k * 2)
      have hf1 := hfz (k * 2 + 1)
      clear hfz hzc
      rw [Nat.add_zero] at hz0
      generalize zs[0]'_ = u0 at hz0
      generalize zs[1]'_ = u1 at hz1
      obtain ⟨hown3, hg3⟩ := hown2.put (vs := [.string ts[k].name, .slice ka' ts[k].kids.length kc']) (nf := fk) zTm_nofp (zTm_nofp.replicate _) (Tm.rdvs hss hrk) (Tm.cd_len _) (fun hm => by have := (hfk.2 _ hm).1; omega)
      rw [List.length_map, List.length_take, Nat.min_eq_left (by omega)] at hown3 hg3
      simp only [World.setCells] at hown3 hg3
      have hsz := hg3.size
      have hb4 := grown_below (hb.trans (hb2.mono (by omega))) hg3 (by have := hb2.size; omega) (fun q hq => by simp only [Option.some.injEq] at hq; omega)
      have hfr4 : Fresh (w.heap.size + 1) w2 (fp ++ fk) := Fresh.app (hfr.below hb2) hfr.lt (by omega) hfk
      have hfr5 := hfr4.same (fun x hx => hg3.block x (hfr4.lt x hx) (fun e => by have := (hfr4.2 x hx).1; simp only [Option.some.injEq] at e; omega))
      have hz2 := hb2.size
      clear hg3 hown2 hfr4
      go_wp2_with fail
      go_roundw
      case rel => exact ⟨k + 1, fp ++ fk, by omega, by go_num, by rw [List.take_succ_eq_append_getElem hlt, List.map_append, List.append_assoc]; exact hown3, hfr5, hb4, by omega⟩
      case measure => simp [intOf]; omega
    · have he : ts.take k = ts := List.take_of_length_le (by omega)
      rw [he, show ts.length - k = 0 from by omega, List.replicate_zero, List.append_nil] at hown
      obtain ⟨fp', h1, h2⟩ := hown.rd
      have hfr' : Fresh w.heap.size wr fp' := by
        rcases h2 with ⟨_, _, rfl⟩ | ⟨b, c, hv, rfl, hnb, hbb, hc⟩
        · exact Fresh.nil _ _
        · exact ⟨List.nodup_cons.2 ⟨hnb, hfr.1⟩, fun x hx => (List.mem_cons.1 hx).elim (fun e => e ▸ ⟨hbb, c, _, hc⟩) (fun hx => ⟨by have := (hfr.2 x hx).1; omega, (hfr.2 x hx).2⟩)⟩
      go_wp2_with fail
      go_ret
      exact ⟨_, fp', rfl, h1, hfr', hb⟩

theorem toTerm_any (n : Nat) : ∀ (t : Tm) (v : Value) (w : World), t.size ≤ n → t.wt ≤ 1048576 → TmR w t v →
      Calls Tryz.prog 70 #[v] w fun e w' => ∃ kv fp, e = .returned (.agg #[.string t.name, kv]) ∧ Rd w' (.sl (t.kids.map Tm.cd)) kv fp ∧ Fresh w.heap.size w' fp ∧ Below w.heap.size w w' := by
  induction n with
  | zero => intro t; have := t.size_pos; omega
  | succ n ih =>
    rintro t v w hn hbig ⟨kv, rfl, hs, hk⟩
    obtain ⟨a, cap, rfl, hc1, hc2⟩ := hk.form
    have HK : Hid (∀ x ∈ t.kids, x.size ≤ n) := fun x hx => by have := Tm.size_kid_mem hx; omega
    have hsz : Tm.wts t.kids ≤ 1048576 := by rw [Tm.wt_eq] at hbig; omega
    have IH := Lib.hid ih
    clear ih
    go_enter Tryz.func70, Tryz.ntmps70
    go_wp2_with fail
    refine (toTermS_any n IH.out t.kids _ _ HK.out hsz (by exact hk.below ((((Below.refl _ _).alloc (Nat.le_refl _) _).alloc (by simp) _).alloc (by simp; omega) _))).mono ?_
    rintro e w2 ⟨kv2, fp2, rfl, hr2, hf2, hb2⟩
    obtain ⟨a2, cap2, rfl, hg1, hg2⟩ := tms_form hr2
    have hb3 := below_size hb2 (n := w.heap.size + 1 + 1 + 1) (by simp)
    obtain ⟨hx, hy, hz, fy, fz, hz2, hbb⟩ := box3 hb3
    have y0 : w2.cell? ⟨w.heap.size + 1, 0, none⟩ = some (.string ⟨#[]⟩) := hy 0
    have y1 : w2.cell? ⟨w.heap.size + 1, 1, none⟩ = some (.slice none 0 0) := hy 1
    have z0 : w2.cell? ⟨w.heap.size + 1 + 1, 0, none⟩ = some (.string t.name) := hz 0
    have z1 : w2.cell? ⟨w.heap.size + 1 + 1, 1, none⟩ = some (.slice none 0 0) := hz 1
    have fy0 := fy 0
    have fy1 := fy 1
    have fz1 := fz 1
    clear hx hy hz fy fz
    have y0' := (World.cell?_setCell_other w2 ⟨w.heap.size + 1 + 1, 1, none⟩ ⟨w.heap.size + 1, 0, none⟩ (.slice a2 t.kids.length cap2) (by simp)).trans y0
    have y1' := (World.cell?_setCell_other w2 ⟨w.heap.size + 1 + 1, 1, none⟩ ⟨w.heap.size + 1, 1, none⟩ (.slice a2 t.kids.length cap2) (by simp)).trans y1
    obtain ⟨r0, r1⟩ := stored2 (.string t.name) (.slice a2 t.kids.length cap2) y0' y1'
    have hf3 : Fresh (w.heap.size + 1 + 1 + 1) w2 fp2 := hf2.mono (by simp)
    have hs2 := (sameOn_set (w := w2) (a := ⟨w.heap.size + 1 + 1, 1, none⟩) (v := .slice a2 t.kids.length cap2) (hf3.ne (by simp))).trans (sameOn_set2 (b := w.heap.size + 1) (i := 0) (j := 1) (u := .string t.name) (v := .slice a2 t.kids.length cap2) (hf3.ne (by omega)))
    clear y0' y1'
    go_wp2_with fail
    refine bodyPost_ret (v := .agg #[.string t.name, .slice a2 t.kids.length cap2]) (by simp [results, Tryz.results70, go_sem, r0, r1]) rfl ⟨_, fp2, rfl, hr2.same _ hs2, (hf3.same hs2).mono (by omega), ((hbb.setCell (by simp; omega) _).setCell (by simp) _).setCell (by simp) _⟩

theorem toTerms (ts : List Tm) (v : Value) (w : World) (hb : Tm.wts ts ≤ 1048576) (hv : TmsR w ts v) :
    Calls Tryz.prog 71 #[v] w fun e w' => ∃ kv fp, e = .returned kv ∧ Rd w' (.sl (ts.map Tm.cd)) kv fp ∧ Fresh w.heap.size w' fp ∧ Below w.heap.size w w' :=
  toTermS_any (Tm.sizes ts) (toTerm_any _) ts v w (fun _ ht => Tm.size_mem ht) hb hv

theorem eqTermS_any (n : Nat) (ih : ∀ (t u : Tm) (v x : Value) (w : World), t.size ≤ n → TmR w t v → TmR w u x →
      Calls Tryz.prog 84 #[v, x] w fun e w' => e = .returned (.bool (t.beq u)) ∧ Below w.heap.size w w') :
    ∀ (ts us : List Tm) (v x : Value) (w : World), (∀ t ∈ ts, t.size ≤ n) → TmsR w ts v → TmsR w us x →
    Calls Tryz.prog 85 #[v, x] w fun e w' => e = .returned (.bool (Tm.beqs ts us)) ∧ Below w.heap.size w w' := by
  intro ts us v x w hn hv hx
  obtain ⟨a, cap, rfl, hc1, hc2⟩ := hv.form
  obtain ⟨a', cap', rfl, hc1', hc2'⟩ := hx.form
  have IH := Lib.hid ih
  have HN := Lib.hid hn
  clear ih hn
  by_cases hl : ts.length = us.length
  · have hlb : ((ts.length : Int) != (us.length : Int)) = false := by rw [hl]; simp
    have hl1 : ts.length ≤ us.length := by omega
    have hl2 : us.length ≤ ts.length := by omega
    clear hl
    go_enter Tryz.func85, Tryz.ntmps85
    go_wp2_with fail
    go_loopw [5] (fun i wr => ∃ k : Nat, k ≤ ts.length ∧ i = .int .i64 k ∧ Hid (ts.take k = us.take k) ∧ Below w.heap.size w wr) (fun i _ => ts.length - (intOf i).toNat)
    case atStart => exact ⟨0, Nat.zero_le _, rfl, rfl, Below.refl _ _⟩
    case round =>
      obtain ⟨k, hkl, rfl, hall, hb⟩ := hrel
      have hz := hb.size
      by_cases hlt : k < ts.length
      · obtain ⟨b, off, rfl, hbs⟩ := hv.addr (by omega)
        obtain ⟨b', off', rfl, hbs'⟩ := hx.addr (by omega)
        have hlt' : k < us.length := by omega
        obtain ⟨ka, kc, c0, c1, hss, hkk⟩ := (hv.below hb).at hlt
        obtain ⟨ka', kc', c0', c1', hss', hkk'⟩ := (hx.below hb).at hlt'
        go_wp2_with fail
        have q0 := cell_regrown c0
        have q1 := cell_regrown c1
        have q0' := cell_regrown c0'
        have q1' := cell_regrown c1'
        refine wp_region_quiet_below (by kernel_rfl) (by kernel_rfl) ?_
        repeat (quiet_step (refine Calls.regrown_of (IH.out ts[k] us[k] _ _ _ (HN.out _ (List.getElem_mem hlt)) ((TmR.mk hss hkk).below (below_regrown _ _ _)) ((TmR.mk hss' hkk').below (below_regrown _ _ _)))))
        refine wpQuiet_nil ?_
        intro w2 hw2
        obtain ⟨⟨dq, osq⟩, hw2⟩ := hw2
        have hb2 : Below wr.heap.size wr w2 := hw2 ▸ below_regrown wr dq osq
        clear hw2 q0 q1 q0' q1'
        go_wp2_with fail
        · have he : ts[k].beq us[k] = false := by simpa using ‹(!ts[k].beq us[k]) = true›
          go_ret
          refine ⟨retB ?_, hb.trans (hb2.mono (by omega))⟩
          rw [eq_comm, Bool.eq_false_iff]
          intro h
          rw [Tm.beqs_iff] at h
          subst h
          exact Tm.beq_no he rfl
        · have he : ts[k].beq us[k] = true := by simpa using ‹(!ts[k].beq us[k]) = false›
          go_roundw
          case rel => exact ⟨k + 1, by omega, by go_num, take_eq_succ hlt hlt' hall.out ((Tm.beq_iff _ _).1 he), hb.trans (hb2.mono (by omega))⟩
          case measure => simp [intOf]; omega
      · have he : ts.take k = ts := List.take_of_length_le (by omega)
        have he' : us.take k = us := List.take_of_length_le (by omega)
        rw [he, he'] at hall
        go_wp2_with fail
        go_ret
        exact ⟨retB ((Tm.beqs_iff _ _).2 hall.out).symm, hb⟩
  · have hlb : ((ts.length : Int) != (us.length : Int)) = true := by rw [bne_iff_ne]; omega
    have hfin : Tm.beqs ts us = false := by
      rw [Bool.eq_false_iff]; intro h; rw [Tm.beqs_iff] at h; exact hl (by rw [h])
    have HF := Lib.hid hfin
    clear hl hfin
    go_enter Tryz.func85, Tryz.ntmps85
    go_wp2_with fail
    go_ret
    exact ⟨retB HF.out.symm, Below.refl _ _⟩

theorem eqTerm_any (n : Nat) : ∀ (t u : Tm) (v x : Value) (w : World), t.size ≤ n → TmR w t v → TmR w u x →
    Calls Tryz.prog 84 #[v, x] w fun e w' => e = .returned (.bool (t.beq u)) ∧ Below w.heap.size w w' := by
  induction n with
  | zero => intro t; have := t.size_pos; omega
  | succ n ih =>
    rintro t u v x w hn ⟨kv, rfl, hs, hk⟩ ⟨kx, rfl, hs', hk'⟩
    obtain ⟨a, cap, rfl, hc1, hc2⟩ := hk.form
    obtain ⟨a', cap', rfl, hc1', hc2'⟩ := hk'.form
    have HB := Lib.hid (show t.beq u = (decide (t.name = u.name) && Tm.beqs t.kids u.kids) from by cases t; cases u; rfl)
    have HK : Hid (∀ x ∈ t.kids, x.size ≤ n) := fun x hx => by have := Tm.size_kid_mem hx; omega
    have IH := Lib.hid ih
    clear ih
    by_cases hnm : t.name.toList = u.name.toList
    · have HN := Lib.hid (bytes_inj.1 hnm)
      go_enter Tryz.func84, Tryz.ntmps84
      go_wp2_with fail
      refine (eqTermS_any n IH.out t.kids u.kids _ _ _ HK.out (hk.below (((Below.refl _ _).alloc (Nat.le_refl _) _).alloc (by simp) _)) (hk'.below (((Below.refl _ _).alloc (Nat.le_refl _) _).alloc (by simp) _))).mono ?_
      rintro e w2 ⟨rfl, hb2⟩
      have hbb := (((Below.refl _ w).alloc (Nat.le_refl _) (.cells #[.string t.name, .slice a t.kids.length cap] 60)).alloc (by simp) (.cells #[.string u.name, .slice a' u.kids.length cap'] 60)).trans (hb2.mono (by simp; omega))
      go_wp2_with fail
      · have he : Tm.beqs t.kids u.kids = false := by simpa using ‹(!Tm.beqs t.kids u.kids) = true›
        go_ret
        exact ⟨retB (by rw [HB.out, he]; simp), hbb⟩
      · have he : Tm.beqs t.kids u.kids = true := by simpa using ‹(!Tm.beqs t.kids u.kids) = false›
        go_ret
        exact ⟨retB (by rw [HB.out, he, HN.out]; simp), hbb⟩
    · have HN := Lib.hid (fun h => hnm (bytes_inj.2 h))
      have hq1 : (t.name.toList == u.name.toList) = false := by simpa using hnm
      have hq2 : (t.name.toList != u.name.toList) = true := by simpa using hnm
      go_enter Tryz.func84, Tryz.ntmps84
      go_wp2_with fail
      go_ret
      exact ⟨retB (by rw [HB.out, decide_eq_false HN.out]; rfl), ((Below.refl _ _).alloc (Nat.le_refl _) _).alloc (by simp) _⟩

theorem eqTerms (ts us : List Tm) (v x : Value) (w : World) (hv : TmsR w ts v) (hx : TmsR w us x) :
    Calls Tryz.prog 85 #[v, x] w fun e w' => e = .returned (.bool (Tm.beqs ts us)) ∧ Below w.heap.size w w' :=
  eqTermS_any (Tm.sizes ts) (eqTerm_any _) ts us v x w (fun _ ht => Tm.size_mem ht) hv hx
end Go.Proofs.YteclieenkephfaaGreat
