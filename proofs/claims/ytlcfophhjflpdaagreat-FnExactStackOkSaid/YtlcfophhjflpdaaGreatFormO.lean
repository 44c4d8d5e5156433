/- Well-formed forms in a language: both sides. -/
import Derived.BigQuiet
import Derived.Lib.Hide
import Derived.Test.YtlcfophhjflpdaaGreatFormU
import Derived.Test.YtlcfophhjflpdaaGreatBoth5
namespace Go.Proofs.YtlcfophhjflpdaaGreat
open Go Go.RowKit
set_option linter.unusedVariables false
set_option linter.unusedSimpArgs false

def litOf (x : Atm) : Lt := ⟨x, false⟩
def litsOf (l : List Atm) : List Lt := l.map litOf
theorem litsOf_succ (l : List Atm) (k : Nat) (h : k < l.length) : litsOf (l.take (k + 1)) = litsOf (l.take k) ++ [litOf l[k]] := by
  unfold litsOf; rw [List.take_succ_eq_append_getElem h, List.map_append]; rfl
theorem litOf_wt (x : Atm) : wtV (litOf x).cd = wtV x.cd := (Lt.wt_atom (litOf x)).symm
theorem litsOf_wt : ∀ (l : List Atm), wtR ((litsOf l).map Lt.cd) = wtR (l.map Atm.cd)
  | [] => rfl
  | x :: l => by
    have h1 := litsOf_wt l
    have h2 := litOf_wt x
    simp only [litsOf, List.map_cons, wtR_cons] at h1 ⊢
    omega
theorem litsOf_small {l : List Atm} (h : wtR (l.map Atm.cd) ≤ 1048576) : ∀ x ∈ litsOf l, x.atom.small := fun x hx => by
  have := wtR_mem (cd := Lt.cd) hx
  rw [litsOf_wt] at this
  exact Lt.small_of (by omega)
theorem litsOf_T (l : List Atm) : Tm.sizes (litsT (litsOf l)) ≤ 2 * l.length + wtR (l.map Atm.cd) := by
  have h := litsT_wt (litsOf l)
  rw [litsOf_wt] at h
  simpa [litsOf] using h
theorem litsOf_U (l : List Atm) : Tm.sizes (litsU (litsOf l)) ≤ 2 * l.length + wtR (l.map Atm.cd) := by
  have h := litsU_wt (litsOf l)
  rw [litsOf_wt] at h
  simpa [litsOf] using h
def Fm.okIn (s : Sg) (f : Fm) : Bool := f.okF && bothB s (litsOf (Fm.add [] f))
theorem Fm.okIn_no {s : Sg} {f : Fm} (h : f.okF = false) : f.okIn s = false := by unfold Fm.okIn; rw [h]; rfl
theorem Fm.okIn_yes {s : Sg} {f : Fm} (h : f.okF = true) : f.okIn s = bothB s (litsOf (Fm.add [] f)) := by unfold Fm.okIn; rw [h]; rfl
theorem Fm.okIn_tell {s : Sg} {f : Fm} (h : f.okF = true) : f.okIn s = bothB s (litsOf (Fm.tell [] f)) := by rw [Fm.okIn_yes h, Fm.okF_tell h]
def fmsIn (s : Sg) (fs : List Fm) : Bool := s.okB && (fmsOk fs && bothB s (litsOf (fmsAtoms fs)))
theorem fmsIn_sig {s : Sg} {fs : List Fm} (h : s.okB = false) : fmsIn s fs = false := by unfold fmsIn; rw [h]; rfl
theorem fmsIn_no {s : Sg} {fs : List Fm} (h : fmsOk fs = false) : fmsIn s fs = false := by unfold fmsIn; rw [h]; simp
theorem fmsIn_yes {s : Sg} {fs : List Fm} (h : s.okB = true) (h' : fmsOk fs = true) : fmsIn s fs = bothB s (litsOf (fmsAtoms fs)) := by unfold fmsIn; rw [h, h']; rfl
theorem fmsAtoms_wt (fs : List Fm) : wtR ((fmsAtoms fs).map Atm.cd) ≤ wtR (fs.map Fm.cd) ∧ (fmsAtoms fs).length ≤ 6 := by
  unfold fmsAtoms
  split
  · rename_i h
    have h1 := Fm.adds_wt fs []
    simp only [fmsOk, Bool.and_eq_true, decide_eq_true_eq] at h
    simp only [List.map_nil, wtR, Nat.zero_add] at h1
    exact ⟨h1, h.2.2⟩
  · simp [wtR]
theorem fmsOk_told {fs : List Fm} (h : fmsOk fs = true) : Fm.tells [] fs = fmsAtoms fs := by
  rw [fmsAtoms_yes h]
  simp only [fmsOk, Bool.and_eq_true] at h
  exact (Fm.ok_adds fs [] h.2.1).symm

set_option maxRecDepth 100000 in
set_option maxHeartbeats 1000000 in
theorem plain_any (l : List Atm) (v : Value) (g : List Nat) (w : World) (hlen : l.length ≤ 1000000000) (hv : Rd w (.sl (l.map Atm.cd)) v g) :
    Calls Tryz.prog 63 #[v] w fun e w' => (∃ rv rf, e = .returned rv ∧ Rd w' (.sl ((litsOf l).map Lt.cd)) rv rf) ∧ Below w.heap.size w w' := by
  obtain ⟨a, cap, rfl, hc1, hc2⟩ := rd_sl_inv hv
  have hfl := hv.lt _
  go_enter Tryz.func63, Tryz.ntmps63
  go_wp2_with fail
  go_loopw [3, 8] (fun ov i wr => ∃ (k : Nat) (fp : List Nat), k ≤ l.length ∧ i = .int .i64 k ∧ Own wr w.heap.size 49 10 ov ((litsOf (l.take k)).map Lt.cd) fp ∧ Below w.heap.size w wr) (fun _ i _ => l.length - (intOf i).toNat)
  case atStart => exact ⟨0, [], Nat.zero_le _, rfl, Own.nil _ _ _ _, Below.refl _ _⟩
  case round =>
    obtain ⟨k, fp, hkl, rfl, hown, hb⟩ := hrel
    have hz := hb.size
    by_cases hlt : k < l.length
    · obtain ⟨b, off, rfl, hbs, _⟩ := rd_addr hv (by omega)
      have hbz : b < wr.heap.size := by omega
      obtain ⟨a2, c2, f2, a4, c4, f4, a5, c5, f5, a6, c6, f6, d0, d1, d2, d3, d4, d5, d6, d7, d8, n0, n1, n2, n3, n4, n5, n6, n7, hsub⟩ := Atm.at (hv.below hb) hlt
      have hBA : Below wr.heap.size wr ((wr.alloc (.cells #[.int .i64 l[k].kind, .string l[k].a.name, .slice a2 l[k].a.kids.length c2, .string l[k].b.name, .slice a4 l[k].b.kids.length c4, .slice a5 l[k].nums.length c5, .slice a6 l[k].times.length c6, .int .i64 l[k].bound, .bool l[k].strict] 47)).alloc (.cells #[.int .i64 l[k].kind, .string l[k].a.name, .slice a2 l[k].a.kids.length c2, .string l[k].b.name, .slice a4 l[k].b.kids.length c4, .slice a5 l[k].nums.length c5, .slice a6 l[k].times.length c6, .int .i64 l[k].bound, .bool l[k].strict, .bool false] 49)) := ((Below.refl _ _).alloc (Nat.le_refl _) _).alloc (by simp) _
      have hB2 := hb.trans (hBA.mono hz)
      have hl : ((litsOf (l.take k)).map Lt.cd).length = k := by simp [litsOf]; omega
      have hnews : RdVs wr [(litOf l[k]).cd].flatten [.int .i64 l[k].kind, .string l[k].a.name, .slice a2 l[k].a.kids.length c2, .string l[k].b.name, .slice a4 l[k].b.kids.length c4, .slice a5 l[k].nums.length c5, .slice a6 l[k].times.length c6, .int .i64 l[k].bound, .bool l[k].strict, .bool false] (f2 ++ (f4 ++ (f5 ++ f6))) := by
        have := Lt.close (x := litOf l[k]) n0 n1 n2 n3 n4 n5 n6 n7
        simpa [litOf] using this
      have hne : ∀ y ∈ f2 ++ (f4 ++ (f5 ++ f6)), u3.ownBlock ≠ some y := fun y hy e => by have h1 := (hown.block e).1; have h2 := hfl y (hsub y hy); omega
      have HT := Lib.hid (litsOf_succ l k hlt)
      go_wp2_with (at_builtin; refine wpList_app slTyLitS rfl _ _ rfl w.heap.size _ _ _ rfl (hown.below hBA) ⟨wr.heap.size + 1, 0, none⟩ 1 1 [(litOf l[k]).cd] [.int .i64 l[k].kind, .string l[k].a.name, .slice a2 l[k].a.kids.length c2, .string l[k].b.name, .slice a4 l[k].b.kids.length c4, .slice a5 l[k].nums.length c5, .slice a6 l[k].times.length c6, .int .i64 l[k].bound, .bool l[k].strict, .bool false] (f2 ++ (f4 ++ (f5 ++ f6))) rfl rfl (hnews.below hBA) ?k ?cells ?na ?bytes ?len ?base ?next)
      case k => simp [Lt.cd, Atm.cd_len]
      case cells =>
        intro j u hj
        have := cells_new (wr.alloc (.cells #[.int .i64 l[k].kind, .string l[k].a.name, .slice a2 l[k].a.kids.length c2, .string l[k].b.name, .slice a4 l[k].b.kids.length c4, .slice a5 l[k].nums.length c5, .slice a6 l[k].times.length c6, .int .i64 l[k].bound, .bool l[k].strict] 47)) [.int .i64 l[k].kind, .string l[k].a.name, .slice a2 l[k].a.kids.length c2, .string l[k].b.name, .slice a4 l[k].b.kids.length c4, .slice a5 l[k].nums.length c5, .slice a6 l[k].times.length c6, .int .i64 l[k].bound, .bool l[k].strict, .bool false] 49 j u hj
        simpa using this
      case na => exact hne
      case bytes => rw [hl]; omega
      case len => rw [hl]; omega
      case base => simp; omega
      case next =>
        intro v' w4 hown4 hg hv' hs4
        have hb4 := grown_below hB2 hg (by simp; omega) (fun q hq => (hown.block hq).1)
        clear hl
        go_wp2_with fail
        go_roundw
        case rel =>
          refine ⟨k + 1, fp ++ (f2 ++ (f4 ++ (f5 ++ f6))), by omega, by go_num, ?_, hb4⟩
          rw [HT.out, List.map_append]; exact hown4
        case measure => simp [intOf]; omega
    · have he : l.take k = l := List.take_of_length_le (by omega)
      rw [he] at hown
      obtain ⟨oa, on, oc, rfl⟩ := hown.form'
      obtain ⟨fp', hr⟩ := hown.rd'
      clear he
      go_wp2_with fail
      go_ret
      exact ⟨⟨_, fp', rfl, hr⟩, hb⟩

set_option maxRecDepth 100000 in
set_option maxHeartbeats 1000000 in
theorem l9Lits_any (l : List Atm) (v : Value) (g : List Nat) (w : World) (hlen : l.length ≤ 1000000000) (hv : Rd w (.sl (l.map Atm.cd)) v g) :
    Calls Tryz.prog 57 #[v] w fun e w' => (∃ rv rf, e = .returned rv ∧ Rd w' (.sl ((litsOf l).map Lt.cd)) rv rf) ∧ Below w.heap.size w w' := by
  obtain ⟨a, cap, rfl, hc1, hc2⟩ := rd_sl_inv hv
  have hfl := hv.lt _
  go_enter Tryz.func57, Tryz.ntmps57
  go_wp2_with fail
  go_loopw [3, 4] (fun ov i wr => ∃ (k : Nat) (fp : List Nat), k ≤ l.length ∧ i = .int .i64 k ∧ Own wr w.heap.size 49 10 ov ((litsOf (l.take k)).map Lt.cd) fp ∧ Below w.heap.size w wr) (fun _ i _ => l.length - (intOf i).toNat)
  case atStart => exact ⟨0, [], Nat.zero_le _, rfl, Own.empty _ _ _ _ (Nat.le_refl _), below_alloc _ _⟩
  case round =>
    obtain ⟨k, fp, hkl, rfl, hown, hb⟩ := hrel
    have hz := hb.size
    by_cases hlt : k < l.length
    · obtain ⟨b, off, rfl, hbs, _⟩ := rd_addr hv (by omega)
      have hbz : b < wr.heap.size := by omega
      obtain ⟨a2, c2, f2, a4, c4, f4, a5, c5, f5, a6, c6, f6, d0, d1, d2, d3, d4, d5, d6, d7, d8, n0, n1, n2, n3, n4, n5, n6, n7, hsub⟩ := Atm.at (hv.below hb) hlt
      have hBA : Below wr.heap.size wr (wr.alloc (.cells #[.int .i64 l[k].kind, .string l[k].a.name, .slice a2 l[k].a.kids.length c2, .string l[k].b.name, .slice a4 l[k].b.kids.length c4, .slice a5 l[k].nums.length c5, .slice a6 l[k].times.length c6, .int .i64 l[k].bound, .bool l[k].strict, .bool false] 49)) := below_alloc _ _
      have hB2 := hb.trans (hBA.mono hz)
      have hl : ((litsOf (l.take k)).map Lt.cd).length = k := by simp [litsOf]; omega
      have hnews : RdVs wr [(litOf l[k]).cd].flatten [.int .i64 l[k].kind, .string l[k].a.name, .slice a2 l[k].a.kids.length c2, .string l[k].b.name, .slice a4 l[k].b.kids.length c4, .slice a5 l[k].nums.length c5, .slice a6 l[k].times.length c6, .int .i64 l[k].bound, .bool l[k].strict, .bool false] (f2 ++ (f4 ++ (f5 ++ f6))) := by
        have := Lt.close (x := litOf l[k]) n0 n1 n2 n3 n4 n5 n6 n7
        simpa [litOf] using this
      have hne : ∀ y ∈ f2 ++ (f4 ++ (f5 ++ f6)), u3.ownBlock ≠ some y := fun y hy e => by have h1 := (hown.block e).1; have h2 := hfl y (hsub y hy); omega
      have HT := Lib.hid (litsOf_succ l k hlt)
      go_wp2_with (at_builtin; refine wpList_app slTyLitS rfl _ _ rfl w.heap.size _ _ _ rfl (hown.below hBA) ⟨wr.heap.size, 0, none⟩ 1 1 [(litOf l[k]).cd] [.int .i64 l[k].kind, .string l[k].a.name, .slice a2 l[k].a.kids.length c2, .string l[k].b.name, .slice a4 l[k].b.kids.length c4, .slice a5 l[k].nums.length c5, .slice a6 l[k].times.length c6, .int .i64 l[k].bound, .bool l[k].strict, .bool false] (f2 ++ (f4 ++ (f5 ++ f6))) rfl rfl (hnews.below hBA) ?k ?cells ?na ?bytes ?len ?base ?next)
      case k => simp [Lt.cd, Atm.cd_len]
      case cells =>
        intro j u hj
        have := cells_new wr [.int .i64 l[k].kind, .string l[k].a.name, .slice a2 l[k].a.kids.length c2, .string l[k].b.name, .slice a4 l[k].b.kids.length c4, .slice a5 l[k].nums.length c5, .slice a6 l[k].times.length c6, .int .i64 l[k].bound, .bool l[k].strict, .bool false] 49 j u hj
        simpa using this
      case na => exact hne
      case bytes => rw [hl]; omega
      case len => rw [hl]; omega
      case base => simp; omega
      case next =>
        intro v' w4 hown4 hg hv' hs4
        have hb4 := grown_below hB2 hg (by simp; omega) (fun q hq => (hown.block hq).1)
        clear hl
        go_wp2_with fail
        go_roundw
        case rel =>
          refine ⟨k + 1, fp ++ (f2 ++ (f4 ++ (f5 ++ f6))), by omega, by go_num, ?_, hb4⟩
          rw [HT.out, List.map_append]; exact hown4
        case measure => simp [intOf]; omega
    · have he : l.take k = l := List.take_of_length_le (by omega)
      rw [he] at hown
      obtain ⟨oa, on, oc, rfl⟩ := hown.form'
      obtain ⟨fp', hr⟩ := hown.rd'
      clear he
      go_wp2_with fail
      go_ret
      exact ⟨⟨_, fp', rfl, hr⟩, hb⟩

theorem isForm_as (f : Fm) (b : Bool) (hf : f.okF = b) (vs : List Value) (ff : List Nat) (w : World) (hbig : wtV f.cd ≤ 1048576) (hv : RdVs w f.cd vs ff) :
    Calls Tryz.prog 61 #[.agg vs.toArray] w fun e w' => e = .returned (.bool b) ∧ Below w.heap.size w w' := by subst hf; exact isForm_any f vs ff w hbig hv
theorem l9Right_as (f : Fm) (b : Bool) (hf : f.okF = b) (vs : List Value) (ff : List Nat) (w : World) (hbig : wtV f.cd ≤ 1048576) (hv : RdVs w f.cd vs ff) :
    Calls Tryz.prog 55 #[.agg vs.toArray] w fun e w' => e = .returned (.bool b) ∧ Below w.heap.size w w' := by subst hf; exact l9Right_any f vs ff w hbig hv
theorem sigOk_as (s : Sg) (b : Bool) (hs : s.okB = b) (vs : List Value) (f : List Nat) (w : World) (hv : RdVs w s.cd vs f) :
    Calls Tryz.prog 71 #[.agg vs.toArray] w fun e w' => e = .returned (.bool b) ∧ Below w.heap.size w w' := by subst hs; exact sigOk_any s vs f w hv
theorem sigOkS_as (s : Sg) (b : Bool) (hs : s.okB = b) (vs : List Value) (f : List Nat) (w : World) (hv : RdVs w s.cd vs f) :
    Calls Tryz.prog 67 #[.agg vs.toArray] w fun e w' => e = .returned (.bool b) ∧ Below w.heap.size w w' := by subst hs; exact sigOkS_any s vs f w hv
theorem atoms0_any (f : Fm) (vs : List Value) (ff : List Nat) (w : World) (hbig : wtV f.cd ≤ 1048576) (hv : RdVs w f.cd vs ff) :
    Calls Tryz.prog 64 #[.slice none 0 0, .agg vs.toArray] w fun e w' => (∃ rv rf, e = .returned rv ∧ Rd w' (.sl ((Fm.add [] f).map Atm.cd)) rv rf) ∧ Below w.heap.size w w' :=
  (withAtoms_n _ f [] _ _ (.slice none 0 0) [] w.heap.size _ (Nat.le_refl _) hbig (by simp; omega) (Nat.le_refl _) (Own.nil _ _ _ _) (Fresh.nil _ _) hv (by simp [Value.ownBlock])).mono fun e w' ⟨lv, fp, h1, h2, h3, h4⟩ => by
    obtain ⟨fp', h5⟩ := h2.rd'
    exact ⟨⟨lv, fp', h1, h5⟩, h4.toBelow (Nat.le_refl _) (by simp [Value.ownBlock])⟩
theorem atoms0S_any (f : Fm) (vs : List Value) (ff : List Nat) (w : World) (hbig : wtV f.cd ≤ 1048576) (hv : RdVs w f.cd vs ff) :
    Calls Tryz.prog 58 #[.slice none 0 0, .agg vs.toArray] w fun e w' => (∃ rv rf, e = .returned rv ∧ Rd w' (.sl ((Fm.tell [] f).map Atm.cd)) rv rf) ∧ Below w.heap.size w w' :=
  (l9Atoms_n _ f [] _ _ (.slice none 0 0) [] w.heap.size _ (Nat.le_refl _) hbig (by simp; omega) (Nat.le_refl _) (Own.nil _ _ _ _) hv (by simp [Value.ownBlock])).mono fun e w' ⟨lv, fp, h1, h2, h3, h4⟩ => by
    obtain ⟨fp', h5⟩ := h2.rd'
    exact ⟨⟨lv, fp', h1, h5⟩, h4.toBelow (Nat.le_refl _) (by simp [Value.ownBlock])⟩
theorem l10Forms_as (fs : List Fm) (b : Bool) (hf : fmsOk fs = b) (v : Value) (ff : List Nat) (w : World) (hbig : fs.length + wtR (fs.map Fm.cd) ≤ 1048576) (hv : Rd w (.sl (fs.map Fm.cd)) v ff) :
    Calls Tryz.prog 68 #[v] w fun e w' => e = .returned (.bool b) ∧ Below w.heap.size w w' := by subst hf; exact l10Forms_any fs v ff w hbig hv
theorem told0_any (fs : List Fm) (hf : fmsOk fs = true) (v : Value) (ff : List Nat) (w : World) (hbig : fs.length + wtR (fs.map Fm.cd) ≤ 1048576) (hv : Rd w (.sl (fs.map Fm.cd)) v ff) :
    Calls Tryz.prog 69 #[v] w fun e w' => (∃ rv rf, e = .returned rv ∧ Rd w' (.sl ((fmsAtoms fs).map Atm.cd)) rv rf) ∧ Below w.heap.size w w' :=
  (l10Told_any fs v ff w hbig hv).mono fun e w' ⟨rv, fp, h1, h2, _, h4⟩ => by
    rw [fmsOk_told hf] at h2
    obtain ⟨fp', h5⟩ := h2.rd'
    exact ⟨⟨rv, fp', h1, h5⟩, h4⟩

theorem atoms0T_any (f : Fm) (hf : f.okF = true) (vs : List Value) (ff : List Nat) (w : World) (hbig : wtV f.cd ≤ 1048576) (hv : RdVs w f.cd vs ff) :
    Calls Tryz.prog 58 #[.slice none 0 0, .agg vs.toArray] w fun e w' => (∃ rv rf, e = .returned rv ∧ Rd w' (.sl ((Fm.add [] f).map Atm.cd)) rv rf) ∧ Below w.heap.size w w' := by rw [Fm.okF_tell hf]; exact atoms0S_any f vs ff w hbig hv

set_option maxRecDepth 100000 in
set_option maxHeartbeats 4000000 in
theorem formOk_any (s : Sg) (f : Fm) (us : List Value) (vs : List Value) (fs ff : List Nat) (w : World) (hbig : wtV f.cd ≤ 1048576) (hs : RdVs w s.cd us fs) (hv : RdVs w f.cd vs ff) :
    Calls Tryz.prog 15 #[.agg us.toArray, .agg vs.toArray] w fun e w' => e = .returned (.bool (f.okIn s)) ∧ Below w.heap.size w w' := by
  have hv0 := hv
  obtain ⟨a3, c3, f3, a5, c5, f5, a6, c6, f6, a7, c7, f7, a11, c11, f11, rfl, -, m0, m1, m2, m3, m4, m5, m6, m7, m8, m9⟩ := Fm.open hv
  obtain ⟨a0, c0, f0, rfl, _, n0⟩ := Sg.open hs
  clear hv n0 m0 m1 m2 m3 m4 m5 m6 m7 m8 m9
  have hwt : wtR ((Fm.add [] f).map Atm.cd) ≤ wtV f.cd := by simpa [wtR] using Fm.add_wt f []
  have hwl : (Fm.add [] f).length ≤ 1 + wtV f.cd := by simpa using Fm.add_len f []
  have hsm := litsOf_small (l := Fm.add [] f) (by omega)
  have hbg := litsOf_T (Fm.add [] f)
  obtain ⟨X0, X1, hz, hB⟩ := box2 (w := w) (wr := (w.alloc (.cells #[.slice a0 s.syms.length c0] 41)).alloc (.cells #[.int .i64 f.kind, .int .i64 f.lit.atom.kind, .string f.lit.atom.a.name, .slice a3 f.lit.atom.a.kids.length c3, .string f.lit.atom.b.name, .slice a5 f.lit.atom.b.kids.length c5, .slice a6 f.lit.atom.nums.length c6, .slice a7 f.lit.atom.times.length c7, .int .i64 f.lit.atom.bound, .bool f.lit.atom.strict, .bool f.lit.no, .slice a11 f.kids.length c11] 52)) (cs := #[.slice a0 s.syms.length c0]) (ds := #[.int .i64 f.kind, .int .i64 f.lit.atom.kind, .string f.lit.atom.a.name, .slice a3 f.lit.atom.a.kids.length c3, .string f.lit.atom.b.name, .slice a5 f.lit.atom.b.kids.length c5, .slice a6 f.lit.atom.nums.length c6, .slice a7 f.lit.atom.times.length c7, .int .i64 f.lit.atom.bound, .bool f.lit.atom.strict, .bool f.lit.no, .slice a11 f.kids.length c11]) (T := 41) (U := 52) (Below.refl _ _)
  have hz0 := hB.size
  have hlX0 : w.heap.size < ((w.alloc (.cells #[.slice a0 s.syms.length c0] 41)).alloc (.cells #[.int .i64 f.kind, .int .i64 f.lit.atom.kind, .string f.lit.atom.a.name, .slice a3 f.lit.atom.a.kids.length c3, .string f.lit.atom.b.name, .slice a5 f.lit.atom.b.kids.length c5, .slice a6 f.lit.atom.nums.length c6, .slice a7 f.lit.atom.times.length c7, .int .i64 f.lit.atom.bound, .bool f.lit.atom.strict, .bool f.lit.no, .slice a11 f.kids.length c11] 52)).heap.size := by omega
  have hlX1 : w.heap.size + 1 < ((w.alloc (.cells #[.slice a0 s.syms.length c0] 41)).alloc (.cells #[.int .i64 f.kind, .int .i64 f.lit.atom.kind, .string f.lit.atom.a.name, .slice a3 f.lit.atom.a.kids.length c3, .string f.lit.atom.b.name, .slice a5 f.lit.atom.b.kids.length c5, .slice a6 f.lit.atom.nums.length c6, .slice a7 f.lit.atom.times.length c7, .int .i64 f.lit.atom.bound, .bool f.lit.atom.strict, .bool f.lit.no, .slice a11 f.kids.length c11] 52)).heap.size := by omega
  go_enter Tryz.func15, Tryz.ntmps15
  go_wp2_with fail
  cases hok : f.okF
  · have HE := Lib.hid (Fm.okIn_no (s := s) hok)
    generalize hWW : (w.alloc (.cells #[.slice a0 s.syms.length c0] 41)).alloc (.cells #[.int .i64 f.kind, .int .i64 f.lit.atom.kind, .string f.lit.atom.a.name, .slice a3 f.lit.atom.a.kids.length c3, .string f.lit.atom.b.name, .slice a5 f.lit.atom.b.kids.length c5, .slice a6 f.lit.atom.nums.length c6, .slice a7 f.lit.atom.times.length c7, .int .i64 f.lit.atom.bound, .bool f.lit.atom.strict, .bool f.lit.no, .slice a11 f.kids.length c11] 52) = W0 at *
    clear hWW
    have HL0 := Lib.hid (fun (W' : World) (hb' : Below W0.heap.size W0 W') => isForm_as f false hok _ _ W' hbig (hv0.below (hB.trans (hb'.mono hB.size))))
    have C0_0 := X0 0
    have C1_0 := X1 0
    have C1_1 := X1 1
    have C1_2 := X1 2
    have C1_3 := X1 3
    have C1_4 := X1 4
    have C1_5 := X1 5
    have C1_6 := X1 6
    have C1_7 := X1 7
    have C1_8 := X1 8
    have C1_9 := X1 9
    have C1_10 := X1 10
    have C1_11 := X1 11
    simp only [List.getElem?_toArray, List.getElem?_cons_zero, List.getElem?_cons_succ] at C0_0 C1_0 C1_1 C1_2 C1_3 C1_4 C1_5 C1_6 C1_7 C1_8 C1_9 C1_10 C1_11
    clear X0 X1
    have qC0_0 := cell_regrown C0_0
    have qC1_0 := cell_regrown C1_0
    have qC1_1 := cell_regrown C1_1
    have qC1_2 := cell_regrown C1_2
    have qC1_3 := cell_regrown C1_3
    have qC1_4 := cell_regrown C1_4
    have qC1_5 := cell_regrown C1_5
    have qC1_6 := cell_regrown C1_6
    have qC1_7 := cell_regrown C1_7
    have qC1_8 := cell_regrown C1_8
    have qC1_9 := cell_regrown C1_9
    have qC1_10 := cell_regrown C1_10
    have qC1_11 := cell_regrown C1_11
    clear C0_0 C1_0 C1_1 C1_2 C1_3 C1_4 C1_5 C1_6 C1_7 C1_8 C1_9 C1_10 C1_11
    refine wp_region_quiet_below (by kernel_rfl) (by kernel_rfl) ?_
    repeat (first | go_big_quiet_skip | quiet_step (first | (go_at_call 61; with_reducible refine Calls.regrown_of (HL0.out _ (below_regrown _ _ _)))))
    refine wpQuiet_nil ?_
    intro w9 hw2
    obtain ⟨⟨dq, osq⟩, hw2⟩ := hw2
    have hb9 : Below (W0).heap.size (W0) w9 := hw2 ▸ below_regrown (W0) dq osq
    clear hw2 qC0_0 qC1_0 qC1_1 qC1_2 qC1_3 qC1_4 qC1_5 qC1_6 qC1_7 qC1_8 qC1_9 qC1_10 qC1_11
    go_wp2_with fail
    go_ret
    exact ⟨retB HE.out.symm, hB.trans (hb9.mono hz0)⟩
  · have HE := Lib.hid (Fm.okIn_yes (s := s) hok)
    have C0_0 := X0 0
    have C1_0 := X1 0
    have C1_1 := X1 1
    have C1_2 := X1 2
    have C1_3 := X1 3
    have C1_4 := X1 4
    have C1_5 := X1 5
    have C1_6 := X1 6
    have C1_7 := X1 7
    have C1_8 := X1 8
    have C1_9 := X1 9
    have C1_10 := X1 10
    have C1_11 := X1 11
    simp only [List.getElem?_toArray, List.getElem?_cons_zero, List.getElem?_cons_succ] at C0_0 C1_0 C1_1 C1_2 C1_3 C1_4 C1_5 C1_6 C1_7 C1_8 C1_9 C1_10 C1_11
    first | go_region_held3 (fun W => W.cell? ⟨w.heap.size, 0, none⟩ = some (.slice a0 s.syms.length c0) ∧ W.cell? ⟨w.heap.size + 1, 0, none⟩ = some (.int .i64 f.kind) ∧ W.cell? ⟨w.heap.size + 1, 1, none⟩ = some (.int .i64 f.lit.atom.kind) ∧ W.cell? ⟨w.heap.size + 1, 2, none⟩ = some (.string f.lit.atom.a.name) ∧ W.cell? ⟨w.heap.size + 1, 3, none⟩ = some (.slice a3 f.lit.atom.a.kids.length c3) ∧ W.cell? ⟨w.heap.size + 1, 4, none⟩ = some (.string f.lit.atom.b.name) ∧ W.cell? ⟨w.heap.size + 1, 5, none⟩ = some (.slice a5 f.lit.atom.b.kids.length c5) ∧ W.cell? ⟨w.heap.size + 1, 6, none⟩ = some (.slice a6 f.lit.atom.nums.length c6) ∧ W.cell? ⟨w.heap.size + 1, 7, none⟩ = some (.slice a7 f.lit.atom.times.length c7) ∧ W.cell? ⟨w.heap.size + 1, 8, none⟩ = some (.int .i64 f.lit.atom.bound) ∧ W.cell? ⟨w.heap.size + 1, 9, none⟩ = some (.bool f.lit.atom.strict) ∧ W.cell? ⟨w.heap.size + 1, 10, none⟩ = some (.bool f.lit.no) ∧ W.cell? ⟨w.heap.size + 1, 11, none⟩ = some (.slice a11 f.kids.length c11) ∧ Below w.heap.size w W)
      (first | exact ⟨C0_0, C1_0, C1_1, C1_2, C1_3, C1_4, C1_5, C1_6, C1_7, C1_8, C1_9, C1_10, C1_11, hB.drew⟩ | (refine ⟨?_, ?_, ?_, ?_, ?_, ?_, ?_, ?_, ?_, ?_, ?_, ?_, ?_, (hB).trans ((below_undrew' hbR0).mono (hB).size)⟩ <;> (refine (cell_keep ?_ (below_undrew' hbR0)); assumption)) | (refine (cell_keep ?_ (below_undrew' hbR0)); assumption) | exact (hB).trans ((below_undrew' hbR0).mono (hB).size) | (refine ⟨?_, ?_, ?_, ?_, ?_, ?_, ?_, ?_, ?_, ?_, ?_, ?_, ?_, ((hB).trans ((below_undrew' hbR0).mono (hB).size)).trans (hbR1.mono ((hB).trans ((below_undrew' hbR0).mono (hB).size)).size)⟩ <;> (refine (cell_keep (cell_keep ?_ (below_undrew' hbR0)) hbR1); assumption)) | (refine (cell_keep (cell_keep ?_ (below_undrew' hbR0)) hbR1); assumption) | exact ((hB).trans ((below_undrew' hbR0).mono (hB).size)).trans (hbR1.mono ((hB).trans ((below_undrew' hbR0).mono (hB).size)).size) | (refine ⟨?_, ?_, ?_, ?_, ?_, ?_, ?_, ?_, ?_, ?_, ?_, ?_, ?_, (((hB).trans ((below_undrew' hbR0).mono (hB).size)).trans (hbR1.mono ((hB).trans ((below_undrew' hbR0).mono (hB).size)).size)).trans (hbR2.mono (((hB).trans ((below_undrew' hbR0).mono (hB).size)).trans (hbR1.mono ((hB).trans ((below_undrew' hbR0).mono (hB).size)).size)).size)⟩ <;> (refine (cell_keep (cell_keep (cell_keep ?_ (below_undrew' hbR0)) hbR1) hbR2); assumption)) | (refine (cell_keep (cell_keep (cell_keep ?_ (below_undrew' hbR0)) hbR1) hbR2); assumption) | exact (((hB).trans ((below_undrew' hbR0).mono (hB).size)).trans (hbR1.mono ((hB).trans ((below_undrew' hbR0).mono (hB).size)).size)).trans (hbR2.mono (((hB).trans ((below_undrew' hbR0).mono (hB).size)).trans (hbR1.mono ((hB).trans ((below_undrew' hbR0).mono (hB).size)).size)).size) | (refine ⟨?_, ?_, ?_, ?_, ?_, ?_, ?_, ?_, ?_, ?_, ?_, ?_, ?_, ((((hB).trans ((below_undrew' hbR0).mono (hB).size)).trans (hbR1.mono ((hB).trans ((below_undrew' hbR0).mono (hB).size)).size)).trans (hbR2.mono (((hB).trans ((below_undrew' hbR0).mono (hB).size)).trans (hbR1.mono ((hB).trans ((below_undrew' hbR0).mono (hB).size)).size)).size)).trans (hbR3.mono ((((hB).trans ((below_undrew' hbR0).mono (hB).size)).trans (hbR1.mono ((hB).trans ((below_undrew' hbR0).mono (hB).size)).size)).trans (hbR2.mono (((hB).trans ((below_undrew' hbR0).mono (hB).size)).trans (hbR1.mono ((hB).trans ((below_undrew' hbR0).mono (hB).size)).size)).size)).size)⟩ <;> (refine (cell_keep (cell_keep (cell_keep (cell_keep ?_ (below_undrew' hbR0)) hbR1) hbR2) hbR3); assumption)) | (refine (cell_keep (cell_keep (cell_keep (cell_keep ?_ (below_undrew' hbR0)) hbR1) hbR2) hbR3); assumption) | exact ((((hB).trans ((below_undrew' hbR0).mono (hB).size)).trans (hbR1.mono ((hB).trans ((below_undrew' hbR0).mono (hB).size)).size)).trans (hbR2.mono (((hB).trans ((below_undrew' hbR0).mono (hB).size)).trans (hbR1.mono ((hB).trans ((below_undrew' hbR0).mono (hB).size)).size)).size)).trans (hbR3.mono ((((hB).trans ((below_undrew' hbR0).mono (hB).size)).trans (hbR1.mono ((hB).trans ((below_undrew' hbR0).mono (hB).size)).size)).trans (hbR2.mono (((hB).trans ((below_undrew' hbR0).mono (hB).size)).trans (hbR1.mono ((hB).trans ((below_undrew' hbR0).mono (hB).size)).size)).size)).size))
      (first | (go_at_call 61; (with_reducible refine (isForm_as f true hok _ _ _ hbig (by exact hv0.below (hB.drew))).mono ?_); rintro e wR0 ⟨rfl, hbR0⟩) | (go_at_call 64; (with_reducible refine (atoms0_any f _ _ _ hbig (by exact hv0.below ((hB).trans ((below_undrew' hbR0).mono (hB).size)))).mono ?_); rintro e wR1 ⟨⟨av, af, rfl, ar⟩, hbR1⟩) | (go_at_call 63; (with_reducible refine (plain_any (Fm.add [] f) _ _ _ (by omega) (by exact ar)).mono ?_); rintro e wR2 ⟨⟨lv, lf, rfl, lr⟩, hbR2⟩) | (go_at_call 62; (with_reducible refine (bothOk_any s (litsOf (Fm.add [] f)) _ _ _ _ _ hsm (by omega) (by exact hs.below ((((hB).trans ((below_undrew' hbR0).mono (hB).size)).trans (hbR1.mono ((hB).trans ((below_undrew' hbR0).mono (hB).size)).size)).trans (hbR2.mono (((hB).trans ((below_undrew' hbR0).mono (hB).size)).trans (hbR1.mono ((hB).trans ((below_undrew' hbR0).mono (hB).size)).size)).size))) (by exact lr)).mono ?_); rintro e wR3 ⟨rfl, hbR3⟩)) | fail
    have hb := below_undrew' hbR0
    clear hbR0
    replace X0 := cells_later X0 hlX0 hb
    replace X1 := cells_later X1 hlX1 hb
    replace hB := hB.trans (hb.mono hz0)
    have hzn := hb.size
    replace hlX0 := Nat.lt_of_lt_of_le hlX0 hzn
    replace hlX1 := Nat.lt_of_lt_of_le hlX1 hzn
    replace hz0 := Nat.le_trans hz0 hzn
    clear hb hzn
    have hb := hbR1
    clear hbR1
    replace X0 := cells_later X0 hlX0 hb
    replace X1 := cells_later X1 hlX1 hb
    replace hB := hB.trans (hb.mono hz0)
    have hzn := hb.size
    replace hlX0 := Nat.lt_of_lt_of_le hlX0 hzn
    replace hlX1 := Nat.lt_of_lt_of_le hlX1 hzn
    replace hz0 := Nat.le_trans hz0 hzn
    clear hb hzn
    have hb := hbR2
    clear hbR2
    replace X0 := cells_later X0 hlX0 hb
    replace X1 := cells_later X1 hlX1 hb
    replace hB := hB.trans (hb.mono hz0)
    have hzn := hb.size
    replace hlX0 := Nat.lt_of_lt_of_le hlX0 hzn
    replace hlX1 := Nat.lt_of_lt_of_le hlX1 hzn
    replace hz0 := Nat.le_trans hz0 hzn
    clear hb hzn
    have hb := hbR3
    clear hbR3
    replace X0 := cells_later X0 hlX0 hb
    replace X1 := cells_later X1 hlX1 hb
    replace hB := hB.trans (hb.mono hz0)
    have hzn := hb.size
    replace hlX0 := Nat.lt_of_lt_of_le hlX0 hzn
    replace hlX1 := Nat.lt_of_lt_of_le hlX1 hzn
    replace hz0 := Nat.le_trans hz0 hzn
    clear hb hzn
    clear C0_0 C1_0 C1_1 C1_2 C1_3 C1_4 C1_5 C1_6 C1_7 C1_8 C1_9 C1_10 C1_11
    go_wp2_with fail
    go_ret
    exact ⟨retB HE.out.symm, hB⟩
set_option maxRecDepth 100000 in
set_option maxHeartbeats 4000000 in
theorem formOkS_any (s : Sg) (f : Fm) (us : List Value) (vs : List Value) (fs ff : List Nat) (w : World) (hbig : wtV f.cd ≤ 1048576) (hs : RdVs w s.cd us fs) (hv : RdVs w f.cd vs ff) :
    Calls Tryz.prog 12 #[.agg us.toArray, .agg vs.toArray] w fun e w' => e = .returned (.bool (f.okIn s)) ∧ Below w.heap.size w w' := by
  have hv0 := hv
  obtain ⟨a3, c3, f3, a5, c5, f5, a6, c6, f6, a7, c7, f7, a11, c11, f11, rfl, -, m0, m1, m2, m3, m4, m5, m6, m7, m8, m9⟩ := Fm.open hv
  obtain ⟨a0, c0, f0, rfl, _, n0⟩ := Sg.open hs
  clear hv n0 m0 m1 m2 m3 m4 m5 m6 m7 m8 m9
  have hwt : wtR ((Fm.add [] f).map Atm.cd) ≤ wtV f.cd := by simpa [wtR] using Fm.add_wt f []
  have hwl : (Fm.add [] f).length ≤ 1 + wtV f.cd := by simpa using Fm.add_len f []
  have hsm := litsOf_small (l := Fm.add [] f) (by omega)
  have hbg := litsOf_U (Fm.add [] f)
  obtain ⟨X0, X1, hz, hB⟩ := box2 (w := w) (wr := (w.alloc (.cells #[.slice a0 s.syms.length c0] 41)).alloc (.cells #[.int .i64 f.kind, .int .i64 f.lit.atom.kind, .string f.lit.atom.a.name, .slice a3 f.lit.atom.a.kids.length c3, .string f.lit.atom.b.name, .slice a5 f.lit.atom.b.kids.length c5, .slice a6 f.lit.atom.nums.length c6, .slice a7 f.lit.atom.times.length c7, .int .i64 f.lit.atom.bound, .bool f.lit.atom.strict, .bool f.lit.no, .slice a11 f.kids.length c11] 52)) (cs := #[.slice a0 s.syms.length c0]) (ds := #[.int .i64 f.kind, .int .i64 f.lit.atom.kind, .string f.lit.atom.a.name, .slice a3 f.lit.atom.a.kids.length c3, .string f.lit.atom.b.name, .slice a5 f.lit.atom.b.kids.length c5, .slice a6 f.lit.atom.nums.length c6, .slice a7 f.lit.atom.times.length c7, .int .i64 f.lit.atom.bound, .bool f.lit.atom.strict, .bool f.lit.no, .slice a11 f.kids.length c11]) (T := 41) (U := 52) (Below.refl _ _)
  have hz0 := hB.size
  have hlX0 : w.heap.size < ((w.alloc (.cells #[.slice a0 s.syms.length c0] 41)).alloc (.cells #[.int .i64 f.kind, .int .i64 f.lit.atom.kind, .string f.lit.atom.a.name, .slice a3 f.lit.atom.a.kids.length c3, .string f.lit.atom.b.name, .slice a5 f.lit.atom.b.kids.length c5, .slice a6 f.lit.atom.nums.length c6, .slice a7 f.lit.atom.times.length c7, .int .i64 f.lit.atom.bound, .bool f.lit.atom.strict, .bool f.lit.no, .slice a11 f.kids.length c11] 52)).heap.size := by omega
  have hlX1 : w.heap.size + 1 < ((w.alloc (.cells #[.slice a0 s.syms.length c0] 41)).alloc (.cells #[.int .i64 f.kind, .int .i64 f.lit.atom.kind, .string f.lit.atom.a.name, .slice a3 f.lit.atom.a.kids.length c3, .string f.lit.atom.b.name, .slice a5 f.lit.atom.b.kids.length c5, .slice a6 f.lit.atom.nums.length c6, .slice a7 f.lit.atom.times.length c7, .int .i64 f.lit.atom.bound, .bool f.lit.atom.strict, .bool f.lit.no, .slice a11 f.kids.length c11] 52)).heap.size := by omega
  go_enter Tryz.func12, Tryz.ntmps12
  go_wp2_with fail
  cases hok : f.okF
  · have HE := Lib.hid (Fm.okIn_no (s := s) hok)
    generalize hWW : (w.alloc (.cells #[.slice a0 s.syms.length c0] 41)).alloc (.cells #[.int .i64 f.kind, .int .i64 f.lit.atom.kind, .string f.lit.atom.a.name, .slice a3 f.lit.atom.a.kids.length c3, .string f.lit.atom.b.name, .slice a5 f.lit.atom.b.kids.length c5, .slice a6 f.lit.atom.nums.length c6, .slice a7 f.lit.atom.times.length c7, .int .i64 f.lit.atom.bound, .bool f.lit.atom.strict, .bool f.lit.no, .slice a11 f.kids.length c11] 52) = W0 at *
    clear hWW
    have HL0 := Lib.hid (fun (W' : World) (hb' : Below W0.heap.size W0 W') => l9Right_as f false hok _ _ W' hbig (hv0.below (hB.trans (hb'.mono hB.size))))
    have C0_0 := X0 0
    have C1_0 := X1 0
    have C1_1 := X1 1
    have C1_2 := X1 2
    have C1_3 := X1 3
    have C1_4 := X1 4
    have C1_5 := X1 5
    have C1_6 := X1 6
    have C1_7 := X1 7
    have C1_8 := X1 8
    have C1_9 := X1 9
    have C1_10 := X1 10
    have C1_11 := X1 11
    simp only [List.getElem?_toArray, List.getElem?_cons_zero, List.getElem?_cons_succ] at C0_0 C1_0 C1_1 C1_2 C1_3 C1_4 C1_5 C1_6 C1_7 C1_8 C1_9 C1_10 C1_11
    clear X0 X1
    have qC0_0 := cell_regrown C0_0
    have qC1_0 := cell_regrown C1_0
    have qC1_1 := cell_regrown C1_1
    have qC1_2 := cell_regrown C1_2
    have qC1_3 := cell_regrown C1_3
    have qC1_4 := cell_regrown C1_4
    have qC1_5 := cell_regrown C1_5
    have qC1_6 := cell_regrown C1_6
    have qC1_7 := cell_regrown C1_7
    have qC1_8 := cell_regrown C1_8
    have qC1_9 := cell_regrown C1_9
    have qC1_10 := cell_regrown C1_10
    have qC1_11 := cell_regrown C1_11
    clear C0_0 C1_0 C1_1 C1_2 C1_3 C1_4 C1_5 C1_6 C1_7 C1_8 C1_9 C1_10 C1_11
    refine wp_region_quiet_below (by kernel_rfl) (by kernel_rfl) ?_
    repeat (first | go_big_quiet_skip | quiet_step (first | (go_at_call 55; with_reducible refine Calls.regrown_of (HL0.out _ (below_regrown _ _ _)))))
    refine wpQuiet_nil ?_
    intro w9 hw2
    obtain ⟨⟨dq, osq⟩, hw2⟩ := hw2
    have hb9 : Below (W0).heap.size (W0) w9 := hw2 ▸ below_regrown (W0) dq osq
    clear hw2 qC0_0 qC1_0 qC1_1 qC1_2 qC1_3 qC1_4 qC1_5 qC1_6 qC1_7 qC1_8 qC1_9 qC1_10 qC1_11
    go_wp2_with fail
    go_ret
    exact ⟨retB HE.out.symm, hB.trans (hb9.mono hz0)⟩
  · have HE := Lib.hid (Fm.okIn_yes (s := s) hok)
    have C0_0 := X0 0
    have C1_0 := X1 0
    have C1_1 := X1 1
    have C1_2 := X1 2
    have C1_3 := X1 3
    have C1_4 := X1 4
    have C1_5 := X1 5
    have C1_6 := X1 6
    have C1_7 := X1 7
    have C1_8 := X1 8
    have C1_9 := X1 9
    have C1_10 := X1 10
    have C1_11 := X1 11
    simp only [List.getElem?_toArray, List.getElem?_cons_zero, List.getElem?_cons_succ] at C0_0 C1_0 C1_1 C1_2 C1_3 C1_4 C1_5 C1_6 C1_7 C1_8 C1_9 C1_10 C1_11
    first | go_region_held3 (fun W => W.cell? ⟨w.heap.size, 0, none⟩ = some (.slice a0 s.syms.length c0) ∧ W.cell? ⟨w.heap.size + 1, 0, none⟩ = some (.int .i64 f.kind) ∧ W.cell? ⟨w.heap.size + 1, 1, none⟩ = some (.int .i64 f.lit.atom.kind) ∧ W.cell? ⟨w.heap.size + 1, 2, none⟩ = some (.string f.lit.atom.a.name) ∧ W.cell? ⟨w.heap.size + 1, 3, none⟩ = some (.slice a3 f.lit.atom.a.kids.length c3) ∧ W.cell? ⟨w.heap.size + 1, 4, none⟩ = some (.string f.lit.atom.b.name) ∧ W.cell? ⟨w.heap.size + 1, 5, none⟩ = some (.slice a5 f.lit.atom.b.kids.length c5) ∧ W.cell? ⟨w.heap.size + 1, 6, none⟩ = some (.slice a6 f.lit.atom.nums.length c6) ∧ W.cell? ⟨w.heap.size + 1, 7, none⟩ = some (.slice a7 f.lit.atom.times.length c7) ∧ W.cell? ⟨w.heap.size + 1, 8, none⟩ = some (.int .i64 f.lit.atom.bound) ∧ W.cell? ⟨w.heap.size + 1, 9, none⟩ = some (.bool f.lit.atom.strict) ∧ W.cell? ⟨w.heap.size + 1, 10, none⟩ = some (.bool f.lit.no) ∧ W.cell? ⟨w.heap.size + 1, 11, none⟩ = some (.slice a11 f.kids.length c11) ∧ Below w.heap.size w W)
      (first | exact ⟨C0_0, C1_0, C1_1, C1_2, C1_3, C1_4, C1_5, C1_6, C1_7, C1_8, C1_9, C1_10, C1_11, hB.drew⟩ | (refine ⟨?_, ?_, ?_, ?_, ?_, ?_, ?_, ?_, ?_, ?_, ?_, ?_, ?_, (hB).trans ((below_undrew' hbR0).mono (hB).size)⟩ <;> (refine (cell_keep ?_ (below_undrew' hbR0)); assumption)) | (refine (cell_keep ?_ (below_undrew' hbR0)); assumption) | exact (hB).trans ((below_undrew' hbR0).mono (hB).size) | (refine ⟨?_, ?_, ?_, ?_, ?_, ?_, ?_, ?_, ?_, ?_, ?_, ?_, ?_, ((hB).trans ((below_undrew' hbR0).mono (hB).size)).trans (hbR1.mono ((hB).trans ((below_undrew' hbR0).mono (hB).size)).size)⟩ <;> (refine (cell_keep (cell_keep ?_ (below_undrew' hbR0)) hbR1); assumption)) | (refine (cell_keep (cell_keep ?_ (below_undrew' hbR0)) hbR1); assumption) | exact ((hB).trans ((below_undrew' hbR0).mono (hB).size)).trans (hbR1.mono ((hB).trans ((below_undrew' hbR0).mono (hB).size)).size) | (refine ⟨?_, ?_, ?_, ?_, ?_, ?_, ?_, ?_, ?_, ?_, ?_, ?_, ?_, (((hB).trans ((below_undrew' hbR0).mono (hB).size)).trans (hbR1.mono ((hB).trans ((below_undrew' hbR0).mono (hB).size)).size)).trans (hbR2.mono (((hB).trans ((below_undrew' hbR0).mono (hB).size)).trans (hbR1.mono ((hB).trans ((below_undrew' hbR0).mono (hB).size)).size)).size)⟩ <;> (refine (cell_keep (cell_keep (cell_keep ?_ (below_undrew' hbR0)) hbR1) hbR2); assumption)) | (refine (cell_keep (cell_keep (cell_keep ?_ (below_undrew' hbR0)) hbR1) hbR2); assumption) | exact (((hB).trans ((below_undrew' hbR0).mono (hB).size)).trans (hbR1.mono ((hB).trans ((below_undrew' hbR0).mono (hB).size)).size)).trans (hbR2.mono (((hB).trans ((below_undrew' hbR0).mono (hB).size)).trans (hbR1.mono ((hB).trans ((below_undrew' hbR0).mono (hB).size)).size)).size) | (refine ⟨?_, ?_, ?_, ?_, ?_, ?_, ?_, ?_, ?_, ?_, ?_, ?_, ?_, ((((hB).trans ((below_undrew' hbR0).mono (hB).size)).trans (hbR1.mono ((hB).trans ((below_undrew' hbR0).mono (hB).size)).size)).trans (hbR2.mono (((hB).trans ((below_undrew' hbR0).mono (hB).size)).trans (hbR1.mono ((hB).trans ((below_undrew' hbR0).mono (hB).size)).size)).size)).trans (hbR3.mono ((((hB).trans ((below_undrew' hbR0).mono (hB).size)).trans (hbR1.mono ((hB).trans ((below_undrew' hbR0).mono (hB).size)).size)).trans (hbR2.mono (((hB).trans ((below_undrew' hbR0).mono (hB).size)).trans (hbR1.mono ((hB).trans ((below_undrew' hbR0).mono (hB).size)).size)).size)).size)⟩ <;> (refine (cell_keep (cell_keep (cell_keep (cell_keep ?_ (below_undrew' hbR0)) hbR1) hbR2) hbR3); assumption)) | (refine (cell_keep (cell_keep (cell_keep (cell_keep ?_ (below_undrew' hbR0)) hbR1) hbR2) hbR3); assumption) | exact ((((hB).trans ((below_undrew' hbR0).mono (hB).size)).trans (hbR1.mono ((hB).trans ((below_undrew' hbR0).mono (hB).size)).size)).trans (hbR2.mono (((hB).trans ((below_undrew' hbR0).mono (hB).size)).trans (hbR1.mono ((hB).trans ((below_undrew' hbR0).mono (hB).size)).size)).size)).trans (hbR3.mono ((((hB).trans ((below_undrew' hbR0).mono (hB).size)).trans (hbR1.mono ((hB).trans ((below_undrew' hbR0).mono (hB).size)).size)).trans (hbR2.mono (((hB).trans ((below_undrew' hbR0).mono (hB).size)).trans (hbR1.mono ((hB).trans ((below_undrew' hbR0).mono (hB).size)).size)).size)).size))
      (first | (go_at_call 55; (with_reducible refine (l9Right_as f true hok _ _ _ hbig (by exact hv0.below (hB.drew))).mono ?_); rintro e wR0 ⟨rfl, hbR0⟩) | (go_at_call 58; (with_reducible refine (atoms0T_any f hok _ _ _ hbig (by exact hv0.below ((hB).trans ((below_undrew' hbR0).mono (hB).size)))).mono ?_); rintro e wR1 ⟨⟨av, af, rfl, ar⟩, hbR1⟩) | (go_at_call 57; (with_reducible refine (l9Lits_any (Fm.add [] f) _ _ _ (by omega) (by exact ar)).mono ?_); rintro e wR2 ⟨⟨lv, lf, rfl, lr⟩, hbR2⟩) | (go_at_call 56; (with_reducible refine (bothOkS_any s (litsOf (Fm.add [] f)) _ _ _ _ _ hsm (by omega) (by exact hs.below ((((hB).trans ((below_undrew' hbR0).mono (hB).size)).trans (hbR1.mono ((hB).trans ((below_undrew' hbR0).mono (hB).size)).size)).trans (hbR2.mono (((hB).trans ((below_undrew' hbR0).mono (hB).size)).trans (hbR1.mono ((hB).trans ((below_undrew' hbR0).mono (hB).size)).size)).size))) (by exact lr)).mono ?_); rintro e wR3 ⟨rfl, hbR3⟩)) | fail
    have hb := below_undrew' hbR0
    clear hbR0
    replace X0 := cells_later X0 hlX0 hb
    replace X1 := cells_later X1 hlX1 hb
    replace hB := hB.trans (hb.mono hz0)
    have hzn := hb.size
    replace hlX0 := Nat.lt_of_lt_of_le hlX0 hzn
    replace hlX1 := Nat.lt_of_lt_of_le hlX1 hzn
    replace hz0 := Nat.le_trans hz0 hzn
    clear hb hzn
    have hb := hbR1
    clear hbR1
    replace X0 := cells_later X0 hlX0 hb
    replace X1 := cells_later X1 hlX1 hb
    replace hB := hB.trans (hb.mono hz0)
    have hzn := hb.size
    replace hlX0 := Nat.lt_of_lt_of_le hlX0 hzn
    replace hlX1 := Nat.lt_of_lt_of_le hlX1 hzn
    replace hz0 := Nat.le_trans hz0 hzn
    clear hb hzn
    have hb := hbR2
    clear hbR2
    replace X0 := cells_later X0 hlX0 hb
    replace X1 := cells_later X1 hlX1 hb
    replace hB := hB.trans (hb.mono hz0)
    have hzn := hb.size
    replace hlX0 := Nat.lt_of_lt_of_le hlX0 hzn
    replace hlX1 := Nat.lt_of_lt_of_le hlX1 hzn
    replace hz0 := Nat.le_trans hz0 hzn
    clear hb hzn
    have hb := hbR3
    clear hbR3
    replace X0 := cells_later X0 hlX0 hb
    replace X1 := cells_later X1 hlX1 hb
    replace hB := hB.trans (hb.mono hz0)
    have hzn := hb.size
    replace hlX0 := Nat.lt_of_lt_of_le hlX0 hzn
    replace hlX1 := Nat.lt_of_lt_of_le hlX1 hzn
    replace hz0 := Nat.le_trans hz0 hzn
    clear hb hzn
    clear C0_0 C1_0 C1_1 C1_2 C1_3 C1_4 C1_5 C1_6 C1_7 C1_8 C1_9 C1_10 C1_11
    go_wp2_with fail
    go_ret
    exact ⟨retB HE.out.symm, hB⟩
set_option maxRecDepth 100000 in
set_option maxHeartbeats 4000000 in
theorem formsOk_any (s : Sg) (fs : List Fm) (us : List Value) (v : Value) (f0 ff : List Nat) (w : World) (hbig : fs.length + wtR (fs.map Fm.cd) ≤ 1048576) (hs : RdVs w s.cd us f0) (hv : Rd w (.sl (fs.map Fm.cd)) v ff) :
    Calls Tryz.prog 21 #[.agg us.toArray, v] w fun e w' => e = .returned (.bool (fmsIn s fs)) ∧ Below w.heap.size w w' := by
  obtain ⟨a0, c0, g0, rfl, _, n0⟩ := Sg.open hs
  obtain ⟨p1, q1, rfl, hc1, hd1⟩ := rd_sl_inv hv
  clear n0
  obtain ⟨hwt, hwl⟩ := fmsAtoms_wt fs
  have hsm := litsOf_small (l := fmsAtoms fs) (by omega)
  have hbg := litsOf_T (fmsAtoms fs)
  have X0 := cell_new w #[.slice a0 s.syms.length c0] 41
  have hB := below_alloc w (.cells #[.slice a0 s.syms.length c0] 41)
  have hz0 := hB.size
  have hlX0 : w.heap.size < (w.alloc (.cells #[.slice a0 s.syms.length c0] 41)).heap.size := by simp
  go_enter Tryz.func21, Tryz.ntmps21
  go_wp2_with fail
  refine (formsAtoms_any fs _ _ _ hbig (by exact hv.below hB)).mono ?_
  rintro e wA ⟨av, af, rfl, ar, _, hb⟩
  replace X0 := cells_later X0 hlX0 hb
  replace hB := hB.trans (hb.mono hz0)
  have hzn := hb.size
  replace hlX0 := Nat.lt_of_lt_of_le hlX0 hzn
  replace hz0 := Nat.le_trans hz0 hzn
  clear hb hzn
  cases hso : s.okB
  · cases hfo : fmsOk fs
    · have HE := Lib.hid (fmsIn_sig (fs := fs) hso)
      go_wp2_with fail
      have HL0 := Lib.hid (fun (W' : World) (hb' : Below wA.heap.size wA W') => sigOk_as s false hso _ _ W' (hs.below (hB.trans (hb'.mono hB.size))))
      have C0_0 := X0 0
      simp only [List.getElem?_toArray, List.getElem?_cons_zero, List.getElem?_cons_succ] at C0_0
      clear X0
      have qC0_0 := cell_regrown C0_0
      clear C0_0
      refine wp_region_quiet_below (by kernel_rfl) (by kernel_rfl) ?_
      repeat (first | go_big_quiet_skip | quiet_step (first | (go_at_call 71; with_reducible refine Calls.regrown_of (HL0.out _ (below_regrown _ _ _)))))
      refine wpQuiet_nil ?_
      intro w9 hw2
      obtain ⟨⟨dq, osq⟩, hw2⟩ := hw2
      have hb9 : Below (wA).heap.size (wA) w9 := hw2 ▸ below_regrown (wA) dq osq
      clear hw2 qC0_0
      go_wp2_with fail
      go_ret
      exact ⟨retB HE.out.symm, hB.trans (hb9.mono hz0)⟩
    · have HE := Lib.hid (fmsIn_sig (fs := fs) hso)
      go_wp2_with fail
      have HL0 := Lib.hid (fun (W' : World) (hb' : Below wA.heap.size wA W') => sigOk_as s false hso _ _ W' (hs.below (hB.trans (hb'.mono hB.size))))
      have C0_0 := X0 0
      simp only [List.getElem?_toArray, List.getElem?_cons_zero, List.getElem?_cons_succ] at C0_0
      clear X0
      have qC0_0 := cell_regrown C0_0
      clear C0_0
      refine wp_region_quiet_below (by kernel_rfl) (by kernel_rfl) ?_
      repeat (first | go_big_quiet_skip | quiet_step (first | (go_at_call 71; with_reducible refine Calls.regrown_of (HL0.out _ (below_regrown _ _ _)))))
      refine wpQuiet_nil ?_
      intro w9 hw2
      obtain ⟨⟨dq, osq⟩, hw2⟩ := hw2
      have hb9 : Below (wA).heap.size (wA) w9 := hw2 ▸ below_regrown (wA) dq osq
      clear hw2 qC0_0
      go_wp2_with fail
      go_ret
      exact ⟨retB HE.out.symm, hB.trans (hb9.mono hz0)⟩
  · cases hfo : fmsOk fs
    · have HE := Lib.hid (fmsIn_no (s := s) hfo)
      go_wp2_with fail
      have HL0 := Lib.hid (fun (W' : World) (hb' : Below wA.heap.size wA W') => sigOk_as s true hso _ _ W' (hs.below (hB.trans (hb'.mono hB.size))))
      have C0_0 := X0 0
      simp only [List.getElem?_toArray, List.getElem?_cons_zero, List.getElem?_cons_succ] at C0_0
      clear X0
      have qC0_0 := cell_regrown C0_0
      clear C0_0
      refine wp_region_quiet_below (by kernel_rfl) (by kernel_rfl) ?_
      repeat (first | go_big_quiet_skip | quiet_step (first | (go_at_call 71; with_reducible refine Calls.regrown_of (HL0.out _ (below_regrown _ _ _)))))
      refine wpQuiet_nil ?_
      intro w9 hw2
      obtain ⟨⟨dq, osq⟩, hw2⟩ := hw2
      have hb9 : Below (wA).heap.size (wA) w9 := hw2 ▸ below_regrown (wA) dq osq
      clear hw2 qC0_0
      go_wp2_with fail
      go_ret
      exact ⟨retB HE.out.symm, hB.trans (hb9.mono hz0)⟩
    · have HE := Lib.hid (fmsIn_yes hso hfo)
      go_wp2_with fail
      have C0_0 := X0 0
      simp only [List.getElem?_toArray, List.getElem?_cons_zero, List.getElem?_cons_succ] at C0_0
      first | go_region_held3 (fun W => W.cell? ⟨w.heap.size, 0, none⟩ = some (.slice a0 s.syms.length c0) ∧ Below w.heap.size w W)
        (first | exact ⟨C0_0, hB.drew⟩ | (refine ⟨?_, (hB).trans ((below_undrew' hbR0).mono (hB).size)⟩ <;> (refine (cell_keep ?_ (below_undrew' hbR0)); assumption)) | (refine (cell_keep ?_ (below_undrew' hbR0)); assumption) | exact (hB).trans ((below_undrew' hbR0).mono (hB).size) | (refine ⟨?_, ((hB).trans ((below_undrew' hbR0).mono (hB).size)).trans (hbR1.mono ((hB).trans ((below_undrew' hbR0).mono (hB).size)).size)⟩ <;> (refine (cell_keep (cell_keep ?_ (below_undrew' hbR0)) hbR1); assumption)) | (refine (cell_keep (cell_keep ?_ (below_undrew' hbR0)) hbR1); assumption) | exact ((hB).trans ((below_undrew' hbR0).mono (hB).size)).trans (hbR1.mono ((hB).trans ((below_undrew' hbR0).mono (hB).size)).size) | (refine ⟨?_, (((hB).trans ((below_undrew' hbR0).mono (hB).size)).trans (hbR1.mono ((hB).trans ((below_undrew' hbR0).mono (hB).size)).size)).trans (hbR2.mono (((hB).trans ((below_undrew' hbR0).mono (hB).size)).trans (hbR1.mono ((hB).trans ((below_undrew' hbR0).mono (hB).size)).size)).size)⟩ <;> (refine (cell_keep (cell_keep (cell_keep ?_ (below_undrew' hbR0)) hbR1) hbR2); assumption)) | (refine (cell_keep (cell_keep (cell_keep ?_ (below_undrew' hbR0)) hbR1) hbR2); assumption) | exact (((hB).trans ((below_undrew' hbR0).mono (hB).size)).trans (hbR1.mono ((hB).trans ((below_undrew' hbR0).mono (hB).size)).size)).trans (hbR2.mono (((hB).trans ((below_undrew' hbR0).mono (hB).size)).trans (hbR1.mono ((hB).trans ((below_undrew' hbR0).mono (hB).size)).size)).size))
        (first | (go_at_call 71; (with_reducible refine (sigOk_as s true hso _ _ _ (by exact hs.below (hB.drew))).mono ?_); rintro e wR0 ⟨rfl, hbR0⟩) | (go_at_call 63; (with_reducible refine (plain_any (fmsAtoms fs) _ _ _ (by omega) (by exact ar.below ((below_undrew' hbR0)))).mono ?_); rintro e wR1 ⟨⟨lv, lf, rfl, lr⟩, hbR1⟩) | (go_at_call 62; (with_reducible refine (bothOk_any s (litsOf (fmsAtoms fs)) _ _ _ _ _ hsm (by omega) (by exact hs.below (((hB).trans ((below_undrew' hbR0).mono (hB).size)).trans (hbR1.mono ((hB).trans ((below_undrew' hbR0).mono (hB).size)).size))) (by exact lr)).mono ?_); rintro e wR2 ⟨rfl, hbR2⟩)) | fail
      have hb := below_undrew' hbR0
      clear hbR0
      replace X0 := cells_later X0 hlX0 hb
      replace hB := hB.trans (hb.mono hz0)
      have hzn := hb.size
      replace hlX0 := Nat.lt_of_lt_of_le hlX0 hzn
      replace hz0 := Nat.le_trans hz0 hzn
      clear hb hzn
      have hb := hbR1
      clear hbR1
      replace X0 := cells_later X0 hlX0 hb
      replace hB := hB.trans (hb.mono hz0)
      have hzn := hb.size
      replace hlX0 := Nat.lt_of_lt_of_le hlX0 hzn
      replace hz0 := Nat.le_trans hz0 hzn
      clear hb hzn
      have hb := hbR2
      clear hbR2
      replace X0 := cells_later X0 hlX0 hb
      replace hB := hB.trans (hb.mono hz0)
      have hzn := hb.size
      replace hlX0 := Nat.lt_of_lt_of_le hlX0 hzn
      replace hz0 := Nat.le_trans hz0 hzn
      clear hb hzn
      clear C0_0
      go_wp2_with fail
      go_ret
      exact ⟨retB HE.out.symm, hB⟩
set_option maxRecDepth 100000 in
set_option maxHeartbeats 4000000 in
theorem formsOkS_any (s : Sg) (fs : List Fm) (us : List Value) (v : Value) (f0 ff : List Nat) (w : World) (hbig : fs.length + wtR (fs.map Fm.cd) ≤ 1048576) (hs : RdVs w s.cd us f0) (hv : Rd w (.sl (fs.map Fm.cd)) v ff) :
    Calls Tryz.prog 19 #[.agg us.toArray, v] w fun e w' => e = .returned (.bool (fmsIn s fs)) ∧ Below w.heap.size w w' := by
  obtain ⟨a0, c0, g0, rfl, _, n0⟩ := Sg.open hs
  obtain ⟨p1, q1, rfl, hc1, hd1⟩ := rd_sl_inv hv
  clear n0
  obtain ⟨hwt, hwl⟩ := fmsAtoms_wt fs
  have hsm := litsOf_small (l := fmsAtoms fs) (by omega)
  have hbg := litsOf_U (fmsAtoms fs)
  have X0 := cell_new w #[.slice a0 s.syms.length c0] 41
  have hB := below_alloc w (.cells #[.slice a0 s.syms.length c0] 41)
  have hz0 := hB.size
  have hlX0 : w.heap.size < (w.alloc (.cells #[.slice a0 s.syms.length c0] 41)).heap.size := by simp
  go_enter Tryz.func19, Tryz.ntmps19
  go_wp2_with fail
  cases hso : s.okB
  · have HE := Lib.hid (fmsIn_sig (fs := fs) hso)
    generalize hWW : w.alloc (.cells #[.slice a0 s.syms.length c0] 41) = W0 at *
    clear hWW
    have HL0 := Lib.hid (fun (W' : World) (hb' : Below W0.heap.size W0 W') => sigOkS_as s false hso _ _ W' (hs.below (hB.trans (hb'.mono hB.size))))
    have C0_0 := X0 0
    simp only [List.getElem?_toArray, List.getElem?_cons_zero, List.getElem?_cons_succ] at C0_0
    clear X0
    have qC0_0 := cell_regrown C0_0
    clear C0_0
    refine wp_region_quiet_below (by kernel_rfl) (by kernel_rfl) ?_
    repeat (first | go_big_quiet_skip | quiet_step (first | (go_at_call 67; with_reducible refine Calls.regrown_of (HL0.out _ (below_regrown _ _ _)))))
    refine wpQuiet_nil ?_
    intro w9 hw2
    obtain ⟨⟨dq, osq⟩, hw2⟩ := hw2
    have hb9 : Below (W0).heap.size (W0) w9 := hw2 ▸ below_regrown (W0) dq osq
    clear hw2 qC0_0
    go_wp2_with fail
    go_ret
    exact ⟨retB HE.out.symm, hB.trans (hb9.mono hz0)⟩
  · cases hfo : fmsOk fs
    · have HE := Lib.hid (fmsIn_no (s := s) hfo)
      generalize hWW : w.alloc (.cells #[.slice a0 s.syms.length c0] 41) = W0 at *
      clear hWW
      have HL0 := Lib.hid (fun (W' : World) (hb' : Below W0.heap.size W0 W') => sigOkS_as s true hso _ _ W' (hs.below (hB.trans (hb'.mono hB.size))))
      have HL1 := Lib.hid (fun (W' : World) (hb' : Below W0.heap.size W0 W') => l10Forms_as fs false hfo _ _ W' hbig (hv.below (hB.trans (hb'.mono hB.size))))
      have C0_0 := X0 0
      simp only [List.getElem?_toArray, List.getElem?_cons_zero, List.getElem?_cons_succ] at C0_0
      clear X0
      have qC0_0 := cell_regrown C0_0
      clear C0_0
      refine wp_region_quiet_below (by kernel_rfl) (by kernel_rfl) ?_
      repeat (first | go_big_quiet_skip | quiet_step (first | (go_at_call 67; with_reducible refine Calls.regrown_of (HL0.out _ (below_regrown _ _ _))) | (go_at_call 68; with_reducible refine Calls.regrown_of (HL1.out _ (below_regrown _ _ _)))))
      refine wpQuiet_nil ?_
      intro w9 hw2
      obtain ⟨⟨dq, osq⟩, hw2⟩ := hw2
      have hb9 : Below (W0).heap.size (W0) w9 := hw2 ▸ below_regrown (W0) dq osq
      clear hw2 qC0_0
      go_wp2_with fail
      go_ret
      exact ⟨retB HE.out.symm, hB.trans (hb9.mono hz0)⟩
    · have HE := Lib.hid (fmsIn_yes hso hfo)
      have C0_0 := X0 0
      simp only [List.getElem?_toArray, List.getElem?_cons_zero, List.getElem?_cons_succ] at C0_0
      first | go_region_held3 (fun W => W.cell? ⟨w.heap.size, 0, none⟩ = some (.slice a0 s.syms.length c0) ∧ Below w.heap.size w W)
        (first | exact ⟨C0_0, hB.drew⟩ | (refine ⟨?_, (hB).trans ((below_undrew' hbR0).mono (hB).size)⟩ <;> (refine (cell_keep ?_ (below_undrew' hbR0)); assumption)) | (refine (cell_keep ?_ (below_undrew' hbR0)); assumption) | exact (hB).trans ((below_undrew' hbR0).mono (hB).size) | (refine ⟨?_, ((hB).trans ((below_undrew' hbR0).mono (hB).size)).trans (hbR1.mono ((hB).trans ((below_undrew' hbR0).mono (hB).size)).size)⟩ <;> (refine (cell_keep (cell_keep ?_ (below_undrew' hbR0)) hbR1); assumption)) | (refine (cell_keep (cell_keep ?_ (below_undrew' hbR0)) hbR1); assumption) | exact ((hB).trans ((below_undrew' hbR0).mono (hB).size)).trans (hbR1.mono ((hB).trans ((below_undrew' hbR0).mono (hB).size)).size) | (refine ⟨?_, (((hB).trans ((below_undrew' hbR0).mono (hB).size)).trans (hbR1.mono ((hB).trans ((below_undrew' hbR0).mono (hB).size)).size)).trans (hbR2.mono (((hB).trans ((below_undrew' hbR0).mono (hB).size)).trans (hbR1.mono ((hB).trans ((below_undrew' hbR0).mono (hB).size)).size)).size)⟩ <;> (refine (cell_keep (cell_keep (cell_keep ?_ (below_undrew' hbR0)) hbR1) hbR2); assumption)) | (refine (cell_keep (cell_keep (cell_keep ?_ (below_undrew' hbR0)) hbR1) hbR2); assumption) | exact (((hB).trans ((below_undrew' hbR0).mono (hB).size)).trans (hbR1.mono ((hB).trans ((below_undrew' hbR0).mono (hB).size)).size)).trans (hbR2.mono (((hB).trans ((below_undrew' hbR0).mono (hB).size)).trans (hbR1.mono ((hB).trans ((below_undrew' hbR0).mono (hB).size)).size)).size) | (refine ⟨?_, ((((hB).trans ((below_undrew' hbR0).mono (hB).size)).trans (hbR1.mono ((hB).trans ((below_undrew' hbR0).mono (hB).size)).size)).trans (hbR2.mono (((hB).trans ((below_undrew' hbR0).mono (hB).size)).trans (hbR1.mono ((hB).trans ((below_undrew' hbR0).mono (hB).size)).size)).size)).trans (hbR3.mono ((((hB).trans ((below_undrew' hbR0).mono (hB).size)).trans (hbR1.mono ((hB).trans ((below_undrew' hbR0).mono (hB).size)).size)).trans (hbR2.mono (((hB).trans ((below_undrew' hbR0).mono (hB).size)).trans (hbR1.mono ((hB).trans ((below_undrew' hbR0).mono (hB).size)).size)).size)).size)⟩ <;> (refine (cell_keep (cell_keep (cell_keep (cell_keep ?_ (below_undrew' hbR0)) hbR1) hbR2) hbR3); assumption)) | (refine (cell_keep (cell_keep (cell_keep (cell_keep ?_ (below_undrew' hbR0)) hbR1) hbR2) hbR3); assumption) | exact ((((hB).trans ((below_undrew' hbR0).mono (hB).size)).trans (hbR1.mono ((hB).trans ((below_undrew' hbR0).mono (hB).size)).size)).trans (hbR2.mono (((hB).trans ((below_undrew' hbR0).mono (hB).size)).trans (hbR1.mono ((hB).trans ((below_undrew' hbR0).mono (hB).size)).size)).size)).trans (hbR3.mono ((((hB).trans ((below_undrew' hbR0).mono (hB).size)).trans (hbR1.mono ((hB).trans ((below_undrew' hbR0).mono (hB).size)).size)).trans (hbR2.mono (((hB).trans ((below_undrew' hbR0).mono (hB).size)).trans (hbR1.mono ((hB).trans ((below_undrew' hbR0).mono (hB).size)).size)).size)).size) | (refine ⟨?_, (((((hB).trans ((below_undrew' hbR0).mono (hB).size)).trans (hbR1.mono ((hB).trans ((below_undrew' hbR0).mono (hB).size)).size)).trans (hbR2.mono (((hB).trans ((below_undrew' hbR0).mono (hB).size)).trans (hbR1.mono ((hB).trans ((below_undrew' hbR0).mono (hB).size)).size)).size)).trans (hbR3.mono ((((hB).trans ((below_undrew' hbR0).mono (hB).size)).trans (hbR1.mono ((hB).trans ((below_undrew' hbR0).mono (hB).size)).size)).trans (hbR2.mono (((hB).trans ((below_undrew' hbR0).mono (hB).size)).trans (hbR1.mono ((hB).trans ((below_undrew' hbR0).mono (hB).size)).size)).size)).size)).trans (hbR4.mono (((((hB).trans ((below_undrew' hbR0).mono (hB).size)).trans (hbR1.mono ((hB).trans ((below_undrew' hbR0).mono (hB).size)).size)).trans (hbR2.mono (((hB).trans ((below_undrew' hbR0).mono (hB).size)).trans (hbR1.mono ((hB).trans ((below_undrew' hbR0).mono (hB).size)).size)).size)).trans (hbR3.mono ((((hB).trans ((below_undrew' hbR0).mono (hB).size)).trans (hbR1.mono ((hB).trans ((below_undrew' hbR0).mono (hB).size)).size)).trans (hbR2.mono (((hB).trans ((below_undrew' hbR0).mono (hB).size)).trans (hbR1.mono ((hB).trans ((below_undrew' hbR0).mono (hB).size)).size)).size)).size)).size)⟩ <;> (refine (cell_keep (cell_keep (cell_keep (cell_keep (cell_keep ?_ (below_undrew' hbR0)) hbR1) hbR2) hbR3) hbR4); assumption)) | (refine (cell_keep (cell_keep (cell_keep (cell_keep (cell_keep ?_ (below_undrew' hbR0)) hbR1) hbR2) hbR3) hbR4); assumption) | exact (((((hB).trans ((below_undrew' hbR0).mono (hB).size)).trans (hbR1.mono ((hB).trans ((below_undrew' hbR0).mono (hB).size)).size)).trans (hbR2.mono (((hB).trans ((below_undrew' hbR0).mono (hB).size)).trans (hbR1.mono ((hB).trans ((below_undrew' hbR0).mono (hB).size)).size)).size)).trans (hbR3.mono ((((hB).trans ((below_undrew' hbR0).mono (hB).size)).trans (hbR1.mono ((hB).trans ((below_undrew' hbR0).mono (hB).size)).size)).trans (hbR2.mono (((hB).trans ((below_undrew' hbR0).mono (hB).size)).trans (hbR1.mono ((hB).trans ((below_undrew' hbR0).mono (hB).size)).size)).size)).size)).trans (hbR4.mono (((((hB).trans ((below_undrew' hbR0).mono (hB).size)).trans (hbR1.mono ((hB).trans ((below_undrew' hbR0).mono (hB).size)).size)).trans (hbR2.mono (((hB).trans ((below_undrew' hbR0).mono (hB).size)).trans (hbR1.mono ((hB).trans ((below_undrew' hbR0).mono (hB).size)).size)).size)).trans (hbR3.mono ((((hB).trans ((below_undrew' hbR0).mono (hB).size)).trans (hbR1.mono ((hB).trans ((below_undrew' hbR0).mono (hB).size)).size)).trans (hbR2.mono (((hB).trans ((below_undrew' hbR0).mono (hB).size)).trans (hbR1.mono ((hB).trans ((below_undrew' hbR0).mono (hB).size)).size)).size)).size)).size))
        (first | (go_at_call 67; (with_reducible refine (sigOkS_as s true hso _ _ _ (by exact hs.below (hB.drew))).mono ?_); rintro e wR0 ⟨rfl, hbR0⟩) | (go_at_call 68; (with_reducible refine (l10Forms_as fs true hfo _ _ _ hbig (by exact hv.below ((hB).trans ((below_undrew' hbR0).mono (hB).size)))).mono ?_); rintro e wR1 ⟨rfl, hbR1⟩) | (go_at_call 69; (with_reducible refine (told0_any fs hfo _ _ _ hbig (by exact hv.below (((hB).trans ((below_undrew' hbR0).mono (hB).size)).trans (hbR1.mono ((hB).trans ((below_undrew' hbR0).mono (hB).size)).size)))).mono ?_); rintro e wR2 ⟨⟨av, af, rfl, ar⟩, hbR2⟩) | (go_at_call 57; (with_reducible refine (l9Lits_any (fmsAtoms fs) _ _ _ (by omega) (by exact ar)).mono ?_); rintro e wR3 ⟨⟨lv, lf, rfl, lr⟩, hbR3⟩) | (go_at_call 56; (with_reducible refine (bothOkS_any s (litsOf (fmsAtoms fs)) _ _ _ _ _ hsm (by omega) (by exact hs.below (((((hB).trans ((below_undrew' hbR0).mono (hB).size)).trans (hbR1.mono ((hB).trans ((below_undrew' hbR0).mono (hB).size)).size)).trans (hbR2.mono (((hB).trans ((below_undrew' hbR0).mono (hB).size)).trans (hbR1.mono ((hB).trans ((below_undrew' hbR0).mono (hB).size)).size)).size)).trans (hbR3.mono ((((hB).trans ((below_undrew' hbR0).mono (hB).size)).trans (hbR1.mono ((hB).trans ((below_undrew' hbR0).mono (hB).size)).size)).trans (hbR2.mono (((hB).trans ((below_undrew' hbR0).mono (hB).size)).trans (hbR1.mono ((hB).trans ((below_undrew' hbR0).mono (hB).size)).size)).size)).size))) (by exact lr)).mono ?_); rintro e wR4 ⟨rfl, hbR4⟩)) | fail
      have hb := below_undrew' hbR0
      clear hbR0
      replace X0 := cells_later X0 hlX0 hb
      replace hB := hB.trans (hb.mono hz0)
      have hzn := hb.size
      replace hlX0 := Nat.lt_of_lt_of_le hlX0 hzn
      replace hz0 := Nat.le_trans hz0 hzn
      clear hb hzn
      have hb := hbR1
      clear hbR1
      replace X0 := cells_later X0 hlX0 hb
      replace hB := hB.trans (hb.mono hz0)
      have hzn := hb.size
      replace hlX0 := Nat.lt_of_lt_of_le hlX0 hzn
      replace hz0 := Nat.le_trans hz0 hzn
      clear hb hzn
      have hb := hbR2
      clear hbR2
      replace X0 := cells_later X0 hlX0 hb
      replace hB := hB.trans (hb.mono hz0)
      have hzn := hb.size
      replace hlX0 := Nat.lt_of_lt_of_le hlX0 hzn
      replace hz0 := Nat.le_trans hz0 hzn
      clear hb hzn
      have hb := hbR3
      clear hbR3
      replace X0 := cells_later X0 hlX0 hb
      replace hB := hB.trans (hb.mono hz0)
      have hzn := hb.size
      replace hlX0 := Nat.lt_of_lt_of_le hlX0 hzn
      replace hz0 := Nat.le_trans hz0 hzn
      clear hb hzn
      have hb := hbR4
      clear hbR4
      replace X0 := cells_later X0 hlX0 hb
      replace hB := hB.trans (hb.mono hz0)
      have hzn := hb.size
      replace hlX0 := Nat.lt_of_lt_of_le hlX0 hzn
      replace hz0 := Nat.le_trans hz0 hzn
      clear hb hzn
      clear C0_0
      go_wp2_with fail
      go_ret
      exact ⟨retB HE.out.symm, hB⟩
end Go.Proofs.YtlcfophhjflpdaaGreat
