/- Parts of the proof: TermW2 ExLib SameLib Sig ExTo Wt SameA SameB SameC. -/
import Derived.Lib.QuietBelow
import Derived.Test.YtlefdhhnlbpbkaaGreatPt3
import Derived.Test.YtlefdhhnlbpbkaaGreatPt5
import Derived.Test.YtlefdhhnlbpbkaaGreatPt4
import Derived.Deep.QuietTactic
import Derived.BigQuiet
import Derived.Deep.Cut
section
namespace Go.Proofs.YtlefdhhnlbpbkaaGreat
open Go Go.RowKit
set_option linter.unusedVariables false
set_option linter.unusedSimpArgs false
set_option maxRecDepth 100000
set_option maxHeartbeats 16000000
theorem Tm.ext {t u : Tm} (h : t.name = u.name) (h' : t.kids = u.kids) : t = u := by cases t; cases u; simp_all [Tm.name, Tm.kids]
theorem zbr {α : Type} {a b : List α} {k : Nat} (h1 : k < a.length) (h2 : k < b.length) (h : a.take k = b.take k) (he : a[k] = b[k]) : a.take (k + 1) = b.take (k + 1) := by
 rw [zeH h1, zeH h2, h, he]
theorem zaP (n : Nat) : ∀ (t u : Tm) (v x : Value) (w : World), t.size ≤ n → TmR w t v → TmR w u x →
  Calls Tryz.prog 36 #[v, x] w fun e w' => e = .returned (.bool (t.beq u)) ∧ Below w.heap.size w w' := by
 induction n with
 | zero => intro t; have := t.size_pos; omega
 | succ n ih =>
  rintro t u v x w hn ⟨kv, rfl, hs, hk⟩ ⟨kx, rfl, hs', hk'⟩
  obtain ⟨a, cap, rfl, hc1, hc2⟩ := hk.form
  obtain ⟨a', cap', rfl, hc1', hc2'⟩ := hk'.form
  by_cases hc : t.name.toList = u.name.toList ∧ t.kids.length = u.kids.length
  ·obtain ⟨hnm, hl⟩ := hc
   have hlb : ((t.kids.length : Int) != (u.kids.length : Int)) = false := by rw [hl]; simp
   have HL := Lib.hid hl
   have hl1 : t.kids.length ≤ u.kids.length := by omega
   have hl2 : u.kids.length ≤ t.kids.length := by omega
   have HN := Lib.hid (zY.1 hnm)
   clear hl
   go_enter Tryz.func36, Tryz.ntmps36
   go_wp2
   go_loopw [5] (fun i wr => ∃ k : Nat, k ≤ t.kids.length ∧ i = .int .i64 k ∧ Hid (t.kids.take k = u.kids.take k) ∧ Below (w.heap.size + 1 + 1) ((w.alloc (.cells #[.string t.name, .slice a t.kids.length cap] 29)).alloc (.cells #[.string u.name, .slice a' u.kids.length cap'] 29)) wr) (fun i _ => t.kids.length - (intOf i).toNat)
   case atStart => exact ⟨0, Nat.zero_le _, rfl, rfl, Below.refl _ _⟩
   case round =>
    obtain ⟨k, hkl, rfl, hall, hb⟩ := hrel
    obtain ⟨hx, hy, hz, hbb⟩ := box2 hb
    have x1 : wr.cell? ⟨w.heap.size, 1, none⟩ = some (.slice a t.kids.length cap) := hx 1
    have y1 : wr.cell? ⟨w.heap.size + 1, 1, none⟩ = some (.slice a' u.kids.length cap') := hy 1
    clear hx hy
    by_cases hlt : k < t.kids.length
    ·obtain ⟨b, off, rfl, hbs⟩ := hk.addr (by omega)
     obtain ⟨b', off', rfl, hbs'⟩ := hk'.addr (by omega)
     have hlt' : k < u.kids.length := by omega
     obtain ⟨ka, kc, c0, c1, hss, hkk⟩ := (hk.below hbb).at hlt
     obtain ⟨ka', kc', c0', c1', hss', hkk'⟩ := (hk'.below hbb).at hlt'
     have hkn := Tm.size_kid hlt
     go_wp2
     have q0 := cell_regrown c0
     have q1 := cell_regrown c1
     have q0' := cell_regrown c0'
     have q1' := cell_regrown c1'
     have qx := cell_regrown x1
     have qy := cell_regrown y1
     refine wp_region_quiet_below (by kernel_rfl) (by kernel_rfl) ?_
     repeat (quiet_step (refine Calls.regrown_of (ih t.kids[k] u.kids[k] _ _ _ (by omega) ((TmR.mk hss hkk).below (below_regrown _ _ _)) ((TmR.mk hss' hkk').below (below_regrown _ _ _)))))
     refine wpQuiet_nil ?_
     intro w2 hw2
     obtain ⟨⟨dq, osq⟩, hw2⟩ := hw2
     have hb2 : Below wr.heap.size wr w2 := hw2 ▸ below_regrown wr dq osq
     clear hw2 q0 q1 q0' q1' qx qy
     go_wp2
     ·have he : t.kids[k].beq u.kids[k] = false := by simpa using ‹(!t.kids[k].beq u.kids[k]) = true›
      go_ret
      refine ⟨retB ?_, hbb.trans (hb2.mono (by omega))⟩
      rw [eq_comm, Bool.eq_false_iff]
      intro h
      rw [Tm.beq_iff] at h
      subst h
      rw [(Tm.beq_iff _ _).2 rfl] at he
      simp at he
     ·have he : t.kids[k].beq u.kids[k] = true := by simpa using ‹(!t.kids[k].beq u.kids[k]) = false›
      go_roundw
      case rel => exact ⟨k + 1, by omega, by go_num, zbr hlt hlt' hall.out ((Tm.beq_iff _ _).1 he), hb.trans (hb2.mono (by omega))⟩
      case measure => simp [intOf]; omega
    ·have he : t.kids.take k = t.kids := List.take_of_length_le (by omega)
     have he' : u.kids.take k = u.kids := List.take_of_length_le (by omega)
     rw [he, he'] at hall
     go_wp2
     go_ret
     exact ⟨retB ((Tm.beq_iff _ _).2 (Tm.ext HN.out hall.out)).symm, hbb⟩
  ·have hfin : t.beq u = false := by
    rw [Bool.eq_false_iff]; intro h; rw [Tm.beq_iff] at h; subst h; exact hc ⟨rfl, rfl⟩
   have HF := Lib.hid hfin
   have HC := Lib.hid hc
   clear hfin hc
   by_cases hnm : t.name.toList = u.name.toList
   ·have hlb : ((t.kids.length : Int) != (u.kids.length : Int)) = true := by
     rw [bne_iff_ne]; intro h; exact HC.out ⟨hnm, by omega⟩
    go_enter Tryz.func36, Tryz.ntmps36
    go_wp2
    go_ret
    exact ⟨retB HF.out.symm, ((Below.refl _ _).alloc (Nat.le_refl _) _).alloc (by simp) _⟩
   ·go_enter Tryz.func36, Tryz.ntmps36
    go_wp2
    all_goals (go_ret; exact ⟨retB HF.out.symm, ((Below.refl _ _).alloc (Nat.le_refl _) _).alloc (by simp) _⟩)
theorem zb3 {l : List Tm} {t : Tm} {k : Nat} (hk : k < l.length) (h : t ∉ l.take k) (hn : l[k] ≠ t) : t ∉ l.take (k + 1) := by
 rw [zeH hk]; simp only [zeI, List.mem_singleton]; rintro (h' | h')
 ·exact h h'
 ·exact hn h'.symm
/-- spec.l4Place -/
theorem zbD (l : List Tm) (t : Tm) (v x : Value) (w : World) (hv : TmsR w l v) (hx : TmR w t x) :
  Calls Tryz.prog 50 #[v, x] w fun e w' => (∃ n, e = .returned (.int .i64 n) ∧ Tm.IsPlace l t n) ∧ Below w.heap.size w w' := by
 obtain ⟨kx, rfl, hs, hk⟩ := hx
 obtain ⟨a, cap, rfl, hc1, hc2⟩ := hk.form
 obtain ⟨a', cap', rfl, hc1', hc2'⟩ := hv.form
 go_enter Tryz.func50, Tryz.ntmps50
 go_wp2
 go_loopw [5] (fun i wr => ∃ k : Nat, k ≤ l.length ∧ i = .int .i64 k ∧ Hid (t ∉ l.take k) ∧ Below (w.heap.size + 1) (w.alloc (.cells #[.string t.name, .slice a t.kids.length cap] 29)) wr) (fun i _ => l.length - (intOf i).toNat)
 case atStart => exact ⟨0, Nat.zero_le _, rfl, (by simp : t ∉ l.take 0), Below.refl _ _⟩
 case round =>
  obtain ⟨k, hkl, rfl, hall, hb⟩ := hrel
  obtain ⟨hx, hz, hbb⟩ := box1 hb
  have x0 : wr.cell? ⟨w.heap.size, 0, none⟩ = some (.string t.name) := hx 0
  have x1 : wr.cell? ⟨w.heap.size, 1, none⟩ = some (.slice a t.kids.length cap) := hx 1
  clear hx
  by_cases hlt : k < l.length
  ·obtain ⟨b, off, rfl, hbs⟩ := hv.addr (by omega)
   obtain ⟨ka, kc, c0, c1, hss, hkk⟩ := (hv.below hbb).at hlt
   have hkw := hk.below hbb
   go_wp2
   have q0 := cell_regrown c0
   have q1 := cell_regrown c1
   have qx := cell_regrown x0
   have qy := cell_regrown x1
   refine wp_region_quiet_below (by kernel_rfl) (by kernel_rfl) ?_
   repeat (quiet_step (refine Calls.regrown_of (zaP _ l[k] t _ _ _ (Nat.le_refl _) ((TmR.mk hss hkk).below (below_regrown _ _ _)) ((TmR.mk hs hkw).below (below_regrown _ _ _)))))
   refine wpQuiet_nil ?_
   intro w2 hw2
   obtain ⟨⟨dq, osq⟩, hw2⟩ := hw2
   have hb2 : Below wr.heap.size wr w2 := hw2 ▸ below_regrown wr dq osq
   clear hw2 q0 q1 qx qy
   go_wp2
   ·have he : l[k].beq t = true := by assumption
    go_ret
    exact ⟨⟨k, rfl, .inr ⟨k, hlt, rfl, by rw [List.getElem?_eq_getElem hlt, (Tm.beq_iff _ _).1 he]⟩⟩, hbb.trans (hb2.mono (by omega))⟩
   ·have he : l[k].beq t = false := by assumption
    go_roundw
    case rel => exact ⟨k + 1, by omega, by go_num, zb3 hlt hall.out (Tm.beq_no he), hb.trans (hb2.mono (by omega))⟩
    case measure => simp [intOf]; omega
  ·have he : l.take k = l := List.take_of_length_le (by omega)
   rw [he] at hall
   go_wp2
   go_ret
   exact ⟨⟨-1, rfl, .inl ⟨rfl, hall.out⟩⟩, hbb⟩
/-- slices.EqualFunc at terms, over impl.TermSame. -/
theorem zbU (n : Nat) (ih : ∀ (t u : Tm) (v x : Value) (w : World), t.size ≤ n → TmR w t v → TmR w u x →
   Calls Tryz.prog 8 #[v, x] w fun e w' => e = .returned (.bool (t.beq u)) ∧ Below w.heap.size w w') :
  ∀ (ts us : List Tm) (v x : Value) (w : World), (∀ t ∈ ts, t.size ≤ n) → TmsR w ts v → TmsR w us x →
  Calls Tryz.prog 29 #[v, x, .func (.func 8) #[] #[]] w fun e w' => e = .returned (.bool (Tm.beqs ts us)) ∧ Below w.heap.size w w' := by
 intro ts us v x w hn hv hx
 obtain ⟨a, cap, rfl, hc1, hc2⟩ := hv.form
 obtain ⟨a', cap', rfl, hc1', hc2'⟩ := hx.form
 have IH := Lib.hid ih
 clear ih
 by_cases hl : ts.length = us.length
 ·have hlb : ((ts.length : Int) != (us.length : Int)) = false := by rw [hl]; simp
  have hl1 : ts.length ≤ us.length := by omega
  have hl2 : us.length ≤ ts.length := by omega
  clear hl
  go_enter Tryz.func29, Tryz.ntmps29
  go_wp2_with fail
  go_loopw [17] (fun i wr => ∃ k : Nat, k ≤ ts.length ∧ i = .int .i64 k ∧ Hid (ts.take k = us.take k) ∧ Below w.heap.size w wr) (fun i _ => ts.length - (intOf i).toNat)
  case atStart => exact ⟨0, Nat.zero_le _, rfl, rfl, Below.refl _ _⟩
  case round =>
   obtain ⟨k, hkl, rfl, hall, hb⟩ := hrel
   have hz := hb.size
   by_cases hlt : k < ts.length
   ·obtain ⟨b, off, rfl, hbs⟩ := hv.addr (by omega)
    obtain ⟨b', off', rfl, hbs'⟩ := hx.addr (by omega)
    have hlt' : k < us.length := by omega
    obtain ⟨ka, kc, c0, c1, hss, hkk⟩ := (hv.below hb).at hlt
    obtain ⟨ka', kc', c0', c1', hss', hkk'⟩ := (hx.below hb).at hlt'
    have hbz : b' < wr.heap.size := by omega
    go_wp2_with fail
    refine (IH.out ts[k] us[k] _ _ _ (hn _ (zeJ hlt)) (by exact (TmR.mk hss hkk).below (((Below.refl _ _).alloc (Nat.le_refl _) _).alloc (by simp) _)) (by exact (TmR.mk hss' hkk').below (((Below.refl _ _).alloc (Nat.le_refl _) _).alloc (by simp) _))).mono ?_
    rintro e w2 ⟨rfl, hb2⟩
    have hb3 : Below wr.heap.size wr w2 := (((Below.refl _ _).alloc (Nat.le_refl _) _).alloc (by simp) _).trans (hb2.mono (by simp; omega))
    clear hb2
    go_wp2_with fail
    ·have he : ts[k].beq us[k] = false := by simpa using ‹(!ts[k].beq us[k]) = true›
     go_ret
     refine ⟨retB ?_, hb.trans (hb3.mono (by omega))⟩
     rw [eq_comm, Bool.eq_false_iff]
     intro h
     rw [Tm.beqs_iff] at h
     subst h
     exact Tm.beq_no he rfl
    ·have he : ts[k].beq us[k] = true := by simpa using ‹(!ts[k].beq us[k]) = false›
     go_roundw
     case rel => exact ⟨k + 1, by omega, by go_num, zbr hlt hlt' hall.out ((Tm.beq_iff _ _).1 he), hb.trans (hb3.mono (by omega))⟩
     case measure => simp [intOf]; omega
   ·have he : ts.take k = ts := List.take_of_length_le (by omega)
    have he' : us.take k = us := List.take_of_length_le (by omega)
    rw [he, he'] at hall
    go_wp2_with fail
    go_ret
    exact ⟨retB ((Tm.beqs_iff _ _).2 hall.out).symm, hb⟩
 ·have hlb : ((ts.length : Int) != (us.length : Int)) = true := by rw [bne_iff_ne]; omega
  have hfin : Tm.beqs ts us = false := by
   rw [Bool.eq_false_iff]; intro h; rw [Tm.beqs_iff] at h; exact hl (by rw [h])
  have HF := Lib.hid hfin
  clear hl hfin
  go_enter Tryz.func29, Tryz.ntmps29
  go_wp2_with fail
  go_ret
  exact ⟨retB HF.out.symm, Below.refl _ _⟩
theorem zao (n : Nat) : ∀ (t u : Tm) (v x : Value) (w : World), t.size ≤ n → TmR w t v → TmR w u x →
  Calls Tryz.prog 8 #[v, x] w fun e w' => e = .returned (.bool (t.beq u)) ∧ Below w.heap.size w w' := by
 induction n with
 | zero => intro t; have := t.size_pos; omega
 | succ n ih =>
  rintro t u v x w hn ⟨kv, rfl, hs, hk⟩ ⟨kx, rfl, hs', hk'⟩
  obtain ⟨a, cap, rfl, hc1, hc2⟩ := hk.form
  obtain ⟨a', cap', rfl, hc1', hc2'⟩ := hk'.form
  have HB := Lib.hid (show t.beq u = (decide (t.name = u.name) && Tm.beqs t.kids u.kids) from by cases t; cases u; rfl)
  have HK : Hid (∀ x ∈ t.kids, x.size ≤ n) := fun x hx => by have := Tm.size_kid_mem hx; omega
  have IH := Lib.hid ih
  clear ih
  by_cases hnm : t.name.toList = u.name.toList
  ·have HN := Lib.hid (zY.1 hnm)
   go_enter Tryz.func8, Tryz.ntmps8
   go_wp2_with fail
   refine (zbU n IH.out t.kids u.kids _ _ _ HK.out (hk.below (((Below.refl _ _).alloc (Nat.le_refl _) _).alloc (by simp) _)) (hk'.below (((Below.refl _ _).alloc (Nat.le_refl _) _).alloc (by simp) _))).mono ?_
   rintro e w2 ⟨rfl, hb2⟩
   go_wp2_with fail
   go_ret
   exact ⟨retB (by rw [HB.out, HN.out]; simp), (((Below.refl _ _).alloc (Nat.le_refl _) _).alloc (by simp) _).trans (hb2.mono (by simp; omega))⟩
  ·have HN := Lib.hid (fun h => hnm (zY.2 h))
   go_enter Tryz.func8, Tryz.ntmps8
   go_wp2_with fail
   go_ret
   exact ⟨retB (by rw [HB.out, decide_eq_false HN.out]; rfl), ((Below.refl _ _).alloc (Nat.le_refl _) _).alloc (by simp) _⟩
theorem zbV (t u : Tm) (v : Value) (w : World) (b : Nat) (kv : Value) (hx : TmR w u v) (hb : w.cell? ⟨b, 0, none⟩ = some (.string t.name)) (hb1 : w.cell? ⟨b, 1, none⟩ = some kv) (hs : t.name.size ≤ maxLen) (hk : TmsR w t.kids kv) :
  Calls Tryz.prog 116 #[v, .pointer (some ⟨b, 0, none⟩)] w fun e w' => e = .returned (.bool (t.beq u)) ∧ Below w.heap.size w w' := by
 obtain ⟨kx, rfl, hs', hk'⟩ := hx
 obtain ⟨a, cap, rfl, hc1, hc2⟩ := hk'.form
 obtain ⟨a', cap', rfl, hc1', hc2'⟩ := hk.form
 have hbz : b < w.heap.size := World.block_lt_of_cell? w _ hb
 go_enter Tryz.func116, Tryz.ntmps116
 go_wp2_with fail
 refine (zao _ t u _ _ _ (Nat.le_refl _) (by exact (TmR.mk hs hk).below (zb _ _)) (by exact (TmR.mk hs' hk').below (zb _ _))).mono ?_
 rintro e w2 ⟨rfl, hb2⟩
 go_wp2_with fail
 go_ret
 exact ⟨rfl, (zb _ _).trans (hb2.mono (by simp))⟩
theorem za2 (l : List Tm) (t : Tm) (v x : Value) (w : World) (hv : TmsR w l v) (hx : TmR w t x) :
  Calls Tryz.prog 96 #[v, x] w fun e w' => (∃ n, e = .returned (.int .i64 n) ∧ Tm.IsPlace l t n) ∧ Below w.heap.size w w' := by
 obtain ⟨kx, rfl, hs, hk⟩ := hx
 obtain ⟨a, cap, rfl, hc1, hc2⟩ := hk.form
 obtain ⟨a', cap', rfl, hc1', hc2'⟩ := hv.form
 have idx : ∀ (pb : Nat) (w : World), TmsR w l (.slice a' l.length cap') → w.cell? ⟨pb, 0, none⟩ = some (.string t.name) → w.cell? ⟨pb, 1, none⟩ = some (.slice a t.kids.length cap) → TmsR w t.kids (.slice a t.kids.length cap) → 
   Calls Tryz.prog 115 #[.slice a' l.length cap', .func (.func 116) #[] #[.pointer (some ⟨pb, 0, none⟩)]] w fun e w' => (∃ n, e = .returned (.int .i64 n) ∧ Tm.IsPlace l t n) ∧ Below w.heap.size w w' := by
  clear hv hk
  intro pb w hv p0 p1 hk
  have hpz : pb < w.heap.size := World.block_lt_of_cell? w _ p0
  go_enter Tryz.func115, Tryz.ntmps115
  go_wp2_with fail
  go_loopw [5, 8] (fun _ i wr => ∃ k : Nat, k ≤ l.length ∧ i = .int .i64 k ∧ Hid (t ∉ l.take k) ∧ Below w.heap.size w wr) (fun _ i _ => l.length - (intOf i).toNat)
  case atStart => exact ⟨0, Nat.zero_le _, rfl, (by simp : t ∉ l.take 0), Below.refl _ _⟩
  case round =>
   obtain ⟨k, hkl, rfl, hall, hb⟩ := hrel
   have hz := hb.size
   by_cases hlt : k < l.length
   ·obtain ⟨b, off, rfl, hbs⟩ := hv.addr (by omega)
    obtain ⟨ka, kc, c0, c1, hss, hkk⟩ := (hv.below hb).at hlt
    have hbz : b < wr.heap.size := by omega
    have q0 := (hb.cell (p := ⟨pb, 0, none⟩) hpz).trans p0
    have q1 := (hb.cell (p := ⟨pb, 1, none⟩) hpz).trans p1
    go_wp2_with fail
    refine (zbV t l[k] _ _ pb _ (TmR.mk hss hkk) q0 q1 hs (hk.below hb)).mono ?_
    rintro e w2 ⟨rfl, hb2⟩
    go_wp2_with fail
    ·have he : t.beq l[k] = true := by assumption
     go_ret
     exact ⟨⟨k, rfl, .inr ⟨k, hlt, rfl, by rw [List.getElem?_eq_getElem hlt, (Tm.beq_iff _ _).1 he]⟩⟩, hb.trans (hb2.mono (by omega))⟩
    ·have he : t.beq l[k] = false := by assumption
     go_roundw
     case rel => exact ⟨k + 1, by omega, by go_num, zb3 hlt hall.out (Tm.beq_no he).symm, hb.trans (hb2.mono (by omega))⟩
     case measure => simp [intOf]; omega
   ·have he : l.take k = l := List.take_of_length_le (by omega)
    rw [he] at hall
    go_wp2_with fail
    go_ret
    exact ⟨⟨-1, rfl, .inl ⟨rfl, hall.out⟩⟩, hb⟩
 have IDX := Lib.hid idx
 clear idx
 go_enter Tryz.func96, Tryz.ntmps96
 go_wp2_with fail
 refine (IDX.out w.heap.size _ (by exact hv.below (zb _ _)) (zt _ _ _ _) (zt _ _ _ _) (by exact hk.below (zb _ _))).mono ?_
 rintro e w2 ⟨⟨n, rfl, hn⟩, hb2⟩
 go_wp2_with fail
 go_ret
 exact ⟨⟨n, rfl, hn⟩, (zb _ _).trans (hb2.mono (by simp))⟩
mutual
def ndC : CD → Nat
 | .sl es => 1 + ndR es
 | _ => 1
def ndR : List (List CD) → Nat
 | [] => 0
 | e :: es => 1 + ndV e + ndR es
def ndV : List CD → Nat
 | [] => 0
 | d :: ds => ndC d + ndV ds
end
theorem ndR_mem : ∀ {es : List (List CD)} {e : List CD}, e ∈ es → ndV e < ndR es
 | [], e, h => by simp at h
 | d :: ds, e, h => by
  simp only [ndR]
  rcases zeM.1 h with rfl | h
  ·omega
  ·have := ndR_mem h; omega
theorem ndV_sl {es : List (List CD)} {ds : List CD} (h : CD.sl es ∈ ds) : ndR es < ndV ds := by
 induction ds with
 | nil => simp at h
 | cons d ds ih =>
  simp only [ndV]
  rcases zeM.1 h with rfl | h
  ·simp only [ndC]; omega
  ·have := ih h; omega
theorem zdn {w1 w2 : World} {b : Nat} {cs : Array Value} (h : ∀ j, w1.cell? ⟨b, j, none⟩ = cs[j]?) (hl : b < w1.heap.size) (hb : Below w1.heap.size w1 w2) : ∀ j, w2.cell? ⟨b, j, none⟩ = cs[j]? :=
 fun j => (hb.cell (p := ⟨b, j, none⟩) hl).trans (h j)
theorem Wy.kid_nd {x k : Wy} (h : k ∈ x.kids) : ndV k.cd < ndV x.cd := by
 have h1 := ndR_mem (List.mem_map_of_mem (f := Wy.cd) h)
 have h2 : ndR (x.kids.map Wy.cd) < ndV x.cd := ndV_sl (by rw [Wy.cd_eq]; simp)
 omega
mutual
def eqC : CD → CD → Bool
 | .int a, .int b => decide (a = b)
 | .str a, .str b => decide (a = b)
 | .bool a, .bool b => decide (a = b)
 | .sl a, .sl b => eqR a b
 | _, _ => false
def eqR : List (List CD) → List (List CD) → Bool
 | [], [] => true
 | a :: l, b :: l2 => eqV a b && eqR l l2
 | _, _ => false
def eqV : List CD → List CD → Bool
 | [], [] => true
 | a :: l, b :: l2 => eqC a b && eqV l l2
 | _, _ => false
end
mutual
theorem eqC_iff : ∀ (a b : CD), eqC a b = true ↔ a = b
 | .int a, b => by cases b <;> simp [eqC]
 | .str a, b => by cases b <;> simp [eqC]
 | .bool a, b => by cases b <;> simp [eqC]
 | .sl a, b => by cases b <;> simp [eqC, zdo a]
theorem zdo : ∀ (a b : List (List CD)), eqR a b = true ↔ a = b
 | [], b => by cases b <;> simp [eqR]
 | a :: l, b => by cases b <;> simp [eqR, zcv a, zdo l]
theorem zcv : ∀ (a b : List CD), eqV a b = true ↔ a = b
 | [], b => by cases b <;> simp [eqV]
 | a :: l, b => by cases b <;> simp [eqV, eqC_iff a, zcv l]
end
/-- All up to a place alike. -/
def Alike {α : Type} (cd : α → List CD) (xs ys : List α) (k : Nat) : Prop := (xs.take k).map cd = (ys.take k).map cd
theorem Alike.zero {α : Type} {cd : α → List CD} {xs ys : List α} : Alike cd xs ys 0 := by simp [Alike]
theorem Alike.succ {α : Type} {cd : α → List CD} {xs ys : List α} {k : Nat} (h : Alike cd xs ys k) (h1 : k < xs.length) (h2 : k < ys.length) (he : eqV (cd xs[k]) (cd ys[k]) = true) : Alike cd xs ys (k + 1) := by
 unfold Alike at *
 rw [zeH h1, zeH h2, zeL, zeL, h, List.map_singleton, List.map_singleton, (zcv _ _).1 he]
theorem Alike.all {α : Type} {cd : α → List CD} {xs ys : List α} {k : Nat} (h : Alike cd xs ys k) (h1 : xs.length ≤ k) (h2 : ys.length ≤ k) : eqR (xs.map cd) (ys.map cd) = true := by
 unfold Alike at h
 rw [List.take_of_length_le h1, List.take_of_length_le h2] at h
 exact (zdo _ _).2 h
theorem za {w1 w2 : World} {b j : Nat} {v : Value} (h : w1.cell? ⟨b, j, none⟩ = some v) (hb : Below w1.heap.size w1 w2) : w2.cell? ⟨b, j, none⟩ = some v := (hb.cell (p := ⟨b, j, none⟩) (World.block_lt_of_cell? w1 _ h)).trans h
theorem zaQ {w : World} {α : Type} {cd : α → List CD} {xs : List α} {v : Value} {f : List Nat} (h : Rd w (.sl (xs.map cd)) v f) : xs.length ≤ 9223372036854775807 := by obtain ⟨a, c, _, h1, h2⟩ := zc h; omega
theorem Tm.cd_mk (n : ByteArray) (ks : List Tm) : (Tm.mk n ks).cd = [.str n, .sl (ks.map Tm.cd)] := by rw [Tm.cd_eq]; rfl
mutual
theorem Tm.beq_cd : ∀ t u : Tm, t.beq u = eqV t.cd u.cd
 | .mk n ks, .mk m js => by
  rw [Tm.cd_mk, Tm.cd_mk]
  simp only [Tm.beq, eqV, eqC, Bool.and_true]
  rw [Tm.beqs_cd ks js]
theorem Tm.beqs_cd : ∀ ts us : List Tm, Tm.beqs ts us = eqR (ts.map Tm.cd) (us.map Tm.cd)
 | [], [] => by simp [Tm.beqs, eqR]
 | [], _ :: _ => by simp [Tm.beqs, eqR]
 | _ :: _, [] => by simp [Tm.beqs, eqR]
 | t :: ts, u :: us => by
  simp only [Tm.beqs, List.map_cons, eqR]
  rw [Tm.beq_cd t u, Tm.beqs_cd ts us]
end
def srtB (n : Int) : Bool := n == 0 || n == 1
def Sy.okB (x : Sy) : Bool := zai x.name && (decide (x.args.length ≤ 2) && (srtB x.sort && x.args.all srtB))
def nmLt (a b : ByteArray) : Bool := Op.bytesLess a.toList b.toList
def Sg.okAt (s : Sg) (k : Nat) : Bool :=
 match s.syms[k]? with
 | none => true
 | some x => x.okB && (match k with | 0 => true | j + 1 => (match s.syms[j]? with | none => true | some y => nmLt y.name x.name))
def Sg.okB (s : Sg) : Bool := (List.range s.syms.length).all s.okAt && decide (s.syms.length ≤ 7)
theorem Sg.okB_no {s : Sg} {k : Nat} (hk : k < s.syms.length) (h : s.okAt k = false) : s.okB = false := by
 have : (List.range s.syms.length).all s.okAt = false := by rw [List.all_eq_false]; exact ⟨k, by simpa using hk, by simp [h]⟩
 simp [Sg.okB, this]
theorem Sg.okB_all {s : Sg} {k : Nat} (hk : s.syms.length ≤ k) (h : ∀ j, j < k → s.okAt j = true) : s.okB = decide (s.syms.length ≤ 7) := by
 have : (List.range s.syms.length).all s.okAt = true := by rw [List.all_eq_true]; intro j hj; exact h j (by have := List.mem_range.1 hj; omega)
 simp [Sg.okB, this]
theorem Sg.okAt_bad {s : Sg} {k : Nat} (hk : k < s.syms.length) (h : s.syms[k].okB = false) : s.okAt k = false := by simp [Sg.okAt, List.getElem?_eq_getElem hk, h]
theorem Sg.okAt_zero {s : Sg} (hk : 0 < s.syms.length) (h : s.syms[0].okB = true) : s.okAt 0 = true := by simp [Sg.okAt, List.getElem?_eq_getElem hk, h]
theorem Sg.okAt_succ {s : Sg} {k : Nat} (hk : k + 1 < s.syms.length) (h : s.syms[k + 1].okB = true) : s.okAt (k + 1) = nmLt s.syms[k].name s.syms[k + 1].name := by
 simp [Sg.okAt, List.getElem?_eq_getElem hk, List.getElem?_eq_getElem (show k < s.syms.length by omega), h]
theorem zb5 (n : Int) (w : World) : Calls Tryz.prog 97 #[.int .i64 n] w fun e w' => e = .returned (.bool (srtB n)) ∧ w = w' := by
 cases h0 : (n == 0) <;> cases h1 : (n == 1)
 all_goals
  have HF : Hid (srtB n = ((n == 0) || (n == 1))) := Lib.hid rfl
  go_enter Tryz.func97, Tryz.ntmps97
  go_wp2
  go_ret
  exact ⟨retB (by rw [HF.out, h0, h1]; rfl), rfl⟩
theorem zX (n : Int) (w : World) : Calls Tryz.prog 68 #[.int .i64 n] w fun e w' => e = .returned (.bool (srtB n)) ∧ w = w' := by
 cases h0 : (n == 0) <;> cases h1 : (n == 1)
 all_goals
  have HF : Hid (srtB n = ((n == 0) || (n == 1))) := Lib.hid rfl
  go_enter Tryz.func68, Tryz.ntmps68
  go_wp2
  go_ret
  exact ⟨retB (by rw [HF.out, h0, h1]; rfl), rfl⟩
theorem zdp (n : Int) (w : World) : Calls Tryz.prog 99 #[.int .i64 n] w fun e w' => e = .returned (.bool (!srtB n)) ∧ w = w' := by
 go_enter Tryz.func99, Tryz.ntmps99
 go_wp2_with (go_at_call 97; refine (zb5 _ _).mono ?_; rintro e w' ⟨rfl, rfl⟩)
 go_ret
 exact ⟨rfl, rfl⟩
def IdxOut (ok : Bool) (n : Nat) (w : World) (e : Ending) (w' : World) : Prop := ∃ i : Int, e = .returned (.int .i64 i) ∧ ((ok = true ∧ i = -1) ∨ (ok = false ∧ 0 ≤ i ∧ i < n)) ∧ w = w'
theorem zaV {p : Int → Bool} {xs : List Int} {k : Nat} (hk : k < xs.length) (h : (xs.take k).all p = true) (h' : p xs[k] = true) : (xs.take (k + 1)).all p = true := by
 rw [zeH hk, List.all_append, h]; simp [h']
theorem zbE {p : Int → Bool} {xs : List Int} {k : Nat} (hk : k < xs.length) (h' : p xs[k] = false) : xs.all p = false := by
 rw [List.all_eq_false]; exact ⟨xs[k], zeJ hk, by simp [h']⟩
theorem zbW (xs : List Int) (v : Value) (f : List Nat) (w : World) (hv : Rd w (.sl (xs.map zv)) v f) :
  Calls Tryz.prog 117 #[v, .func (.func 99) #[] #[]] w (IdxOut (xs.all srtB) xs.length w) := by
 obtain ⟨a, c, rfl, hc1, hc2⟩ := zc hv
 go_enter Tryz.func117, Tryz.ntmps117
 go_wp2_with fail
 go_loop [8] (fun i => ∃ k : Nat, k ≤ xs.length ∧ i = .int .i64 k ∧ Hid ((xs.take k).all srtB = true)) (fun i => xs.length - (intOf i).toNat)
 case atStart => exact ⟨0, Nat.zero_le _, rfl, Lib.hid (by simp)⟩
 case round =>
  obtain ⟨k, hkl, rfl, hall⟩ := hrel
  by_cases hlt : k < xs.length
  ·obtain ⟨b, off, rfl, hbs, _⟩ := zo hv (by omega)
   obtain ⟨d0, _⟩ := zaa hv hlt
   go_wp2_with fail
   refine (zdp _ _).mono ?_
   rintro e w2 ⟨rfl, rfl⟩
   cases he : srtB xs[k]
   ·have HE := Lib.hid (zbE hlt he)
    have he' : (!srtB xs[k]) = true := by rw [he]; rfl
    go_wp2_with fail
    go_ret
    exact ⟨k, rfl, .inr ⟨HE.out, by omega, by omega⟩, rfl⟩
   ·have HE := Lib.hid (zaV hlt hall.out he)
    have he' : (!srtB xs[k]) = false := by rw [he]; rfl
    go_wp2_with fail
    go_round
    case rel => exact ⟨k + 1, by omega, by go_num, HE⟩
    case measure => simp [intOf]; omega
  ·have HE : Hid (xs.all srtB = true) := Lib.hid (by have := hall.out; rwa [List.take_of_length_le (by omega)] at this)
   go_wp2_with fail
   go_ret
   exact ⟨-1, rfl, .inl ⟨HE.out, rfl⟩, rfl⟩
theorem zbX (xs : List Int) (v : Value) (f : List Nat) (w : World) (hv : Rd w (.sl (xs.map zv)) v f) :
  Calls Tryz.prog 98 #[v, .func (.func 99) #[] #[]] w fun e w' => e = .returned (.bool (!xs.all srtB)) ∧ w = w' := by
 obtain ⟨a, c, rfl, hc1, hc2⟩ := zc hv
 go_enter Tryz.func98, Tryz.ntmps98
 go_wp2_with fail
 refine (zbW xs _ f _ hv).mono ?_
 rintro e w' ⟨i, rfl, ⟨hi, rfl⟩ | ⟨hi, h0, h1⟩, rfl⟩
 ·have HI := Lib.hid hi
  clear hi
  go_wp2_with fail
  go_ret
  exact ⟨retB (by rw [HI.out]; rfl), rfl⟩
 ·have HI := Lib.hid hi
  clear hi
  go_wp2_with fail
  go_ret
  exact ⟨retB (by rw [HI.out]; simp; try omega), rfl⟩
theorem za3 (x : Sy) (vs : List Value) (f : List Nat) (w : World) (hv : RdVs w x.cd vs f) :
  Calls Tryz.prog 64 #[.agg vs.toArray] w fun e w' => e = .returned (.bool x.okB) ∧ Below w.heap.size w w' := by
 obtain ⟨a1, c1, f1, rfl, _, m0, m1, m2⟩ := Sy.open hv
 have HB : Hid (x.okB = (zai x.name && (decide (x.args.length ≤ 2) && (srtB x.sort && x.args.all srtB)))) := Lib.hid rfl
 have hl := zaQ m1
 go_enter Tryz.func64, Tryz.ntmps64
 go_wp2_with fail
 refine (zaL _ _ m0).mono ?_
 rintro e w' ⟨rfl, rfl⟩
 cases h1 : zai x.name
 ·go_wp2_with fail
  go_ret
  exact ⟨retB (by rw [HB.out, h1]; rfl), zb _ _⟩
 have H1 := Lib.hid h1
 clear h1
 by_cases h2 : x.args.length ≤ 2
 rotate_left
 ·go_wp2_with fail
  go_ret
  exact ⟨retB (by rw [HB.out, H1.out, decide_eq_false h2]; rfl), zb _ _⟩
 go_wp2_with fail
 refine (zb5 _ _).mono ?_
 rintro e w' ⟨rfl, rfl⟩
 cases h3 : srtB x.sort
 ·go_wp2_with fail
  go_ret
  exact ⟨retB (by rw [HB.out, H1.out, decide_eq_true h2, h3]; rfl), zb _ _⟩
 have H3 := Lib.hid h3
 clear h3
 go_wp2_with fail
 refine (zbX x.args _ _ _ (by exact m1.below (zb _ _))).mono ?_
 rintro e w' ⟨rfl, rfl⟩
 go_wp2_with fail
 go_ret
 exact ⟨retB (by rw [HB.out, H1.out, decide_eq_true h2, H3.out]; simp), zb _ _⟩
end Go.Proofs.YtlefdhhnlbpbkaaGreat
end
namespace Go.Proofs.YtlefdhhnlbpbkaaGreat
open Go Go.RowKit
set_option linter.unusedVariables false
set_option linter.unusedSimpArgs false
set_option maxHeartbeats 800000
theorem nofp_int {n : Int} : NoFp [.int n] := fun w vs f h => by obtain ⟨v, rfl, h'⟩ := RdVs.one_inv h; exact (zw h').2.2
theorem cells_set {w : World} {b : Nat} {cs : Array Value} (h : ∀ j, w.cell? ⟨b, j, none⟩ = cs[j]?) (i : Nat) (v : Value) (hi : i < cs.size := by simp) : ∀ j, (w.setCell ⟨b, i, none⟩ v).cell? ⟨b, j, none⟩ = (cs.setIfInBounds i v)[j]? := by
 intro j
 by_cases hij : i = j
 ·subst hij
  rw [World.cell?_setCell_same w _ v ((h i).trans (Array.getElem?_eq_getElem hi)), Array.getElem?_setIfInBounds]
  simp [hi]
 ·rw [World.cell?_setCell_other w _ _ v (by simp [hij]), h j, Array.getElem?_setIfInBounds]
  simp [hij]
/-- From w to w' of what was there the blocks from lo to hi alone have turned. -/
structure Loc (lo hi : Nat) (w w' : World) : Prop where
 os : w'.os = w.os
 tape : w'.tape = w.tape
 output : w'.output = w.output
 size : w.heap.size ≤ w'.heap.size
 block : ∀ k, k < w.heap.size → (k < lo ∨ hi ≤ k) → w'.heap[k]? = w.heap[k]?
theorem Loc.refl (lo hi : Nat) (w : World) : Loc lo hi w w := ⟨rfl, rfl, rfl, Nat.le_refl _, fun _ _ _ => rfl⟩
theorem Loc.set {lo hi : Nat} {w w' : World} (h : Loc lo hi w w') {b i : Nat} {v : Value} (h1 : lo ≤ b) (h2 : b < hi) : Loc lo hi w (w'.setCell ⟨b, i, none⟩ v) :=
 ⟨h.os, h.tape, h.output, by simpa [World.setCell] using h.size, fun k hk hn => (Below.heap_setCell _ _ _ _ (by simp only; omega)).trans (h.block k hk hn)⟩
theorem Loc.below {lo hi : Nat} {w w1 w2 : World} (h : Loc lo hi w w1) (hb : Below w1.heap.size w1 w2) : Loc lo hi w w2 :=
 ⟨hb.os.trans h.os, hb.tape.trans h.tape, hb.output.trans h.output, Nat.le_trans h.size hb.size, fun k hk hn => (hb.block k (zeG hk h.size)).trans (h.block k hk hn)⟩
theorem Loc.toBelow {lo hi : Nat} {w w1 : World} (h : Loc lo hi w w1) {B : Nat} (hB : B ≤ w.heap.size) (hl : B ≤ lo) : Below B w w1 :=
 ⟨h.os, h.tape, h.output, h.size, fun k hk => h.block k (by omega) (.inl (by omega))⟩
theorem Loc.same {lo hi : Nat} {w w1 w0 : World} (h : Loc lo hi w w1) {f : List Nat} (hf : Fresh hi w f) : SameOn f w w1 := fun b hb => h.block b (hf.lt b hb) (.inr (hf.2 b hb).1)
def zB (b : Nat) : List (Nat × Value) → World → World
 | [], w => w
 | u :: r, w => zB b r (w.setCell ⟨b, u.1, none⟩ u.2)
def zb7 : List (Nat × Value) → List Value → List Value
 | [], l => l
 | u :: r, l => zb7 r (l.set u.1 u.2)
theorem zav {b : Nat} : ∀ (ups : List (Nat × Value)) {w : World} {l : List Value}, (∀ j, w.cell? ⟨b, j, none⟩ = (l.toArray)[j]?) → (∀ u ∈ ups, u.1 < l.length) → ∀ j, (zB b ups w).cell? ⟨b, j, none⟩ = ((zb7 ups l).toArray)[j]?
 | [], _, _, h, _ => h
 | u :: r, w, l, h, hu => by
  have h1 := cells_set h u.1 u.2 (by simpa using hu u (List.mem_cons_self ..))
  rw [zeA] at h1
  exact zav r h1 (fun x hx => by rw [List.length_set]; exact hu x (List.mem_cons_of_mem _ hx))
theorem Loc.sets {lo hi b : Nat} {w : World} (h1 : lo ≤ b) (h2 : b < hi) : ∀ (ups : List (Nat × Value)) {w' : World}, Loc lo hi w w' → Loc lo hi w (zB b ups w')
 | [], _, h => h
 | u :: r, w', h => Loc.sets h1 h2 r (h.set h1 h2)
theorem zap : SlTy Tryz.prog 40 3 (.int .i64 0) 1 8 := ⟨Tryz.underlying40, by kernel_rfl, rfl, by omega⟩
theorem slTySymS : SlTy Tryz.prog 23 102 (.agg #[.string ByteArray.empty, .slice none 0 0, .int .i64 0]) 3 48 := ⟨Tryz.underlying23, by kernel_rfl, rfl, by omega⟩
theorem zI : SlTy Tryz.prog 26 36 (.agg #[.string ByteArray.empty, .slice none 0 0, .string ByteArray.empty, .slice none 0 0]) 4 80 := ⟨Tryz.underlying26, by kernel_rfl, rfl, by omega⟩
theorem zbF : SlTy Tryz.prog 42 113 (.agg #[.int .i64 0, .int .i64 0, .int .i64 0]) 3 24 := ⟨Tryz.underlying42, by kernel_rfl, rfl, by omega⟩
theorem zbu : SlTy Tryz.prog 30 32 (.agg #[.int .i64 0, .int .i64 0, .string ByteArray.empty, .slice none 0 0, .slice none 0 0]) 5 80 := ⟨Tryz.underlying30, by kernel_rfl, rfl, by omega⟩
end Go.Proofs.YtlefdhhnlbpbkaaGreat
section
namespace Go.Proofs.YtlefdhhnlbpbkaaGreat
open Go Go.RowKit
set_option linter.unusedVariables false
set_option linter.unusedSimpArgs false
set_option maxRecDepth 100000
set_option maxHeartbeats 16000000
theorem sameTm_x (x y : Tm) (vs us : List Value) (f f' : List Nat) (w : World) (hv : RdVs w x.cd vs f) (hx : RdVs w y.cd us f') :
  Calls Tryz.prog 8 #[.agg vs.toArray, .agg us.toArray] w fun e w' => e = .returned (.bool (eqV x.cd y.cd)) ∧ Below w.heap.size w w' := by
 obtain ⟨a1, c1, f1, rfl, _, m0, m1⟩ := Tm.open hv
 obtain ⟨a1', c1', f1', rfl, _, m0', m1'⟩ := Tm.open hx
 rw [← Tm.beq_cd]
 exact zao _ x y _ _ w (Nat.le_refl _) (TmR.mk m0 ⟨_, m1⟩) (TmR.mk m0' ⟨_, m1'⟩)
end Go.Proofs.YtlefdhhnlbpbkaaGreat
end
