/- Parts of the proof: TermW2. -/
import Derived.Lib.QuietBelow
import Derived.Test.YtlefdhhnlbpbkaaGreatPv3
section
namespace Go.Proofs.YtlefdhhnlbpbkaaGreat
open Go Go.RowKit
set_option linter.unusedVariables false
set_option linter.unusedSimpArgs false
set_option maxRecDepth 100000
set_option maxHeartbeats 16000000
theorem Tm.ext {t u : Tm} (h : t.name = u.name) (h' : t.kids = u.kids) : t = u := by cases t; cases u; simp_all [Tm.name, Tm.kids]
theorem zbi {α : Type} {a b : List α} {k : Nat} (h1 : k < a.length) (h2 : k < b.length) (h : a.take k = b.take k) (he : a[k] = b[k]) : a.take (k + 1) = b.take (k + 1) := by
 rw [zeq h1, zeq h2, h, he]
theorem zaN (n : Nat) : ∀ (t u : Tm) (v x : Value) (w : World), t.size ≤ n → TmR w t v → TmR w u x →
  Calls Tryz.prog 36 #[v, x] w fun e w' => e = .returned (.bool (t.beq u)) ∧ Below w.heap.size w w' := by
 induction n with
 | zero => intro t; have := t.size_pos; omega
 | succ n ih =>
  rintro t u v x w hn ⟨kv, rfl, hs, hk⟩ ⟨kx, rfl, hs', hk'⟩
  obtain ⟨a, cap, rfl, hc1, hc2⟩ := hk.form
  obtain ⟨a', cap', rfl, hc1', hc2'⟩ := hk'.form
  by_cases hc : t.name.toList = u.name.toList ∧ t.kids.length = u.kids.length
  ·obtain ⟨hnm, hl⟩ := hc
   have hlb : ((t.kids.length : Int) != (u.kids.length : Int)) = false := by rw [hl]; simp
   have HL := Lib.hid hl
   have hl1 : t.kids.length ≤ u.kids.length := by omega
   have hl2 : u.kids.length ≤ t.kids.length := by omega
   have HN := Lib.hid (zZ.1 hnm)
   clear hl
   go_enter Tryz.func36, Tryz.ntmps36
   go_wp2
   go_loopw [5] (fun i wr => ∃ k : Nat, k ≤ t.kids.length ∧ i = .int .i64 k ∧ Hid (t.kids.take k = u.kids.take k) ∧ Below (w.heap.size + 1 + 1) ((w.alloc (.cells #[.string t.name, .slice a t.kids.length cap] 29)).alloc (.cells #[.string u.name, .slice a' u.kids.length cap'] 29)) wr) (fun i _ => t.kids.length - (intOf i).toNat)
   case atStart => exact ⟨0, Nat.zero_le _, rfl, rfl, Below.refl _ _⟩
   case round =>
    obtain ⟨k, hkl, rfl, hall, hb⟩ := hrel
    obtain ⟨hx, hy, hz, hbb⟩ := box2 hb
    have x1 : wr.cell? ⟨w.heap.size, 1, none⟩ = some (.slice a t.kids.length cap) := hx 1
    have y1 : wr.cell? ⟨w.heap.size + 1, 1, none⟩ = some (.slice a' u.kids.length cap') := hy 1
    clear hx hy
    by_cases hlt : k < t.kids.length
    ·obtain ⟨b, off, rfl, hbs⟩ := hk.addr (by omega)
     obtain ⟨b', off', rfl, hbs'⟩ := hk'.addr (by omega)
     have hlt' : k < u.kids.length := by omega
     obtain ⟨ka, kc, c0, c1, hss, hkk⟩ := (hk.below hbb).at hlt
     obtain ⟨ka', kc', c0', c1', hss', hkk'⟩ := (hk'.below hbb).at hlt'
     have hkn := Tm.size_kid hlt
     go_wp2
     have q0 := cell_regrown c0
     have q1 := cell_regrown c1
     have q0' := cell_regrown c0'
     have q1' := cell_regrown c1'
     have qx := cell_regrown x1
     have qy := cell_regrown y1
     refine wp_region_quiet_below (by kernel_rfl) (by kernel_rfl) ?_
     repeat (quiet_step (refine Calls.regrown_of (ih t.kids[k] u.kids[k] _ _ _ (by omega) ((TmR.mk hss hkk).below (below_regrown _ _ _)) ((TmR.mk hss' hkk').below (below_regrown _ _ _)))))
     refine wpQuiet_nil ?_
     intro w2 hw2
     obtain ⟨⟨dq, osq⟩, hw2⟩ := hw2
     have hb2 : Below wr.heap.size wr w2 := hw2 ▸ below_regrown wr dq osq
     clear hw2 q0 q1 q0' q1' qx qy
     go_wp2
     ·have he : t.kids[k].beq u.kids[k] = false := by simpa using ‹(!t.kids[k].beq u.kids[k]) = true›
      go_ret
      refine ⟨retB ?_, hbb.trans (hb2.mono (by omega))⟩
      rw [eq_comm, Bool.eq_false_iff]
      intro h
      rw [Tm.beq_iff] at h
      subst h
      rw [(Tm.beq_iff _ _).2 rfl] at he
      simp at he
     ·have he : t.kids[k].beq u.kids[k] = true := by simpa using ‹(!t.kids[k].beq u.kids[k]) = false›
      go_roundw
      case rel => exact ⟨k + 1, by omega, by go_num, zbi hlt hlt' hall.out ((Tm.beq_iff _ _).1 he), hb.trans (hb2.mono (by omega))⟩
      case measure => simp [intOf]; omega
    ·have he : t.kids.take k = t.kids := List.take_of_length_le (by omega)
     have he' : u.kids.take k = u.kids := List.take_of_length_le (by omega)
     rw [he, he'] at hall
     go_wp2
     go_ret
     exact ⟨retB ((Tm.beq_iff _ _).2 (Tm.ext HN.out hall.out)).symm, hbb⟩
  ·have hfin : t.beq u = false := by
    rw [Bool.eq_false_iff]; intro h; rw [Tm.beq_iff] at h; subst h; exact hc ⟨rfl, rfl⟩
   have HF := Lib.hid hfin
   have HC := Lib.hid hc
   clear hfin hc
   by_cases hnm : t.name.toList = u.name.toList
   ·have hlb : ((t.kids.length : Int) != (u.kids.length : Int)) = true := by
     rw [bne_iff_ne]; intro h; exact HC.out ⟨hnm, by omega⟩
    go_enter Tryz.func36, Tryz.ntmps36
    go_wp2
    go_ret
    exact ⟨retB HF.out.symm, ((Below.refl _ _).alloc (Nat.le_refl _) _).alloc (by simp) _⟩
   ·go_enter Tryz.func36, Tryz.ntmps36
    go_wp2
    all_goals (go_ret; exact ⟨retB HF.out.symm, ((Below.refl _ _).alloc (Nat.le_refl _) _).alloc (by simp) _⟩)
theorem zbY {l : List Tm} {t : Tm} {k : Nat} (hk : k < l.length) (h : t ∉ l.take k) (hn : l[k] ≠ t) : t ∉ l.take (k + 1) := by
 rw [zeq hk]; simp only [zer, List.mem_singleton]; rintro (h' | h')
 ·exact h h'
 ·exact hn h'.symm
/-- spec.l4Place -/
theorem zbv (l : List Tm) (t : Tm) (v x : Value) (w : World) (hv : TmsR w l v) (hx : TmR w t x) :
  Calls Tryz.prog 50 #[v, x] w fun e w' => (∃ n, e = .returned (.int .i64 n) ∧ Tm.IsPlace l t n) ∧ Below w.heap.size w w' := by
 obtain ⟨kx, rfl, hs, hk⟩ := hx
 obtain ⟨a, cap, rfl, hc1, hc2⟩ := hk.form
 obtain ⟨a', cap', rfl, hc1', hc2'⟩ := hv.form
 go_enter Tryz.func50, Tryz.ntmps50
 go_wp2
 go_loopw [5] (fun i wr => ∃ k : Nat, k ≤ l.length ∧ i = .int .i64 k ∧ Hid (t ∉ l.take k) ∧ Below (w.heap.size + 1) (w.alloc (.cells #[.string t.name, .slice a t.kids.length cap] 29)) wr) (fun i _ => l.length - (intOf i).toNat)
 case atStart => exact ⟨0, Nat.zero_le _, rfl, (by simp : t ∉ l.take 0), Below.refl _ _⟩
 case round =>
  obtain ⟨k, hkl, rfl, hall, hb⟩ := hrel
  obtain ⟨hx, hz, hbb⟩ := box1 hb
  have x0 : wr.cell? ⟨w.heap.size, 0, none⟩ = some (.string t.name) := hx 0
  have x1 : wr.cell? ⟨w.heap.size, 1, none⟩ = some (.slice a t.kids.length cap) := hx 1
  clear hx
  by_cases hlt : k < l.length
  ·obtain ⟨b, off, rfl, hbs⟩ := hv.addr (by omega)
   obtain ⟨ka, kc, c0, c1, hss, hkk⟩ := (hv.below hbb).at hlt
   have hkw := hk.below hbb
   go_wp2
   have q0 := cell_regrown c0
   have q1 := cell_regrown c1
   have qx := cell_regrown x0
   have qy := cell_regrown x1
   refine wp_region_quiet_below (by kernel_rfl) (by kernel_rfl) ?_
   repeat (quiet_step (refine Calls.regrown_of (zaN _ l[k] t _ _ _ (Nat.le_refl _) ((TmR.mk hss hkk).below (below_regrown _ _ _)) ((TmR.mk hs hkw).below (below_regrown _ _ _)))))
   refine wpQuiet_nil ?_
   intro w2 hw2
   obtain ⟨⟨dq, osq⟩, hw2⟩ := hw2
   have hb2 : Below wr.heap.size wr w2 := hw2 ▸ below_regrown wr dq osq
   clear hw2 q0 q1 qx qy
   go_wp2
   ·have he : l[k].beq t = true := by assumption
    go_ret
    exact ⟨⟨k, rfl, .inr ⟨k, hlt, rfl, by rw [List.getElem?_eq_getElem hlt, (Tm.beq_iff _ _).1 he]⟩⟩, hbb.trans (hb2.mono (by omega))⟩
   ·have he : l[k].beq t = false := by assumption
    go_roundw
    case rel => exact ⟨k + 1, by omega, by go_num, zbY hlt hall.out (Tm.beq_no he), hb.trans (hb2.mono (by omega))⟩
    case measure => simp [intOf]; omega
  ·have he : l.take k = l := List.take_of_length_le (by omega)
   rw [he] at hall
   go_wp2
   go_ret
   exact ⟨⟨-1, rfl, .inl ⟨rfl, hall.out⟩⟩, hbb⟩
/-- slices.EqualFunc at terms, over impl.TermSame. -/
theorem zbQ (n : Nat) (ih : ∀ (t u : Tm) (v x : Value) (w : World), t.size ≤ n → TmR w t v → TmR w u x →
   Calls Tryz.prog 8 #[v, x] w fun e w' => e = .returned (.bool (t.beq u)) ∧ Below w.heap.size w w') :
  ∀ (ts us : List Tm) (v x : Value) (w : World), (∀ t ∈ ts, t.size ≤ n) → TmsR w ts v → TmsR w us x →
  Calls Tryz.prog 29 #[v, x, .func (.func 8) #[] #[]] w fun e w' => e = .returned (.bool (Tm.beqs ts us)) ∧ Below w.heap.size w w' := by
 intro ts us v x w hn hv hx
 obtain ⟨a, cap, rfl, hc1, hc2⟩ := hv.form
 obtain ⟨a', cap', rfl, hc1', hc2'⟩ := hx.form
 have IH := Lib.hid ih
 clear ih
 by_cases hl : ts.length = us.length
 ·have hlb : ((ts.length : Int) != (us.length : Int)) = false := by rw [hl]; simp
  have hl1 : ts.length ≤ us.length := by omega
  have hl2 : us.length ≤ ts.length := by omega
  clear hl
  go_enter Tryz.func29, Tryz.ntmps29
  go_wp2_with fail
  go_loopw [17] (fun i wr => ∃ k : Nat, k ≤ ts.length ∧ i = .int .i64 k ∧ Hid (ts.take k = us.take k) ∧ Below w.heap.size w wr) (fun i _ => ts.length - (intOf i).toNat)
  case atStart => exact ⟨0, Nat.zero_le _, rfl, rfl, Below.refl _ _⟩
  case round =>
   obtain ⟨k, hkl, rfl, hall, hb⟩ := hrel
   have hz := hb.size
   by_cases hlt : k < ts.length
   ·obtain ⟨b, off, rfl, hbs⟩ := hv.addr (by omega)
    obtain ⟨b', off', rfl, hbs'⟩ := hx.addr (by omega)
    have hlt' : k < us.length := by omega
    obtain ⟨ka, kc, c0, c1, hss, hkk⟩ := (hv.below hb).at hlt
    obtain ⟨ka', kc', c0', c1', hss', hkk'⟩ := (hx.below hb).at hlt'
    have hbz : b' < wr.heap.size := by omega
    go_wp2_with fail
    refine (IH.out ts[k] us[k] _ _ _ (hn _ (zes hlt)) (by exact (TmR.mk hss hkk).below (((Below.refl _ _).alloc (Nat.le_refl _) _).alloc (by simp) _)) (by exact (TmR.mk hss' hkk').below (((Below.refl _ _).alloc (Nat.le_refl _) _).alloc (by simp) _))).mono ?_
    rintro e w2 ⟨rfl, hb2⟩
    have hb3 : Below wr.heap.size wr w2 := (((Below.refl _ _).alloc (Nat.le_refl _) _).alloc (by simp) _).trans (hb2.mono (by simp; omega))
    clear hb2
    go_wp2_with fail
    ·have he : ts[k].beq us[k] = false := by simpa using ‹(!ts[k].beq us[k]) = true›
     go_ret
     refine ⟨retB ?_, hb.trans (hb3.mono (by omega))⟩
     rw [eq_comm, Bool.eq_false_iff]
     intro h
     rw [Tm.beqs_iff] at h
     subst h
     exact Tm.beq_no he rfl
    ·have he : ts[k].beq us[k] = true := by simpa using ‹(!ts[k].beq us[k]) = false›
     go_roundw
     case rel => exact ⟨k + 1, by omega, by go_num, zbi hlt hlt' hall.out ((Tm.beq_iff _ _).1 he), hb.trans (hb3.mono (by omega))⟩
     case measure => simp [intOf]; omega
   ·have he : ts.take k = ts := List.take_of_length_le (by omega)
    have he' : us.take k = us := List.take_of_length_le (by omega)
    rw [he, he'] at hall
    go_wp2_with fail
    go_ret
    exact ⟨retB ((Tm.beqs_iff _ _).2 hall.out).symm, hb⟩
 ·have hlb : ((ts.length : Int) != (us.length : Int)) = true := by rw [bne_iff_ne]; omega
  have hfin : Tm.beqs ts us = false := by
   rw [Bool.eq_false_iff]; intro h; rw [Tm.beqs_iff] at h; exact hl (by rw [h])
  have HF := Lib.hid hfin
  clear hl hfin
  go_enter Tryz.func29, Tryz.ntmps29
  go_wp2_with fail
  go_ret
  exact ⟨retB HF.out.symm, Below.refl _ _⟩
theorem zak (n : Nat) : ∀ (t u : Tm) (v x : Value) (w : World), t.size ≤ n → TmR w t v → TmR w u x →
  Calls Tryz.prog 8 #[v, x] w fun e w' => e = .returned (.bool (t.beq u)) ∧ Below w.heap.size w w' := by
 induction n with
 | zero => intro t; have := t.size_pos; omega
 | succ n ih =>
  rintro t u v x w hn ⟨kv, rfl, hs, hk⟩ ⟨kx, rfl, hs', hk'⟩
  obtain ⟨a, cap, rfl, hc1, hc2⟩ := hk.form
  obtain ⟨a', cap', rfl, hc1', hc2'⟩ := hk'.form
  have HB := Lib.hid (show t.beq u = (decide (t.name = u.name) && Tm.beqs t.kids u.kids) from by cases t; cases u; rfl)
  have HK : Hid (∀ x ∈ t.kids, x.size ≤ n) := fun x hx => by have := Tm.size_kid_mem hx; omega
  have IH := Lib.hid ih
  clear ih
  by_cases hnm : t.name.toList = u.name.toList
  ·have HN := Lib.hid (zZ.1 hnm)
   go_enter Tryz.func8, Tryz.ntmps8
   go_wp2_with fail
   refine (zbQ n IH.out t.kids u.kids _ _ _ HK.out (hk.below (((Below.refl _ _).alloc (Nat.le_refl _) _).alloc (by simp) _)) (hk'.below (((Below.refl _ _).alloc (Nat.le_refl _) _).alloc (by simp) _))).mono ?_
   rintro e w2 ⟨rfl, hb2⟩
   go_wp2_with fail
   go_ret
   exact ⟨retB (by rw [HB.out, HN.out]; simp), (((Below.refl _ _).alloc (Nat.le_refl _) _).alloc (by simp) _).trans (hb2.mono (by simp; omega))⟩
  ·have HN := Lib.hid (fun h => hnm (zZ.2 h))
   go_enter Tryz.func8, Tryz.ntmps8
   go_wp2_with fail
   go_ret
   exact ⟨retB (by rw [HB.out, decide_eq_false HN.out]; rfl), ((Below.refl _ _).alloc (Nat.le_refl _) _).alloc (by simp) _⟩
theorem zbR (t u : Tm) (v : Value) (w : World) (b : Nat) (kv : Value) (hx : TmR w u v) (hb : w.cell? ⟨b, 0, none⟩ = some (.string t.name)) (hb1 : w.cell? ⟨b, 1, none⟩ = some kv) (hs : t.name.size ≤ maxLen) (hk : TmsR w t.kids kv) :
  Calls Tryz.prog 116 #[v, .pointer (some ⟨b, 0, none⟩)] w fun e w' => e = .returned (.bool (t.beq u)) ∧ Below w.heap.size w w' := by
 obtain ⟨kx, rfl, hs', hk'⟩ := hx
 obtain ⟨a, cap, rfl, hc1, hc2⟩ := hk'.form
 obtain ⟨a', cap', rfl, hc1', hc2'⟩ := hk.form
 have hbz : b < w.heap.size := World.block_lt_of_cell? w _ hb
 go_enter Tryz.func116, Tryz.ntmps116
 go_wp2_with fail
 refine (zak _ t u _ _ _ (Nat.le_refl _) (by exact (TmR.mk hs hk).below (zb _ _)) (by exact (TmR.mk hs' hk').below (zb _ _))).mono ?_
 rintro e w2 ⟨rfl, hb2⟩
 go_wp2_with fail
 go_ret
 exact ⟨rfl, (zb _ _).trans (hb2.mono (by simp))⟩
theorem zcp (l : List Tm) (t : Tm) (v x : Value) (w : World) (hv : TmsR w l v) (hx : TmR w t x) :
  Calls Tryz.prog 96 #[v, x] w fun e w' => (∃ n, e = .returned (.int .i64 n) ∧ Tm.IsPlace l t n) ∧ Below w.heap.size w w' := by
 obtain ⟨kx, rfl, hs, hk⟩ := hx
 obtain ⟨a, cap, rfl, hc1, hc2⟩ := hk.form
 obtain ⟨a', cap', rfl, hc1', hc2'⟩ := hv.form
 have idx : ∀ (pb : Nat) (w : World), TmsR w l (.slice a' l.length cap') → w.cell? ⟨pb, 0, none⟩ = some (.string t.name) → w.cell? ⟨pb, 1, none⟩ = some (.slice a t.kids.length cap) → TmsR w t.kids (.slice a t.kids.length cap) → 
   Calls Tryz.prog 115 #[.slice a' l.length cap', .func (.func 116) #[] #[.pointer (some ⟨pb, 0, none⟩)]] w fun e w' => (∃ n, e = .returned (.int .i64 n) ∧ Tm.IsPlace l t n) ∧ Below w.heap.size w w' := by
  clear hv hk
  intro pb w hv p0 p1 hk
  have hpz : pb < w.heap.size := World.block_lt_of_cell? w _ p0
  go_enter Tryz.func115, Tryz.ntmps115
  go_wp2_with fail
  go_loopw [5, 8] (fun _ i wr => ∃ k : Nat, k ≤ l.length ∧ i = .int .i64 k ∧ Hid (t ∉ l.take k) ∧ Below w.heap.size w wr) (fun _ i _ => l.length - (intOf i).toNat)
  case atStart => exact ⟨0, Nat.zero_le _, rfl, (by simp : t ∉ l.take 0), Below.refl _ _⟩
  case round =>
   obtain ⟨k, hkl, rfl, hall, hb⟩ := hrel
   have hz := hb.size
   by_cases hlt : k < l.length
   ·obtain ⟨b, off, rfl, hbs⟩ := hv.addr (by omega)
    obtain ⟨ka, kc, c0, c1, hss, hkk⟩ := (hv.below hb).at hlt
    have hbz : b < wr.heap.size := by omega
    have q0 := (hb.cell (p := ⟨pb, 0, none⟩) hpz).trans p0
    have q1 := (hb.cell (p := ⟨pb, 1, none⟩) hpz).trans p1
    go_wp2_with fail
    refine (zbR t l[k] _ _ pb _ (TmR.mk hss hkk) q0 q1 hs (hk.below hb)).mono ?_
    rintro e w2 ⟨rfl, hb2⟩
    go_wp2_with fail
    ·have he : t.beq l[k] = true := by assumption
     go_ret
     exact ⟨⟨k, rfl, .inr ⟨k, hlt, rfl, by rw [List.getElem?_eq_getElem hlt, (Tm.beq_iff _ _).1 he]⟩⟩, hb.trans (hb2.mono (by omega))⟩
    ·have he : t.beq l[k] = false := by assumption
     go_roundw
     case rel => exact ⟨k + 1, by omega, by go_num, zbY hlt hall.out (Tm.beq_no he).symm, hb.trans (hb2.mono (by omega))⟩
     case measure => simp [intOf]; omega
   ·have he : l.take k = l := List.take_of_length_le (by omega)
    rw [he] at hall
    go_wp2_with fail
    go_ret
    exact ⟨⟨-1, rfl, .inl ⟨rfl, hall.out⟩⟩, hb⟩
 have IDX := Lib.hid idx
 clear idx
 go_enter Tryz.func96, Tryz.ntmps96
 go_wp2_with fail
 refine (IDX.out w.heap.size _ (by exact hv.below (zb _ _)) (zv _ _ _ _) (zv _ _ _ _) (by exact hk.below (zb _ _))).mono ?_
 rintro e w2 ⟨⟨n, rfl, hn⟩, hb2⟩
 go_wp2_with fail
 go_ret
 exact ⟨⟨n, rfl, hn⟩, (zb _ _).trans (hb2.mono (by simp))⟩
end Go.Proofs.YtlefdhhnlbpbkaaGreat
end
