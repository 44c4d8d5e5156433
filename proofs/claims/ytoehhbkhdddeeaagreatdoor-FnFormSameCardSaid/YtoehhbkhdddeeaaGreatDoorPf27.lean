/- Parts of the proof: LitT. -/
import Derived.Deep.RegionHeld3
import Derived.Test.YtoehhbkhdddeeaaGreatDoorPf26
import Derived.Test.YtoehhbkhdddeeaaGreatDoorPf8
section
namespace Go.Proofs.YtoehhbkhdddeeaaGreatDoor
open Go Go.RowKit
set_option linter.unusedVariables false
set_option linter.unusedSimpArgs false
set_option maxRecDepth 100000
set_option maxHeartbeats 16000000
theorem zdv (ts : List Tm) (v : Value) (w : World) (hbig : Tm.sizes ts ≤ 1000000000) (hv : TmsR w ts v) : Calls Tryz.prog 58 #[v] w (ToOut (.sl (ts.map Tm.cd)) w) :=
 zbc (Tm.sizes ts) (fun t v w h1 h2 h3 => zaM _ t v w h1 h2 h3) ts v w (fun t ht => Tm.size_mem ht) hbig hv
theorem rd_row {w : World} {b n c k : Nat} {es : List (List CD)} {vs : List Value} {f : List Nat} (hc : ∀ j u, vs[j]? = some u → w.cell? ⟨b, j, none⟩ = some u) (h : RdVs w es.flatten vs f) (hne : es ≠ []) (hn : n = es.length) (hcap : es.length ≤ c) (hm : c ≤ 9223372036854775807) (hk : ∀ e ∈ es, e.length = k) (hb : b < w.heap.size) :
  Rd w (.sl es) (.slice (some ⟨b, 0, none⟩) n c) (b :: f) := by
 simp only [Rd]
 exact ⟨_, c, by rw [hn], hcap, by simpa [maxLen] using hm, .inr ⟨hne, b, 0, f, rfl, hb, rfl, RdRows.mk (k := k) (fun j u hu => by rw [Nat.zero_add]; exact hc j u hu) h⟩⟩
theorem Atm.small_of {x : Atm} (h : wtV x.cd ≤ 1048576) : x.small := by
 have h1 := Tm.size_wtV x.a
 have h2 := Tm.size_wtV x.b
 have h3 := Tm.sizes_wtR x.nums
 simp only [Atm.cd, zR, zbW, zbj, zcW] at h
 unfold Atm.small; omega
theorem Lt.small_of {x : Lt} (h : wtV x.cd ≤ 1048576) : x.atom.small := Atm.small_of (by rw [Lt.cd, zR] at h; omega)
theorem Lt.times_ok {x : Lt} (h : wtV x.cd ≤ 1048576) : x.atom.times.length ≤ 1048576 := by
 rw [Lt.cd, zR] at h
 simp only [Atm.cd, zR, zbW, zbj, zcW, zdX] at h
 omega
theorem Atm.tms_eq {x : Atm} (h : x.kind = 1) : x.tms = [x.a, x.b] := if_pos h
theorem Atm.tms_sum {x : Atm} (h : ¬ x.kind = 1) : x.tms = x.nums := if_neg h
theorem zde (w : World) {α : Type} (cd : α → List CD) : Rd w (.sl (([] : List α).map cd)) (.slice none 0 0) [] := by
 simp only [List.map_nil, Rd]; exact ⟨none, 0, rfl, by simp, by simp [maxLen], by simp⟩
theorem rd_none (w : World) {α : Type} {cd : α → List CD} (b : Nat) {o : Nat} (hb : b < w.heap.size ∨ True) : Rd w (.sl (([] : List α).map cd)) (.slice (some ⟨b, o, none⟩) 0 0) [] := by
 simp only [List.map_nil, Rd]; exact ⟨some ⟨b, o, none⟩, 0, rfl, by simp, by simp [maxLen], by simp⟩
theorem zdw {lo b : Nat} {w : World} {cs : Array Value} {T : Nat} {f : List Nat} (hz : w.heap.size ≤ (w.alloc (.cells cs T)).heap.size) (h : Fresh lo (w.alloc (.cells cs T)) f) (hl : ∀ b ∈ f, b < w.heap.size) (hlo : lo ≤ w.heap.size) (hb : b = w.heap.size) : Fresh lo (w.alloc (.cells cs T)) (b :: f) := by
 subst hb
 refine ⟨List.nodup_cons.2 ⟨fun hm => by have := hl _ hm; omega, h.1⟩, ?_⟩
 intro b hb
 rcases zdW.1 hb with rfl | hb
 ·exact ⟨hlo, cs, T, by show (w.heap.push _)[w.heap.size]? = _; simp⟩
 ·exact h.2 b hb
theorem Lt.tms_no {x : Lt} (h : x.atom.okB = false) : x.tms = [] := by unfold Lt.tms; rw [h]; rfl
theorem Lt.tms_yes {x : Lt} (h : x.atom.okB = true) : x.tms = x.atom.tms := if_pos h
theorem zbZ (x : Lt) (vs : List Value) (f : List Nat) (w : World) (hbig : x.atom.small) (hv : RdVs w x.cd vs f) :
  Calls Tryz.prog 79 #[.agg vs.toArray] w (ToOut (.sl (x.tms.map Tm.cd)) w) := by
 obtain ⟨a2, c2, f2, a4, c4, f4, a5, c5, f5, a6, c6, f6, rfl, _, m0, m1, m2, m3, m4, m5, m6, m7⟩ := Lt.open hv
 have hbig2 := hbig
 unfold Atm.small at hbig2
 have hat := Atm.close m0 m1 m2 m3 m4 m5 m6 m7
 go_enter Tryz.func79, Tryz.ntmps79
 go_wp2_with fail
 refine (zbv x.atom _ _ _ hbig (by exact hat.below (za _ _))).mono ?_
 rintro e w1 ⟨rfl, hb⟩
 obtain ⟨hx, hz, hB⟩ := box1 (w := w) (wr := w1) (cs := #[.int .i64 x.atom.kind, .string x.atom.a.name, .slice a2 x.atom.a.kids.length c2, .string x.atom.b.name, .slice a4 x.atom.b.kids.length c4, .slice a5 x.atom.nums.length c5, .slice a6 x.atom.times.length c6, .int .i64 x.atom.bound, .bool x.atom.strict, .bool x.no]) (T := 30) (zs hb (by simp))
 clear hb
 have C0 := hx 0
 have C1 := hx 1
 have C2 := hx 2
 have C3 := hx 3
 have C4 := hx 4
 simp only [zdP, zdN, zdO] at C0 C1 C2 C3 C4
 cases hk : x.atom.okB
 ·have HT := Lib.hid (Lt.tms_no hk)
  clear hk
  go_wp2_with fail
  go_ret
  exact ⟨_, [], rfl, by rw [HT.out]; exact rd_none _ _ (by simp), Fresh.nil _ _, hB.alloc hB.size _⟩
 have HT := Lib.hid (Lt.tms_yes hk)
 clear hk
 by_cases k1 : x.atom.kind = 1
 ·have tk : (x.atom.kind == 1) = true := by simp [k1]
  have HT2 := Lib.hid (Atm.tms_eq k1)
  clear k1
  have ta := (TmR.mk m1 ⟨f2, m2⟩).below hB
  have tb := (TmR.mk m3 ⟨f4, m4⟩).below hB
  go_wp2_with fail
  go_region_held3 (fun W => W.cell? ⟨w.heap.size, 1, none⟩ = some (.string x.atom.a.name) ∧ W.cell? ⟨w.heap.size, 2, none⟩ = some (.slice a2 x.atom.a.kids.length c2) ∧ W.cell? ⟨w.heap.size, 3, none⟩ = some (.string x.atom.b.name) ∧ W.cell? ⟨w.heap.size, 4, none⟩ = some (.slice a4 x.atom.b.kids.length c4))
   (first | exact ⟨C1, C2, C3, C4⟩ | exact ⟨zb C1 (zu hb2), zb C2 (zu hb2), zb C3 (zu hb2), zb C4 (zu hb2)⟩ | (refine ⟨?_, ?_, ?_, ?_⟩ <;> (refine zb (zb ?_ (zu hb2)) hb3; assumption)) | (refine ⟨?_, ?_, ?_, ?_⟩ <;> (refine zb (zb ?_ (zu hb2)) (hb3.alloc hb3.size _); assumption)))
   (first
    | (go_at_call 50; (with_reducible refine (zad _ x.atom.a _ _ (Nat.le_refl _) (by omega) (by exact ta.below (zd _))).mono ?_); rintro e w2 ⟨ka, fa, rfl, hra, hfa, hb2⟩)
    | (go_at_call 50; (with_reducible refine (zad _ x.atom.b _ _ (Nat.le_refl _) (by omega) (by exact tb.below (zu hb2))).mono ?_); rintro e w3 ⟨kb, fb, rfl, hrb, hfb, hb3⟩))
  have hb2' := zu hb2
  have hB2 := hB.trans (hb2'.mono hB.size)
  have hB3 := hB2.trans (hb3.mono hB2.size)
  have hz1 := hB.size
  have hz2 := hb2'.size
  have hz3 := hb3.size
  go_wp2_with fail
  go_ret
  have hB4 := hB3.alloc hB3.size (.cells #[.string x.atom.a.name, ka, .string x.atom.b.name, kb] 25)
  have hal := za w3 (.cells #[.string x.atom.a.name, ka, .string x.atom.b.name, kb] 25)
  obtain ⟨aa, ca, rfl, ha1, ha2⟩ := ze hra
  obtain ⟨ab, cb, rfl, hb1, hb2''⟩ := ze hrb
  have hra3 := hra.below hb3
  have h2 := ((Tm.rdv m1 hra3).app (Tm.rdv m3 hrb)).below hal
  have hla := hra.lt _
  refine ⟨_, w3.heap.size :: (fa ++ fb), rfl, ?_, ?_, hB4⟩
  ·rw [HT.out, HT2.out]
   refine rd_row (k := 2) (vs := [.string x.atom.a.name, .slice aa x.atom.a.kids.length ca, .string x.atom.b.name, .slice ab x.atom.b.kids.length cb]) (f := fa ++ fb) ?_ (by simpa using h2) (by simp) rfl (by simp) (by omega) (by simp [Tm.cd_len]) (by simp)
   intro j u hu
   simpa using hu
  ·have hfa' : Fresh w.heap.size w3 fa := ((hfa.mono (by simp; omega)).below hb3)
   have hfab : Fresh w.heap.size w3 (fa ++ fb) := Fresh.app hfa' hla hB2.size hfb
   exact zdw hal.size (by simpa using hfab.below hal) (by intro b hb; exact (hfab.lt b hb)) hB3.size rfl
 ·have tk : (x.atom.kind == 1) = false := by simp [k1]
  have HT2 := Lib.hid (Atm.tms_sum k1)
  clear k1
  go_wp2_with fail
  go_loopw [3, 4] (fun ov i wr => ∃ (k : Nat) (fp : List Nat), k ≤ x.atom.nums.length ∧ i = .int .i64 k ∧ Own wr (w.heap.size + 1) 25 2 ov ((x.atom.nums.take k).map Tm.cd) fp ∧ Fresh (w.heap.size + 1) wr fp ∧ wr.cell? ⟨w.heap.size, 5, none⟩ = some (.slice a5 x.atom.nums.length c5) ∧ w.heap.size + 1 ≤ wr.heap.size ∧ Below w.heap.size w wr) (fun _ i _ => x.atom.nums.length - (intOf i).toNat)
  case atStart =>
   refine ⟨0, [], Nat.zero_le _, rfl, by simpa using Own.empty _ _ _ _ hz, Fresh.nil _ _, ?_, by simp; omega, hB.alloc hB.size _⟩
   have := hx 5
   exact zb (by simpa using this) (za _ _)
  case round =>
   clear hx C0 C1 C2 C3 C4
   obtain ⟨k, fp, hkl, rfl, hown, hfr, c5', hz', hb⟩ := hrel
   have hz0 := hb.size
   have hz6 : w.heap.size < wr.heap.size := by omega
   by_cases hlt : k < x.atom.nums.length
   ·obtain ⟨b, off, rfl, hbs, _⟩ := zl m5 (by omega)
    obtain ⟨e1, g1, h1, d0, d1, t0, t1, _⟩ := Tm.at (m5.below hb) hlt
    have hbz : b < wr.heap.size := by omega
    have hks := Tm.size_mem (zdT hlt)
    go_wp2_with fail
    refine (zad _ x.atom.nums[k] _ _ (Nat.le_refl _) (by omega) (by exact TmR.mk t0 ⟨h1, t1⟩)).mono ?_
    rintro e w2 ⟨kv, fk, rfl, hrk, hfk, hbw⟩
    obtain ⟨ka', kc', rfl, hd1, hd2⟩ := ze hrk
    have hz2 := hbw.size
    have hown2 := (hown.below (hbw.alloc hz2 (.cells #[.string x.atom.nums[k].name, .slice ka' x.atom.nums[k].kids.length kc'] 25)))
    have hrk2 := hrk.below (za w2 (.cells #[.string x.atom.nums[k].name, .slice ka' x.atom.nums[k].kids.length kc'] 25))
    have hl : ((x.atom.nums.take k).map Tm.cd).length ≤ x.atom.nums.length := by simp; omega
    have hlen := zaj m5
    have hnl := Tm.sizes_len x.atom.nums
    have c5w := zb c5' hbw
    have hz7 : w.heap.size < w2.heap.size := by omega
    go_wp2_with (at_builtin; refine zq zaz rfl _ _ rfl (w.heap.size + 1) _ _ _ rfl hown2 ⟨w2.heap.size, 0, none⟩ 1 1 [x.atom.nums[k].cd] [.string x.atom.nums[k].name, .slice ka' x.atom.nums[k].kids.length kc'] fk rfl rfl ?rd ?k ?cells ?na ?bytes ?len ?base ?next)
    case rd => simpa using Tm.rdv t0 hrk2
    case k => simp [Tm.cd_len]
    case cells => exact zp _ _ _
    case na => exact hown.away (by simp) hfk
    case bytes => omega
    case len => omega
    case base => simp; omega
    case next =>
     intro v' w4 hown4 hg hv' hs4
     have hb4 := zk ((hb.trans (hbw.mono hz0)).alloc (by omega) _) hg (by simp; omega) (fun k hk => Nat.le_of_succ_le (hown.block hk).1)
     have c5n := zg hg (zb c5w (za w2 _)) (hown.row_ne (by omega))
     go_wp2_with fail
     go_roundw
     case rel =>
      refine ⟨k + 1, fp ++ fk, by omega, by go_num, ?_, ?_, c5n, by have := hg.size; simp at this; omega, hb4⟩
      ·rw [zdR hlt, zdV]; simpa using hown4
      ·exact ((Fresh.app (hfr.below hbw) hfr.lt hz' (hfk.mono (by simp))).below (za _ _)).same hs4
     case measure => simp [intOf]; omega
   ·have he : x.atom.nums.take k = x.atom.nums := List.take_of_length_le (by omega)
    rw [he] at hown
    clear he
    obtain ⟨oa, on, oc, rfl⟩ := hown.form'
    obtain ⟨fp', h1, h2, _⟩ := hown.fresh hfr
    go_wp2_with fail
    go_ret
    exact ⟨_, fp', rfl, by rw [HT.out, HT2.out]; exact h1, h2.mono (by omega), hb⟩
end Go.Proofs.YtoehhbkhdddeeaaGreatDoor
end
