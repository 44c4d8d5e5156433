/- Parts of the proof: TermP. -/
import Derived.Deep.RegionLaw
import Derived.Test.YtoehhbkhdddeeaaDoorPl13
section
namespace Go.Proofs.YtoehhbkhdddeeaaDoor
open Go Go.RowKit
set_option linter.unusedVariables false
set_option linter.unusedSimpArgs false
set_option maxRecDepth 100000
set_option maxHeartbeats 16000000
theorem zj (n : Nat) : ∀ (t : Tm) (v : Value) (w : World), t.size ≤ n → t.size ≤ 1000000000 → TmR w t v →
   Calls Tryd.prog 33 #[v] w fun e w' => ∃ kv fp, e = .returned (.agg #[.string t.name, kv]) ∧ Rd w' (.sl (t.kids.map Tm.cd)) kv fp ∧ Fresh w.heap.size w' fp ∧ Below w.heap.size w w' := by
 induction n with
 | zero => intro t; have := t.size_pos; omega
 | succ n ih =>
  rintro t v w hn hbig ⟨kv, rfl, hs, hk⟩
  obtain ⟨a, cap, rfl, hc1, hc2⟩ := hk.form
  have IH := Lib.hid ih
  clear ih
  have hsz : Tm.sizes t.kids < t.size := by rw [Tm.size_eq]; omega
  have hlen := Tm.sizes_len t.kids
  go_enter Tryd.func33, Tryd.ntmps33
  go_wp2_with fail
  go_loopw [4] (fun i wr => ∃ (k : Nat) (fp : List Nat) (ov : Value), k ≤ t.kids.length ∧ i = .int .i64 k ∧ Own wr (w.heap.size + 1 + 1 + 1) 25 2 ov ((t.kids.take k).map Tm.cd) fp ∧ Fresh (w.heap.size + 1 + 1 + 1) wr fp ∧
   wr.cell? ⟨w.heap.size + 1 + 1, 0, none⟩ = some (.string t.name) ∧ wr.cell? ⟨w.heap.size + 1 + 1, 1, none⟩ = some ov ∧ wr.frozen? ⟨w.heap.size + 1 + 1, 1, none⟩ = false ∧
   w.heap.size + 1 + 1 + 1 ≤ wr.heap.size ∧ Below (w.heap.size + 1 + 1) ((w.alloc (.cells #[.string t.name, .slice a t.kids.length cap] 25)).alloc (.cells #[.string ⟨#[]⟩, .slice none 0 0] 25)) wr) (fun i _ => t.kids.length - (intOf i).toNat)
  case atStart => exact ⟨0, [], .slice none 0 0, Nat.zero_le _, rfl, Own.nil _ _ _ _, Fresh.nil _ _, by simp [go_sem], by simp [go_sem], by simp [go_sem], by simp, (Below.refl _ _).alloc (by simp) _⟩
  case round =>
   obtain ⟨k, fp, ov, hkl, rfl, hown, hfr, y0, y1, f1, hz, hb'⟩ := hrel
   obtain ⟨hx, hy, _, hb⟩ := box2 hb'
   have x1 : wr.cell? ⟨w.heap.size, 1, none⟩ = some (.slice a t.kids.length cap) := hx 1
   have r0 : wr.cell? ⟨w.heap.size + 1, 0, none⟩ = some (.string ⟨#[]⟩) := hy 0
   have r1 : wr.cell? ⟨w.heap.size + 1, 1, none⟩ = some (.slice none 0 0) := hy 1
   have rf0 := (zE hb' 0).2
   have rf1 := (zE hb' 1).2
   clear hx hy
   by_cases hlt : k < t.kids.length
   ·obtain ⟨b, off, rfl, hbs⟩ := hk.addr (by omega)
    obtain ⟨ka, kc, c0, c1, hss, hkk⟩ := (hk.below hb).at hlt
    have hkn := Tm.size_kid hlt
    go_wp2_with fail
    have tok1 : True := trivial
    go_region_law (first
     | (have _t := @hown2; refine zad zaj rfl _ _ rfl (w.heap.size + 1 + 1 + 1) _ _ fp rfl (by exact hown2) ⟨w2.heap.size, 0, none⟩ 1 1 [t.kids[k].cd] [.string t.kids[k].name, .slice a3 t.kids[k].kids.length cap3] fp3 rfl rfl (by simpa using Tm.rdvs hss hr3') (by simp [Tm.cd_len]) (by exact zw _ _ _) (by exact hown.away (Nat.le_refl _) hf3) (by have hl := zaa Tm.cd t.kids k; omega) (by have hl := zaa Tm.cd t.kids k; omega) (by simp; omega) ?_; intro v' w4 hown4 hg hv' hs4; obtain ⟨a4, n4, c4, rfl⟩ := hown4.form'; have hcb := zaS hb3 hg (b := w.heap.size + 1 + 1) (by omega) (hown.row_ne (by omega)); have y0' := zl hcb y0; have y1' := zl hcb y1; have f1' := zO hcb f1; clear hcb)
     | (have _t := tok1; clear _t tok1; go_simp; go_at_call 33; refine (IH.out t.kids[k] _ _ (by omega) (by omega) (by exact (TmR.mk hss hkk).drew)).mono ?_; rintro e w2 ⟨kv3, fp3, rfl, hr3, hf3, hb3⟩; obtain ⟨a3, cap3, rfl, hg1, hg2⟩ := zM hr3; have hb3 := zo hb3; have hz2 := hb3.size; have hlz : w.heap.size + 1 + 1 < w2.heap.size := (by omega); have hbk := hb3.block (w.heap.size + 1 + 1) (by omega); have y0w := zl hbk y0; have y1w := zl hbk y1; have f1w := zO hbk f1; clear hbk; have hown2 := hown.below (hb3.alloc hb3.size (.cells #[.string t.kids[k].name, .slice a3 t.kids[k].kids.length cap3] 25)); have hr3' := hr3.below (zc w2 (.cells #[.string t.kids[k].name, .slice a3 t.kids[k].kids.length cap3] 25))))
    all_goals
     have hfr4 := ((Fresh.app (hfr.below hb3) hfr.lt hz hf3).below (zc w2 (.cells #[.string t.kids[k].name, .slice a3 t.kids[k].kids.length cap3] 25))).same hs4
     have hsz4 := hg.size
     simp only [World.size_alloc] at hsz4
     have hown5 := hown4.set_other hfr4 (b := w.heap.size + 1 + 1) (j := 1) (u := .slice a4 n4 c4) (by omega)
     have hfr5 := hfr4.same (zz (a := ⟨w.heap.size + 1 + 1, 1, none⟩) (v := .slice a4 n4 c4) (hfr4.ne (by simp)))
     have y0'' := (World.cell?_setCell_other w4 ⟨w.heap.size + 1 + 1, 1, none⟩ ⟨w.heap.size + 1 + 1, 0, none⟩ (.slice a4 n4 c4) (by simp)).trans y0'
     have y1'' := World.cell?_setCell_same w4 ⟨w.heap.size + 1 + 1, 1, none⟩ (.slice a4 n4 c4) y1'
     have hb5 : Below (w.heap.size + 1 + 1) ((w.alloc (.cells #[.string t.name, .slice (some ⟨b, off, none⟩) t.kids.length cap] 25)).alloc (.cells #[.string ⟨#[]⟩, .slice none 0 0] 25)) (w4.setCell ⟨w.heap.size + 1 + 1, 1, none⟩ (.slice a4 n4 c4)) := (zh ((hb'.trans (hb3.mono (by omega))).alloc (by omega) _) hg (by simp; omega) (fun q hq => by have := (hown.block hq).1; omega)).setCell (by simp) _
     go_wp2_with fail
     go_roundw
     case rel => exact ⟨k + 1, fp ++ fp3, .slice a4 n4 c4, by omega, by go_num, by rw [zcd hlt, zch]; simpa using hown5, hfr5, y0'', y1'', by simp [go_sem, f1'], by simp [World.setCell]; omega, hb5⟩
     case measure => simp [intOf]; omega
   ·have he : t.kids.take k = t.kids := List.take_of_length_le (by omega)
    rw [he] at hown
    obtain ⟨oa, on, oc, rfl⟩ := hown.form'
    obtain ⟨fp', hr', hf', hi'⟩ := hown.fresh hfr
    obtain ⟨z0, z1⟩ := zae (.string t.name) (.slice oa on oc) r0 r1
    have hs2 := zX (w := wr) (i := 0) (j := 1) (u := .string t.name) (v := .slice oa on oc) (hf'.ne (b := w.heap.size + 1) (by omega))
    go_wp2_with fail
    refine bodyPost_ret (v := .agg #[.string t.name, .slice oa on oc]) (by simp [results, Tryd.results33, go_sem, z0, z1]) rfl ⟨_, fp', rfl, ?_, ?_, ?_⟩
    ·exact hr'.same _ hs2
    ·exact (hf'.same hs2).mono (by omega)
    ·exact ((hb.setCell (by simp) _).setCell (by simp) _)
end Go.Proofs.YtoehhbkhdddeeaaDoor
end
