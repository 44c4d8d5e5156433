/- Parts of the proof: TermO. -/
import Derived.Test.YtoehhbkhdddeeaaDoorPx10
section
namespace Go.Proofs.YtoehhbkhdddeeaaDoor
open Go Go.RowKit
set_option linter.unusedVariables false
set_option linter.unusedSimpArgs false
set_option maxRecDepth 100000
set_option maxHeartbeats 16000000
theorem slTerm : SlTy Tryd.prog 23 25 (.agg #[.string ByteArray.empty, .slice none 0 0]) 2 40 :=
 ⟨Tryd.underlying23, by kernel_rfl, rfl, by omega⟩
theorem zaA (n : Nat) (ih : ∀ (t : Tm) (v : Value) (w : World), t.size ≤ n → t.size ≤ 1000000000 → TmR w t v →
   Calls Tryd.prog 61 #[v] w fun e w' => ∃ kv fp, e = .returned (.agg #[.string t.name, kv]) ∧ Rd w' (.sl (t.kids.map Tm.cd)) kv fp ∧ Fresh w.heap.size w' fp ∧ Below w.heap.size w w') :
  ∀ (ts : List Tm) (v : Value) (w : World), (∀ t ∈ ts, t.size ≤ n) → Tm.sizes ts ≤ 1000000000 → TmsR w ts v →
  Calls Tryd.prog 31 #[v] w fun e w' => ∃ kv fp, e = .returned kv ∧ Rd w' (.sl (ts.map Tm.cd)) kv fp ∧ Fresh w.heap.size w' fp ∧ Below w.heap.size w w' := by
 intro ts v w hn hbig hv
 obtain ⟨a, cap, rfl, hc1, hc2⟩ := hv.form
 have IH := Lib.hid ih
 have HN := Lib.hid hn
 clear ih hn
 have hlen := Tm.sizes_len ts
 go_enter Tryd.func31, Tryd.ntmps31
 go_wp2_with fail
 go_loopw [3, 8] (fun ov i wr => ∃ (k : Nat) (fp : List Nat), k ≤ ts.length ∧ i = .int .i64 k ∧ Own wr w.heap.size 25 2 ov ((ts.take k).map Tm.cd) fp ∧ Fresh w.heap.size wr fp ∧ Below w.heap.size w wr) (fun _ i _ => ts.length - (intOf i).toNat)
 case atStart => exact ⟨0, [], Nat.zero_le _, rfl, Own.nil _ _ _ _, Fresh.nil _ _, Below.refl _ _⟩
 case round =>
  obtain ⟨k, fp, hkl, rfl, hown, hfr, hb⟩ := hrel
  have hz := hb.size
  by_cases hlt : k < ts.length
  ·obtain ⟨b, off, rfl, hbs⟩ := hv.addr (by omega)
   obtain ⟨ka, kc, c0, c1, hss, hkk⟩ := (hv.below hb).at hlt
   have hbz : b < wr.heap.size := by omega
   have hks := Tm.size_mem (zcm hlt)
   go_wp2_with fail
   refine (IH.out ts[k] _ _ (HN.out _ (zcm hlt)) (by omega) (by exact (TmR.mk hss hkk).below ((Below.refl _ _).alloc (Nat.le_refl _) _))).mono ?_
   rintro e w2 ⟨kv, fk, rfl, hrk, hfk, hb2⟩
   obtain ⟨ka', kc', rfl, hd1, hd2⟩ := zbL hrk
   have hbw : Below wr.heap.size wr w2 := ((Below.refl _ _).alloc (Nat.le_refl _) _).trans (hb2.mono (by simp))
   have hz2 := hbw.size
   have hown2 := (hown.below (hbw.alloc hz2 (.cells #[.string ts[k].name, .slice ka' ts[k].kids.length kc'] 25)))
   have hrk2 := hrk.below (za w2 (.cells #[.string ts[k].name, .slice ka' ts[k].kids.length kc'] 25))
   have hl : ((ts.take k).map Tm.cd).length ≤ ts.length := by simp; omega
   go_wp2_with (at_builtin; refine zM slTerm rfl _ _ rfl w.heap.size _ _ _ rfl hown2 ⟨w2.heap.size, 0, none⟩ 1 1 [ts[k].cd] [.string ts[k].name, .slice ka' ts[k].kids.length kc'] fk rfl rfl ?rd ?k ?cells ?na ?bytes ?len ?base ?next)
   case rd => simpa using Tm.rdvs hss hrk2
   case k => simp [Tm.cd_len]
   case cells => exact zaa _ _ _
   case na => exact hown.away (by simp) hfk
   case bytes => omega
   case len => omega
   case base => simp; omega
   case next =>
    intro v' w4 hown4 hg hv' hs4
    go_wp2_with fail
    go_roundw
    case rel =>
     refine ⟨k + 1, fp ++ fk, by omega, by go_num, ?_, ?_, ?_⟩
     ·rw [zck hlt, zco]; simpa using hown4
     ·exact ((Fresh.app (hfr.below hbw) hfr.lt hz (hfk.mono (by simp))).below (za _ _)).same hs4
     ·exact zD ((hb.trans (hbw.mono hz)).alloc (by omega) _) hg (by simp; omega) (fun k hk => (hown.block hk).1)
    case measure => simp [intOf]; omega
  ·have he : ts.take k = ts := List.take_of_length_le (by omega)
   rw [he] at hown
   go_wp2_with fail
   go_ret
   obtain ⟨fp', h1, h2, _⟩ := hown.fresh hfr
   exact ⟨_, fp', rfl, h1, h2, hb⟩
theorem zai (n : Nat) : ∀ (t : Tm) (v : Value) (w : World), t.size ≤ n → t.size ≤ 1000000000 → TmR w t v →
   Calls Tryd.prog 61 #[v] w fun e w' => ∃ kv fp, e = .returned (.agg #[.string t.name, kv]) ∧ Rd w' (.sl (t.kids.map Tm.cd)) kv fp ∧ Fresh w.heap.size w' fp ∧ Below w.heap.size w w' := by
 induction n with
 | zero => intro t; have := t.size_pos; omega
 | succ n ih =>
  rintro t v w hn hbig ⟨kv, rfl, hs, hk⟩
  obtain ⟨a, cap, rfl, hc1, hc2⟩ := hk.form
  have HK : Hid (∀ x ∈ t.kids, x.size ≤ n) := fun x hx => by have := Tm.size_kid_mem hx; omega
  have hsz : Tm.sizes t.kids ≤ 1000000000 := by rw [Tm.size_eq] at hbig; omega
  have IH := Lib.hid ih
  clear ih
  go_enter Tryd.func61, Tryd.ntmps61
  go_wp2_with fail
  go_region_with (go_at_call 31; refine (zaA n IH.out t.kids _ _ HK.out hsz (by exact hk.below (((Below.refl _ _).alloc (Nat.le_refl _) _).alloc (by simp) _).drew)).mono ?_; rintro e w2 ⟨kv2, fp2, rfl, hr2, hf2, hb2⟩; obtain ⟨a2, cap2, rfl, hg1, hg2⟩ := zbL hr2; obtain ⟨x0, x1, y0, y1, f0, f1, hz, hbb⟩ := boxed22 hb2)
  all_goals
   have hf3 := hf2.mono (lo' := w.heap.size + 1 + 1) (by simp)
   obtain ⟨z0, z1⟩ := stored2 (.string t.name) (.slice a2 t.kids.length cap2) y0 y1
   have hs2 := zbu (w := w2) (i := 0) (j := 1) (u := .string t.name) (v := .slice a2 t.kids.length cap2) (hf3.ne (b := w.heap.size + 1) (by omega))
   go_wp2_with fail
   refine bodyPost_ret (v := .agg #[.string t.name, .slice a2 t.kids.length cap2]) (by simp [results, Tryd.results61, go_sem, z0, z1]) rfl ⟨_, fp2, rfl, ?_, ?_, ?_⟩
   ·exact hr2.same _ hs2
   ·exact (hf3.same hs2).mono (by omega)
   ·exact ((hbb.setCell (by simp) _).setCell (by simp) _)
end Go.Proofs.YtoehhbkhdddeeaaDoor
end
