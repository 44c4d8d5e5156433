/- Parts of the proof: TermO TermP. -/
import Derived.Test.YtlefdhhnlbpbkaaGreatPv4
import Derived.Deep.RegionLaw
section
namespace Go.Proofs.YtlefdhhnlbpbkaaGreat
open Go Go.RowKit
set_option linter.unusedVariables false
set_option linter.unusedSimpArgs false
set_option maxRecDepth 100000
set_option maxHeartbeats 16000000
theorem zal : SlTy Tryz.prog 27 29 (.agg #[.string ByteArray.empty, .slice none 0 0]) 2 40 :=
 ⟨Tryz.underlying27, by kernel_rfl, rfl, by omega⟩
theorem zcP (n : Nat) (ih : ∀ (t : Tm) (v : Value) (w : World), t.size ≤ n → t.size ≤ 1000000000 → TmR w t v →
   Calls Tryz.prog 26 #[v] w fun e w' => ∃ kv fp, e = .returned (.agg #[.string t.name, kv]) ∧ Rd w' (.sl (t.kids.map Tm.cd)) kv fp ∧ Fresh w.heap.size w' fp ∧ Below w.heap.size w w') :
  ∀ (ts : List Tm) (v : Value) (w : World), (∀ t ∈ ts, t.size ≤ n) → Tm.sizes ts ≤ 1000000000 → TmsR w ts v →
  Calls Tryz.prog 56 #[v] w fun e w' => ∃ kv fp, e = .returned kv ∧ Rd w' (.sl (ts.map Tm.cd)) kv fp ∧ Fresh w.heap.size w' fp ∧ Below w.heap.size w w' := by
 intro ts v w hn hbig hv
 obtain ⟨a, cap, rfl, hc1, hc2⟩ := hv.form
 have IH := Lib.hid ih
 have HN := Lib.hid hn
 clear ih hn
 have hlen := Tm.sizes_len ts
 go_enter Tryz.func56, Tryz.ntmps56
 go_wp2_with fail
 go_loopw [3, 8] (fun ov i wr => ∃ (k : Nat) (fp : List Nat), k ≤ ts.length ∧ i = .int .i64 k ∧ Own wr w.heap.size 29 2 ov ((ts.take k).map Tm.cd) fp ∧ Fresh w.heap.size wr fp ∧ Below w.heap.size w wr) (fun _ i _ => ts.length - (intOf i).toNat)
 case atStart => exact ⟨0, [], Nat.zero_le _, rfl, Own.nil _ _ _ _, Fresh.nil _ _, Below.refl _ _⟩
 case round =>
  obtain ⟨k, fp, hkl, rfl, hown, hfr, hb⟩ := hrel
  have hz := hb.size
  by_cases hlt : k < ts.length
  ·obtain ⟨b, off, rfl, hbs⟩ := hv.addr (by omega)
   obtain ⟨ka, kc, c0, c1, hss, hkk⟩ := (hv.below hb).at hlt
   have hbz : b < wr.heap.size := by omega
   have hks := Tm.size_mem (zes hlt)
   go_wp2_with fail
   refine (IH.out ts[k] _ _ (HN.out _ (zes hlt)) (by omega) (by exact (TmR.mk hss hkk).below ((Below.refl _ _).alloc (Nat.le_refl _) _))).mono ?_
   rintro e w2 ⟨kv, fk, rfl, hrk, hfk, hb2⟩
   obtain ⟨ka', kc', rfl, hd1, hd2⟩ := zae hrk
   have hbw : Below wr.heap.size wr w2 := ((Below.refl _ _).alloc (Nat.le_refl _) _).trans (hb2.mono (by simp))
   have hz2 := hbw.size
   have hown2 := (hown.below (hbw.alloc hz2 (.cells #[.string ts[k].name, .slice ka' ts[k].kids.length kc'] 29)))
   have hrk2 := hrk.below (zb w2 (.cells #[.string ts[k].name, .slice ka' ts[k].kids.length kc'] 29))
   have hl : ((ts.take k).map Tm.cd).length ≤ ts.length := by simp; omega
   go_wp2_with (at_builtin; refine zp zal rfl _ _ rfl w.heap.size _ _ _ rfl hown2 ⟨w2.heap.size, 0, none⟩ 1 1 [ts[k].cd] [.string ts[k].name, .slice ka' ts[k].kids.length kc'] fk rfl rfl ?rd ?k ?cells ?na ?bytes ?len ?base ?next)
   case rd => simpa using Tm.rdvs hss hrk2
   case k => simp [Tm.cd_len]
   case cells => exact zn _ _ _
   case na => exact hown.away (by simp) hfk
   case bytes => omega
   case len => omega
   case base => simp; omega
   case next =>
    intro v' w4 hown4 hg hv' hs4
    go_wp2_with fail
    go_roundw
    case rel =>
     refine ⟨k + 1, fp ++ fk, by omega, by go_num, ?_, ?_, ?_⟩
     ·rw [zeq hlt, zeu]; simpa using hown4
     ·exact ((Fresh.app (hfr.below hbw) hfr.lt hz (hfk.mono (by simp))).below (zb _ _)).same hs4
     ·exact zf ((hb.trans (hbw.mono hz)).alloc (by omega) _) hg (by simp; omega) (fun k hk => (hown.block hk).1)
    case measure => simp [intOf]; omega
  ·have he : ts.take k = ts := List.take_of_length_le (by omega)
   rw [he] at hown
   go_wp2_with fail
   go_ret
   obtain ⟨fp', h1, h2, _⟩ := hown.fresh hfr
   exact ⟨_, fp', rfl, h1, h2, hb⟩
theorem zaS (n : Nat) : ∀ (t : Tm) (v : Value) (w : World), t.size ≤ n → t.size ≤ 1000000000 → TmR w t v →
   Calls Tryz.prog 26 #[v] w fun e w' => ∃ kv fp, e = .returned (.agg #[.string t.name, kv]) ∧ Rd w' (.sl (t.kids.map Tm.cd)) kv fp ∧ Fresh w.heap.size w' fp ∧ Below w.heap.size w w' := by
 induction n with
 | zero => intro t; have := t.size_pos; omega
 | succ n ih =>
  rintro t v w hn hbig ⟨kv, rfl, hs, hk⟩
  obtain ⟨a, cap, rfl, hc1, hc2⟩ := hk.form
  have HK : Hid (∀ x ∈ t.kids, x.size ≤ n) := fun x hx => by have := Tm.size_kid_mem hx; omega
  have hsz : Tm.sizes t.kids ≤ 1000000000 := by rw [Tm.size_eq] at hbig; omega
  have IH := Lib.hid ih
  clear ih
  go_enter Tryz.func26, Tryz.ntmps26
  go_wp2_with fail
  go_region_with (go_at_call 56; refine (zcP n IH.out t.kids _ _ HK.out hsz (by exact hk.below (((Below.refl _ _).alloc (Nat.le_refl _) _).alloc (by simp) _).drew)).mono ?_; rintro e w2 ⟨kv2, fp2, rfl, hr2, hf2, hb2⟩; obtain ⟨a2, cap2, rfl, hg1, hg2⟩ := zae hr2; obtain ⟨x0, x1, y0, y1, f0, f1, hz, hbb⟩ := boxed22 hb2)
  all_goals
   have hf3 := hf2.mono (lo' := w.heap.size + 1 + 1) (by simp)
   obtain ⟨z0, z1⟩ := zT (.string t.name) (.slice a2 t.kids.length cap2) y0 y1
   have hs2 := zW (w := w2) (i := 0) (j := 1) (u := .string t.name) (v := .slice a2 t.kids.length cap2) (hf3.ne (b := w.heap.size + 1) (by omega))
   go_wp2_with fail
   refine bodyPost_ret (v := .agg #[.string t.name, .slice a2 t.kids.length cap2]) (by simp [results, Tryz.results26, go_sem, z0, z1]) rfl ⟨_, fp2, rfl, ?_, ?_, ?_⟩
   ·exact hr2.same _ hs2
   ·exact (hf3.same hs2).mono (by omega)
   ·exact ((hbb.setCell (by simp) _).setCell (by simp) _)
theorem zcs (n : Nat) : ∀ (t : Tm) (l : List Tm) (v lv : Value) (fp : List Nat) (base : Nat) (w : World), t.size ≤ n → l.length + t.size ≤ 1000000000 → base ≤ w.heap.size → Own w base 29 2 lv (l.map Tm.cd) fp → Fresh base w fp → TmRa lv.ownBlock w t v →
   Calls Tryz.prog 65 #[lv, v] w fun e w' => ∃ lv' fp', e = .returned lv' ∧ Own w' base 29 2 lv' ((Tm.addP l t).map Tm.cd) fp' ∧ Fresh base w' fp' ∧ Moved w lv w' lv' := by
 induction n with
 | zero => intro t; have := t.size_pos; omega
 | succ n ih =>
  rintro t l v lv fp base w hn hbig hbase hown hfr ⟨kv, rfl, hs, hk⟩
  obtain ⟨a, cap, rfl, hc1, hc2⟩ := hk.toR.form
  have IH := Lib.hid ih
  clear ih
  have hsz : Tm.sizes t.kids + 1 = t.size := by rw [Tm.size_eq]; omega
  have HSZ := Lib.hid hsz
  clear hsz
  have HF := Lib.hid (Tm.addP_eq l t)
  have hba := zb w (.cells #[.string t.name, .slice a t.kids.length cap] 29)
  have hlvb : ∀ b, lv.ownBlock = some b → b < w.heap.size := fun b h => (hown.block h).2
  have HLV := Lib.hid hlvb
  clear hlvb
  go_enter Tryz.func65, Tryz.ntmps65
  go_wp2_with fail
  go_loopw [0, 10] (fun ov i wr => ∃ (k : Nat) (fp : List Nat), k ≤ t.kids.length ∧ i = .int .i64 k ∧ Own wr base 29 2 ov ((Tm.addPs l (t.kids.take k)).map Tm.cd) fp ∧ Fresh base wr fp ∧ Moved (w.alloc (.cells #[.string t.name, .slice a t.kids.length cap] 29)) lv wr ov) (fun _ i _ => t.kids.length - (intOf i).toNat)
  case atStart => exact ⟨0, fp, Nat.zero_le _, rfl, hown.below hba, hfr.below hba, Moved.refl _ _⟩
  case round =>
   clear hown hfr fp
   obtain ⟨k, fp, hkl, rfl, hown, hfr, hm⟩ := hrel
   have hz := hm.size
   simp only [World.size_alloc] at hz
   have hln := Tm.addPs_len (t.kids.take k) l
   have hsk := Tm.sizes_take t.kids k
   have hsz2 := HSZ.out
   have hkw := (hk.below hba).moved hm
   by_cases hlt : k < t.kids.length
   ·obtain ⟨b, off, rfl, hbs, hbn⟩ := hkw.addr (by omega)
    obtain ⟨ka, kc, c0, c1, hss, hkk⟩ := hkw.at hlt
    have hks : t.kids[k].size + Tm.sizes (t.kids.take k) ≤ Tm.sizes t.kids := by
     have h1 := Tm.sizes_take t.kids (k + 1)
     rw [zeq hlt, Tm.sizes_append] at h1
     simp only [Tm.sizes] at h1; omega
    go_wp2_with fail
    refine (IH.out t.kids[k] (Tm.addPs l (t.kids.take k)) _ _ fp base _ (by omega) (by omega) (by simp; omega) (by exact hown.below (zb _ _)) (by exact hfr.below (zb _ _)) (by exact TmRa.mk hss (hkk.below (zb _ _)))).mono ?_
    rintro e w2 ⟨lv2, fp2, rfl, hown2, hfr2, hm2⟩
    go_wp2_with fail
    go_roundw
    case rel => exact ⟨k + 1, fp2, by omega, by go_num, by rw [Tm.addPs_succ _ _ _ hlt]; exact hown2, hfr2, hm.trans (Moved.after (zb _ _) hm2)⟩
    case measure => simp [intOf]; omega
   ·have he : t.kids.take k = t.kids := List.take_of_length_le (by omega)
    rw [he] at hown hln
    have x0 : wr.cell? ⟨w.heap.size, 0, none⟩ = some (.string t.name) := zaV hm HLV.out 0
    have x1 : wr.cell? ⟨w.heap.size, 1, none⟩ = some (.slice a t.kids.length cap) := zaV hm HLV.out 1
    obtain ⟨fpr, hrd⟩ := hown.rd'
    go_wp2_with fail
    refine (zcp (Tm.addPs l t.kids) t _ _ _ ⟨fpr, hrd⟩ (TmR.mk hs hkw.toR)).mono ?_
    rintro e w2 ⟨⟨q, rfl, hq⟩, hb2⟩
    have hbd := hq.bd
    have hneg := hq.neg
    have HNEG := Lib.hid hneg
    clear hneg hq
    have hown2 := hown.below hb2
    have hfr2 := hfr.below hb2
    have hm2 := hm.below hb2
    have hkw2 := hkw.below hb2
    have x0' : w2.cell? ⟨w.heap.size, 0, none⟩ = some (.string t.name) := (hb2.cell (p := ⟨w.heap.size, 0, none⟩) (by simp; omega)).trans x0
    have x1' : w2.cell? ⟨w.heap.size, 1, none⟩ = some (.slice a t.kids.length cap) := (hb2.cell (p := ⟨w.heap.size, 1, none⟩) (by simp; omega)).trans x1
    have hz2 := hb2.size
    clear x0 x1 hown hfr hm hkw hrd
    by_cases hq0 : q < 0
    ·go_wp2_with fail
     refine (zaS t.size t _ _ (Nat.le_refl _) (by omega) (TmR.mk hs hkw2.toR)).mono ?_
     rintro e w3 ⟨kv3, fp3, rfl, hr3, hf3, hb3⟩
     obtain ⟨a3, cap3, rfl, hg1, hg2⟩ := zae hr3
     have hown3 := hown2.below (hb3.alloc hb3.size (.cells #[.string t.name, .slice a3 t.kids.length cap3] 29))
     have hr3' := hr3.below (zb w3 (.cells #[.string t.name, .slice a3 t.kids.length cap3] 29))
     have hz3 := hb3.size
     have hl3 : ((Tm.addPs l t.kids).map Tm.cd).length ≤ 1000000000 := by rw [zew]; omega
     go_wp2_with (at_builtin; refine zp zal rfl _ _ rfl base _ _ _ rfl hown3 ⟨w3.heap.size, 0, none⟩ 1 1 [t.cd] [.string t.name, .slice a3 t.kids.length cap3] fp3 rfl rfl ?rd ?k ?cells ?na ?bytes ?len ?base ?next)
     case rd => simpa using Tm.rdvs hs hr3'
     case k => simp [Tm.cd_len]
     case cells => exact zn _ _ _
     case na => exact hown2.away (by simp) hf3
     case bytes => omega
     case len => omega
     case base => simp; omega
     case next =>
      intro v' w4 hown4 hg hv' hs4
      go_wp2_with fail
      go_ret
      refine ⟨v', _, rfl, ?_, ((Fresh.app (hfr2.below hb3) hfr2.lt (by omega) hf3).below (zb _ _)).same hs4, ?_⟩
      ·rw [HF.out, if_neg (HNEG.out.1 hq0)]; simpa using hown4
      ·exact Moved.after hba (hm2.trans (Moved.after (hb3.alloc hb3.size _) ⟨hg, by simpa using hv'⟩))
    ·go_wp2_with fail
     go_ret
     refine ⟨_, _, rfl, ?_, hfr2, Moved.after hba hm2⟩
     rw [HF.out, if_pos (by have := HNEG.out; exact Classical.byContradiction fun h => by have := this.2 h; omega)]; exact hown2
theorem zct {α : Type} (p : α → Bool) (ts : List α) (k : Nat) (h : k < ts.length) : (ts.take (k + 1)).all p = ((ts.take k).all p && p ts[k]) := by
 rw [zeq h, List.all_append]; simp only [List.all_cons, List.all_nil, Bool.and_true]
theorem zcu (ts : List Tm) (v : Value) (w : World) (hbig : Tm.sizes ts ≤ 1000000000) (hv : TmsR w ts v) :
  Calls Tryz.prog 40 #[v] w fun e w' => ∃ rv fp, e = .returned rv ∧ Rd w' (.sl ((Tm.parts ts).map Tm.cd)) rv fp ∧ Fresh w.heap.size w' fp ∧ Below w.heap.size w w' := by
 obtain ⟨a, cap, rfl, hc1, hc2⟩ := hv.form
 have HF := Lib.hid (show Tm.parts ts = if ts.all Tm.wf then Tm.addPs [] ts else [] from rfl)
 go_enter Tryz.func40, Tryz.ntmps40
 go_wp2_with fail
 go_loopw [3, 8] (fun ov i wr => ∃ (k : Nat) (fp : List Nat), k ≤ ts.length ∧ i = .int .i64 k ∧ Hid ((ts.take k).all Tm.wf = true) ∧ Own wr w.heap.size 29 2 ov ((Tm.addPs [] (ts.take k)).map Tm.cd) fp ∧ Fresh w.heap.size wr fp ∧ Below w.heap.size w wr) (fun _ i _ => ts.length - (intOf i).toNat)
 case atStart => exact ⟨0, [], Nat.zero_le _, rfl, (by simp : (ts.take 0).all Tm.wf = true), Own.nil _ _ _ _, Fresh.nil _ _, Below.refl _ _⟩
 case round =>
  obtain ⟨k, fp, hkl, rfl, hall, hown, hfr, hb⟩ := hrel
  have hz := hb.size
  have hln := Tm.addPs_len (ts.take k) []
  simp only [List.length_nil, Nat.zero_add] at hln
  have hsk := Tm.sizes_take ts k
  by_cases hlt : k < ts.length
  ·obtain ⟨b, off, rfl, hbs⟩ := hv.addr (by omega)
   have hbz : b < wr.heap.size := by omega
   have hvw := hv.below hb
   have hva : TmsRa u3.ownBlock wr ts (.slice (some ⟨b, off, none⟩) ts.length cap) := by
    obtain ⟨f, hf⟩ := hv
    exact ⟨f, hf.below hb, fun x hx e => by have := (hown.block e).1; have := hf.lt _ x hx; omega⟩
   obtain ⟨ka, kc, c0, c1, hss, hkk⟩ := hva.at hlt
   have hks : ts[k].size + Tm.sizes (ts.take k) ≤ Tm.sizes ts := by
    have h1 := Tm.sizes_take ts (k + 1)
    rw [zeq hlt, Tm.sizes_append] at h1
    simp only [Tm.sizes] at h1; omega
   go_wp2_with fail
   refine (zai ts[k] _ _ (by exact (TmR.mk hss hkk.toR).below (zb _ _))).mono ?_
   rintro e w2 ⟨rfl, hb2⟩
   have hbw : Below wr.heap.size wr w2 := (zb _ _).trans (hb2.mono (by simp))
   have hb2' := hb2
   rw [World.size_alloc] at hb2'
   have x0 : w2.cell? ⟨wr.heap.size, 0, none⟩ = some (.string ts[k].name) := (box1 hb2').1 0
   have x1 : w2.cell? ⟨wr.heap.size, 1, none⟩ = some (.slice ka ts[k].kids.length kc) := (box1 hb2').1 1
   clear hb2'
   go_wp2_with fail
   ·have he : ts[k].wf = false := by simpa using ‹(!ts[k].wf) = true›
    go_ret
    refine ⟨_, [], rfl, ?_, Fresh.nil _ _, hb.trans (hbw.mono hz)⟩
    have : ts.all Tm.wf = false := by rw [List.all_eq_false]; exact ⟨ts[k], zes hlt, by simp [he]⟩
    rw [HF.out, if_neg (by simp [this])]
    simp only [List.map_nil, Rd]
    exact ⟨none, 0, rfl, by simp, by simp [maxLen], by simp⟩
   ·have he : ts[k].wf = true := by simpa using ‹(!ts[k].wf) = false›
    refine (zcs ts[k].size ts[k] (Tm.addPs [] (ts.take k)) _ _ fp w.heap.size _ (Nat.le_refl _) (by omega) (by have := hbw.size; omega) (hown.below hbw) (hfr.below hbw) (TmRa.mk hss (hkk.below hbw))).mono ?_
    rintro e w3 ⟨lv3, fp3, rfl, hown3, hfr3, hm3⟩
    go_wp2_with fail
    go_roundw
    case rel => exact ⟨k + 1, fp3, by omega, by go_num, (by rw [zct _ _ _ hlt, hall.out, he]; rfl : (ts.take (k + 1)).all Tm.wf = true), by rw [Tm.addPs_succ _ _ _ hlt]; exact hown3, hfr3, (hb.trans (hbw.mono hz)).trans (hm3.toBelow (by have := hbw.size; omega) (fun b h => (hown.block h).1))⟩
    case measure => simp [intOf]; omega
  ·have he : ts.take k = ts := List.take_of_length_le (by omega)
   rw [he] at hown hall
   go_wp2_with fail
   go_ret
   obtain ⟨fp', h1, h2, _⟩ := hown.fresh hfr
   exact ⟨_, fp', rfl, by rw [HF.out, hall.out]; exact h1, h2, hb⟩
theorem zS (n : Nat) : ∀ (t : Tm) (v : Value) (w : World), t.size ≤ n → t.size ≤ 1000000000 → TmR w t v →
   Calls Tryz.prog 28 #[v] w fun e w' => ∃ kv fp, e = .returned (.agg #[.string t.name, kv]) ∧ Rd w' (.sl (t.kids.map Tm.cd)) kv fp ∧ Fresh w.heap.size w' fp ∧ Below w.heap.size w w' := by
 induction n with
 | zero => intro t; have := t.size_pos; omega
 | succ n ih =>
  rintro t v w hn hbig ⟨kv, rfl, hs, hk⟩
  obtain ⟨a, cap, rfl, hc1, hc2⟩ := hk.form
  have IH := Lib.hid ih
  clear ih
  have hsz : Tm.sizes t.kids < t.size := by rw [Tm.size_eq]; omega
  have hlen := Tm.sizes_len t.kids
  go_enter Tryz.func28, Tryz.ntmps28
  go_wp2_with fail
  go_loopw [4] (fun i wr => ∃ (k : Nat) (fp : List Nat) (ov : Value), k ≤ t.kids.length ∧ i = .int .i64 k ∧ Own wr (w.heap.size + 1 + 1 + 1) 29 2 ov ((t.kids.take k).map Tm.cd) fp ∧ Fresh (w.heap.size + 1 + 1 + 1) wr fp ∧
   wr.cell? ⟨w.heap.size + 1 + 1, 0, none⟩ = some (.string t.name) ∧ wr.cell? ⟨w.heap.size + 1 + 1, 1, none⟩ = some ov ∧ wr.frozen? ⟨w.heap.size + 1 + 1, 1, none⟩ = false ∧
   w.heap.size + 1 + 1 + 1 ≤ wr.heap.size ∧ Below (w.heap.size + 1 + 1) ((w.alloc (.cells #[.string t.name, .slice a t.kids.length cap] 29)).alloc (.cells #[.string ⟨#[]⟩, .slice none 0 0] 29)) wr) (fun i _ => t.kids.length - (intOf i).toNat)
  case atStart => exact ⟨0, [], .slice none 0 0, Nat.zero_le _, rfl, Own.nil _ _ _ _, Fresh.nil _ _, by simp [go_sem], by simp [go_sem], by simp [go_sem], by simp, (Below.refl _ _).alloc (by simp) _⟩
  case round =>
   obtain ⟨k, fp, ov, hkl, rfl, hown, hfr, y0, y1, f1, hz, hb'⟩ := hrel
   obtain ⟨hx, hy, _, hb⟩ := box2 hb'
   have x1 : wr.cell? ⟨w.heap.size, 1, none⟩ = some (.slice a t.kids.length cap) := hx 1
   have r0 : wr.cell? ⟨w.heap.size + 1, 0, none⟩ = some (.string ⟨#[]⟩) := hy 0
   have r1 : wr.cell? ⟨w.heap.size + 1, 1, none⟩ = some (.slice none 0 0) := hy 1
   have rf0 := (zD hb' 0).2
   have rf1 := (zD hb' 1).2
   clear hx hy
   by_cases hlt : k < t.kids.length
   ·obtain ⟨b, off, rfl, hbs⟩ := hk.addr (by omega)
    obtain ⟨ka, kc, c0, c1, hss, hkk⟩ := (hk.below hb).at hlt
    have hkn := Tm.size_kid hlt
    go_wp2_with fail
    have tok1 : True := trivial
    go_region_law (first
     | (have _t := @hown2; refine zN zal rfl _ _ rfl (w.heap.size + 1 + 1 + 1) _ _ fp rfl (by exact hown2) ⟨w2.heap.size, 0, none⟩ 1 1 [t.kids[k].cd] [.string t.kids[k].name, .slice a3 t.kids[k].kids.length cap3] fp3 rfl rfl (by simpa using Tm.rdvs hss hr3') (by simp [Tm.cd_len]) (by exact zn _ _ _) (by exact hown.away (Nat.le_refl _) hf3) (by have hl := zbf Tm.cd t.kids k; omega) (by have hl := zbf Tm.cd t.kids k; omega) (by simp; omega) ?_; intro v' w4 hown4 hg hv' hs4; obtain ⟨a4, n4, c4, rfl⟩ := hown4.form'; have hcb := zdb hb3 hg (b := w.heap.size + 1 + 1) (by omega) (hown.row_ne (by omega)); have y0' := zl hcb y0; have y1' := zl hcb y1; have f1' := zah hcb f1; clear hcb)
     | (have _t := tok1; clear _t tok1; go_simp; go_at_call 28; refine (IH.out t.kids[k] _ _ (by omega) (by omega) (by exact (TmR.mk hss hkk).drew)).mono ?_; rintro e w2 ⟨kv3, fp3, rfl, hr3, hf3, hb3⟩; obtain ⟨a3, cap3, rfl, hg1, hg2⟩ := zae hr3; have hb3 := zh hb3; have hz2 := hb3.size; have hlz : w.heap.size + 1 + 1 < w2.heap.size := (by omega); have hbk := hb3.block (w.heap.size + 1 + 1) (by omega); have y0w := zl hbk y0; have y1w := zl hbk y1; have f1w := zah hbk f1; clear hbk; have hown2 := hown.below (hb3.alloc hb3.size (.cells #[.string t.kids[k].name, .slice a3 t.kids[k].kids.length cap3] 29)); have hr3' := hr3.below (zb w2 (.cells #[.string t.kids[k].name, .slice a3 t.kids[k].kids.length cap3] 29))))
    all_goals
     have hfr4 := ((Fresh.app (hfr.below hb3) hfr.lt hz hf3).below (zb w2 (.cells #[.string t.kids[k].name, .slice a3 t.kids[k].kids.length cap3] 29))).same hs4
     have hsz4 := hg.size
     simp only [World.size_alloc] at hsz4
     have hown5 := hown4.set_other hfr4 (b := w.heap.size + 1 + 1) (j := 1) (u := .slice a4 n4 c4) (by omega)
     have hfr5 := hfr4.same (zw (a := ⟨w.heap.size + 1 + 1, 1, none⟩) (v := .slice a4 n4 c4) (hfr4.ne (by simp)))
     have y0'' := (World.cell?_setCell_other w4 ⟨w.heap.size + 1 + 1, 1, none⟩ ⟨w.heap.size + 1 + 1, 0, none⟩ (.slice a4 n4 c4) (by simp)).trans y0'
     have y1'' := World.cell?_setCell_same w4 ⟨w.heap.size + 1 + 1, 1, none⟩ (.slice a4 n4 c4) y1'
     have hb5 : Below (w.heap.size + 1 + 1) ((w.alloc (.cells #[.string t.name, .slice (some ⟨b, off, none⟩) t.kids.length cap] 29)).alloc (.cells #[.string ⟨#[]⟩, .slice none 0 0] 29)) (w4.setCell ⟨w.heap.size + 1 + 1, 1, none⟩ (.slice a4 n4 c4)) := (zf ((hb'.trans (hb3.mono (by omega))).alloc (by omega) _) hg (by simp; omega) (fun q hq => by have := (hown.block hq).1; omega)).setCell (by simp) _
     go_wp2_with fail
     go_roundw
     case rel => exact ⟨k + 1, fp ++ fp3, .slice a4 n4 c4, by omega, by go_num, by rw [zeq hlt, zeu]; simpa using hown5, hfr5, y0'', y1'', by simp [go_sem, f1'], by simp [World.setCell]; omega, hb5⟩
     case measure => simp [intOf]; omega
   ·have he : t.kids.take k = t.kids := List.take_of_length_le (by omega)
    rw [he] at hown
    obtain ⟨oa, on, oc, rfl⟩ := hown.form'
    obtain ⟨fp', hr', hf', hi'⟩ := hown.fresh hfr
    obtain ⟨z0, z1⟩ := zT (.string t.name) (.slice oa on oc) r0 r1
    have hs2 := zW (w := wr) (i := 0) (j := 1) (u := .string t.name) (v := .slice oa on oc) (hf'.ne (b := w.heap.size + 1) (by omega))
    go_wp2_with fail
    refine bodyPost_ret (v := .agg #[.string t.name, .slice oa on oc]) (by simp [results, Tryz.results28, go_sem, z0, z1]) rfl ⟨_, fp', rfl, ?_, ?_, ?_⟩
    ·exact hr'.same _ hs2
    ·exact (hf'.same hs2).mono (by omega)
    ·exact ((hb.setCell (by simp) _).setCell (by simp) _)
theorem zaT (n : Nat) : ∀ (t : Tm) (l : List Tm) (v lv : Value) (fp : List Nat) (base : Nat) (w : World), t.size ≤ n → l.length + t.size ≤ 1000000000 → base ≤ w.heap.size → Own w base 29 2 lv (l.map Tm.cd) fp → Fresh base w fp → TmRa lv.ownBlock w t v →
   Calls Tryz.prog 69 #[lv, v] w fun e w' => ∃ lv' fp', e = .returned lv' ∧ Own w' base 29 2 lv' ((Tm.addP l t).map Tm.cd) fp' ∧ Fresh base w' fp' ∧ Moved w lv w' lv' := by
 induction n with
 | zero => intro t; have := t.size_pos; omega
 | succ n ih =>
  rintro t l v lv fp base w hn hbig hbase hown hfr ⟨kv, rfl, hs, hk⟩
  obtain ⟨a, cap, rfl, hc1, hc2⟩ := hk.toR.form
  have IH := Lib.hid ih
  clear ih
  have hsz : Tm.sizes t.kids + 1 = t.size := by rw [Tm.size_eq]; omega
  have HSZ := Lib.hid hsz
  clear hsz
  have HF := Lib.hid (Tm.addP_eq l t)
  have hba := zb w (.cells #[.string t.name, .slice a t.kids.length cap] 29)
  have hlvb : ∀ b, lv.ownBlock = some b → b < w.heap.size := fun b h => (hown.block h).2
  have HLV := Lib.hid hlvb
  clear hlvb
  go_enter Tryz.func69, Tryz.ntmps69
  go_wp2_with fail
  go_loopw [0, 5] (fun ov i wr => ∃ (k : Nat) (fp : List Nat), k ≤ t.kids.length ∧ i = .int .i64 k ∧ Own wr base 29 2 ov ((Tm.addPs l (t.kids.take k)).map Tm.cd) fp ∧ Fresh base wr fp ∧ Moved (w.alloc (.cells #[.string t.name, .slice a t.kids.length cap] 29)) lv wr ov) (fun _ i _ => t.kids.length - (intOf i).toNat)
  case atStart => exact ⟨0, fp, Nat.zero_le _, rfl, hown.below hba, hfr.below hba, Moved.refl _ _⟩
  case round =>
   clear hown hfr fp
   obtain ⟨k, fp, hkl, rfl, hown, hfr, hm⟩ := hrel
   have hz := hm.size
   simp only [World.size_alloc] at hz
   have hln := Tm.addPs_len (t.kids.take k) l
   have hsk := Tm.sizes_take t.kids k
   have hsz2 := HSZ.out
   have hkw := (hk.below hba).moved hm
   have x0 : wr.cell? ⟨w.heap.size, 0, none⟩ = some (.string t.name) := zaV hm HLV.out 0
   have x1 : wr.cell? ⟨w.heap.size, 1, none⟩ = some (.slice a t.kids.length cap) := zaV hm HLV.out 1
   by_cases hlt : k < t.kids.length
   ·obtain ⟨b, off, rfl, hbs, hbn⟩ := hkw.addr (by omega)
    obtain ⟨ka, kc, c0, c1, hss, hkk⟩ := hkw.at hlt
    have hks : t.kids[k].size + Tm.sizes (t.kids.take k) ≤ Tm.sizes t.kids := by
     have h1 := Tm.sizes_take t.kids (k + 1)
     rw [zeq hlt, Tm.sizes_append] at h1
     simp only [Tm.sizes] at h1; omega
    go_wp2_with fail
    refine (IH.out t.kids[k] (Tm.addPs l (t.kids.take k)) _ _ fp base _ (by omega) (by omega) (by omega) hown hfr (TmRa.mk hss hkk)).mono ?_
    rintro e w2 ⟨lv2, fp2, rfl, hown2, hfr2, hm2⟩
    go_wp2_with fail
    go_roundw
    case rel => exact ⟨k + 1, fp2, by omega, by go_num, by rw [Tm.addPs_succ _ _ _ hlt]; exact hown2, hfr2, hm.trans hm2⟩
    case measure => simp [intOf]; omega
   ·have he : t.kids.take k = t.kids := List.take_of_length_le (by omega)
    rw [he] at hown hln
    obtain ⟨fpr, hrd⟩ := hown.rd'
    go_wp2_with fail
    refine (zbv (Tm.addPs l t.kids) t _ _ _ ⟨fpr, hrd⟩ (TmR.mk hs hkw.toR)).mono ?_
    rintro e w2 ⟨⟨q, rfl, hq⟩, hb2⟩
    have hbd := hq.bd
    have hneg := hq.neg
    have HNEG := Lib.hid hneg
    clear hneg hq
    have hown2 := hown.below hb2
    have hfr2 := hfr.below hb2
    have hm2 := hm.below hb2
    have hkw2 := hkw.below hb2
    have x0' : w2.cell? ⟨w.heap.size, 0, none⟩ = some (.string t.name) := (hb2.cell (p := ⟨w.heap.size, 0, none⟩) (by simp; omega)).trans x0
    have x1' : w2.cell? ⟨w.heap.size, 1, none⟩ = some (.slice a t.kids.length cap) := (hb2.cell (p := ⟨w.heap.size, 1, none⟩) (by simp; omega)).trans x1
    have hz2 := hb2.size
    clear x0 x1 hown hfr hm hkw hrd
    by_cases hq0 : q < 0
    ·go_wp2_with fail
     refine (zS t.size t _ _ (Nat.le_refl _) (by omega) (TmR.mk hs hkw2.toR)).mono ?_
     rintro e w3 ⟨kv3, fp3, rfl, hr3, hf3, hb3⟩
     obtain ⟨a3, cap3, rfl, hg1, hg2⟩ := zae hr3
     have hown3 := hown2.below (hb3.alloc hb3.size (.cells #[.string t.name, .slice a3 t.kids.length cap3] 29))
     have hr3' := hr3.below (zb w3 (.cells #[.string t.name, .slice a3 t.kids.length cap3] 29))
     have hz3 := hb3.size
     have hl3 : ((Tm.addPs l t.kids).map Tm.cd).length ≤ 1000000000 := by rw [zew]; omega
     go_wp2_with (at_builtin; refine zp zal rfl _ _ rfl base _ _ _ rfl hown3 ⟨w3.heap.size, 0, none⟩ 1 1 [t.cd] [.string t.name, .slice a3 t.kids.length cap3] fp3 rfl rfl ?rd ?k ?cells ?na ?bytes ?len ?base ?next)
     case rd => simpa using Tm.rdvs hs hr3'
     case k => simp [Tm.cd_len]
     case cells => exact zn _ _ _
     case na => exact hown2.away (by simp) hf3
     case bytes => omega
     case len => omega
     case base => simp; omega
     case next =>
      intro v' w4 hown4 hg hv' hs4
      go_wp2_with fail
      go_ret
      refine ⟨v', _, rfl, ?_, ((Fresh.app (hfr2.below hb3) hfr2.lt (by omega) hf3).below (zb _ _)).same hs4, ?_⟩
      ·rw [HF.out, if_neg (HNEG.out.1 hq0)]; simpa using hown4
      ·exact Moved.after hba (hm2.trans (Moved.after (hb3.alloc hb3.size _) ⟨hg, by simpa using hv'⟩))
    ·go_wp2_with fail
     go_ret
     refine ⟨_, _, rfl, ?_, hfr2, Moved.after hba hm2⟩
     rw [HF.out, if_pos (by have := HNEG.out; exact Classical.byContradiction fun h => by have := this.2 h; omega)]; exact hown2
end Go.Proofs.YtlefdhhnlbpbkaaGreat
end
