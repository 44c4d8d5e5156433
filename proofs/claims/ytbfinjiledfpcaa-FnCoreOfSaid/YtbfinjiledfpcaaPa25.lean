/- Parts of the proof: LitT Num. -/
import Derived.Deep.RegionHeld3
import Derived.Test.YtbfinjiledfpcaaPa24
import Derived.Test.YtbfinjiledfpcaaPa14
import Derived.Test.YtbfinjiledfpcaaPa8
section
namespace Go.Proofs.Ytbfinjiledfpcaa
open Go Go.RowKit
set_option linter.unusedVariables false
set_option linter.unusedSimpArgs false
set_option maxRecDepth 100000
set_option maxHeartbeats 16000000
theorem zdd (ts : List Tm) (v : Value) (w : World) (hbig : Tm.sizes ts ≤ 1000000000) (hv : TmsR w ts v) : Calls Try.prog 57 #[v] w (zbA (.sl (ts.map Tm.cd)) w) :=
 zbk (Tm.sizes ts) (fun t v w h1 h2 h3 => zaV _ t v w h1 h2 h3) ts v w (fun t ht => Tm.size_mem ht) hbig hv
theorem rd_row {w : World} {b n c k : Nat} {es : List (List CD)} {vs : List Value} {f : List Nat} (hc : ∀ j u, vs[j]? = some u → w.cell? ⟨b, j, none⟩ = some u) (h : RdVs w es.flatten vs f) (hne : es ≠ []) (hn : n = es.length) (hcap : es.length ≤ c) (hm : c ≤ 9223372036854775807) (hk : ∀ e ∈ es, e.length = k) (hb : b < w.heap.size) :
  Rd w (.sl es) (.slice (some ⟨b, 0, none⟩) n c) (b :: f) := by
 simp only [Rd]; exact ⟨_, c, by rw [hn], hcap, by simpa [maxLen] using hm, .inr ⟨hne, b, 0, f, rfl, hb, rfl, RdRows.mk (k := k) (fun j u hu => by rw [Nat.zero_add]; exact hc j u hu) h⟩⟩
theorem Atm.small_of {x : Atm} (h : wtV x.cd ≤ 1048576) : x.small := by
 have h1 := Tm.size_wtV x.a; have h2 := Tm.size_wtV x.b; have h3 := Tm.sizes_wtR x.N; simp only [Atm.cd, zF, zay, zaj, zaZ] at h; unfold Atm.small; omega
theorem Lt.small_of {x : Lt} (h : wtV x.cd ≤ 1048576) : x.M.small := Atm.small_of (by rw [Lt.cd, zF] at h; omega)
theorem Lt.times_ok {x : Lt} (h : wtV x.cd ≤ 1048576) : x.M.T.length ≤ 1048576 := by
 rw [Lt.cd, zF] at h; simp only [Atm.cd, zF, zay, zaj, zaZ, zdF] at h; omega
theorem Atm.tms_eq {x : Atm} (h : x.kind = 1) : x.tms = [x.a, x.b] := if_pos h
theorem Atm.tms_sum {x : Atm} (h : ¬ x.kind = 1) : x.tms = x.N := if_neg h
theorem zcO (w : World) {α : Type} (cd : α → List CD) : Rd w (.sl (([] : List α).map cd)) (.slice none 0 0) [] := by
 simp only [List.map_nil, Rd]; exact ⟨none, 0, rfl, by simp, by simp [maxLen], by simp⟩
theorem rd_none (w : World) {α : Type} {cd : α → List CD} (b : Nat) {o : Nat} (hb : b < w.heap.size ∨ True) : Rd w (.sl (([] : List α).map cd)) (.slice (some ⟨b, o, none⟩) 0 0) [] := by
 simp only [List.map_nil, Rd]; exact ⟨some ⟨b, o, none⟩, 0, rfl, by simp, by simp [maxLen], by simp⟩
theorem zde {lo b : Nat} {w : World} {cs : Array Value} {T : Nat} {f : List Nat} (hz : w.heap.size ≤ (w.alloc (.cells cs T)).heap.size) (h : Fresh lo (w.alloc (.cells cs T)) f) (hl : ∀ b ∈ f, b < w.heap.size) (hlo : lo ≤ w.heap.size) (hb : b = w.heap.size) : Fresh lo (w.alloc (.cells cs T)) (b :: f) := by
 subst hb; refine ⟨List.nodup_cons.2 ⟨fun hm => by have := hl _ hm; omega, h.1⟩, ?_⟩; intro b hb
 rcases zdE.1 hb with rfl | hb
 ·exact ⟨hlo, cs, T, by show (w.heap.push _)[w.heap.size]? = _; simp⟩
 ·exact h.2 b hb
theorem Lt.tms_no {x : Lt} (h : x.M.okB = false) : x.tms = [] := by unfold Lt.tms; rw [h]; rfl
theorem Lt.tms_yes {x : Lt} (h : x.M.okB = true) : x.tms = x.M.tms := if_pos h
theorem zbS (x : Lt) (vs : List Value) (f : List Nat) (w : World) (hbig : x.M.small) (hv : RdVs w x.cd vs f) :
  Calls Try.prog 99 #[.agg vs.toArray] w (zbA (.sl (x.tms.map Tm.cd)) w) := by
 obtain ⟨a2, c2, f2, a4, c4, f4, a5, c5, f5, a6, c6, f6, rfl, _, m0, m1, m2, m3, m4, m5, m6, m7⟩ := Lt.open hv; have hbig2 := hbig; unfold Atm.small at hbig2; have hat := Atm.close m0 m1 m2 m3 m4 m5 m6 m7; go_enter Try.func99, Try.ntmps99; go_wp2_with fail; refine (zaW x.M _ _ _ hbig (by exact hat.below (za _ _))).mono ?_; rintro e w1 ⟨rfl, hb⟩; obtain ⟨hx, hz, hB⟩ := box1 (w := w) (wr := w1) (cs := #[.int .i64 x.M.kind, .string x.M.a.name, .slice a2 x.M.a.K.length c2, .string x.M.b.name, .slice a4 x.M.b.K.length c4, .slice a5 x.M.N.length c5, .slice a6 x.M.T.length c6, .int .i64 x.M.O, .bool x.M.C, .bool x.no]) (T := 35) (zs hb (by simp)); clear hb; obtain ⟨C0, C1, C2, C3, C4⟩ := yQ5 hx; simp only [zdx, zdv, zdw] at C0 C1 C2 C3 C4
 cases hk : x.M.okB
 ·have HT := zdH (Lt.tms_no hk)
  clear hk; go_wp2_with fail; go_ret; exact ⟨_, [], rfl, by rw [HT.out]; exact rd_none _ _ (by simp), Fresh.nil _ _, hB.alloc hB.size _⟩
 have HT := zdH (Lt.tms_yes hk); clear hk
 by_cases k1 : x.M.kind = 1
 ·have tk : (x.M.kind == 1) = true := by simp [k1]
  have HT2 := zdH (Atm.tms_eq k1); clear k1; have ta := (TmR.mk m1 ⟨f2, m2⟩).below hB; have tb := (TmR.mk m3 ⟨f4, m4⟩).below hB; go_wp2_with fail
  go_region_held3 (fun W => W.cell? ⟨w.heap.size, 1, none⟩ = some (.string x.M.a.name) ∧ W.cell? ⟨w.heap.size, 2, none⟩ = some (.slice a2 x.M.a.K.length c2) ∧ W.cell? ⟨w.heap.size, 3, none⟩ = some (.string x.M.b.name) ∧ W.cell? ⟨w.heap.size, 4, none⟩ = some (.slice a4 x.M.b.K.length c4))
   (first | exact ⟨C1, C2, C3, C4⟩ | exact ⟨zb C1 (zy hb2), zb C2 (zy hb2), zb C3 (zy hb2), zb C4 (zy hb2)⟩ | (refine ⟨?_, ?_, ?_, ?_⟩ <;> (refine zb (zb ?_ (zy hb2)) hb3; assumption)) | (refine ⟨?_, ?_, ?_, ?_⟩ <;> (refine zb (zb ?_ (zy hb2)) (hb3.alloc hb3.size _); assumption)))
   (first
    | (go_at_call 87; (with_reducible refine (zaf _ x.M.a _ _ (zdI _) (by omega) (by exact ta.below (ze _))).mono ?_); rintro e w2 ⟨ka, fa, rfl, hra, hfa, hb2⟩)
    | (go_at_call 87; (with_reducible refine (zaf _ x.M.b _ _ (zdI _) (by omega) (by exact tb.below (zy hb2))).mono ?_); rintro e w3 ⟨kb, fb, rfl, hrb, hfb, hb3⟩))
  have hb2' := zy hb2; have hB2 := hB.trans (hb2'.mono hB.size); have hB3 := hB2.trans (hb3.mono hB2.size); have hz1 := hB.size; have hz2 := hb2'.size; have hz3 := hb3.size; go_wp2_with fail; go_ret; have hB4 := hB3.alloc hB3.size (.cells #[.string x.M.a.name, ka, .string x.M.b.name, kb] 31); have hal := za w3 (.cells #[.string x.M.a.name, ka, .string x.M.b.name, kb] 31); obtain ⟨aa, ca, rfl, ha1, ha2⟩ := zc hra; obtain ⟨ab, cb, rfl, hb1, hb2''⟩ := zc hrb; have hra3 := hra.below hb3; have h2 := ((Tm.rdv m1 hra3).app (Tm.rdv m3 hrb)).below hal; have hla := hra.lt _; refine ⟨_, w3.heap.size :: (fa ++ fb), rfl, ?_, ?_, hB4⟩
  ·rw [HT.out, HT2.out]
   refine rd_row (k := 2) (vs := [.string x.M.a.name, .slice aa x.M.a.K.length ca, .string x.M.b.name, .slice ab x.M.b.K.length cb]) (f := fa ++ fb) ?_ (by simpa using h2) (by simp) rfl (by simp) (by omega) (by simp [Tm.cd_len]) (by simp); intro j u hu
   simpa using hu
  ·have hfa' : Fresh w.heap.size w3 fa := ((hfa.mono (by simp; omega)).below hb3)
   have hfab : Fresh w.heap.size w3 (fa ++ fb) := Fresh.app hfa' hla hB2.size hfb; exact zde hal.size (by simpa using hfab.below hal) (by intro b hb; exact (hfab.lt b hb)) hB3.size rfl
 ·have tk : (x.M.kind == 1) = false := by simp [k1]
  have HT2 := zdH (Atm.tms_sum k1); clear k1; go_wp2_with fail
  go_loopw [3, 4] (fun ov i wr => ∃ (k : Nat) (fp : List Nat), k ≤ x.M.N.length ∧ i = .int .i64 k ∧ Own wr (w.heap.size + 1) 31 2 ov ((x.M.N.take k).map Tm.cd) fp ∧ Fresh (w.heap.size + 1) wr fp ∧ wr.cell? ⟨w.heap.size, 5, none⟩ = some (.slice a5 x.M.N.length c5) ∧ w.heap.size + 1 ≤ wr.heap.size ∧ Below w.heap.size w wr) (fun _ i _ => x.M.N.length - (intOf i).toNat)
  case atStart =>
   refine ⟨0, [], zdR _, rfl, by simpa using Own.empty _ _ _ _ hz, Fresh.nil _ _, ?_, by simp; omega, hB.alloc hB.size _⟩; have := hx 5; exact zb (by simpa using this) (za _ _)
  case round =>
   clear hx C0 C1 C2 C3 C4; obtain ⟨k, fp, hkl, rfl, hown, hfr, c5', hz', hb⟩ := hrel; have hz0 := hb.size
   have hz6 : w.heap.size < wr.heap.size := by omega
   by_cases hlt : k < x.M.N.length
   ·obtain ⟨b, off, rfl, hbs, _⟩ := zo m5 (by omega)
    obtain ⟨e1, g1, h1, d0, d1, t0, t1, _⟩ := Tm.at (m5.below hb) hlt
    have hbz : b < wr.heap.size := by omega
    have hks := Tm.size_mem (zdB hlt); go_wp2_with fail; refine (zaf _ x.M.N[k] _ _ (zdI _) (by omega) (by exact TmR.mk t0 ⟨h1, t1⟩)).mono ?_; rintro e w2 ⟨kv, fk, rfl, hrk, hfk, hbw⟩; obtain ⟨ka', kc', rfl, hd1, hd2⟩ := zc hrk; have hz2 := hbw.size; have hown2 := (hown.below (hbw.alloc hz2 (.cells #[.string x.M.N[k].name, .slice ka' x.M.N[k].K.length kc'] 31))); have hrk2 := hrk.below (za w2 (.cells #[.string x.M.N[k].name, .slice ka' x.M.N[k].K.length kc'] 31))
    have hl : ((x.M.N.take k).map Tm.cd).length ≤ x.M.N.length := by simp; omega
    have hlen := zaG m5; have hnl := Tm.sizes_len x.M.N; have c5w := zb c5' hbw
    have hz7 : w.heap.size < w2.heap.size := by omega
    go_wp2_with (at_builtin; refine zp zaH rfl _ _ rfl (w.heap.size + 1) _ _ _ rfl hown2 ⟨w2.heap.size, 0, none⟩ 1 1 [x.M.N[k].cd] [.string x.M.N[k].name, .slice ka' x.M.N[k].K.length kc'] fk rfl rfl ?rd ?k ?cells ?na ?bytes ?len ?base ?next)
    case rd => simpa using Tm.rdv t0 hrk2
    case k => simp [Tm.cd_len]
    case cells => exact zl _ _ _
    case na => exact hown.away (by simp) hfk
    case bytes => omega
    case len => omega
    case base => simp; omega
    case next =>
     intro v' w4 hown4 hg hv' hs4; have hb4 := zh ((hb.trans (hbw.mono hz0)).alloc (by omega) _) hg (by simp; omega) (fun k hk => Nat.le_of_succ_le (hown.block hk).1); have c5n := zi hg (zb c5w (za w2 _)) (hown.row_ne (by omega)); go_wp2_with fail; go_roundw
     case rel =>
      refine ⟨k + 1, fp ++ fk, by omega, by go_num, ?_, ?_, c5n, by have := hg.size; simp at this; omega, hb4⟩
      ·rw [zdz hlt, zdD]; simpa using hown4
      ·exact ((Fresh.app (hfr.below hbw) hfr.lt hz' (hfk.mono (by simp))).below (za _ _)).same hs4
     case measure => simp [intOf]; omega
   ·have he : x.M.N.take k = x.M.N := zdK (by omega)
    rw [he] at hown; clear he; obtain ⟨oa, on, oc, rfl⟩ := hown.form'; obtain ⟨fp', h1, h2, _⟩ := hown.fresh hfr; go_wp2_with fail; go_ret; exact ⟨_, fp', rfl, by rw [HT.out, HT2.out]; exact h1, h2.mono (by omega), hb⟩
def Tm.isNum (s : Sg) (t : Tm) : Bool := t.tsrt s == some 1
theorem Tm.isNum_none {s : Sg} {t : Tm} (h : t.tsrt s = none) : t.isNum s = false := by unfold Tm.isNum; rw [h]; rfl
theorem Tm.isNum_some {s : Sg} {t : Tm} {n : Int} (h : t.tsrt s = some n) : t.isNum s = (n == 1) := by unfold Tm.isNum; rw [h]; rfl
/-- The place of the first of which p is so, or -1. -/
def FirstAt (p : Tm → Bool) (l : List Tm) (n : Int) : Prop := (n = -1 ∧ l.all (fun t => !p t) = true) ∨ ∃ (k : Nat) (h : k < l.length), n = k ∧ p l[k] = true ∧ (l.take k).all (fun t => !p t) = true
theorem FirstAt.neg {p : Tm → Bool} {l : List Tm} {n : Int} (h : FirstAt p l n) : (decide (0 ≤ n)) = !l.all (fun t => !p t) := by
 rcases h with ⟨rfl, h⟩ | ⟨k, hk, rfl, h, _⟩
 ·rw [h]; rfl
 ·have : l.all (fun t => !p t) = false := by rw [List.all_eq_false]; exact ⟨l[k], zdB hk, by simp [h]⟩
  rw [this]; simp
def zac (s : Sg) (x : Atm) : Bool := s.okB && (x.okB && (if x.kind = 1 then Eqn.okB s ⟨x.a, x.b⟩ else x.N.all (Tm.isNum s)))
theorem atomB_sig {s : Sg} {x : Atm} (h : s.okB = false) : zac s x = false := by simp [zac, h]
theorem zcQ {s : Sg} {x : Atm} (h : x.okB = false) : zac s x = false := by simp [zac, h]
theorem atomB_eq {s : Sg} {x : Atm} (h : s.okB = true) (h' : x.okB = true) (k : x.kind = 1) : zac s x = Eqn.okB s ⟨x.a, x.b⟩ := by simp [zac, h, h', k]
theorem atomB_sum {s : Sg} {x : Atm} (h : s.okB = true) (h' : x.okB = true) (k : ¬ x.kind = 1) : zac s x = x.N.all (Tm.isNum s) := by simp [zac, h, h', k]
theorem Tm.tsrt_of {s : Sg} (h : s.okB = true) {t : Tm} (h' : t.wf = true) : t.tsrt s = t.srt s := Tm.tsrt_yes h h'
theorem zcy (s : Sg) (x : Atm) (us vs : List Value) (f f' : List Nat) (w : World) (hbig : x.small) (hv : RdVs w s.cd us f') (hx : RdVs w x.cd vs f) :
  Calls Try.prog 92 #[.agg us.toArray, .agg vs.toArray] w fun e w' => e = .returned (.bool (zac s x)) ∧ Below w.heap.size w w' := by
 obtain ⟨a0, c0, f0, rfl, _, n0⟩ := Sg.open hv; obtain ⟨a2, c2, f2, a4, c4, f4, a5, c5, f5, a6, c6, f6, rfl, _, m0, m1, m2, m3, m4, m5, m6, m7⟩ := Atm.open hx; go_enter Try.func92, Try.ntmps92; go_wp2_with fail; refine (zbK s _ _ _ (by exact hv.below ((za _ _).alloc (by simp) _))).mono ?_; rintro e w1 ⟨rfl, hb⟩; obtain ⟨hs, hy, hz, hB⟩ := box2 (w := w) (wr := w1) (cs := #[.slice a0 s.Y.length c0]) (ds := (yNa x a2 c2 a4 c4 a5 c5 a6 c6)) (T := 41) (U := 33) (zs hb (by simp)); clear hb; have S0 := hs 0; obtain ⟨C0, C1, C2, C3, C4, C5, C6, C7, C8⟩ := yQ9 hy; simp only [zdx, zdv, zdw] at S0 C0 C1 C2 C3 C4 C5 C6 C7 C8
 cases h1 : s.okB
 ·have HF := zdH (atomB_sig (x := x) h1)
  clear h1; go_wp2_with fail; go_ret; exact ⟨retB HF.out.symm, hB⟩
 have H1 := zdH h1; clear h1; go_wp2_with fail; refine (zaW x _ _ _ hbig (by exact hx.below hB)).mono ?_; rintro e w2 ⟨rfl, hb2⟩; have hB2 := hB.trans (hb2.mono hB.size)
 cases h2 : x.okB
 ·have HF := zdH (zcQ (s := s) h2)
  clear h2; go_wp2_with fail; go_ret; exact ⟨retB HF.out.symm, hB2⟩
 have H2 := zdH h2; clear h2; have HWF := zdH (fun t ht => Tm.tsrt_of H1.out (Atm.tms_wf H2.out t ht)); have HPOS := zdH (fun (t : Tm) (m : Int) (hm : t.srt s = some m) => Tm.srt_pos H1.out hm); have S0' := zb S0 hb2; have C0' := zb C0 hb2; have C1' := zb C1 hb2; have C2' := zb C2 hb2; have C3' := zb C3 hb2; have C4' := zb C4 hb2; have C5' := zb C5 hb2; have C6' := zb C6 hb2; have C7' := zb C7 hb2; have C8' := zb C8 hb2; clear S0 C0 C1 C2 C3 C4 C5 C6 C7 C8 hs hy
 by_cases k1 : x.kind = 1
 ·have tk : (x.kind == 1) = true := by simp [k1]
  have HF := zdH (atomB_eq H1.out H2.out k1); have HA : Hid (x.a.tsrt s = x.a.srt s) := zdH (HWF.out x.a (by rw [Atm.tms_eq k1]; simp)); have HBB : Hid (x.b.tsrt s = x.b.srt s) := zdH (HWF.out x.b (by rw [Atm.tms_eq k1]; simp)); clear k1; go_wp2_with fail; refine (za4 s H1 x.a.size x.a _ _ _ _ _ (zdI _) (by exact hv.below hB2) (by exact (Tm.rdv m1 m2).below hB2)).mono ?_; rintro e w3 ⟨rfl, hb3⟩; have hB3 := hB2.trans (hb3.mono hB2.size); have S3 := zb S0' hb3; have E3 := zb C3' hb3; have E4 := zb C4' hb3
  cases ho : x.a.srt s with
  | none =>
   have HG : Hid (zac s x = false) := zdH (by rw [HF.out]; exact Eqn.okB_a (HA.out.trans ho)); clear ho; simp only [Option.getD_none]; go_wp2_with fail; go_ret; exact ⟨retB HG.out.symm, hB3⟩
  | some m =>
   have hm0 := HPOS.out _ _ ho; have HO := zdH (HA.out.trans ho)
   have tm : decide ((0 : Int) ≤ m) = true := by simp; try omega
   clear ho; simp only [Option.getD_some]; go_wp2_with fail; refine (za4 s H1 x.b.size x.b _ _ _ _ _ (zdI _) (by exact hv.below hB3) (by exact (Tm.rdv m3 m4).below hB3)).mono ?_; rintro e w4 ⟨rfl, hb4⟩; have hB4 := hB3.trans (hb4.mono hB3.size)
   cases hq : x.b.srt s with
   | none =>
    have HG : Hid (zac s x = false) := zdH (by rw [HF.out]; exact Eqn.okB_b (HBB.out.trans hq))
    have tq : (m == -1) = false := by simp; omega
    clear hq; simp only [Option.getD_none]; go_wp2_with fail; go_ret
    exact ⟨retB (by rw [HG.out]; try exact tq), hB4⟩
   | some n =>
    have HG := zdH (HF.out.trans (Eqn.okB_ab (e := ⟨x.a, x.b⟩) HO.out (HBB.out.trans hq))); clear hq; simp only [Option.getD_some]; go_wp2_with fail; go_ret; exact ⟨retB HG.out.symm, hB4⟩
 ·have tk : (x.kind == 1) = false := by simp [k1]
  have HF := zdH (atomB_sum H1.out H2.out k1); have HN := zdH (fun t (ht : t ∈ x.N) => HWF.out t (by rw [Atm.tms_sum k1]; exact ht)); clear k1; have hlen := zaG m5; go_wp2_with fail
  go_loopw [6] (fun i wq => ∃ k : Nat, k ≤ x.N.length ∧ i = .int .i64 k ∧ Hid ((x.N.take k).all (Tm.isNum s) = true) ∧ Below w2.heap.size w2 wq) (fun i _ => x.N.length - (intOf i).toNat)
  case atStart => exact ⟨0, zdR _, rfl, zdH (by simp), zdT _ _⟩
  case round =>
   obtain ⟨k, hkl, rfl, hall, hb⟩ := hrel; have hBr := hB2.trans (hb.mono hB2.size); have S4 := zb S0' hb; have D5r := zb C5' hb
   by_cases hlt : k < x.N.length
   ·obtain ⟨b, off, rfl, hbs, _⟩ := zo m5 (by omega)
    obtain ⟨e1, g1, h1, d0, d1, t0, t1, _⟩ := Tm.at (m5.below hBr) hlt
    have hbz : b < wr.heap.size := by have := hBr.size; omega
    have hvr := hv.below hBr; have htr := Tm.rdv t0 t1; have HT := zdH (HN.out _ (zdB hlt)); go_wp2_with fail; have q0 := cell_regrown S4; have q1 := cell_regrown D5r; have q2 := cell_regrown d0; have q3 := cell_regrown d1
    cases hq : x.N[k].srt s with
    | none =>
     have HG : Hid (zac s x = false) := zdH (by rw [HF.out, List.all_eq_false]; exact ⟨x.N[k], zdB hlt, by rw [Tm.isNum_none (HT.out.trans hq)]; simp⟩); have HL := zdH (fun W (hW : Below wr.heap.size wr W) => (za4 s H1 x.N[k].size x.N[k] _ _ _ _ W (zdI _) (hvr.below hW) (htr.below hW))); rw [hq] at HL; have tq : ((-1 : Int) != 1) = true := rfl; clear hq; refine wp_region_quiet_below (by kernel_rfl) (by kernel_rfl) ?_
     repeat (first | go_big_quiet_skip | quiet_step ((go_at_call 98; refine zdL ((HL.out _ (below_regrown _ _ _)).mono (fun e w' h => h)))))
     refine wpQuiet_nil ?_; intro w9 hw9; obtain ⟨⟨dq, osq⟩, hw9⟩ := hw9; have hb9 : Below wr.heap.size wr w9 := hw9 ▸ below_regrown wr dq osq; clear hw9 q0 q1 q2 q3; go_wp2_with fail; go_ret; exact ⟨retB HG.out.symm, hBr.trans (hb9.mono hBr.size)⟩
    | some n =>
     have HNN := zdH (Tm.isNum_some (HT.out.trans hq)); have HL := zdH (fun W (hW : Below wr.heap.size wr W) => (za4 s H1 x.N[k].size x.N[k] _ _ _ _ W (zdI _) (hvr.below hW) (htr.below hW))); rw [hq] at HL; clear hq
     cases hn : (n == 1)
     ·have HG : Hid (zac s x = false) := zdH (by rw [HF.out, List.all_eq_false]; exact ⟨x.N[k], zdB hlt, by rw [HNN.out, hn]; simp⟩)
      have tq : (n != 1) = true := by rw [bne, hn]; rfl
      refine wp_region_quiet_below (by kernel_rfl) (by kernel_rfl) ?_
      repeat (first | go_big_quiet_skip | quiet_step ((go_at_call 98; refine zdL ((HL.out _ (below_regrown _ _ _)).mono (fun e w' h => h)))))
      refine wpQuiet_nil ?_; intro w9 hw9; obtain ⟨⟨dq, osq⟩, hw9⟩ := hw9; have hb9 : Below wr.heap.size wr w9 := hw9 ▸ below_regrown wr dq osq; clear hw9 q0 q1 q2 q3; go_wp2_with fail; go_ret; exact ⟨retB HG.out.symm, hBr.trans (hb9.mono hBr.size)⟩
     ·have HS : Hid ((x.N.take (k + 1)).all (Tm.isNum s) = true) := zdH (by rw [zdz hlt, List.all_append, hall.out]; simp [HNN.out, hn])
      have tq : (n != 1) = false := by rw [bne, hn]; rfl
      refine wp_region_quiet_below (by kernel_rfl) (by kernel_rfl) ?_
      repeat (first | go_big_quiet_skip | quiet_step ((go_at_call 98; refine zdL ((HL.out _ (below_regrown _ _ _)).mono (fun e w' h => h)))))
      refine wpQuiet_nil ?_; intro w9 hw9; obtain ⟨⟨dq, osq⟩, hw9⟩ := hw9; have hb9 : Below wr.heap.size wr w9 := hw9 ▸ below_regrown wr dq osq; clear hw9 q0 q1 q2 q3; go_wp2_with fail; go_roundw
      case rel => exact ⟨k + 1, by omega, by go_num, HS, hb.trans (hb9.mono hb.size)⟩
      case measure => simp [intOf]; omega
   ·have HG : Hid (zac s x = true) := zdH (by have h := hall.out; rw [zdK (by omega)] at h; rw [HF.out, h])
    go_wp2_with fail; go_ret; exact ⟨retB HG.out.symm, hBr⟩
end Go.Proofs.Ytbfinjiledfpcaa
end
