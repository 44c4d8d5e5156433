/- Parts of the proof: Sig4. -/
import Derived.Test.YtlefdhhnlbpbkaaGreatPv10
section
namespace Go.Proofs.YtlefdhhnlbpbkaaGreat
open Go Go.RowKit
set_option linter.unusedVariables false
set_option linter.unusedSimpArgs false
set_option maxRecDepth 100000
set_option maxHeartbeats 16000000
mutual
def Tm.srt (s : Sg) : Tm → Option Int
 | .mk n ks => match s.find n with
  | none => none
  | some x => if Tm.srts s ks x.args = true then some x.sort else none
def Tm.srts (s : Sg) : List Tm → List Int → Bool
 | [], [] => true
 | t :: ts, a :: l => (Tm.srt s t == some a) && Tm.srts s ts l
 | _, _ => false
end
theorem Tm.srts_iff (s : Sg) : ∀ (ts : List Tm) (l : List Int), Tm.srts s ts l = true ↔ ts.length = l.length ∧ ∀ k (h : k < ts.length) (h' : k < l.length), ts[k].srt s = some l[k]
 | [], [] => by simp [Tm.srts]
 | [], _ :: _ => by simp [Tm.srts]
 | _ :: _, [] => by simp [Tm.srts]
 | t :: ts, a :: l => by
  simp only [Tm.srts, zex, beq_iff_eq, Tm.srts_iff s ts l, List.length_cons]
  constructor
  ·rintro ⟨h1, h2, h3⟩
   refine ⟨by omega, fun k h h' => ?_⟩
   cases k with
   | zero => simpa using h1
   | succ k => simpa using h3 k (by simpa using h) (by simpa using h')
  ·rintro ⟨h1, h2⟩
   exact ⟨by simpa using h2 0 (by simp) (by simp), by omega, fun k h h' => h2 (k + 1) (by simpa using h) (by simpa using h')⟩
theorem Tm.srt_eq (s : Sg) (t : Tm) : t.srt s = match s.find t.name with | none => none | some x => if Tm.srts s t.kids x.args = true then some x.sort else none := by cases t; rw [Tm.srt]; rfl
theorem Tm.srt_none {s : Sg} {t : Tm} (h : s.find t.name = none) : t.srt s = none := by rw [Tm.srt_eq, h]
theorem Tm.srt_len {s : Sg} {t : Tm} {x : Sy} (h : s.find t.name = some x) (hl : ¬ x.args.length = t.kids.length) : t.srt s = none := by
 rw [Tm.srt_eq, h]; simp only; rw [if_neg]; rw [Tm.srts_iff]; exact fun ⟨h1, _⟩ => hl h1.symm
theorem Tm.srt_kid {s : Sg} {t : Tm} {x : Sy} (h : s.find t.name = some x) {k : Nat} (h1 : k < t.kids.length) (h2 : k < x.args.length) (hne : ¬ t.kids[k].srt s = some x.args[k]) : t.srt s = none := by
 rw [Tm.srt_eq, h]; simp only; rw [if_neg]; rw [Tm.srts_iff]; exact fun ⟨_, h3⟩ => hne (h3 k h1 h2)
def SrtUpTo (s : Sg) (ts : List Tm) (l : List Int) (k : Nat) : Prop := ∀ j, j < k → ∀ (h1 : j < ts.length) (h2 : j < l.length), ts[j].srt s = some l[j]
theorem SrtUpTo.succ {s : Sg} {ts : List Tm} {l : List Int} {k : Nat} (h : SrtUpTo s ts l k) (h1 : k < ts.length) (h2 : k < l.length) (he : ts[k].srt s = some l[k]) : SrtUpTo s ts l (k + 1) := fun j hj g1 g2 => by
 rcases Nat.lt_or_ge j k with h' | h'
 ·exact h j h' g1 g2
 ·obtain rfl : j = k := by omega
  exact he
theorem Tm.srt_yes {s : Sg} {t : Tm} {x : Sy} (h : s.find t.name = some x) (hl : x.args.length = t.kids.length) {k : Nat} (hk : t.kids.length ≤ k) (hall : SrtUpTo s t.kids x.args k) : t.srt s = some x.sort := by
 rw [Tm.srt_eq, h]; simp only; rw [if_pos]; rw [Tm.srts_iff]; exact ⟨hl.symm, fun j h1 h2 => hall j (by omega) h1 h2⟩
def SrtOut (o : Option Int) (w : World) (e : Ending) (w' : World) : Prop := e = .returned (.tuple #[.int .i64 (o.getD 0), .bool o.isSome]) ∧ Below w.heap.size w w'
theorem Tm.rdv {w : World} {t : Tm} {a : Option Addr} {c : Nat} {f : List Nat} (h0 : t.name.size ≤ maxLen) (h1 : Rd w (.sl (t.kids.map Tm.cd)) (.slice a t.kids.length c) f) : RdVs w t.cd [.string t.name, .slice a t.kids.length c] f := Tm.close h0 h1
theorem zdX (s : Sg) (n : Nat) : ∀ (t : Tm) (vs us : List Value) (f f' : List Nat) (w : World), t.size ≤ n → RdVs w s.cd vs f → RdVs w t.cd us f' →
  Calls Tryz.prog 93 #[.agg vs.toArray, .agg us.toArray] w (SrtOut (t.srt s) w) := by
 induction n with
 | zero => intro t; have := t.size_pos; omega
 | succ n ih =>
  intro t vs us f f' w hn hv hx
  have IH := Lib.hid ih
  clear ih
  obtain ⟨a0, c0, f0, rfl, _, m0⟩ := Sg.open hv
  obtain ⟨b1, e1, g1, rfl, _, t0, t1⟩ := Tm.open hx
  have hlen := zaB t1
  go_enter Tryz.func93, Tryz.ntmps93
  go_wp2_with fail
  refine (zdV s t.name _ _ _ t0 (by exact hv.below (((Below.refl _ _).alloc (Nat.le_refl _) _).alloc (by simp) _))).mono ?_
  rintro e w1 ⟨x, ok, xs, xf, rfl, hxr, hfind, hb1⟩
  obtain ⟨hxL, hyL, hzL, hBL⟩ := box2 (w := w) (wr := w1) (cs := #[.slice a0 s.syms.length c0]) (ds := #[.string t.name, .slice b1 t.kids.length e1]) (T := 25) (U := 29) (zK hb1 (by simp))
  obtain ⟨xa, xc, xg, rfl, _, q0, q1, q2⟩ := Sy.open hxr
  have cx := hxL 0
  have cy0 := hyL 0
  have cy1 := hyL 1
  simp only [zeo, zem, zen] at cx cy0 cy1
  clear hxL hyL
  have hlx := zaB q1
  have hz0 : w.heap.size < w1.heap.size := by omega
  have hz1 : w.heap.size + 1 < w1.heap.size := by omega
  rcases hfind with ⟨rfl, hfind⟩ | ⟨rfl, hfind⟩
  rotate_left
  ·have HF := Lib.hid (Tm.srt_none hfind)
   clear hfind
   go_wp2_with fail
   go_ret2
   exact ⟨by rw [HF.out]; rfl, zI hBL (by omega)⟩
  have HFIND := Lib.hid hfind
  clear hfind
  by_cases hl : x.args.length = t.kids.length
  rotate_left
  ·have HF := Lib.hid (Tm.srt_len HFIND.out hl)
   have hne : ((x.args.length : Int) != (t.kids.length : Int)) = true := by rw [bne_iff_ne]; omega
   clear hl
   go_wp2_with fail
   go_ret2
   exact ⟨by rw [HF.out]; rfl, zI hBL (by omega)⟩
  have HL := Lib.hid hl
  have hne : ((x.args.length : Int) != (t.kids.length : Int)) = false := by rw [hl]; simp
  have hl1 : x.args.length ≤ t.kids.length := by omega
  have hl2 : t.kids.length ≤ x.args.length := by omega
  clear hl
  have n0 := zv w1 #[.string x.name, .slice xa x.args.length xc, .int .i64 x.sort] 102
  have hbw := zb w1 (.cells #[.string x.name, .slice xa x.args.length xc, .int .i64 x.sort] 102)
  have hsz : (w1.alloc (.cells #[.string x.name, .slice xa x.args.length xc, .int .i64 x.sort] 102)).heap.size = w1.heap.size + 1 := by simp
  obtain ⟨w2, hw2⟩ : ∃ w2, w2 = w1.alloc (.cells #[.string x.name, .slice xa x.args.length xc, .int .i64 x.sort] 102) := ⟨_, rfl⟩
  go_wp2_with fail
  rw [← hw2] at n0 hbw hsz ⊢
  clear hw2
  have d1 := n0 1
  have d2 := n0 2
  simp only [zeo, zem, zen] at d1 d2
  clear n0
  have cx := za cx hbw
  have cy1 := za cy1 hbw
  have q1 := q1.below hbw
  have hB2 := hBL.trans (hbw.mono (by omega))
  clear hbw
  go_loopw [33] (fun i wq => ∃ k : Nat, k ≤ t.kids.length ∧ i = .int .i64 k ∧ Hid (SrtUpTo s t.kids x.args k) ∧ Below w2.heap.size w2 wq) (fun i _ => t.kids.length - (intOf i).toNat)
  case atStart => exact ⟨0, Nat.zero_le _, rfl, Lib.hid (fun j hj => by omega), Below.refl _ _⟩
  case round =>
   obtain ⟨k, hkl, rfl, hall, hM⟩ := hrel
   have hszm := hM.size
   have cxm := za cx hM
   have d1m := za d1 hM
   have d2m := za d2 hM
   have hBM := hB2.trans (hM.mono (by omega))
   by_cases hlt : k < t.kids.length
   ·have hlt' : k < x.args.length := by omega
    obtain ⟨b, off, rfl, hbs, _⟩ := zm t1 (by omega)
    have q1m := q1.below hM
    obtain ⟨xb, xo, rfl, hxs, _⟩ := zm q1m (by omega)
    obtain ⟨ka, kc, kf, k0, k1, km0, km1, _⟩ := Tm.at (t1.below hBM) hlt
    obtain ⟨ga, _⟩ := zL q1m hlt'
    have hkn := Tm.size_kid hlt
    have hbz : b < wr.heap.size := by omega
    have hz2 : w1.heap.size < wr.heap.size := by omega
    have hz3 : w.heap.size < wr.heap.size := by omega
    have hbk := zb wr (.cells #[.string t.kids[k].name, .slice ka t.kids[k].kids.length kc] 29)
    go_wp2_with fail
    refine (IH.out t.kids[k] _ _ _ _ _ (by omega) (by exact hv.below (hBM.trans (hbk.mono hBM.size))) (by exact (Tm.rdv km0 km1).below hbk)).mono ?_
    rintro e w4 ⟨rfl, hb4⟩
    have hb5 := hbk.trans (hb4.mono hbk.size)
    have hM5 := hM.trans (hb5.mono hszm)
    have hB5 := hBM.trans (hb5.mono hBM.size)
    have cx5 := za cxm hb5
    have d15 := za d1m hb5
    have d25 := za d2m hb5
    have ga5 := za ga hb5
    clear hb4 hbk
    cases ho : t.kids[k].srt s with
    | none =>
     have HF := Lib.hid (Tm.srt_kid HFIND.out hlt hlt' (by rw [ho]; simp))
     clear ho
     simp only [Option.getD_none, Option.isSome_none]
     go_wp2_with fail
     go_ret2
     exact ⟨by rw [HF.out]; rfl, hB5⟩
    | some m =>
     have HO := Lib.hid ho
     clear ho
     simp only [Option.getD_some, Option.isSome_some]
     cases hc : (m == x.args[k])
     ·have HF := Lib.hid (Tm.srt_kid HFIND.out hlt hlt' (by rw [HO.out]; simpa using hc))
      have hcn : (m != x.args[k]) = true := by rw [bne, hc]; rfl
      go_wp2_with fail
      go_ret2
      exact ⟨by rw [HF.out]; rfl, hB5⟩
     ·have HE := Lib.hid (hall.out.succ hlt hlt' (by rw [HO.out]; simpa using hc))
      have hcn : (m != x.args[k]) = false := by rw [bne, hc]; rfl
      go_wp2_with fail
      go_roundw
      case rel => exact ⟨k + 1, by omega, by go_num, HE, hM5⟩
      case measure => simp [intOf]; omega
   ·have HF := Lib.hid (Tm.srt_yes HFIND.out HL.out (by omega) hall.out)
    go_wp2_with fail
    go_ret2
    exact ⟨by rw [HF.out]; rfl, hBM⟩
def Tm.tsrt (s : Sg) (t : Tm) : Option Int := if s.okB = true ∧ t.wf = true then t.srt s else none
theorem Tm.tsrt_no {s : Sg} {t : Tm} (h : s.okB = false) : t.tsrt s = none := by unfold Tm.tsrt; rw [if_neg]; rintro ⟨h1, _⟩; rw [h] at h1; simp at h1
theorem Tm.tsrt_bad {s : Sg} {t : Tm} (h : t.wf = false) : t.tsrt s = none := by unfold Tm.tsrt; rw [if_neg]; rintro ⟨_, h1⟩; rw [h] at h1; simp at h1
theorem Tm.tsrt_yes {s : Sg} {t : Tm} (h : s.okB = true) (h' : t.wf = true) : t.tsrt s = t.srt s := if_pos ⟨h, h'⟩
theorem zbj (s : Sg) (t : Tm) (vs us : List Value) (f f' : List Nat) (w : World) (hv : RdVs w s.cd vs f) (hx : RdVs w t.cd us f') :
  Calls Tryz.prog 60 #[.agg vs.toArray, .agg us.toArray] w (SrtOut (t.tsrt s) w) := by
 obtain ⟨a0, c0, f0, rfl, _, m0⟩ := Sg.open hv
 obtain ⟨b1, e1, g1, rfl, _, t0, t1⟩ := Tm.open hx
 go_enter Tryz.func60, Tryz.ntmps60
 go_wp2_with fail
 refine (zcN s _ _ _ (by exact hv.below (((Below.refl _ _).alloc (Nat.le_refl _) _).alloc (by simp) _))).mono ?_
 rintro e w1 ⟨rfl, hb1⟩
 obtain ⟨hxL, hyL, hzL, hBL⟩ := box2 (w := w) (wr := w1) (cs := #[.slice a0 s.syms.length c0]) (ds := #[.string t.name, .slice b1 t.kids.length e1]) (T := 25) (U := 29) (zK hb1 (by simp))
 have cx := hxL 0
 have cy0 := hyL 0
 have cy1 := hyL 1
 simp only [zeo, zem, zen] at cx cy0 cy1
 clear hxL hyL hb1
 cases h1 : s.okB
 ·have HF := Lib.hid (Tm.tsrt_no (t := t) h1)
  clear h1
  go_wp2_with fail
  go_ret2
  exact ⟨by rw [HF.out]; rfl, hBL⟩
 have H1 := Lib.hid h1
 clear h1
 go_wp2_with fail
 refine (zai t _ _ (TmR.mk t0 ⟨_, t1.below hBL⟩)).mono ?_
 rintro e w2 ⟨rfl, hb2⟩
 have cx := za cx hb2
 have cy0 := za cy0 hb2
 have cy1 := za cy1 hb2
 have hB2 := hBL.trans (hb2.mono hBL.size)
 clear hb2
 cases h2 : t.wf
 ·have HF := Lib.hid (Tm.tsrt_bad (s := s) h2)
  clear h2
  go_wp2_with fail
  go_ret2
  exact ⟨by rw [HF.out]; rfl, hB2⟩
 have HF := Lib.hid (Tm.tsrt_yes H1.out h2)
 clear h2
 go_wp2_with fail
 refine (zdX s _ t _ _ _ _ _ (Nat.le_refl _) (hv.below hB2) (hx.below hB2)).mono ?_
 rintro e w3 ⟨rfl, hb3⟩
 go_wp2_with fail
 go_ret2
 exact ⟨by rw [HF.out]; rfl, hB2.trans (hb3.mono hB2.size)⟩
theorem Sg.okB_mem {s : Sg} (h : s.okB = true) {x : Sy} (hx : x ∈ s.syms) : x.okB = true := by
 obtain ⟨k, hk, rfl⟩ := List.getElem_of_mem hx
 unfold Sg.okB at h
 rw [zex, List.all_eq_true] at h
 have h1 := h.1 k (List.mem_range.2 hk)
 cases he : s.syms[k].okB with
 | true => rfl
 | false => rw [Sg.okAt_bad hk he] at h1; simp at h1
theorem Sg.find_okB {s : Sg} (h : s.okB = true) {n : ByteArray} {x : Sy} (hx : s.find n = some x) : x.okB = true := Sg.okB_mem h (List.mem_of_find?_eq_some hx)
theorem zdA {n : Int} (h : srtB n = true) : 0 ≤ n := by simp [srtB] at h; omega
theorem Sy.args_pos {x : Sy} (h : x.okB = true) {k : Nat} (hk : k < x.args.length) : 0 ≤ x.args[k] := by
 simp only [Sy.okB, zex, List.all_eq_true] at h
 exact zdA (h.2.2.2 _ (zes hk))
theorem Sy.sort_pos {x : Sy} (h : x.okB = true) : 0 ≤ x.sort := by
 simp only [Sy.okB, zex] at h
 exact zdA h.2.2.1
theorem Tm.srt_pos {s : Sg} (h : s.okB = true) {t : Tm} {m : Int} (hm : t.srt s = some m) : 0 ≤ m := by
 rw [Tm.srt_eq] at hm
 split at hm
 ·simp at hm
 ·rename_i x hx
  split at hm
  ·obtain rfl := Option.some.inj hm; exact Sy.sort_pos (Sg.find_okB h hx)
  ·simp at hm
def OfOut (o : Option Int) (w : World) (e : Ending) (w' : World) : Prop := e = .returned (.int .i64 (o.getD (-1))) ∧ Below w.heap.size w w'
theorem l4Of_any (s : Sg) (hok : Hid (s.okB = true)) (n : Nat) : ∀ (t : Tm) (vs us : List Value) (f f' : List Nat) (w : World), t.size ≤ n → RdVs w s.cd vs f → RdVs w t.cd us f' →
  Calls Tryz.prog 66 #[.agg vs.toArray, .agg us.toArray] w (OfOut (t.srt s) w) := by
 induction n with
 | zero => intro t; have := t.size_pos; omega
 | succ n ih =>
  intro t vs us f f' w hn hv hx
  have IH := Lib.hid ih
  clear ih
  obtain ⟨a0, c0, f0, rfl, _, m0⟩ := Sg.open hv
  obtain ⟨b1, e1, g1, rfl, _, t0, t1⟩ := Tm.open hx
  have hlen := zaB t1
  go_enter Tryz.func66, Tryz.ntmps66
  go_wp2_with fail
  refine (zdW s t.name _ _ _ t0 (by exact hv.below (((Below.refl _ _).alloc (Nat.le_refl _) _).alloc (by simp) _))).mono ?_
  rintro e w1 ⟨x, ok, xs, xf, rfl, hxr, hfind, hb1⟩
  obtain ⟨hxL, hyL, hzL, hBL⟩ := box2 (w := w) (wr := w1) (cs := #[.slice a0 s.syms.length c0]) (ds := #[.string t.name, .slice b1 t.kids.length e1]) (T := 25) (U := 29) (zK hb1 (by simp))
  obtain ⟨xa, xc, xg, rfl, _, q0, q1, q2⟩ := Sy.open hxr
  have cx := hxL 0
  have cy0 := hyL 0
  have cy1 := hyL 1
  simp only [zeo, zem, zen] at cx cy0 cy1
  clear hxL hyL
  have hlx := zaB q1
  have hz0 : w.heap.size < w1.heap.size := by omega
  have hz1 : w.heap.size + 1 < w1.heap.size := by omega
  rcases hfind with ⟨rfl, hfind⟩ | ⟨rfl, hfind⟩
  rotate_left
  ·have HF := Lib.hid (Tm.srt_none hfind)
   clear hfind
   go_wp2_with fail
   go_ret
   exact ⟨by rw [HF.out]; rfl, zI hBL (by omega)⟩
  have HFIND := Lib.hid hfind
  clear hfind
  by_cases hl : x.args.length = t.kids.length
  rotate_left
  ·have HF := Lib.hid (Tm.srt_len HFIND.out hl)
   have hne : ((x.args.length : Int) != (t.kids.length : Int)) = true := by rw [bne_iff_ne]; omega
   clear hl
   go_wp2_with fail
   go_ret
   exact ⟨by rw [HF.out]; rfl, zI hBL (by omega)⟩
  have HL := Lib.hid hl
  have hne : ((x.args.length : Int) != (t.kids.length : Int)) = false := by rw [hl]; simp
  have hl1 : x.args.length ≤ t.kids.length := by omega
  have hl2 : t.kids.length ≤ x.args.length := by omega
  clear hl
  have n0 := zv w1 #[.string x.name, .slice xa x.args.length xc, .int .i64 x.sort] 102
  have hbw := zb w1 (.cells #[.string x.name, .slice xa x.args.length xc, .int .i64 x.sort] 102)
  have hsz : (w1.alloc (.cells #[.string x.name, .slice xa x.args.length xc, .int .i64 x.sort] 102)).heap.size = w1.heap.size + 1 := by simp
  obtain ⟨w2, hw2⟩ : ∃ w2, w2 = w1.alloc (.cells #[.string x.name, .slice xa x.args.length xc, .int .i64 x.sort] 102) := ⟨_, rfl⟩
  go_wp2_with fail
  rw [← hw2] at n0 hbw hsz ⊢
  clear hw2
  have d1 := n0 1
  have d2 := n0 2
  simp only [zeo, zem, zen] at d1 d2
  clear n0
  have cx := za cx hbw
  have cy1 := za cy1 hbw
  have q1 := q1.below hbw
  have hB2 := hBL.trans (hbw.mono (by omega))
  clear hbw
  go_loopw [7] (fun i wq => ∃ k : Nat, k ≤ t.kids.length ∧ i = .int .i64 k ∧ Hid (SrtUpTo s t.kids x.args k) ∧ Below w2.heap.size w2 wq) (fun i _ => t.kids.length - (intOf i).toNat)
  case atStart => exact ⟨0, Nat.zero_le _, rfl, Lib.hid (fun j hj => by omega), Below.refl _ _⟩
  case round =>
   obtain ⟨k, hkl, rfl, hall, hM⟩ := hrel
   have hszm := hM.size
   have cxm := za cx hM
   have cy1m := za cy1 hM
   have d1m := za d1 hM
   have d2m := za d2 hM
   have hBM := hB2.trans (hM.mono (by omega))
   by_cases hlt : k < t.kids.length
   ·have hlt' : k < x.args.length := by omega
    obtain ⟨b, off, rfl, hbs, _⟩ := zm t1 (by omega)
    have q1m := q1.below hM
    obtain ⟨xb, xo, rfl, hxs, _⟩ := zm q1m (by omega)
    obtain ⟨ka, kc, kf, k0, k1, km0, km1, _⟩ := Tm.at (t1.below hBM) hlt
    obtain ⟨ga, _⟩ := zL q1m hlt'
    have hkn := Tm.size_kid hlt
    have hbz : b < wr.heap.size := by omega
    have hz2 : w1.heap.size < wr.heap.size := by omega
    have hz3 : w.heap.size < wr.heap.size := by omega
    have hpos := Sy.args_pos (Sg.find_okB hok.out HFIND.out) hlt'
    go_wp2_with fail
    have qk0 := cell_regrown k0
    have qk1 := cell_regrown k1
    have qcx := cell_regrown cxm
    have qcy := cell_regrown cy1m
    have qd := cell_regrown d1m
    have qg := cell_regrown ga
    refine wp_region_quiet_below (by kernel_rfl) (by kernel_rfl) ?_
    repeat (quiet_step (refine Calls.regrown_of (IH.out t.kids[k] _ _ _ _ _ (by omega) ((hv.below hBM).below (below_regrown _ _ _)) ((Tm.rdv km0 km1).below (below_regrown _ _ _)))))
    refine wpQuiet_nil ?_
    intro w5 hw5
    obtain ⟨⟨dq, osq⟩, hw5⟩ := hw5
    have hb5 : Below wr.heap.size wr w5 := hw5 ▸ below_regrown wr dq osq
    clear hw5 qk0 qk1 qcx qcy qd qg
    have hM5 := hM.trans (hb5.mono hszm)
    have hB5 := hBM.trans (hb5.mono hBM.size)
    cases ho : t.kids[k].srt s with
    | none =>
     have HF := Lib.hid (Tm.srt_kid HFIND.out hlt hlt' (by rw [ho]; simp))
     clear ho
     have hcn : ((-1 : Int) != x.args[k]) = true := by rw [bne_iff_ne]; omega
     simp only [Option.getD_none]
     go_wp2_with fail
     go_ret
     exact ⟨by rw [HF.out]; rfl, hB5⟩
    | some m =>
     have HO := Lib.hid ho
     clear ho
     simp only [Option.getD_some]
     cases hc : (m == x.args[k])
     ·have HF := Lib.hid (Tm.srt_kid HFIND.out hlt hlt' (by rw [HO.out]; simpa using hc))
      have hcn : (m != x.args[k]) = true := by rw [bne, hc]; rfl
      go_wp2_with fail
      go_ret
      exact ⟨by rw [HF.out]; rfl, hB5⟩
     ·have HE := Lib.hid (hall.out.succ hlt hlt' (by rw [HO.out]; simpa using hc))
      have hcn : (m != x.args[k]) = false := by rw [bne, hc]; rfl
      go_wp2_with fail
      go_roundw
      case rel => exact ⟨k + 1, by omega, by go_num, HE, hM5⟩
      case measure => simp [intOf]; omega
   ·have HF := Lib.hid (Tm.srt_yes HFIND.out HL.out (by omega) hall.out)
    go_wp2_with fail
    go_ret
    exact ⟨by rw [HF.out]; rfl, hBM⟩
theorem zaf (s : Sg) (t : Tm) (hbig : t.size ≤ 1000000000) (vs us : List Value) (f f' : List Nat) (w : World) (hv : RdVs w s.cd vs f) (hx : RdVs w t.cd us f') :
  Calls Tryz.prog 42 #[.agg vs.toArray, .agg us.toArray] w (SrtOut (t.tsrt s) w) := by
 obtain ⟨a0, c0, f0, rfl, _, m0⟩ := Sg.open hv
 obtain ⟨b1, e1, g1, rfl, _, t0, t1⟩ := Tm.open hx
 go_enter Tryz.func42, Tryz.ntmps42
 go_wp2_with fail
 refine (zb1 s _ _ _ (by exact hv.below (((Below.refl _ _).alloc (Nat.le_refl _) _).alloc (by simp) _))).mono ?_
 rintro e w1 ⟨rfl, hb1⟩
 obtain ⟨hxL, hyL, hzL, hBL⟩ := box2 (w := w) (wr := w1) (cs := #[.slice a0 s.syms.length c0]) (ds := #[.string t.name, .slice b1 t.kids.length e1]) (T := 25) (U := 29) (zK hb1 (by simp))
 have cx := hxL 0
 have cy0 := hyL 0
 have cy1 := hyL 1
 simp only [zeo, zem, zen] at cx cy0 cy1
 clear hxL hyL hb1
 cases h1 : s.okB
 ·have HF := Lib.hid (Tm.tsrt_no (t := t) h1)
  clear h1
  go_wp2_with fail
  go_ret2
  exact ⟨by rw [HF.out]; rfl, hBL⟩
 have H1 := Lib.hid h1
 clear h1
 go_wp2_with fail
 refine (zde t _ _ hbig (TmR.mk t0 ⟨_, t1.below hBL⟩)).mono ?_
 rintro e w2 ⟨rfl, hb2⟩
 have cx := za cx hb2
 have cy0 := za cy0 hb2
 have cy1 := za cy1 hb2
 have hB2 := hBL.trans (hb2.mono hBL.size)
 clear hb2
 cases h2 : t.wf
 ·have HF := Lib.hid (Tm.tsrt_bad (s := s) h2)
  clear h2
  go_wp2_with fail
  go_ret2
  exact ⟨by rw [HF.out]; rfl, hB2⟩
 have HF := Lib.hid (Tm.tsrt_yes H1.out h2)
 clear h2
 go_wp2_with fail
 refine (l4Of_any s H1 _ t _ _ _ _ _ (Nat.le_refl _) (hv.below hB2) (hx.below hB2)).mono ?_
 rintro e w3 ⟨rfl, hb3⟩
 cases ho : t.srt s with
 | none =>
  have HO := Lib.hid ho
  clear ho
  simp only [Option.getD_none]
  go_wp2_with fail
  go_ret2
  exact ⟨by rw [HF.out, HO.out]; rfl, hB2.trans (hb3.mono hB2.size)⟩
 | some m =>
  have hm := Tm.srt_pos H1.out ho
  have HO := Lib.hid ho
  clear ho
  simp only [Option.getD_some]
  go_wp2_with fail
  go_ret2
  exact ⟨by rw [HF.out, HO.out]; rfl, hB2.trans (hb3.mono hB2.size)⟩
end Go.Proofs.YtlefdhhnlbpbkaaGreat
end
