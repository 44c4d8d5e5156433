/- Parts of the proof: Text Sig4 Eqs AtomP. -/
import Derived.Lib.Join
import Derived.Test.YtbfinjiledfpcaaGreatPb2
import Derived.Test.YtbfinjiledfpcaaGreatPb9
import Derived.Deep.RegionHeld3
import Derived.Test.YtbfinjiledfpcaaGreatPb5
section
namespace Go.Proofs.YtbfinjiledfpcaaGreat
open Go Go.RowKit
set_option linter.unusedVariables false
set_option linter.unusedSimpArgs false
set_option maxRecDepth 100000
set_option maxHeartbeats 16000000
namespace Tm
def zaM : List (List UInt8) → List UInt8
 | [] => []
 | x :: xs => 40 :: (x ++ Lib.joinTail [44] xs)
def shut (n : Nat) : List UInt8 := if n = 0 then [] else [41]
def bs : Tm → List UInt8
 | .mk n ks => n.data.toList ++ (zaM (ks.map bs) ++ shut ks.length)
def text (t : Tm) : ByteArray := ⟨t.bs.toArray⟩
theorem ze3 (t : Tm) : t.bs = t.name.data.toList ++ (zaM (t.kids.map bs) ++ shut t.kids.length) := by cases t; rw [bs]; rfl
theorem zek (xs : List (List UInt8)) (y : List UInt8) : zaM (xs ++ [y]) = zaM xs ++ (if xs.length = 0 then 40 else 44) :: y := by
 cases xs with
 | nil => simp [zaM, Lib.joinTail]
 | cons x xs => simp [zaM, Lib.joinTail]
theorem zb0 : ∀ (xs : List (List UInt8)), (zaM xs).length = (xs.map (·.length + 1)).sum
 | [] => rfl
 | x :: xs => by
  have h : ∀ l : List (List UInt8), (Lib.joinTail [44] l).length = (l.map (·.length + 1)).sum := by
   intro l
   induction l with
   | nil => rfl
   | cons a l ih => simp [Lib.joinTail] at ih ⊢; omega
  simp [zaM, h]; omega
theorem nameB_size {n : ByteArray} (h : zax n = true) : n.size ≤ 2 := by
 simp only [zax, zfP, decide_eq_true_eq] at h; omega
mutual
theorem bs_len : ∀ (t : Tm) (d : Int), shape t d = true → (bs t).length + 1 ≤ 4 * size t
 | .mk n ks, d, h => by
  simp only [shape, zfP, decide_eq_true_eq] at h
  have h1 := bss_len ks (d - 1) h.2
  have h2 := nameB_size h.1.1.2
  have h3 : (shut ks.length).length ≤ 1 := by unfold shut; split <;> simp
  have h4 : n.data.toList.length = n.size := by rw [Array.length_toList]; rfl
  rw [ze3]
  simp only [name, kids, zfL, size]
  omega
theorem bss_len : ∀ (ts : List Tm) (d : Int), shapes ts d = true → (zaM (ts.map bs)).length ≤ 4 * sizes ts
 | [], d, _ => by simp [zaM]
 | t :: ts, d, h => by
  simp only [shapes, zfP] at h
  have h1 := bs_len t d h.1
  have h2 := bss_len ts d h.2
  rw [zb0] at h2 ⊢
  simp only [List.map_cons, List.sum_cons, sizes] at h2 ⊢
  omega
end
theorem text_size (t : Tm) : t.text.size = t.bs.length := by simp [text, ByteArray.size]
def sign (k : Nat) : ByteArray := if k = 0 then ⟨#[40]⟩ else ⟨#[44]⟩
/-- What the reference has written behind k parts. -/
def upto (t : Tm) (k : Nat) : ByteArray := ⟨(t.name.data.toList ++ zaM ((t.kids.take k).map bs)).toArray⟩
theorem zbG {a b : ByteArray} (h : a.data.toList = b.data.toList) : a = b := by
 cases a; cases b; simp only at h; congr 1; exact Array.toList_inj.1 h
theorem upto_zero (t : Tm) : t.upto 0 = t.name := zbG (by simp [upto, zaM])
theorem upto_succ (t : Tm) (k : Nat) (h : k < t.kids.length) : t.upto (k + 1) = (t.upto k ++ sign k) ++ (t.kids[k]).text := by
 refine zbG ?_
 have e : (t.kids.take (k + 1)).map bs = (t.kids.take k).map bs ++ [bs t.kids[k]] := by
  rw [zfI h, zfM]; rfl
 have e2 : ((t.kids.take k).map bs).length = k := by rw [zfO, List.length_take]; omega
 simp only [upto, e, zek, e2, text, sign]
 by_cases hk : k = 0 <;> simp [hk, ByteArray.data_append]
theorem upto_all (t : Tm) (h : 0 < t.kids.length) : t.upto t.kids.length ++ ⟨#[41]⟩ = t.text := by
 refine zbG ?_
 rw [text, ze3]
 simp [upto, shut, show t.kids.length ≠ 0 by omega, ByteArray.data_append]
theorem text_none (t : Tm) (h : t.kids.length = 0) : t.text = t.name := by
 refine zbG ?_
 have h' := List.length_eq_zero_iff.1 h
 rw [text, ze3]
 simp [h', zaM, shut]
theorem upto_size (t : Tm) (k : Nat) (d : Int) (h : shape t d = true) : (t.upto k).size ≤ 4 * t.size := by
 have h1 : (zaM ((t.kids.take k).map bs)).length ≤ (zaM (t.kids.map bs)).length := by
  rw [zb0, zb0]
  have e : t.kids.map bs = (t.kids.take k).map bs ++ (t.kids.drop k).map bs := by rw [← zfM, List.take_append_drop]
  rw [e, zfM, List.sum_append]
  omega
 have h2 := bs_len t d h
 rw [ze3] at h2
 simp only [upto, ByteArray.size, List.size_toArray, zfL] at h2 ⊢
 omega
/-- impl's join. -/
theorem text_join (t : Tm) (h : 0 < t.kids.length) : ((t.name ++ ⟨#[40]⟩) ++ ⟨(Lib.join ((t.kids.map text).map (·.data.toList)) [44]).toArray⟩) ++ ⟨#[41]⟩ = t.text := by
 refine zbG ?_
 rw [text, ze3]
 obtain ⟨x, xs, hx⟩ : ∃ x xs, t.kids = x :: xs := by cases hk : t.kids with | nil => rw [hk] at h; simp at h | cons x xs => exact ⟨x, xs, rfl⟩
 have e : (t.kids.map text).map (·.data.toList) = t.kids.map bs := by simp [text, Function.comp_def]
 rw [e, hx]
 simp [Lib.join_cons, zaM, shut, ByteArray.data_append]
theorem join_len (t : Tm) (d : Int) (h : shape t d = true) : (Lib.join ((t.kids.map text).map (·.data.toList)) [44]).length ≤ 4 * t.size := by
 have h2 := bs_len t d h
 rw [ze3] at h2
 have e : (t.kids.map text).map (·.data.toList) = t.kids.map bs := by simp [text, Function.comp_def]
 rw [e]
 cases hk : t.kids with
 | nil => simp [Lib.join_nil]
 | cons x xs =>
  rw [hk] at h2
  simp only [List.map_cons, zaM, zfL, List.length_cons] at h2
  rw [List.map_cons, Lib.join_cons, zfL]
  omega
end Tm
mutual
def Tm.srt (s : Sg) : Tm → Option Int
 | .mk n ks => match s.find n with
  | none => none
  | some x => if Tm.srts s ks x.args = true then some x.sort else none
def Tm.srts (s : Sg) : List Tm → List Int → Bool
 | [], [] => true
 | t :: ts, a :: l => (Tm.srt s t == some a) && Tm.srts s ts l
 | _, _ => false
end
theorem Tm.srts_iff (s : Sg) : ∀ (ts : List Tm) (l : List Int), Tm.srts s ts l = true ↔ ts.length = l.length ∧ ∀ k (h : k < ts.length) (h' : k < l.length), ts[k].srt s = some l[k]
 | [], [] => by simp [Tm.srts]
 | [], _ :: _ => by simp [Tm.srts]
 | _ :: _, [] => by simp [Tm.srts]
 | t :: ts, a :: l => by
  simp only [Tm.srts, zfP, beq_iff_eq, Tm.srts_iff s ts l, List.length_cons]
  constructor
  ·rintro ⟨h1, h2, h3⟩
   refine ⟨by omega, fun k h h' => ?_⟩
   cases k with
   | zero => simpa using h1
   | succ k => simpa using h3 k (by simpa using h) (by simpa using h')
  ·rintro ⟨h1, h2⟩
   exact ⟨by simpa using h2 0 (by simp) (by simp), by omega, fun k h h' => h2 (k + 1) (by simpa using h) (by simpa using h')⟩
theorem Tm.srt_eq (s : Sg) (t : Tm) : t.srt s = match s.find t.name with | none => none | some x => if Tm.srts s t.kids x.args = true then some x.sort else none := by cases t; rw [Tm.srt]; rfl
theorem Tm.srt_none {s : Sg} {t : Tm} (h : s.find t.name = none) : t.srt s = none := by rw [Tm.srt_eq, h]
theorem Tm.srt_len {s : Sg} {t : Tm} {x : Sy} (h : s.find t.name = some x) (hl : ¬ x.args.length = t.kids.length) : t.srt s = none := by
 rw [Tm.srt_eq, h]; simp only; rw [if_neg]; rw [Tm.srts_iff]; exact fun ⟨h1, _⟩ => hl h1.symm
theorem Tm.srt_kid {s : Sg} {t : Tm} {x : Sy} (h : s.find t.name = some x) {k : Nat} (h1 : k < t.kids.length) (h2 : k < x.args.length) (hne : ¬ t.kids[k].srt s = some x.args[k]) : t.srt s = none := by
 rw [Tm.srt_eq, h]; simp only; rw [if_neg]; rw [Tm.srts_iff]; exact fun ⟨_, h3⟩ => hne (h3 k h1 h2)
def SrtUpTo (s : Sg) (ts : List Tm) (l : List Int) (k : Nat) : Prop := ∀ j, j < k → ∀ (h1 : j < ts.length) (h2 : j < l.length), ts[j].srt s = some l[j]
theorem SrtUpTo.succ {s : Sg} {ts : List Tm} {l : List Int} {k : Nat} (h : SrtUpTo s ts l k) (h1 : k < ts.length) (h2 : k < l.length) (he : ts[k].srt s = some l[k]) : SrtUpTo s ts l (k + 1) := fun j hj g1 g2 => by
 rcases Nat.lt_or_ge j k with h' | h'
 ·exact h j h' g1 g2
 ·obtain rfl : j = k := by omega
  exact he
theorem Tm.srt_yes {s : Sg} {t : Tm} {x : Sy} (h : s.find t.name = some x) (hl : x.args.length = t.kids.length) {k : Nat} (hk : t.kids.length ≤ k) (hall : SrtUpTo s t.kids x.args k) : t.srt s = some x.sort := by
 rw [Tm.srt_eq, h]; simp only; rw [if_pos]; rw [Tm.srts_iff]; exact ⟨hl.symm, fun j h1 h2 => hall j (by omega) h1 h2⟩
def SrtOut (o : Option Int) (w : World) (e : Ending) (w' : World) : Prop := e = .returned (.tuple #[.int .i64 (o.getD 0), .bool o.isSome]) ∧ Below w.heap.size w w'
theorem Tm.rdv {w : World} {t : Tm} {a : Option Addr} {c : Nat} {f : List Nat} (h0 : t.name.size ≤ maxLen) (h1 : Rd w (.sl (t.kids.map Tm.cd)) (.slice a t.kids.length c) f) : RdVs w t.cd [.string t.name, .slice a t.kids.length c] f := Tm.close h0 h1
theorem ze6 (s : Sg) (n : Nat) : ∀ (t : Tm) (vs us : List Value) (f f' : List Nat) (w : World), t.size ≤ n → RdVs w s.cd vs f → RdVs w t.cd us f' →
  Calls Tryz.prog 146 #[.agg vs.toArray, .agg us.toArray] w (SrtOut (t.srt s) w) := by
 induction n with
 | zero => intro t; have := t.size_pos; omega
 | succ n ih =>
  intro t vs us f f' w hn hv hx
  have IH := Lib.hid ih
  clear ih
  obtain ⟨a0, c0, f0, rfl, _, m0⟩ := Sg.open hv
  obtain ⟨b1, e1, g1, rfl, _, t0, t1⟩ := Tm.open hx
  have hlen := zam t1
  go_enter Tryz.func146, Tryz.ntmps146
  go_wp2_with fail
  refine (ze4 s t.name _ _ _ t0 (by exact hv.below (((Below.refl _ _).alloc (Nat.le_refl _) _).alloc (by simp) _))).mono ?_
  rintro e w1 ⟨x, ok, xs, xf, rfl, hxr, hfind, hb1⟩
  obtain ⟨hxL, hyL, hzL, hBL⟩ := box2 (w := w) (wr := w1) (cs := #[.slice a0 s.syms.length c0]) (ds := #[.string t.name, .slice b1 t.kids.length e1]) (T := 25) (U := 28) (zq hb1 (by simp))
  obtain ⟨xa, xc, xg, rfl, _, q0, q1, q2⟩ := Sy.open hxr
  have cx := hxL 0
  have cy0 := hyL 0
  have cy1 := hyL 1
  simp only [zfG, zfE, zfF] at cx cy0 cy1
  clear hxL hyL
  have hlx := zam q1
  have hz0 : w.heap.size < w1.heap.size := by omega
  have hz1 : w.heap.size + 1 < w1.heap.size := by omega
  rcases hfind with ⟨rfl, hfind⟩ | ⟨rfl, hfind⟩
  rotate_left
  ·have HF := Lib.hid (Tm.srt_none hfind)
   clear hfind
   go_wp2_with fail
   go_ret2
   exact ⟨by rw [HF.out]; rfl, zas hBL (by omega)⟩
  have HFIND := Lib.hid hfind
  clear hfind
  by_cases hl : x.args.length = t.kids.length
  rotate_left
  ·have HF := Lib.hid (Tm.srt_len HFIND.out hl)
   have hne : ((x.args.length : Int) != (t.kids.length : Int)) = true := by rw [bne_iff_ne]; omega
   clear hl
   go_wp2_with fail
   go_ret2
   exact ⟨by rw [HF.out]; rfl, zas hBL (by omega)⟩
  have HL := Lib.hid hl
  have hne : ((x.args.length : Int) != (t.kids.length : Int)) = false := by rw [hl]; simp
  have hl1 : x.args.length ≤ t.kids.length := by omega
  have hl2 : t.kids.length ≤ x.args.length := by omega
  clear hl
  have n0 := zx w1 #[.string x.name, .slice xa x.args.length xc, .int .i64 x.sort] 109
  have hbw := zd w1 (.cells #[.string x.name, .slice xa x.args.length xc, .int .i64 x.sort] 109)
  have hsz : (w1.alloc (.cells #[.string x.name, .slice xa x.args.length xc, .int .i64 x.sort] 109)).heap.size = w1.heap.size + 1 := by simp
  obtain ⟨w2, hw2⟩ : ∃ w2, w2 = w1.alloc (.cells #[.string x.name, .slice xa x.args.length xc, .int .i64 x.sort] 109) := ⟨_, rfl⟩
  go_wp2_with fail
  rw [← hw2] at n0 hbw hsz ⊢
  clear hw2
  have d1 := n0 1
  have d2 := n0 2
  simp only [zfG, zfE, zfF] at d1 d2
  clear n0
  have cx := zb cx hbw
  have cy1 := zb cy1 hbw
  have q1 := q1.below hbw
  have hB2 := hBL.trans (hbw.mono (by omega))
  clear hbw
  go_loopw [33] (fun i wq => ∃ k : Nat, k ≤ t.kids.length ∧ i = .int .i64 k ∧ Hid (SrtUpTo s t.kids x.args k) ∧ Below w2.heap.size w2 wq) (fun i _ => t.kids.length - (intOf i).toNat)
  case atStart => exact ⟨0, Nat.zero_le _, rfl, Lib.hid (fun j hj => by omega), Below.refl _ _⟩
  case round =>
   obtain ⟨k, hkl, rfl, hall, hM⟩ := hrel
   have hszm := hM.size
   have cxm := zb cx hM
   have d1m := zb d1 hM
   have d2m := zb d2 hM
   have hBM := hB2.trans (hM.mono (by omega))
   by_cases hlt : k < t.kids.length
   ·have hlt' : k < x.args.length := by omega
    obtain ⟨b, off, rfl, hbs, _⟩ := zr t1 (by omega)
    have q1m := q1.below hM
    obtain ⟨xb, xo, rfl, hxs, _⟩ := zr q1m (by omega)
    obtain ⟨ka, kc, kf, k0, k1, km0, km1, _⟩ := Tm.at (t1.below hBM) hlt
    obtain ⟨ga, _⟩ := zap q1m hlt'
    have hkn := Tm.size_kid hlt
    have hbz : b < wr.heap.size := by omega
    have hz2 : w1.heap.size < wr.heap.size := by omega
    have hz3 : w.heap.size < wr.heap.size := by omega
    have hbk := zd wr (.cells #[.string t.kids[k].name, .slice ka t.kids[k].kids.length kc] 28)
    go_wp2_with fail
    refine (IH.out t.kids[k] _ _ _ _ _ (by omega) (by exact hv.below (hBM.trans (hbk.mono hBM.size))) (by exact (Tm.rdv km0 km1).below hbk)).mono ?_
    rintro e w4 ⟨rfl, hb4⟩
    have hb5 := hbk.trans (hb4.mono hbk.size)
    have hM5 := hM.trans (hb5.mono hszm)
    have hB5 := hBM.trans (hb5.mono hBM.size)
    have cx5 := zb cxm hb5
    have d15 := zb d1m hb5
    have d25 := zb d2m hb5
    have ga5 := zb ga hb5
    clear hb4 hbk
    cases ho : t.kids[k].srt s with
    | none =>
     have HF := Lib.hid (Tm.srt_kid HFIND.out hlt hlt' (by rw [ho]; simp))
     clear ho
     simp only [Option.getD_none, Option.isSome_none]
     go_wp2_with fail
     go_ret2
     exact ⟨by rw [HF.out]; rfl, hB5⟩
    | some m =>
     have HO := Lib.hid ho
     clear ho
     simp only [Option.getD_some, Option.isSome_some]
     cases hc : (m == x.args[k])
     ·have HF := Lib.hid (Tm.srt_kid HFIND.out hlt hlt' (by rw [HO.out]; simpa using hc))
      have hcn : (m != x.args[k]) = true := by rw [bne, hc]; rfl
      go_wp2_with fail
      go_ret2
      exact ⟨by rw [HF.out]; rfl, hB5⟩
     ·have HE := Lib.hid (hall.out.succ hlt hlt' (by rw [HO.out]; simpa using hc))
      have hcn : (m != x.args[k]) = false := by rw [bne, hc]; rfl
      go_wp2_with fail
      go_roundw
      case rel => exact ⟨k + 1, by omega, by go_num, HE, hM5⟩
      case measure => simp [intOf]; omega
   ·have HF := Lib.hid (Tm.srt_yes HFIND.out HL.out (by omega) hall.out)
    go_wp2_with fail
    go_ret2
    exact ⟨by rw [HF.out]; rfl, hBM⟩
def Tm.tsrt (s : Sg) (t : Tm) : Option Int := if s.okB = true ∧ t.wf = true then t.srt s else none
theorem Tm.tsrt_no {s : Sg} {t : Tm} (h : s.okB = false) : t.tsrt s = none := by unfold Tm.tsrt; rw [if_neg]; rintro ⟨h1, _⟩; rw [h] at h1; simp at h1
theorem Tm.tsrt_bad {s : Sg} {t : Tm} (h : t.wf = false) : t.tsrt s = none := by unfold Tm.tsrt; rw [if_neg]; rintro ⟨_, h1⟩; rw [h] at h1; simp at h1
theorem Tm.tsrt_yes {s : Sg} {t : Tm} (h : s.okB = true) (h' : t.wf = true) : t.tsrt s = t.srt s := if_pos ⟨h, h'⟩
theorem zbf (s : Sg) (t : Tm) (vs us : List Value) (f f' : List Nat) (w : World) (hv : RdVs w s.cd vs f) (hx : RdVs w t.cd us f') :
  Calls Tryz.prog 132 #[.agg vs.toArray, .agg us.toArray] w (SrtOut (t.tsrt s) w) := by
 obtain ⟨a0, c0, f0, rfl, _, m0⟩ := Sg.open hv
 obtain ⟨b1, e1, g1, rfl, _, t0, t1⟩ := Tm.open hx
 go_enter Tryz.func132, Tryz.ntmps132
 go_wp2_with fail
 refine (zbJ s _ _ _ (by exact hv.below (((Below.refl _ _).alloc (Nat.le_refl _) _).alloc (by simp) _))).mono ?_
 rintro e w1 ⟨rfl, hb1⟩
 obtain ⟨hxL, hyL, hzL, hBL⟩ := box2 (w := w) (wr := w1) (cs := #[.slice a0 s.syms.length c0]) (ds := #[.string t.name, .slice b1 t.kids.length e1]) (T := 25) (U := 28) (zq hb1 (by simp))
 have cx := hxL 0
 have cy0 := hyL 0
 have cy1 := hyL 1
 simp only [zfG, zfE, zfF] at cx cy0 cy1
 clear hxL hyL hb1
 cases h1 : s.okB
 ·have HF := Lib.hid (Tm.tsrt_no (t := t) h1)
  clear h1
  go_wp2_with fail
  go_ret2
  exact ⟨by rw [HF.out]; rfl, hBL⟩
 have H1 := Lib.hid h1
 clear h1
 go_wp2_with fail
 refine (zae t _ _ (TmR.mk t0 ⟨_, t1.below hBL⟩)).mono ?_
 rintro e w2 ⟨rfl, hb2⟩
 have cx := zb cx hb2
 have cy0 := zb cy0 hb2
 have cy1 := zb cy1 hb2
 have hB2 := hBL.trans (hb2.mono hBL.size)
 clear hb2
 cases h2 : t.wf
 ·have HF := Lib.hid (Tm.tsrt_bad (s := s) h2)
  clear h2
  go_wp2_with fail
  go_ret2
  exact ⟨by rw [HF.out]; rfl, hB2⟩
 have HF := Lib.hid (Tm.tsrt_yes H1.out h2)
 clear h2
 go_wp2_with fail
 refine (ze6 s _ t _ _ _ _ _ (Nat.le_refl _) (hv.below hB2) (hx.below hB2)).mono ?_
 rintro e w3 ⟨rfl, hb3⟩
 go_wp2_with fail
 go_ret2
 exact ⟨by rw [HF.out]; rfl, hB2.trans (hb3.mono hB2.size)⟩
theorem Sg.okB_mem {s : Sg} (h : s.okB = true) {x : Sy} (hx : x ∈ s.syms) : x.okB = true := by
 obtain ⟨k, hk, rfl⟩ := List.getElem_of_mem hx
 unfold Sg.okB at h
 rw [zfP, List.all_eq_true] at h
 have h1 := h.1 k (List.mem_range.2 hk)
 cases he : s.syms[k].okB with
 | true => rfl
 | false => rw [Sg.okAt_bad hk he] at h1; simp at h1
theorem Sg.find_okB {s : Sg} (h : s.okB = true) {n : ByteArray} {x : Sy} (hx : s.find n = some x) : x.okB = true := Sg.okB_mem h (List.mem_of_find?_eq_some hx)
theorem zeM {n : Int} (h : srtB n = true) : 0 ≤ n := by simp [srtB] at h; omega
theorem Sy.args_pos {x : Sy} (h : x.okB = true) {k : Nat} (hk : k < x.args.length) : 0 ≤ x.args[k] := by
 simp only [Sy.okB, zfP, List.all_eq_true] at h
 exact zeM (h.2.2.2 _ (zfK hk))
theorem Sy.sort_pos {x : Sy} (h : x.okB = true) : 0 ≤ x.sort := by
 simp only [Sy.okB, zfP] at h
 exact zeM h.2.2.1
theorem Tm.srt_pos {s : Sg} (h : s.okB = true) {t : Tm} {m : Int} (hm : t.srt s = some m) : 0 ≤ m := by
 rw [Tm.srt_eq] at hm
 split at hm
 ·simp at hm
 ·rename_i x hx
  split at hm
  ·obtain rfl := Option.some.inj hm; exact Sy.sort_pos (Sg.find_okB h hx)
  ·simp at hm
def OfOut (o : Option Int) (w : World) (e : Ending) (w' : World) : Prop := e = .returned (.int .i64 (o.getD (-1))) ∧ Below w.heap.size w w'
theorem zbK (s : Sg) (hok : Hid (s.okB = true)) (n : Nat) : ∀ (t : Tm) (vs us : List Value) (f f' : List Nat) (w : World), t.size ≤ n → RdVs w s.cd vs f → RdVs w t.cd us f' →
  Calls Tryz.prog 140 #[.agg vs.toArray, .agg us.toArray] w (OfOut (t.srt s) w) := by
 induction n with
 | zero => intro t; have := t.size_pos; omega
 | succ n ih =>
  intro t vs us f f' w hn hv hx
  have IH := Lib.hid ih
  clear ih
  obtain ⟨a0, c0, f0, rfl, _, m0⟩ := Sg.open hv
  obtain ⟨b1, e1, g1, rfl, _, t0, t1⟩ := Tm.open hx
  have hlen := zam t1
  go_enter Tryz.func140, Tryz.ntmps140
  go_wp2_with fail
  refine (ze5 s t.name _ _ _ t0 (by exact hv.below (((Below.refl _ _).alloc (Nat.le_refl _) _).alloc (by simp) _))).mono ?_
  rintro e w1 ⟨x, ok, xs, xf, rfl, hxr, hfind, hb1⟩
  obtain ⟨hxL, hyL, hzL, hBL⟩ := box2 (w := w) (wr := w1) (cs := #[.slice a0 s.syms.length c0]) (ds := #[.string t.name, .slice b1 t.kids.length e1]) (T := 25) (U := 28) (zq hb1 (by simp))
  obtain ⟨xa, xc, xg, rfl, _, q0, q1, q2⟩ := Sy.open hxr
  have cx := hxL 0
  have cy0 := hyL 0
  have cy1 := hyL 1
  simp only [zfG, zfE, zfF] at cx cy0 cy1
  clear hxL hyL
  have hlx := zam q1
  have hz0 : w.heap.size < w1.heap.size := by omega
  have hz1 : w.heap.size + 1 < w1.heap.size := by omega
  rcases hfind with ⟨rfl, hfind⟩ | ⟨rfl, hfind⟩
  rotate_left
  ·have HF := Lib.hid (Tm.srt_none hfind)
   clear hfind
   go_wp2_with fail
   go_ret
   exact ⟨by rw [HF.out]; rfl, zas hBL (by omega)⟩
  have HFIND := Lib.hid hfind
  clear hfind
  by_cases hl : x.args.length = t.kids.length
  rotate_left
  ·have HF := Lib.hid (Tm.srt_len HFIND.out hl)
   have hne : ((x.args.length : Int) != (t.kids.length : Int)) = true := by rw [bne_iff_ne]; omega
   clear hl
   go_wp2_with fail
   go_ret
   exact ⟨by rw [HF.out]; rfl, zas hBL (by omega)⟩
  have HL := Lib.hid hl
  have hne : ((x.args.length : Int) != (t.kids.length : Int)) = false := by rw [hl]; simp
  have hl1 : x.args.length ≤ t.kids.length := by omega
  have hl2 : t.kids.length ≤ x.args.length := by omega
  clear hl
  have n0 := zx w1 #[.string x.name, .slice xa x.args.length xc, .int .i64 x.sort] 109
  have hbw := zd w1 (.cells #[.string x.name, .slice xa x.args.length xc, .int .i64 x.sort] 109)
  have hsz : (w1.alloc (.cells #[.string x.name, .slice xa x.args.length xc, .int .i64 x.sort] 109)).heap.size = w1.heap.size + 1 := by simp
  obtain ⟨w2, hw2⟩ : ∃ w2, w2 = w1.alloc (.cells #[.string x.name, .slice xa x.args.length xc, .int .i64 x.sort] 109) := ⟨_, rfl⟩
  go_wp2_with fail
  rw [← hw2] at n0 hbw hsz ⊢
  clear hw2
  have d1 := n0 1
  have d2 := n0 2
  simp only [zfG, zfE, zfF] at d1 d2
  clear n0
  have cx := zb cx hbw
  have cy1 := zb cy1 hbw
  have q1 := q1.below hbw
  have hB2 := hBL.trans (hbw.mono (by omega))
  clear hbw
  go_loopw [7] (fun i wq => ∃ k : Nat, k ≤ t.kids.length ∧ i = .int .i64 k ∧ Hid (SrtUpTo s t.kids x.args k) ∧ Below w2.heap.size w2 wq) (fun i _ => t.kids.length - (intOf i).toNat)
  case atStart => exact ⟨0, Nat.zero_le _, rfl, Lib.hid (fun j hj => by omega), Below.refl _ _⟩
  case round =>
   obtain ⟨k, hkl, rfl, hall, hM⟩ := hrel
   have hszm := hM.size
   have cxm := zb cx hM
   have cy1m := zb cy1 hM
   have d1m := zb d1 hM
   have d2m := zb d2 hM
   have hBM := hB2.trans (hM.mono (by omega))
   by_cases hlt : k < t.kids.length
   ·have hlt' : k < x.args.length := by omega
    obtain ⟨b, off, rfl, hbs, _⟩ := zr t1 (by omega)
    have q1m := q1.below hM
    obtain ⟨xb, xo, rfl, hxs, _⟩ := zr q1m (by omega)
    obtain ⟨ka, kc, kf, k0, k1, km0, km1, _⟩ := Tm.at (t1.below hBM) hlt
    obtain ⟨ga, _⟩ := zap q1m hlt'
    have hkn := Tm.size_kid hlt
    have hbz : b < wr.heap.size := by omega
    have hz2 : w1.heap.size < wr.heap.size := by omega
    have hz3 : w.heap.size < wr.heap.size := by omega
    have hpos := Sy.args_pos (Sg.find_okB hok.out HFIND.out) hlt'
    go_wp2_with fail
    have qk0 := cell_regrown k0
    have qk1 := cell_regrown k1
    have qcx := cell_regrown cxm
    have qcy := cell_regrown cy1m
    have qd := cell_regrown d1m
    have qg := cell_regrown ga
    refine wp_region_quiet_below (by kernel_rfl) (by kernel_rfl) ?_
    repeat (quiet_step (refine Calls.regrown_of (IH.out t.kids[k] _ _ _ _ _ (by omega) ((hv.below hBM).below (below_regrown _ _ _)) ((Tm.rdv km0 km1).below (below_regrown _ _ _)))))
    refine wpQuiet_nil ?_
    intro w5 hw5
    obtain ⟨⟨dq, osq⟩, hw5⟩ := hw5
    have hb5 : Below wr.heap.size wr w5 := hw5 ▸ below_regrown wr dq osq
    clear hw5 qk0 qk1 qcx qcy qd qg
    have hM5 := hM.trans (hb5.mono hszm)
    have hB5 := hBM.trans (hb5.mono hBM.size)
    cases ho : t.kids[k].srt s with
    | none =>
     have HF := Lib.hid (Tm.srt_kid HFIND.out hlt hlt' (by rw [ho]; simp))
     clear ho
     have hcn : ((-1 : Int) != x.args[k]) = true := by rw [bne_iff_ne]; omega
     simp only [Option.getD_none]
     go_wp2_with fail
     go_ret
     exact ⟨by rw [HF.out]; rfl, hB5⟩
    | some m =>
     have HO := Lib.hid ho
     clear ho
     simp only [Option.getD_some]
     cases hc : (m == x.args[k])
     ·have HF := Lib.hid (Tm.srt_kid HFIND.out hlt hlt' (by rw [HO.out]; simpa using hc))
      have hcn : (m != x.args[k]) = true := by rw [bne, hc]; rfl
      go_wp2_with fail
      go_ret
      exact ⟨by rw [HF.out]; rfl, hB5⟩
     ·have HE := Lib.hid (hall.out.succ hlt hlt' (by rw [HO.out]; simpa using hc))
      have hcn : (m != x.args[k]) = false := by rw [bne, hc]; rfl
      go_wp2_with fail
      go_roundw
      case rel => exact ⟨k + 1, by omega, by go_num, HE, hM5⟩
      case measure => simp [intOf]; omega
   ·have HF := Lib.hid (Tm.srt_yes HFIND.out HL.out (by omega) hall.out)
    go_wp2_with fail
    go_ret
    exact ⟨by rw [HF.out]; rfl, hBM⟩
def Eqn.okB (s : Sg) (e : Eqn) : Bool := match e.a.tsrt s, e.b.tsrt s with | some m, some n => m == n | _, _ => false
theorem Eqn.okB_a {s : Sg} {e : Eqn} (h : e.a.tsrt s = none) : e.okB s = false := by simp [Eqn.okB, h]
theorem Eqn.okB_b {s : Sg} {e : Eqn} (h : e.b.tsrt s = none) : e.okB s = false := by unfold Eqn.okB; rw [h]; split <;> simp_all
theorem Eqn.okB_ab {s : Sg} {e : Eqn} {m n : Int} (h : e.a.tsrt s = some m) (h' : e.b.tsrt s = some n) : e.okB s = (m == n) := by simp [Eqn.okB, h, h']
theorem ze7 (s : Sg) (q : Eqn) (us vs : List Value) (f f' : List Nat) (w : World) (hx : RdVs w q.cd us f') (hv : RdVs w s.cd vs f) :
  Calls Tryz.prog 89 #[.agg us.toArray, .agg vs.toArray] w fun e w' => e = .returned (.bool (q.okB s)) ∧ Below w.heap.size w w' := by
 obtain ⟨a0, c0, f0, rfl, _, m0⟩ := Sg.open hv
 obtain ⟨b1, e1, g1, b3, e3, g3, rfl, _, t0, t1, t2, t3⟩ := Eqn.open hx
 go_enter Tryz.func89, Tryz.ntmps89
 go_wp2_with fail
 refine (zbf s q.a _ _ _ _ _ (by exact hv.below (((Below.refl _ _).alloc (Nat.le_refl _) _).alloc (by simp) _)) (by exact (Tm.rdv t0 t1).below (((Below.refl _ _).alloc (Nat.le_refl _) _).alloc (by simp) _))).mono ?_
 rintro e w1 ⟨rfl, hb1⟩
 obtain ⟨hxL, hyL, hzL, hBL⟩ := box2 (w := w) (wr := w1) (cs := #[.string q.a.name, .slice b1 q.a.kids.length e1, .string q.b.name, .slice b3 q.b.kids.length e3]) (ds := #[.slice a0 s.syms.length c0]) (T := 112) (U := 25) (zq hb1 (by simp))
 have cx2 := hxL 2
 have cx3 := hxL 3
 have cy0 := hyL 0
 simp only [zfG, zfE, zfF] at cx2 cx3 cy0
 clear hxL hyL hb1
 have H1 : Hid (∃ o, q.a.tsrt s = o) := Lib.hid ⟨_, rfl⟩
 obtain ⟨o1, ho1⟩ := H1.out
 have HO1 := Lib.hid ho1
 rw [ho1]
 clear ho1 H1
 go_wp2_with fail
 refine (zbf s q.b _ _ _ _ _ (hv.below hBL) ((Tm.rdv t2 t3).below hBL)).mono ?_
 rintro e w2 ⟨rfl, hb2⟩
 have hB2 := hBL.trans (hb2.mono hBL.size)
 clear hb2
 cases o1 with
 | none =>
  have HF := Lib.hid (Eqn.okB_a HO1.out)
  simp only [Option.getD_none, Option.isSome_none]
  go_wp2_with fail
  go_ret
  exact ⟨retB HF.out.symm, hB2⟩
 | some m =>
  simp only [Option.getD_some, Option.isSome_some]
  cases ho2 : q.b.tsrt s with
  | none =>
   have HF := Lib.hid (Eqn.okB_b ho2)
   clear ho2
   simp only [Option.getD_none, Option.isSome_none]
   go_wp2_with fail
   go_ret
   exact ⟨retB HF.out.symm, hB2⟩
  | some n =>
   have HF := Lib.hid (Eqn.okB_ab HO1.out ho2)
   clear ho2
   simp only [Option.getD_some, Option.isSome_some]
   go_wp2_with fail
   go_ret
   exact ⟨retB (by rw [HF.out]; try rfl), hB2⟩
def Tm.noneB (t : Tm) : Bool := t.name.toList == [] && ((t.kids.length : Int) == 0)
def Atm.prevB (x : Atm) (t : Tm) : Nat → Bool
 | 0 => true
 | j + 1 => (match x.nums[j]? with | none => true | some u => nmLt u.text t.text)
def Atm.numAt (x : Atm) (k : Nat) : Bool :=
 match x.nums[k]?, x.times[k]? with
 | some t, some n => t.wf && ((decide ((-50 : Int) ≤ n) && decide (n ≤ 50)) && ((n != 0) && x.prevB t k))
 | _, _ => true
def Atm.eqB (x : Atm) : Bool := x.a.wf && (x.b.wf && ((x.nums.length : Int) == 0 && ((x.times.length : Int) == 0 && (x.bound == 0 && !x.strict))))
def Atm.hdB (x : Atm) : Bool := x.a.noneB && (x.b.noneB && (decide (x.nums.length = x.times.length) && ((decide (1 ≤ x.nums.length) && decide (x.nums.length ≤ 4)) && (decide (-1000 ≤ x.bound) && decide (x.bound ≤ 1000)))))
def Atm.sumB (x : Atm) : Bool := x.hdB && (List.range x.nums.length).all x.numAt
def Atm.okB (x : Atm) : Bool := if x.kind = 1 then x.eqB else if x.kind = 2 then x.sumB else false
theorem Atm.okB_eq {x : Atm} (h : x.kind = 1) : x.okB = x.eqB := if_pos h
theorem Atm.okB_sum {x : Atm} (h : x.kind = 2) : x.okB = x.sumB := by rw [Atm.okB, if_neg (by omega), if_pos h]
theorem Atm.okB_no {x : Atm} (h1 : ¬ x.kind = 1) (h2 : ¬ x.kind = 2) : x.okB = false := by rw [Atm.okB, if_neg h1, if_neg h2]
theorem Atm.sumB_hd {x : Atm} (h : x.hdB = false) : x.sumB = false := by simp [Atm.sumB, h]
theorem Atm.sumB_no {x : Atm} {k : Nat} (hk : k < x.nums.length) (h : x.numAt k = false) : x.sumB = false := by
 have : (List.range x.nums.length).all x.numAt = false := by rw [List.all_eq_false]; exact ⟨k, by simpa using hk, by simp [h]⟩
 simp [Atm.sumB, this]
def Atm.upto (x : Atm) (k : Nat) : Prop := ∀ j, j < k → x.numAt j = true
theorem Atm.upto_zero (x : Atm) : x.upto 0 := fun j h => by omega
theorem Atm.upto_succ {x : Atm} {k : Nat} (h : x.upto k) (h' : x.numAt k = true) : x.upto (k + 1) := fun j hj => by
 rcases Nat.lt_or_ge j k with h1 | h1
 ·exact h j h1
 ·obtain rfl : j = k := by omega
  exact h'
theorem Atm.sumB_all {x : Atm} {k : Nat} (hd : x.hdB = true) (hk : x.nums.length ≤ k) (h : x.upto k) : x.sumB = true := by
 have : (List.range x.nums.length).all x.numAt = true := by rw [List.all_eq_true]; intro j hj; exact h j (by have := List.mem_range.1 hj; omega)
 simp [Atm.sumB, this, hd]
theorem Atm.num_eq {x : Atm} {k : Nat} (h : k < x.nums.length) (h' : k < x.times.length) : x.numAt k = (x.nums[k].wf && ((decide ((-50 : Int) ≤ x.times[k]) && decide (x.times[k] ≤ 50)) && ((x.times[k] != 0) && x.prevB x.nums[k] k))) := by
 simp only [Atm.numAt, List.getElem?_eq_getElem h, List.getElem?_eq_getElem h']
theorem Atm.num_wf {x : Atm} {k : Nat} (h : k < x.nums.length) (h' : k < x.times.length) (e : x.nums[k].wf = false) : x.numAt k = false := by rw [Atm.num_eq h h', e]; rfl
theorem Atm.num_in {x : Atm} {k : Nat} (h : k < x.nums.length) (h' : k < x.times.length) (e : (decide ((-50 : Int) ≤ x.times[k]) && decide (x.times[k] ≤ 50)) = false) : x.numAt k = false := by rw [Atm.num_eq h h', e]; simp
theorem Atm.num_nil {x : Atm} {k : Nat} (h : k < x.nums.length) (h' : k < x.times.length) (e : (x.times[k] == 0) = true) : x.numAt k = false := by rw [Atm.num_eq h h', bne, e]; simp
theorem Atm.num_first {x : Atm} {k : Nat} (hk : k = 0) (h : k < x.nums.length) (h' : k < x.times.length) (e1 : x.nums[k].wf = true) (e2 : (decide ((-50 : Int) ≤ x.times[k]) && decide (x.times[k] ≤ 50)) = true) (e3 : (x.times[k] == 0) = false) : x.numAt k = true := by
 rw [Atm.num_eq h h', e1, e2, bne, e3]
 subst hk; rfl
theorem Atm.num_next {x : Atm} {k j : Nat} (hk : k = j + 1) (hj : j < x.nums.length) (h : k < x.nums.length) (h' : k < x.times.length) (e1 : x.nums[k].wf = true) (e2 : (decide ((-50 : Int) ≤ x.times[k]) && decide (x.times[k] ≤ 50)) = true) (e3 : (x.times[k] == 0) = false) : x.numAt k = nmLt x.nums[j].text x.nums[k].text := by
 rw [Atm.num_eq h h', e1, e2, bne, e3]
 subst hk
 simp only [Atm.prevB, List.getElem?_eq_getElem hj]
 simp
theorem Atm.upto_wf {x : Atm} {k j : Nat} (h : x.upto k) (hl : x.nums.length = x.times.length) (hj : j < k) (hn : j < x.nums.length) : x.nums[j].wf = true := by
 have h1 := h j hj
 rw [Atm.num_eq hn (by omega)] at h1
 simp only [zfP] at h1
 exact h1.1
theorem Atm.sum_wf {x : Atm} (h : x.sumB = true) : ∀ t ∈ x.nums, t.wf = true := by
 intro t ht
 simp only [Atm.sumB, Atm.hdB, zfP, decide_eq_true_eq, List.all_eq_true] at h
 obtain ⟨j, hj, rfl⟩ := List.getElem_of_mem ht
 have h1 := h.2 j (by simpa using hj)
 rw [Atm.num_eq hj (by omega)] at h1
 simp only [zfP] at h1
 exact h1.1
/-- The terms of an atom. -/
def Atm.tms (x : Atm) : List Tm := if x.kind = 1 then [x.a, x.b] else x.nums
theorem Atm.tms_wf {x : Atm} (h : x.okB = true) : ∀ t ∈ x.tms, t.wf = true := by
 intro t ht
 by_cases h1 : x.kind = 1
 ·rw [Atm.okB_eq h1] at h
  simp only [Atm.tms, h1, if_true, zfN, List.not_mem_nil, or_false] at ht
  simp only [Atm.eqB, zfP] at h
  rcases ht with rfl | rfl
  ·exact h.1
  ·exact h.2.1
 ·by_cases h2 : x.kind = 2
  ·rw [Atm.okB_sum h2] at h
   rw [Atm.tms, if_neg h1] at ht
   exact Atm.sum_wf h t ht
  ·rw [Atm.okB_no h1 h2] at h; simp at h
def Lt.tms (x : Lt) : List Tm := if x.atom.okB = true then x.atom.tms else []
end Go.Proofs.YtbfinjiledfpcaaGreat
end
