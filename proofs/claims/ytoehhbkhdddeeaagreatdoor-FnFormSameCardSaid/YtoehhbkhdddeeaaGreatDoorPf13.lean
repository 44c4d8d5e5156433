/- Parts of the proof: Sig3 Sig4. -/
import Derived.Test.YtoehhbkhdddeeaaGreatDoorPf12
import Derived.Test.YtoehhbkhdddeeaaGreatDoorPf8
section
namespace Go.Proofs.YtoehhbkhdddeeaaGreatDoor
open Go Go.RowKit
set_option linter.unusedVariables false
set_option linter.unusedSimpArgs false
set_option maxRecDepth 100000
set_option maxHeartbeats 16000000
def Sg.find (s : Sg) (n : ByteArray) : Option Sy := s.syms.find? (fun x => decide (x.name = n))
def FindOut (s : Sg) (n : ByteArray) (w : World) (e : Ending) (w' : World) : Prop :=
 ∃ (x : Sy) (ok : Bool) (vs : List Value) (fp : List Nat), e = .returned (.tuple #[.agg vs.toArray, .bool ok]) ∧ RdVs w' x.cd vs fp ∧ ((ok = true ∧ s.find n = some x) ∨ (ok = false ∧ s.find n = none)) ∧ Below w.heap.size w w'
def NotYet (s : Sg) (n : ByteArray) (k : Nat) : Prop := ∀ x ∈ s.syms.take k, ¬ x.name = n
theorem NotYet.succ {s : Sg} {n : ByteArray} {k : Nat} (h : NotYet s n k) (hk : k < s.syms.length) (h' : ¬ s.syms[k].name = n) : NotYet s n (k + 1) := by
 intro x hx; rw [zdR hk] at hx
 rcases zdS.1 hx with h1 | h1
 ·exact h x h1
 ·obtain rfl := List.mem_singleton.1 h1; exact h'
theorem NotYet.found {s : Sg} {n : ByteArray} {k : Nat} (h : NotYet s n k) (hk : k < s.syms.length) (h' : s.syms[k].name = n) : s.find n = some s.syms[k] := by
 have e : s.syms = s.syms.take k ++ s.syms[k] :: s.syms.drop (k + 1) := by rw [← List.drop_eq_getElem_cons hk, List.take_append_drop]
 have h2 : ∀ l : List Sy, l = s.syms.take k ++ s.syms[k] :: s.syms.drop (k + 1) → l.find? (fun x => decide (x.name = n)) = some s.syms[k] := by
  intro l hl
  rw [hl, List.find?_append, List.find?_eq_none.2 (fun x hx => by simpa using h x hx)]
  simp only [Option.none_or, List.find?_cons, h', decide_true]
 exact h2 _ e
theorem NotYet.all {s : Sg} {n : ByteArray} {k : Nat} (h : NotYet s n k) (hk : s.syms.length ≤ k) : s.find n = none := by
 unfold NotYet at h; rw [List.take_of_length_le hk] at h
 exact List.find?_eq_none.2 (fun x hx => by simpa using h x hx)
def Sy.zero : Sy := ⟨⟨#[]⟩, [], 0⟩
theorem Sy.zero_rd (w : World) : RdVs w Sy.zero.cd [.string ⟨#[]⟩, .slice none 0 0, .int .i64 0] [] :=
 Sy.close (x := Sy.zero) (a1 := none) (c1 := 0) (Nat.zero_le _) (by simp only [Sy.zero, List.map_nil, Rd]; exact ⟨none, 0, rfl, by simp, by simp [maxLen], by simp⟩) (by unfold I64 Sy.zero; exact ⟨by decide, by decide⟩)
theorem zdq (s : Sg) (n : ByteArray) (vs : List Value) (f : List Nat) (w : World) (hn : n.size ≤ maxLen) (hv : RdVs w s.cd vs f) :
  Calls Tryz.prog 89 #[.agg vs.toArray, .string n] w (FindOut s n w) := by
 obtain ⟨a0, c0, f0, rfl, _, m0⟩ := Sg.open hv
 have hlen := zaj m0
 go_enter Tryz.func89, Tryz.ntmps89
 go_wp2_with fail
 go_loopw [6] (fun i wq => ∃ k : Nat, k ≤ s.syms.length ∧ i = .int .i64 k ∧ Hid (NotYet s n k) ∧ Below (w.heap.size + 1 + 1) ((w.alloc (.cells #[.slice a0 s.syms.length c0] 43)).alloc (.cells #[.string ⟨#[]⟩, .slice none 0 0, .int .i64 0] 70)) wq) (fun i _ => s.syms.length - (intOf i).toNat)
 case atStart => exact ⟨0, Nat.zero_le _, rfl, Lib.hid (fun x hx => by simp at hx), Below.refl _ _⟩
 case round =>
  obtain ⟨k, hkl, rfl, hall, hL⟩ := hrel
  obtain ⟨hxL, hyL, hzL, hBL⟩ := box2 hL
  have hfy := fun j => (zH hL j).2
  have cx := hxL 0
  simp only [zdP, zdN, zdO] at cx
  by_cases hlt : k < s.syms.length
  ·obtain ⟨b, off, rfl, hbs, _⟩ := zl m0 (by omega)
   have hbz2 : b < wr.heap.size := by omega
   have hz0 : w.heap.size < wr.heap.size := by omega
   have hz1 : w.heap.size + 1 < wr.heap.size := by omega
   obtain ⟨ea1, ec1, ef1, d0', d1', d2', em0, em1, em2, _⟩ := Sy.at m0 hlt
   have d0 := zb d0' hBL
   have d1 := zb d1' hBL
   have d2 := zb d2' hBL
   by_cases hnm : s.syms[k].name.toList = n.toList
   ·have HF := Lib.hid (hall.out.found hlt (zaB.1 hnm))
    have hres := zaq (b := w.heap.size + 1) [(0, .string s.syms[k].name), (1, .slice ea1 s.syms[k].args.length ec1), (2, .int .i64 s.syms[k].sort)] hyL (by simp)
    simp only [zi, zbL, zdL, zdM] at hres
    have hf0 := hfy 0
    have hf1 := hfy 1
    have hf2 := hfy 2
    have y0 := hyL 0
    have y1 := hyL 1
    have y2 := hyL 2
    simp only [zdP, zdN, zdO] at y0 y1 y2
    clear hyL hfy
    go_wp2_with fail
    refine bodyPost_ret (v := .tuple #[.agg #[.string s.syms[k].name, .slice ea1 s.syms[k].args.length ec1, .int .i64 s.syms[k].sort], .bool true]) (by simp [results, Tryz.results89, go_sem, hres]) rfl ?_
    have hBF := ((hBL.setCell (p := ⟨w.heap.size + 1, 0, none⟩) (by simp) (.string s.syms[k].name)).setCell (p := ⟨w.heap.size + 1, 1, none⟩) (by simp) (.slice ea1 s.syms[k].args.length ec1)).setCell (p := ⟨w.heap.size + 1, 2, none⟩) (by simp) (.int .i64 s.syms[k].sort)
    exact ⟨s.syms[k], true, _, _, rfl, (Sy.close em0 em1 em2).below hBF, .inl ⟨rfl, HF.out⟩, hBF⟩
   ·have HN := Lib.hid (hall.out.succ hlt (fun h => hnm (zaB.2 h)))
    have hnb : (s.syms[k].name.toList == n.toList) = false := by simpa using hnm
    go_wp2_with fail
    go_roundw
    case rel => exact ⟨k + 1, by omega, by go_num, HN, hL⟩
    case measure => simp [intOf]; omega
  ·have HF := Lib.hid (hall.out.all (by omega))
   have hres := zaq (b := w.heap.size + 1) [(0, .string ⟨#[]⟩), (1, .slice none 0 0), (2, .int .i64 0)] hyL (by simp)
   simp only [zi, zbL, zdL, zdM] at hres
   have hf0 := hfy 0
   have hf1 := hfy 1
   have hf2 := hfy 2
   go_wp2_with fail
   refine bodyPost_ret (v := .tuple #[.agg #[.string ⟨#[]⟩, .slice none 0 0, .int .i64 0], .bool false]) (by simp [results, Tryz.results89, go_sem, hres]) rfl ?_
   have hBF := ((hBL.setCell (p := ⟨w.heap.size + 1, 0, none⟩) (by simp) (.string ⟨#[]⟩)).setCell (p := ⟨w.heap.size + 1, 1, none⟩) (by simp) (.slice none 0 0)).setCell (p := ⟨w.heap.size + 1, 2, none⟩) (by simp) (.int .i64 0)
   exact ⟨Sy.zero, false, _, _, rfl, Sy.zero_rd _, .inr ⟨rfl, HF.out⟩, hBF⟩
mutual
def Tm.srt (s : Sg) : Tm → Option Int
 | .mk n ks => match s.find n with
  | none => none
  | some x => if Tm.srts s ks x.args = true then some x.sort else none
def Tm.srts (s : Sg) : List Tm → List Int → Bool
 | [], [] => true
 | t :: ts, a :: l => (Tm.srt s t == some a) && Tm.srts s ts l
 | _, _ => false
end
theorem Tm.srts_iff (s : Sg) : ∀ (ts : List Tm) (l : List Int), Tm.srts s ts l = true ↔ ts.length = l.length ∧ ∀ k (h : k < ts.length) (h' : k < l.length), ts[k].srt s = some l[k]
 | [], [] => by simp [Tm.srts]
 | [], _ :: _ => by simp [Tm.srts]
 | _ :: _, [] => by simp [Tm.srts]
 | t :: ts, a :: l => by
  simp only [Tm.srts, zdY, beq_iff_eq, Tm.srts_iff s ts l, List.length_cons]
  constructor
  ·rintro ⟨h1, h2, h3⟩
   refine ⟨by omega, fun k h h' => ?_⟩
   cases k with
   | zero => simpa using h1
   | succ k => simpa using h3 k (by simpa using h) (by simpa using h')
  ·rintro ⟨h1, h2⟩
   exact ⟨by simpa using h2 0 (by simp) (by simp), by omega, fun k h h' => h2 (k + 1) (by simpa using h) (by simpa using h')⟩
theorem Tm.srt_eq (s : Sg) (t : Tm) : t.srt s = match s.find t.name with | none => none | some x => if Tm.srts s t.kids x.args = true then some x.sort else none := by cases t; rw [Tm.srt]; rfl
theorem Tm.srt_none {s : Sg} {t : Tm} (h : s.find t.name = none) : t.srt s = none := by rw [Tm.srt_eq, h]
theorem Tm.srt_len {s : Sg} {t : Tm} {x : Sy} (h : s.find t.name = some x) (hl : ¬ x.args.length = t.kids.length) : t.srt s = none := by
 rw [Tm.srt_eq, h]; simp only; rw [if_neg]; rw [Tm.srts_iff]; exact fun ⟨h1, _⟩ => hl h1.symm
theorem Tm.srt_kid {s : Sg} {t : Tm} {x : Sy} (h : s.find t.name = some x) {k : Nat} (h1 : k < t.kids.length) (h2 : k < x.args.length) (hne : ¬ t.kids[k].srt s = some x.args[k]) : t.srt s = none := by
 rw [Tm.srt_eq, h]; simp only; rw [if_neg]; rw [Tm.srts_iff]; exact fun ⟨_, h3⟩ => hne (h3 k h1 h2)
def SrtUpTo (s : Sg) (ts : List Tm) (l : List Int) (k : Nat) : Prop := ∀ j, j < k → ∀ (h1 : j < ts.length) (h2 : j < l.length), ts[j].srt s = some l[j]
theorem SrtUpTo.succ {s : Sg} {ts : List Tm} {l : List Int} {k : Nat} (h : SrtUpTo s ts l k) (h1 : k < ts.length) (h2 : k < l.length) (he : ts[k].srt s = some l[k]) : SrtUpTo s ts l (k + 1) := fun j hj g1 g2 => by
 rcases Nat.lt_or_ge j k with h' | h'
 ·exact h j h' g1 g2
 ·obtain rfl : j = k := by omega
  exact he
theorem Tm.srt_yes {s : Sg} {t : Tm} {x : Sy} (h : s.find t.name = some x) (hl : x.args.length = t.kids.length) {k : Nat} (hk : t.kids.length ≤ k) (hall : SrtUpTo s t.kids x.args k) : t.srt s = some x.sort := by
 rw [Tm.srt_eq, h]; simp only; rw [if_pos]; rw [Tm.srts_iff]; exact ⟨hl.symm, fun j h1 h2 => hall j (by omega) h1 h2⟩
theorem Tm.rdv {w : World} {t : Tm} {a : Option Addr} {c : Nat} {f : List Nat} (h0 : t.name.size ≤ maxLen) (h1 : Rd w (.sl (t.kids.map Tm.cd)) (.slice a t.kids.length c) f) : RdVs w t.cd [.string t.name, .slice a t.kids.length c] f := Tm.close h0 h1
def Tm.tsrt (s : Sg) (t : Tm) : Option Int := if s.okB = true ∧ t.wf = true then t.srt s else none
theorem Tm.tsrt_yes {s : Sg} {t : Tm} (h : s.okB = true) (h' : t.wf = true) : t.tsrt s = t.srt s := if_pos ⟨h, h'⟩
theorem Sg.okB_mem {s : Sg} (h : s.okB = true) {x : Sy} (hx : x ∈ s.syms) : x.okB = true := by
 obtain ⟨k, hk, rfl⟩ := List.getElem_of_mem hx
 unfold Sg.okB at h
 rw [zdY, List.all_eq_true] at h
 have h1 := h.1 k (List.mem_range.2 hk)
 cases he : s.syms[k].okB with
 | true => rfl
 | false => rw [Sg.okAt_bad hk he] at h1; simp at h1
theorem Sg.find_okB {s : Sg} (h : s.okB = true) {n : ByteArray} {x : Sy} (hx : s.find n = some x) : x.okB = true := Sg.okB_mem h (List.mem_of_find?_eq_some hx)
theorem zdb {n : Int} (h : srtB n = true) : 0 ≤ n := by simp [srtB] at h; omega
theorem Sy.args_pos {x : Sy} (h : x.okB = true) {k : Nat} (hk : k < x.args.length) : 0 ≤ x.args[k] := by
 simp only [Sy.okB, zdY, List.all_eq_true] at h
 exact zdb (h.2.2.2 _ (zdT hk))
theorem Sy.sort_pos {x : Sy} (h : x.okB = true) : 0 ≤ x.sort := by
 simp only [Sy.okB, zdY] at h
 exact zdb h.2.2.1
theorem Tm.srt_pos {s : Sg} (h : s.okB = true) {t : Tm} {m : Int} (hm : t.srt s = some m) : 0 ≤ m := by
 rw [Tm.srt_eq] at hm
 split at hm
 ·simp at hm
 ·rename_i x hx
  split at hm
  ·obtain rfl := Option.some.inj hm; exact Sy.sort_pos (Sg.find_okB h hx)
  ·simp at hm
def OfOut (o : Option Int) (w : World) (e : Ending) (w' : World) : Prop := e = .returned (.int .i64 (o.getD (-1))) ∧ Below w.heap.size w w'
theorem zaT (s : Sg) (hok : Hid (s.okB = true)) (n : Nat) : ∀ (t : Tm) (vs us : List Value) (f f' : List Nat) (w : World), t.size ≤ n → RdVs w s.cd vs f → RdVs w t.cd us f' →
  Calls Tryz.prog 78 #[.agg vs.toArray, .agg us.toArray] w (OfOut (t.srt s) w) := by
 induction n with
 | zero => intro t; have := t.size_pos; omega
 | succ n ih =>
  intro t vs us f f' w hn hv hx
  have IH := Lib.hid ih
  clear ih
  obtain ⟨a0, c0, f0, rfl, _, m0⟩ := Sg.open hv
  obtain ⟨b1, e1, g1, rfl, _, t0, t1⟩ := Tm.open hx
  have hlen := zaj t1
  go_enter Tryz.func78, Tryz.ntmps78
  go_wp2_with fail
  refine (zdq s t.name _ _ _ t0 (by exact hv.below (((Below.refl _ _).alloc (Nat.le_refl _) _).alloc (by simp) _))).mono ?_
  rintro e w1 ⟨x, ok, xs, xf, rfl, hxr, hfind, hb1⟩
  obtain ⟨hxL, hyL, hzL, hBL⟩ := box2 (w := w) (wr := w1) (cs := #[.slice a0 s.syms.length c0]) (ds := #[.string t.name, .slice b1 t.kids.length e1]) (T := 43) (U := 25) (zs hb1 (by simp))
  obtain ⟨xa, xc, xg, rfl, _, q0, q1, q2⟩ := Sy.open hxr
  have cx := hxL 0
  have cy0 := hyL 0
  have cy1 := hyL 1
  simp only [zdP, zdN, zdO] at cx cy0 cy1
  clear hxL hyL
  have hlx := zaj q1
  have hz0 : w.heap.size < w1.heap.size := by omega
  have hz1 : w.heap.size + 1 < w1.heap.size := by omega
  rcases hfind with ⟨rfl, hfind⟩ | ⟨rfl, hfind⟩
  rotate_left
  ·have HF := Lib.hid (Tm.srt_none hfind)
   clear hfind
   go_wp2_with fail
   go_ret
   exact ⟨by rw [HF.out]; rfl, zaS hBL (by omega)⟩
  have HFIND := Lib.hid hfind
  clear hfind
  by_cases hl : x.args.length = t.kids.length
  rotate_left
  ·have HF := Lib.hid (Tm.srt_len HFIND.out hl)
   have hne : ((x.args.length : Int) != (t.kids.length : Int)) = true := by rw [bne_iff_ne]; omega
   clear hl
   go_wp2_with fail
   go_ret
   exact ⟨by rw [HF.out]; rfl, zaS hBL (by omega)⟩
  have HL := Lib.hid hl
  have hne : ((x.args.length : Int) != (t.kids.length : Int)) = false := by rw [hl]; simp
  have hl1 : x.args.length ≤ t.kids.length := by omega
  have hl2 : t.kids.length ≤ x.args.length := by omega
  clear hl
  have n0 := zx w1 #[.string x.name, .slice xa x.args.length xc, .int .i64 x.sort] 70
  have hbw := za w1 (.cells #[.string x.name, .slice xa x.args.length xc, .int .i64 x.sort] 70)
  have hsz : (w1.alloc (.cells #[.string x.name, .slice xa x.args.length xc, .int .i64 x.sort] 70)).heap.size = w1.heap.size + 1 := by simp
  obtain ⟨w2, hw2⟩ : ∃ w2, w2 = w1.alloc (.cells #[.string x.name, .slice xa x.args.length xc, .int .i64 x.sort] 70) := ⟨_, rfl⟩
  go_wp2_with fail
  rw [← hw2] at n0 hbw hsz ⊢
  clear hw2
  have d1 := n0 1
  have d2 := n0 2
  simp only [zdP, zdN, zdO] at d1 d2
  clear n0
  have cx := zb cx hbw
  have cy1 := zb cy1 hbw
  have q1 := q1.below hbw
  have hB2 := hBL.trans (hbw.mono (by omega))
  clear hbw
  go_loopw [7] (fun i wq => ∃ k : Nat, k ≤ t.kids.length ∧ i = .int .i64 k ∧ Hid (SrtUpTo s t.kids x.args k) ∧ Below w2.heap.size w2 wq) (fun i _ => t.kids.length - (intOf i).toNat)
  case atStart => exact ⟨0, Nat.zero_le _, rfl, Lib.hid (fun j hj => by omega), Below.refl _ _⟩
  case round =>
   obtain ⟨k, hkl, rfl, hall, hM⟩ := hrel
   have hszm := hM.size
   have cxm := zb cx hM
   have cy1m := zb cy1 hM
   have d1m := zb d1 hM
   have d2m := zb d2 hM
   have hBM := hB2.trans (hM.mono (by omega))
   by_cases hlt : k < t.kids.length
   ·have hlt' : k < x.args.length := by omega
    obtain ⟨b, off, rfl, hbs, _⟩ := zl t1 (by omega)
    have q1m := q1.below hM
    obtain ⟨xb, xo, rfl, hxs, _⟩ := zl q1m (by omega)
    obtain ⟨ka, kc, kf, k0, k1, km0, km1, _⟩ := Tm.at (t1.below hBM) hlt
    obtain ⟨ga, _⟩ := zK q1m hlt'
    have hkn := Tm.size_kid hlt
    have hbz : b < wr.heap.size := by omega
    have hz2 : w1.heap.size < wr.heap.size := by omega
    have hz3 : w.heap.size < wr.heap.size := by omega
    have hpos := Sy.args_pos (Sg.find_okB hok.out HFIND.out) hlt'
    go_wp2_with fail
    have qk0 := cell_regrown k0
    have qk1 := cell_regrown k1
    have qcx := cell_regrown cxm
    have qcy := cell_regrown cy1m
    have qd := cell_regrown d1m
    have qg := cell_regrown ga
    refine wp_region_quiet_below (by kernel_rfl) (by kernel_rfl) ?_
    repeat (quiet_step (refine Calls.regrown_of (IH.out t.kids[k] _ _ _ _ _ (by omega) ((hv.below hBM).below (below_regrown _ _ _)) ((Tm.rdv km0 km1).below (below_regrown _ _ _)))))
    refine wpQuiet_nil ?_
    intro w5 hw5
    obtain ⟨⟨dq, osq⟩, hw5⟩ := hw5
    have hb5 : Below wr.heap.size wr w5 := hw5 ▸ below_regrown wr dq osq
    clear hw5 qk0 qk1 qcx qcy qd qg
    have hM5 := hM.trans (hb5.mono hszm)
    have hB5 := hBM.trans (hb5.mono hBM.size)
    cases ho : t.kids[k].srt s with
    | none =>
     have HF := Lib.hid (Tm.srt_kid HFIND.out hlt hlt' (by rw [ho]; simp))
     clear ho
     have hcn : ((-1 : Int) != x.args[k]) = true := by rw [bne_iff_ne]; omega
     simp only [Option.getD_none]
     go_wp2_with fail
     go_ret
     exact ⟨by rw [HF.out]; rfl, hB5⟩
    | some m =>
     have HO := Lib.hid ho
     clear ho
     simp only [Option.getD_some]
     cases hc : (m == x.args[k])
     ·have HF := Lib.hid (Tm.srt_kid HFIND.out hlt hlt' (by rw [HO.out]; simpa using hc))
      have hcn : (m != x.args[k]) = true := by rw [bne, hc]; rfl
      go_wp2_with fail
      go_ret
      exact ⟨by rw [HF.out]; rfl, hB5⟩
     ·have HE := Lib.hid (hall.out.succ hlt hlt' (by rw [HO.out]; simpa using hc))
      have hcn : (m != x.args[k]) = false := by rw [bne, hc]; rfl
      go_wp2_with fail
      go_roundw
      case rel => exact ⟨k + 1, by omega, by go_num, HE, hM5⟩
      case measure => simp [intOf]; omega
   ·have HF := Lib.hid (Tm.srt_yes HFIND.out HL.out (by omega) hall.out)
    go_wp2_with fail
    go_ret
    exact ⟨by rw [HF.out]; rfl, hBM⟩
end Go.Proofs.YtoehhbkhdddeeaaGreatDoor
end
