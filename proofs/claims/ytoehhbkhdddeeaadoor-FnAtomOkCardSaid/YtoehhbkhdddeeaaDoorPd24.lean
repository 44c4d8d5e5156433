/- Parts of the proof: Sig3. -/
import Derived.Test.YtoehhbkhdddeeaaDoorPd23
import Derived.Test.YtoehhbkhdddeeaaDoorPd16
section
namespace Go.Proofs.YtoehhbkhdddeeaaDoor
open Go Go.RowKit
set_option linter.unusedVariables false
set_option linter.unusedSimpArgs false
set_option maxRecDepth 100000
set_option maxHeartbeats 16000000
def Sg.find (s : Sg) (n : ByteArray) : Option Sy := s.syms.find? (fun x => decide (x.name = n))
def FindOut (s : Sg) (n : ByteArray) (w : World) (e : Ending) (w' : World) : Prop :=
 ∃ (x : Sy) (ok : Bool) (vs : List Value) (fp : List Nat), e = .returned (.tuple #[.agg vs.toArray, .bool ok]) ∧ RdVs w' x.cd vs fp ∧ ((ok = true ∧ s.find n = some x) ∨ (ok = false ∧ s.find n = none)) ∧ Below w.heap.size w w'
def NotYet (s : Sg) (n : ByteArray) (k : Nat) : Prop := ∀ x ∈ s.syms.take k, ¬ x.name = n
theorem NotYet.succ {s : Sg} {n : ByteArray} {k : Nat} (h : NotYet s n k) (hk : k < s.syms.length) (h' : ¬ s.syms[k].name = n) : NotYet s n (k + 1) := by
 intro x hx; rw [zcj hk] at hx
 rcases zck.1 hx with h1 | h1
 ·exact h x h1
 ·obtain rfl := List.mem_singleton.1 h1; exact h'
theorem NotYet.found {s : Sg} {n : ByteArray} {k : Nat} (h : NotYet s n k) (hk : k < s.syms.length) (h' : s.syms[k].name = n) : s.find n = some s.syms[k] := by
 have e : s.syms = s.syms.take k ++ s.syms[k] :: s.syms.drop (k + 1) := by rw [← List.drop_eq_getElem_cons hk, List.take_append_drop]
 have h2 : ∀ l : List Sy, l = s.syms.take k ++ s.syms[k] :: s.syms.drop (k + 1) → l.find? (fun x => decide (x.name = n)) = some s.syms[k] := by
  intro l hl
  rw [hl, List.find?_append, List.find?_eq_none.2 (fun x hx => by simpa using h x hx)]
  simp only [Option.none_or, List.find?_cons, h', decide_true]
 exact h2 _ e
theorem NotYet.all {s : Sg} {n : ByteArray} {k : Nat} (h : NotYet s n k) (hk : s.syms.length ≤ k) : s.find n = none := by
 unfold NotYet at h; rw [List.take_of_length_le hk] at h
 exact List.find?_eq_none.2 (fun x hx => by simpa using h x hx)
def Sy.zero : Sy := ⟨⟨#[]⟩, [], 0⟩
theorem Sy.zero_rd (w : World) : RdVs w Sy.zero.cd [.string ⟨#[]⟩, .slice none 0 0, .int .i64 0] [] :=
 Sy.close (x := Sy.zero) (a1 := none) (c1 := 0) (Nat.zero_le _) (by simp only [Sy.zero, List.map_nil, Rd]; exact ⟨none, 0, rfl, by simp, by simp [maxLen], by simp⟩) (by unfold I64 Sy.zero; exact ⟨by decide, by decide⟩)
theorem zb3 (s : Sg) (n : ByteArray) (vs : List Value) (f : List Nat) (w : World) (hn : n.size ≤ maxLen) (hv : RdVs w s.cd vs f) :
  Calls Tryd.prog 79 #[.agg vs.toArray, .string n] w (FindOut s n w) := by
 obtain ⟨a0, c0, f0, rfl, _, m0⟩ := Sg.open hv
 have hlen := zT m0
 go_enter Tryd.func79, Tryd.ntmps79
 go_wp2_with fail
 go_loopw [11] (fun i wq => ∃ k : Nat, k ≤ s.syms.length ∧ i = .int .i64 k ∧ Hid (NotYet s n k) ∧ Below (w.heap.size + 1 + 1) ((w.alloc (.cells #[.slice a0 s.syms.length c0] 40)).alloc (.cells #[.string ⟨#[]⟩, .slice none 0 0, .int .i64 0] 107)) wq) (fun i _ => s.syms.length - (intOf i).toNat)
 case atStart => exact ⟨0, Nat.zero_le _, rfl, Lib.hid (fun x hx => by simp at hx), Below.refl _ _⟩
 case round =>
  obtain ⟨k, hkl, rfl, hall, hL⟩ := hrel
  obtain ⟨hxL, hyL, hzL, hBL⟩ := box2 hL
  have hfy := fun j => (zC hL j).2
  have cx := hxL 0
  simp only [zch, zcf, zcg] at cx
  by_cases hlt : k < s.syms.length
  ·obtain ⟨b, off, rfl, hbs, _⟩ := zp m0 (by omega)
   have hbz2 : b < wr.heap.size := by omega
   have hz0 : w.heap.size < wr.heap.size := by omega
   have hz1 : w.heap.size + 1 < wr.heap.size := by omega
   obtain ⟨ea1, ec1, ef1, d0', d1', d2', em0, em1, em2, _⟩ := Sy.at m0 hlt
   have d0 := za d0' hBL
   have d1 := za d1' hBL
   have d2 := za d2' hBL
   have hLX := zE (cs := #[.string s.syms[k].name, .slice ea1 s.syms[k].args.length ec1, .int .i64 s.syms[k].sort]) (T := 107) hL (by omega)
   have hBX := zE (cs := #[.string s.syms[k].name, .slice ea1 s.syms[k].args.length ec1, .int .i64 s.syms[k].sort]) (T := 107) hBL (by omega)
   have hsz : (wr.alloc (.cells #[.string s.syms[k].name, .slice ea1 s.syms[k].args.length ec1, .int .i64 s.syms[k].sort] 107)).heap.size = wr.heap.size + 1 := by simp
   by_cases hnm : s.syms[k].name.toList = n.toList
   ·have HF := Lib.hid (hall.out.found hlt (zad.1 hnm))
    have hres := zs (zX (b := w.heap.size + 1) [(0, .string s.syms[k].name), (1, .slice ea1 s.syms[k].args.length ec1), (2, .int .i64 s.syms[k].sort)] hyL (by simp)) (by simp [zh]; omega) (zb _ (.cells #[.string s.syms[k].name, .slice ea1 s.syms[k].args.length ec1, .int .i64 s.syms[k].sort] 107))
    simp only [zh, za2, zcd, zce] at hres
    have hf0 := hfy 0
    have hf1 := hfy 1
    have hf2 := hfy 2
    have y0 := hyL 0
    have y1 := hyL 1
    have y2 := hyL 2
    simp only [zch, zcf, zcg] at y0 y1 y2
    have n0 := zt wr #[.string s.syms[k].name, .slice ea1 s.syms[k].args.length ec1, .int .i64 s.syms[k].sort] 107
    clear hyL hfy
    go_wp2_with fail
    refine bodyPost_ret (v := .tuple #[.agg #[.string s.syms[k].name, .slice ea1 s.syms[k].args.length ec1, .int .i64 s.syms[k].sort], .bool true]) (by simp [results, Tryd.results79, go_sem, hres]) rfl ?_
    have hBF := zE (cs := #[.string s.syms[k].name, .slice ea1 s.syms[k].args.length ec1, .int .i64 s.syms[k].sort]) (T := 107) (((hBL.setCell (p := ⟨w.heap.size + 1, 0, none⟩) (by simp) (.string s.syms[k].name)).setCell (p := ⟨w.heap.size + 1, 1, none⟩) (by simp) (.slice ea1 s.syms[k].args.length ec1)).setCell (p := ⟨w.heap.size + 1, 2, none⟩) (by simp) (.int .i64 s.syms[k].sort)) (by simp; omega)
    exact ⟨s.syms[k], true, _, _, rfl, (Sy.close em0 em1 em2).below hBF, .inl ⟨rfl, HF.out⟩, hBF⟩
   ·have HN := Lib.hid (hall.out.succ hlt (fun h => hnm (zad.2 h)))
    have hnb : (s.syms[k].name.toList == n.toList) = false := by simpa using hnm
    go_wp2_with fail
    go_roundw
    case rel => exact ⟨k + 1, by omega, by go_num, HN, hLX⟩
    case measure => simp [intOf]; omega
  ·have HF := Lib.hid (hall.out.all (by omega))
   have hres := zX (b := w.heap.size + 1) [(0, .string ⟨#[]⟩), (1, .slice none 0 0), (2, .int .i64 0)] hyL (by simp)
   simp only [zh, za2, zcd, zce] at hres
   have hf0 := hfy 0
   have hf1 := hfy 1
   have hf2 := hfy 2
   go_wp2_with fail
   refine bodyPost_ret (v := .tuple #[.agg #[.string ⟨#[]⟩, .slice none 0 0, .int .i64 0], .bool false]) (by simp [results, Tryd.results79, go_sem, hres]) rfl ?_
   have hBF := ((hBL.setCell (p := ⟨w.heap.size + 1, 0, none⟩) (by simp) (.string ⟨#[]⟩)).setCell (p := ⟨w.heap.size + 1, 1, none⟩) (by simp) (.slice none 0 0)).setCell (p := ⟨w.heap.size + 1, 2, none⟩) (by simp) (.int .i64 0)
   exact ⟨Sy.zero, false, _, _, rfl, Sy.zero_rd _, .inr ⟨rfl, HF.out⟩, hBF⟩
theorem zb4 (s : Sg) (n : ByteArray) (vs : List Value) (f : List Nat) (w : World) (hn : n.size ≤ maxLen) (hv : RdVs w s.cd vs f) :
  Calls Tryd.prog 77 #[.agg vs.toArray, .string n] w (FindOut s n w) := by
 obtain ⟨a0, c0, f0, rfl, _, m0⟩ := Sg.open hv
 have hlen := zT m0
 go_enter Tryd.func77, Tryd.ntmps77
 go_wp2_with fail
 go_loopw [6] (fun i wq => ∃ k : Nat, k ≤ s.syms.length ∧ i = .int .i64 k ∧ Hid (NotYet s n k) ∧ Below (w.heap.size + 1 + 1) ((w.alloc (.cells #[.slice a0 s.syms.length c0] 40)).alloc (.cells #[.string ⟨#[]⟩, .slice none 0 0, .int .i64 0] 107)) wq) (fun i _ => s.syms.length - (intOf i).toNat)
 case atStart => exact ⟨0, Nat.zero_le _, rfl, Lib.hid (fun x hx => by simp at hx), Below.refl _ _⟩
 case round =>
  obtain ⟨k, hkl, rfl, hall, hL⟩ := hrel
  obtain ⟨hxL, hyL, hzL, hBL⟩ := box2 hL
  have hfy := fun j => (zC hL j).2
  have cx := hxL 0
  simp only [zch, zcf, zcg] at cx
  by_cases hlt : k < s.syms.length
  ·obtain ⟨b, off, rfl, hbs, _⟩ := zp m0 (by omega)
   have hbz2 : b < wr.heap.size := by omega
   have hz0 : w.heap.size < wr.heap.size := by omega
   have hz1 : w.heap.size + 1 < wr.heap.size := by omega
   obtain ⟨ea1, ec1, ef1, d0', d1', d2', em0, em1, em2, _⟩ := Sy.at m0 hlt
   have d0 := za d0' hBL
   have d1 := za d1' hBL
   have d2 := za d2' hBL
   by_cases hnm : s.syms[k].name.toList = n.toList
   ·have HF := Lib.hid (hall.out.found hlt (zad.1 hnm))
    have hres := zX (b := w.heap.size + 1) [(0, .string s.syms[k].name), (1, .slice ea1 s.syms[k].args.length ec1), (2, .int .i64 s.syms[k].sort)] hyL (by simp)
    simp only [zh, za2, zcd, zce] at hres
    have hf0 := hfy 0
    have hf1 := hfy 1
    have hf2 := hfy 2
    have y0 := hyL 0
    have y1 := hyL 1
    have y2 := hyL 2
    simp only [zch, zcf, zcg] at y0 y1 y2
    clear hyL hfy
    go_wp2_with fail
    refine bodyPost_ret (v := .tuple #[.agg #[.string s.syms[k].name, .slice ea1 s.syms[k].args.length ec1, .int .i64 s.syms[k].sort], .bool true]) (by simp [results, Tryd.results77, go_sem, hres]) rfl ?_
    have hBF := ((hBL.setCell (p := ⟨w.heap.size + 1, 0, none⟩) (by simp) (.string s.syms[k].name)).setCell (p := ⟨w.heap.size + 1, 1, none⟩) (by simp) (.slice ea1 s.syms[k].args.length ec1)).setCell (p := ⟨w.heap.size + 1, 2, none⟩) (by simp) (.int .i64 s.syms[k].sort)
    exact ⟨s.syms[k], true, _, _, rfl, (Sy.close em0 em1 em2).below hBF, .inl ⟨rfl, HF.out⟩, hBF⟩
   ·have HN := Lib.hid (hall.out.succ hlt (fun h => hnm (zad.2 h)))
    have hnb : (s.syms[k].name.toList == n.toList) = false := by simpa using hnm
    go_wp2_with fail
    go_roundw
    case rel => exact ⟨k + 1, by omega, by go_num, HN, hL⟩
    case measure => simp [intOf]; omega
  ·have HF := Lib.hid (hall.out.all (by omega))
   have hres := zX (b := w.heap.size + 1) [(0, .string ⟨#[]⟩), (1, .slice none 0 0), (2, .int .i64 0)] hyL (by simp)
   simp only [zh, za2, zcd, zce] at hres
   have hf0 := hfy 0
   have hf1 := hfy 1
   have hf2 := hfy 2
   go_wp2_with fail
   refine bodyPost_ret (v := .tuple #[.agg #[.string ⟨#[]⟩, .slice none 0 0, .int .i64 0], .bool false]) (by simp [results, Tryd.results77, go_sem, hres]) rfl ?_
   have hBF := ((hBL.setCell (p := ⟨w.heap.size + 1, 0, none⟩) (by simp) (.string ⟨#[]⟩)).setCell (p := ⟨w.heap.size + 1, 1, none⟩) (by simp) (.slice none 0 0)).setCell (p := ⟨w.heap.size + 1, 2, none⟩) (by simp) (.int .i64 0)
   exact ⟨Sy.zero, false, _, _, rfl, Sy.zero_rd _, .inr ⟨rfl, HF.out⟩, hBF⟩
end Go.Proofs.YtoehhbkhdddeeaaDoor
end
