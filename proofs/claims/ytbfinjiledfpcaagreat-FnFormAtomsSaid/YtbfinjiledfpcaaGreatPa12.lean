/- Parts of the proof: ExTo Sig3 Own. -/
import Derived.Deep.Cut
import Derived.Test.YtbfinjiledfpcaaGreatPa10
import Derived.Test.YtbfinjiledfpcaaGreatPa11
import Derived.Deep.Upon
import Derived.Lib.BufferMore
namespace Go.Proofs.YtbfinjiledfpcaaGreat
open Go Go.RowKit
set_option linter.unusedVariables false
set_option linter.unusedSimpArgs false
set_option maxHeartbeats 800000
theorem nofp_int {n : Int} : NoFp [.int n] := fun w vs f h => by obtain ⟨v, rfl, h'⟩ := RdVs.one_inv h; exact (zC h').2.2
def zcU (d : CD) (w : World) (e : Ending) (w' : World) : Prop := ∃ kv fp, e = .returned kv ∧ Rd w' d kv fp ∧ Fresh w.heap.size w' fp ∧ Below w.heap.size w w'
def ToOutV (ds : List CD) (w : World) (e : Ending) (w' : World) : Prop := ∃ vs fp, e = .returned (.agg vs.toArray) ∧ RdVs w' ds vs fp ∧ Fresh w.heap.size w' fp ∧ Below w.heap.size w w'
theorem cells_set {w : World} {b : Nat} {cs : Array Value} (h : ∀ j, w.cell? ⟨b, j, none⟩ = cs[j]?) (i : Nat) (v : Value) (hi : i < cs.size := by simp) : ∀ j, (w.setCell ⟨b, i, none⟩ v).cell? ⟨b, j, none⟩ = (cs.setIfInBounds i v)[j]? := by
 intro j
 by_cases hij : i = j
 ·subst hij
  rw [World.cell?_setCell_same w _ v ((h i).trans (Array.getElem?_eq_getElem hi)), Array.getElem?_setIfInBounds]
  simp [hi]
 ·rw [World.cell?_setCell_other w _ _ v (by simp [hij]), h j, Array.getElem?_setIfInBounds]
  simp [hij]
theorem zcc {w : World} {b b' : Nat} {cs : Array Value} (h : ∀ j, w.cell? ⟨b, j, none⟩ = cs[j]?) (i : Nat) (v : Value) (hne : b' ≠ b) : ∀ j, (w.setCell ⟨b', i, none⟩ v).cell? ⟨b, j, none⟩ = cs[j]? :=
 fun j => (World.cell?_setCell_other w _ _ v (by simp [hne])).trans (h j)
theorem zg {w1 w2 : World} {b : Nat} (h : ∀ j, w1.frozen? ⟨b, j, none⟩ = false) (hl : b < w1.heap.size) (hb : Below w1.heap.size w1 w2) : ∀ j, w2.frozen? ⟨b, j, none⟩ = false :=
 fun j => (hb.frozen (p := ⟨b, j, none⟩) hl).trans (h j)
theorem free_set {w : World} {b : Nat} (h : ∀ j, w.frozen? ⟨b, j, none⟩ = false) (a : Addr) (v : Value) : ∀ j, (w.setCell a v).frozen? ⟨b, j, none⟩ = false := fun j => by rw [World.frozen?_setCell]; exact h j
/-- From w to w' of what was there the blocks from lo to hi alone have turned. -/
structure Loc (lo hi : Nat) (w w' : World) : Prop where
 os : w'.os = w.os
 tape : w'.tape = w.tape
 output : w'.output = w.output
 size : w.heap.size ≤ w'.heap.size
 block : ∀ k, k < w.heap.size → (k < lo ∨ hi ≤ k) → w'.heap[k]? = w.heap[k]?
theorem Loc.refl (lo hi : Nat) (w : World) : Loc lo hi w w := ⟨rfl, rfl, rfl, Nat.le_refl _, fun _ _ _ => rfl⟩
theorem Loc.set {lo hi : Nat} {w w' : World} (h : Loc lo hi w w') {b i : Nat} {v : Value} (h1 : lo ≤ b) (h2 : b < hi) : Loc lo hi w (w'.setCell ⟨b, i, none⟩ v) :=
 ⟨h.os, h.tape, h.output, by simpa [World.setCell] using h.size, fun k hk hn => (Below.heap_setCell _ _ _ _ (by simp only; omega)).trans (h.block k hk hn)⟩
theorem Loc.below {lo hi : Nat} {w w1 w2 : World} (h : Loc lo hi w w1) (hb : Below w1.heap.size w1 w2) : Loc lo hi w w2 :=
 ⟨hb.os.trans h.os, hb.tape.trans h.tape, hb.output.trans h.output, Nat.le_trans h.size hb.size, fun k hk hn => (hb.block k (zfh hk h.size)).trans (h.block k hk hn)⟩
theorem Loc.toBelow {lo hi : Nat} {w w1 : World} (h : Loc lo hi w w1) {B : Nat} (hB : B ≤ w.heap.size) (hl : B ≤ lo) : Below B w w1 :=
 ⟨h.os, h.tape, h.output, h.size, fun k hk => h.block k (by omega) (.inl (by omega))⟩
theorem Loc.same {lo hi : Nat} {w w1 w0 : World} (h : Loc lo hi w w1) {f : List Nat} (hf : Fresh hi w f) : SameOn f w w1 := fun b hb => h.block b (hf.lt b hb) (.inr (hf.2 b hb).1)
def zl (b : Nat) : List (Nat × Value) → World → World
 | [], w => w
 | u :: r, w => zl b r (w.setCell ⟨b, u.1, none⟩ u.2)
def zbb : List (Nat × Value) → List Value → List Value
 | [], l => l
 | u :: r, l => zbb r (l.set u.1 u.2)
theorem zZ {b : Nat} : ∀ (ups : List (Nat × Value)) {w : World} {l : List Value}, (∀ j, w.cell? ⟨b, j, none⟩ = (l.toArray)[j]?) → (∀ u ∈ ups, u.1 < l.length) → ∀ j, (zl b ups w).cell? ⟨b, j, none⟩ = ((zbb ups l).toArray)[j]?
 | [], _, _, h, _ => h
 | u :: r, w, l, h, hu => by
  have h1 := cells_set h u.1 u.2 (by simpa using hu u (List.mem_cons_self ..))
  rw [zfb] at h1
  exact zZ r h1 (fun x hx => by rw [List.length_set]; exact hu x (List.mem_cons_of_mem _ hx))
theorem zaU {b b' : Nat} {cs : Array Value} (hne : b' ≠ b) : ∀ (ups : List (Nat × Value)) {w : World}, (∀ j, w.cell? ⟨b, j, none⟩ = cs[j]?) → ∀ j, (zl b' ups w).cell? ⟨b, j, none⟩ = cs[j]?
 | [], _, h => h
 | u :: r, w, h => zaU hne r (zcc h u.1 u.2 hne)
theorem zaY {b b' : Nat} : ∀ (ups : List (Nat × Value)) {w : World}, (∀ j, w.frozen? ⟨b, j, none⟩ = false) → ∀ j, (zl b' ups w).frozen? ⟨b, j, none⟩ = false
 | [], _, h => h
 | u :: r, w, h => zaY r (free_set h _ _)
theorem Loc.sets {lo hi b : Nat} {w : World} (h1 : lo ≤ b) (h2 : b < hi) : ∀ (ups : List (Nat × Value)) {w' : World}, Loc lo hi w w' → Loc lo hi w (zl b ups w')
 | [], _, h => h
 | u :: r, w', h => Loc.sets h1 h2 r (h.set h1 h2)
theorem zM : SlTy Tryz.prog 29 3 (.int .i64 0) 1 8 := ⟨Tryz.underlying29, by kernel_rfl, rfl, by omega⟩
theorem zb0 : SlTy Tryz.prog 23 109 (.agg #[.string ByteArray.empty, .slice none 0 0, .int .i64 0]) 3 48 := ⟨Tryz.underlying23, by kernel_rfl, rfl, by omega⟩
theorem zag : SlTy Tryz.prog 39 31 (.agg #[.int .i64 0, .string ByteArray.empty, .slice none 0 0, .string ByteArray.empty, .slice none 0 0, .slice none 0 0, .slice none 0 0, .int .i64 0, .bool false]) 9 152 := ⟨Tryz.underlying39, by kernel_rfl, rfl, by omega⟩
theorem zcV : SlTy Tryz.prog 42 33 (.agg #[.int .i64 0, .string ByteArray.empty, .slice none 0 0, .string ByteArray.empty, .slice none 0 0, .slice none 0 0, .slice none 0 0, .int .i64 0, .bool false, .bool false]) 10 160 := ⟨Tryz.underlying42, by kernel_rfl, rfl, by omega⟩
theorem zak : SlTy Tryz.prog 34 36 (.agg #[.int .i64 0, .int .i64 0, .string ByteArray.empty, .slice none 0 0, .string ByteArray.empty, .slice none 0 0, .slice none 0 0, .slice none 0 0, .int .i64 0, .bool false, .bool false, .slice none 0 0]) 12 192 := ⟨Tryz.underlying34, by kernel_rfl, rfl, by omega⟩
end Go.Proofs.YtbfinjiledfpcaaGreat
namespace Go.Proofs.YtbfinjiledfpcaaGreat
open Go Go.RowKit
set_option linter.unusedVariables false
set_option linter.unusedSimpArgs false
def Sg.find (s : Sg) (n : ByteArray) : Option Sy := s.syms.find? (fun x => decide (x.name = n))
def FindOut (s : Sg) (n : ByteArray) (w : World) (e : Ending) (w' : World) : Prop :=
 ∃ (x : Sy) (ok : Bool) (vs : List Value) (fp : List Nat), e = .returned (.tuple #[.agg vs.toArray, .bool ok]) ∧ RdVs w' x.cd vs fp ∧ ((ok = true ∧ s.find n = some x) ∨ (ok = false ∧ s.find n = none)) ∧ Below w.heap.size w w'
def NotYet (s : Sg) (n : ByteArray) (k : Nat) : Prop := ∀ x ∈ s.syms.take k, ¬ x.name = n
theorem NotYet.succ {s : Sg} {n : ByteArray} {k : Nat} (h : NotYet s n k) (hk : k < s.syms.length) (h' : ¬ s.syms[k].name = n) : NotYet s n (k + 1) := by
 intro x hx; rw [zfi hk] at hx
 rcases zfj.1 hx with h1 | h1
 ·exact h x h1
 ·obtain rfl := List.mem_singleton.1 h1; exact h'
theorem NotYet.found {s : Sg} {n : ByteArray} {k : Nat} (h : NotYet s n k) (hk : k < s.syms.length) (h' : s.syms[k].name = n) : s.find n = some s.syms[k] := by
 have e : s.syms = s.syms.take k ++ s.syms[k] :: s.syms.drop (k + 1) := by rw [← List.drop_eq_getElem_cons hk, List.take_append_drop]
 have h2 : ∀ l : List Sy, l = s.syms.take k ++ s.syms[k] :: s.syms.drop (k + 1) → l.find? (fun x => decide (x.name = n)) = some s.syms[k] := by
  intro l hl
  rw [hl, List.find?_append, List.find?_eq_none.2 (fun x hx => by simpa using h x hx)]
  simp only [Option.none_or, List.find?_cons, h', decide_true]
 exact h2 _ e
theorem NotYet.all {s : Sg} {n : ByteArray} {k : Nat} (h : NotYet s n k) (hk : s.syms.length ≤ k) : s.find n = none := by
 unfold NotYet at h; rw [List.take_of_length_le hk] at h
 exact List.find?_eq_none.2 (fun x hx => by simpa using h x hx)
def Sy.zero : Sy := ⟨⟨#[]⟩, [], 0⟩
theorem Sy.zero_rd (w : World) : RdVs w Sy.zero.cd [.string ⟨#[]⟩, .slice none 0 0, .int .i64 0] [] :=
 Sy.close (x := Sy.zero) (a1 := none) (c1 := 0) (Nat.zero_le _) (by simp only [Sy.zero, List.map_nil, Rd]; exact ⟨none, 0, rfl, by simp, by simp [maxLen], by simp⟩) (by unfold I64 Sy.zero; exact ⟨by decide, by decide⟩)
set_option maxHeartbeats 1000000 in
theorem zeF (s : Sg) (n : ByteArray) (vs : List Value) (f : List Nat) (w : World) (hn : n.size ≤ maxLen) (hv : RdVs w s.cd vs f) :
  Calls Tryz.prog 158 #[.agg vs.toArray, .string n] w (FindOut s n w) := by
 obtain ⟨a0, c0, f0, rfl, _, m0⟩ := Sg.open hv
 have hlen := zan m0
 go_enter Tryz.func158, Tryz.ntmps158
 go_wp2_with fail
 go_loopw [11] (fun i wq => ∃ k : Nat, k ≤ s.syms.length ∧ i = .int .i64 k ∧ Hid (NotYet s n k) ∧ Below (w.heap.size + 1 + 1) ((w.alloc (.cells #[.slice a0 s.syms.length c0] 25)).alloc (.cells #[.string ⟨#[]⟩, .slice none 0 0, .int .i64 0] 109)) wq) (fun i _ => s.syms.length - (intOf i).toNat)
 case atStart => exact ⟨0, Nat.zero_le _, rfl, Lib.hid (fun x hx => by simp at hx), Below.refl _ _⟩
 case round =>
  obtain ⟨k, hkl, rfl, hall, hL⟩ := hrel
  obtain ⟨hxL, hyL, hzL, hBL⟩ := box2 hL
  have hfy := fun j => (zW hL j).2
  have cx := hxL 0
  simp only [zfg, zfe, zff] at cx
  by_cases hlt : k < s.syms.length
  ·obtain ⟨b, off, rfl, hbs, _⟩ := zk m0 (by omega)
   have hbz2 : b < wr.heap.size := by omega
   have hz0 : w.heap.size < wr.heap.size := by omega
   have hz1 : w.heap.size + 1 < wr.heap.size := by omega
   obtain ⟨ea1, ec1, ef1, d0', d1', d2', em0, em1, em2, _⟩ := Sy.at m0 hlt
   have d0 := zb d0' hBL
   have d1 := zb d1' hBL
   have d2 := zb d2' hBL
   have hLX := zaf (cs := #[.string s.syms[k].name, .slice ea1 s.syms[k].args.length ec1, .int .i64 s.syms[k].sort]) (T := 109) hL (by omega)
   have hBX := zaf (cs := #[.string s.syms[k].name, .slice ea1 s.syms[k].args.length ec1, .int .i64 s.syms[k].sort]) (T := 109) hBL (by omega)
   have hsz : (wr.alloc (.cells #[.string s.syms[k].name, .slice ea1 s.syms[k].args.length ec1, .int .i64 s.syms[k].sort] 109)).heap.size = wr.heap.size + 1 := by simp
   by_cases hnm : s.syms[k].name.toList = n.toList
   ·have HF := Lib.hid (hall.out.found hlt (zaA.1 hnm))
    have hres := zd (zZ (b := w.heap.size + 1) [(0, .string s.syms[k].name), (1, .slice ea1 s.syms[k].args.length ec1), (2, .int .i64 s.syms[k].sort)] hyL (by simp)) (by simp [zl]; omega) (zc _ (.cells #[.string s.syms[k].name, .slice ea1 s.syms[k].args.length ec1, .int .i64 s.syms[k].sort] 109))
    simp only [zl, zbb, zfc, zfd] at hres
    have hf0 := hfy 0
    have hf1 := hfy 1
    have hf2 := hfy 2
    have y0 := hyL 0
    have y1 := hyL 1
    have y2 := hyL 2
    simp only [zfg, zfe, zff] at y0 y1 y2
    have n0 := zz wr #[.string s.syms[k].name, .slice ea1 s.syms[k].args.length ec1, .int .i64 s.syms[k].sort] 109
    clear hyL hfy
    go_wp2_with fail
    refine bodyPost_ret (v := .tuple #[.agg #[.string s.syms[k].name, .slice ea1 s.syms[k].args.length ec1, .int .i64 s.syms[k].sort], .bool true]) (by simp [results, Tryz.results158, go_sem, hres]) rfl ?_
    have hBF := zaf (cs := #[.string s.syms[k].name, .slice ea1 s.syms[k].args.length ec1, .int .i64 s.syms[k].sort]) (T := 109) (((hBL.setCell (p := ⟨w.heap.size + 1, 0, none⟩) (by simp) (.string s.syms[k].name)).setCell (p := ⟨w.heap.size + 1, 1, none⟩) (by simp) (.slice ea1 s.syms[k].args.length ec1)).setCell (p := ⟨w.heap.size + 1, 2, none⟩) (by simp) (.int .i64 s.syms[k].sort)) (by simp; omega)
    exact ⟨s.syms[k], true, _, _, rfl, (Sy.close em0 em1 em2).below hBF, .inl ⟨rfl, HF.out⟩, hBF⟩
   ·have HN := Lib.hid (hall.out.succ hlt (fun h => hnm (zaA.2 h)))
    have hnb : (s.syms[k].name.toList == n.toList) = false := by simpa using hnm
    go_wp2_with fail
    go_roundw
    case rel => exact ⟨k + 1, by omega, by go_num, HN, hLX⟩
    case measure => simp [intOf]; omega
  ·have HF := Lib.hid (hall.out.all (by omega))
   have hres := zZ (b := w.heap.size + 1) [(0, .string ⟨#[]⟩), (1, .slice none 0 0), (2, .int .i64 0)] hyL (by simp)
   simp only [zl, zbb, zfc, zfd] at hres
   have hf0 := hfy 0
   have hf1 := hfy 1
   have hf2 := hfy 2
   go_wp2_with fail
   refine bodyPost_ret (v := .tuple #[.agg #[.string ⟨#[]⟩, .slice none 0 0, .int .i64 0], .bool false]) (by simp [results, Tryz.results158, go_sem, hres]) rfl ?_
   have hBF := ((hBL.setCell (p := ⟨w.heap.size + 1, 0, none⟩) (by simp) (.string ⟨#[]⟩)).setCell (p := ⟨w.heap.size + 1, 1, none⟩) (by simp) (.slice none 0 0)).setCell (p := ⟨w.heap.size + 1, 2, none⟩) (by simp) (.int .i64 0)
   exact ⟨Sy.zero, false, _, _, rfl, Sy.zero_rd _, .inr ⟨rfl, HF.out⟩, hBF⟩
set_option maxHeartbeats 1000000 in
theorem zeG (s : Sg) (n : ByteArray) (vs : List Value) (f : List Nat) (w : World) (hn : n.size ≤ maxLen) (hv : RdVs w s.cd vs f) :
  Calls Tryz.prog 153 #[.agg vs.toArray, .string n] w (FindOut s n w) := by
 obtain ⟨a0, c0, f0, rfl, _, m0⟩ := Sg.open hv
 have hlen := zan m0
 go_enter Tryz.func153, Tryz.ntmps153
 go_wp2_with fail
 go_loopw [6] (fun i wq => ∃ k : Nat, k ≤ s.syms.length ∧ i = .int .i64 k ∧ Hid (NotYet s n k) ∧ Below (w.heap.size + 1 + 1) ((w.alloc (.cells #[.slice a0 s.syms.length c0] 25)).alloc (.cells #[.string ⟨#[]⟩, .slice none 0 0, .int .i64 0] 109)) wq) (fun i _ => s.syms.length - (intOf i).toNat)
 case atStart => exact ⟨0, Nat.zero_le _, rfl, Lib.hid (fun x hx => by simp at hx), Below.refl _ _⟩
 case round =>
  obtain ⟨k, hkl, rfl, hall, hL⟩ := hrel
  obtain ⟨hxL, hyL, hzL, hBL⟩ := box2 hL
  have hfy := fun j => (zW hL j).2
  have cx := hxL 0
  simp only [zfg, zfe, zff] at cx
  by_cases hlt : k < s.syms.length
  ·obtain ⟨b, off, rfl, hbs, _⟩ := zk m0 (by omega)
   have hbz2 : b < wr.heap.size := by omega
   have hz0 : w.heap.size < wr.heap.size := by omega
   have hz1 : w.heap.size + 1 < wr.heap.size := by omega
   obtain ⟨ea1, ec1, ef1, d0', d1', d2', em0, em1, em2, _⟩ := Sy.at m0 hlt
   have d0 := zb d0' hBL
   have d1 := zb d1' hBL
   have d2 := zb d2' hBL
   by_cases hnm : s.syms[k].name.toList = n.toList
   ·have HF := Lib.hid (hall.out.found hlt (zaA.1 hnm))
    have hres := zZ (b := w.heap.size + 1) [(0, .string s.syms[k].name), (1, .slice ea1 s.syms[k].args.length ec1), (2, .int .i64 s.syms[k].sort)] hyL (by simp)
    simp only [zl, zbb, zfc, zfd] at hres
    have hf0 := hfy 0
    have hf1 := hfy 1
    have hf2 := hfy 2
    have y0 := hyL 0
    have y1 := hyL 1
    have y2 := hyL 2
    simp only [zfg, zfe, zff] at y0 y1 y2
    clear hyL hfy
    go_wp2_with fail
    refine bodyPost_ret (v := .tuple #[.agg #[.string s.syms[k].name, .slice ea1 s.syms[k].args.length ec1, .int .i64 s.syms[k].sort], .bool true]) (by simp [results, Tryz.results153, go_sem, hres]) rfl ?_
    have hBF := ((hBL.setCell (p := ⟨w.heap.size + 1, 0, none⟩) (by simp) (.string s.syms[k].name)).setCell (p := ⟨w.heap.size + 1, 1, none⟩) (by simp) (.slice ea1 s.syms[k].args.length ec1)).setCell (p := ⟨w.heap.size + 1, 2, none⟩) (by simp) (.int .i64 s.syms[k].sort)
    exact ⟨s.syms[k], true, _, _, rfl, (Sy.close em0 em1 em2).below hBF, .inl ⟨rfl, HF.out⟩, hBF⟩
   ·have HN := Lib.hid (hall.out.succ hlt (fun h => hnm (zaA.2 h)))
    have hnb : (s.syms[k].name.toList == n.toList) = false := by simpa using hnm
    go_wp2_with fail
    go_roundw
    case rel => exact ⟨k + 1, by omega, by go_num, HN, hL⟩
    case measure => simp [intOf]; omega
  ·have HF := Lib.hid (hall.out.all (by omega))
   have hres := zZ (b := w.heap.size + 1) [(0, .string ⟨#[]⟩), (1, .slice none 0 0), (2, .int .i64 0)] hyL (by simp)
   simp only [zl, zbb, zfc, zfd] at hres
   have hf0 := hfy 0
   have hf1 := hfy 1
   have hf2 := hfy 2
   go_wp2_with fail
   refine bodyPost_ret (v := .tuple #[.agg #[.string ⟨#[]⟩, .slice none 0 0, .int .i64 0], .bool false]) (by simp [results, Tryz.results153, go_sem, hres]) rfl ?_
   have hBF := ((hBL.setCell (p := ⟨w.heap.size + 1, 0, none⟩) (by simp) (.string ⟨#[]⟩)).setCell (p := ⟨w.heap.size + 1, 1, none⟩) (by simp) (.slice none 0 0)).setCell (p := ⟨w.heap.size + 1, 2, none⟩) (by simp) (.int .i64 0)
   exact ⟨Sy.zero, false, _, _, rfl, Sy.zero_rd _, .inr ⟨rfl, HF.out⟩, hBF⟩
end Go.Proofs.YtbfinjiledfpcaaGreat
namespace Go.Proofs.YtbfinjiledfpcaaGreat
open Go Go.RowKit
set_option linter.unusedVariables false
set_option linter.unusedSimpArgs false
set_option maxHeartbeats 1600000
/-- append of nothing, in the walk. -/
theorem zd2 {P : Program} {t e : TypeId} {z : Value} {k bytes : Nat} (hT : SlTy P t e z k bytes) {w : World} {ops : Array Oper} {rest : List Oper} {o : Oper} {a : Act} {Q : Exit → Act → World → Prop} (hgd : o.guard = none) (s x : Operand)
  (ho : o.op = .call { callee := .builtin .append, args := #[s, x], argTypes := #[t, t] }) (base ao : Option Addr) (n c c' : Nat) (hle : n ≤ c) (hs : a.eval s = .slice base n c) (hx : a.eval x = .slice ao 0 c')
  (h : wpList P ops Q rest (a.put o.dst (.slice base n c)) w) : wpList P ops Q (o :: rest) a w := by
 obtain ⟨i, hi, hz, hsz, hb⟩ := info_parts hT.info
 have hsrc : Src P i.size t (.slice ao 0 c') 0 [] w := by
  cases ao with
  | none => exact Src.ofNil _ hT.und c'
  | some ad => exact Src.ofSlice _ hT.und ad 0 c' [] (by simp) (fun j u h => by simp at h) (by simp)
 have hr := run_append_nothing (P := P) w t t o.type e i hT.und hi base n c hle _ hsrc
 refine wpList_plain hgd fun K hK => ?_
 unfold Oper.wp execOp
 simp only [ho, resolve, invoke, builtin, Sem.run_bind, Sem.run_pure, Result.andThen_ok, List.map_toArray, List.map_cons, List.map_nil, hs, hx, hr]
 exact hK _ _ h
/-- append of a whole row, read, to a row of the call's own. -/
theorem zaN {P : Program} {t e : TypeId} {z : Value} {k bytes : Nat} (hT : SlTy P t e z k bytes) {w : World} {ops : Array Oper} {rest : List Oper} {o : Oper} {a : Act} {Q : Exit → Act → World → Prop} (hgd : o.guard = none) (s x : Operand)
  (ho : o.op = .call { callee := .builtin .append, args := #[s, x], argTypes := #[t, t] })
  (base : Nat) (v : Value) (es : List (List CD)) (fp : List Nat) (hs : a.eval s = v) (hown : Own w base e k v es fp)
  (news : List (List CD)) (nv : Value) (nf : List Nat) (hx : a.eval x = nv) (hrd : Rd w (.sl news) nv nf) (hnk : ∀ x ∈ news, x.length = k) (hna : ∀ b ∈ nf, v.ownBlock ≠ some b)
  (hbytes : (es.length + news.length) * bytes ≤ 140737488355328) (hlen : es.length + news.length ≤ 140737488355328) (hbase : base ≤ w.heap.size)
  (h : ∀ v' w' nfp, (∀ b ∈ nfp, b ∈ nf) → Own w' base e k v' (es ++ news) (fp ++ nfp) → w.grownBy w' v.ownBlock → (∀ b, v'.ownBlock = some b → v.ownBlock = some b ∨ w.heap.size ≤ b) → SameOn (fp ++ nfp) w w' → wpList P ops Q rest (a.put o.dst v') w') : wpList P ops Q (o :: rest) a w := by
 obtain ⟨xa, xc, rfl, _, _⟩ := hrd.sl_form
 rcases Nat.eq_zero_or_pos news.length with hz | hne
 ·obtain rfl := List.eq_nil_of_length_eq_zero hz
  obtain ⟨va, vc, rfl, hv1, _⟩ := hown.form
  refine zd2 hT hgd s x ho va xa es.length vc xc hv1 hs hx ?_
  exact h _ w [] (by simp) (by simpa using hown) (zaE _ _) (fun b hb => .inl hb) (SameOn.refl _ _)
 ·obtain ⟨b, off, f, rfl, hb, rfl, hr⟩ := hrd.addr hne
  obtain ⟨vs, hc, hvs⟩ := hr.flat
  exact zu hT hgd s x ho base v es fp hs hown ⟨b, off, none⟩ news.length xc news vs f hx rfl hvs hnk (fun j u hj => by simpa [Addr.add_lit] using hc j u hj) (fun y hy => hna y (by simp [hy])) hbytes hlen hbase
   (fun v' w' h1 h2 h3 h4 => h v' w' f (fun y hy => by simp [hy]) h1 h2 h3 h4)
theorem zH : ∀ (xs : List Int), NoFp (xs.map zm).flatten
 | [] => fun w vs f h => by simp only [List.map_nil, List.flatten_nil, RdVs] at h; exact h.2
 | x :: xs => NoFp.append nofp_int (zH xs)
set_option maxRecDepth 100000 in
theorem zd3 (xs : List Int) (v : Value) (fp0 : List Nat) (w : World) (hbig : xs.length ≤ 1048576) (hv : Rd w (.sl (xs.map zm)) v fp0) :
  Calls Tryz.prog 118 #[v] w (zcU (.sl (xs.map zm)) w) := by
 obtain ⟨a, cap, rfl, hc1, hc2⟩ := ze hv
 cases a with
 | none =>
  have hx0 : xs = [] := by
   rcases Nat.eq_zero_or_pos xs.length with h | h
   ·exact List.eq_nil_of_length_eq_zero h
   ·obtain ⟨_, _, h2, _⟩ := zk hv h; simp at h2
  subst hx0
  have hnil : ∀ (W : World) (n c : Nat), (binOp .eql 29 (.slice none n c) (.slice none 0 0)).run Tryz.prog W = .ok (.bool true) W := fun W n c => Lib.run_eql_slice_nil_nil W n c Tryz.underlying29
  go_enter Tryz.func118, Tryz.ntmps118
  go_wp2_with fail
  go_ret
  exact ⟨_, [], rfl, by simp only [List.map_nil, Rd]; exact ⟨none, 0, rfl, by simp, by simp [maxLen], by simp⟩, Fresh.nil _ _, Below.refl _ _⟩
 | some ad =>
  have hnil : ∀ (W : World) (n c : Nat), (binOp .eql 29 (.slice (some ad) n c) (.slice none 0 0)).run Tryz.prog W = .ok (.bool false) W := fun W n c => Lib.run_eql_slice_some_nil W ad n c Tryz.underlying29
  go_enter Tryz.func118, Tryz.ntmps118
  go_wp2_with (at_builtin; refine zaN zM rfl _ _ rfl w.heap.size _ [] [] rfl (Own.empty w w.heap.size _ _ (Nat.le_refl _)) (xs.map zm) (.slice (some ad) xs.length cap) fp0 rfl (by exact hv.below (zc _ _)) ?k ?na ?bytes ?len ?base ?next)
  case k => simp only [List.mem_map]; rintro e ⟨t, _, rfl⟩; exact zD t
  case na => intro b hb h; have h1 := hv.lt _ b hb; have h2 : w.heap.size = b := Option.some.inj h; omega
  case bytes => simp; omega
  case len => simp; omega
  case base => simp
  case next =>
   intro v' w4 nfp hnf hown4 hg hv' hs4
   have hb4 := zi ((Below.refl w.heap.size w).alloc (Nat.le_refl _) _) hg (by simp) (fun q hq => by have h2 : w.heap.size = q := Option.some.inj hq; omega)
   try simp only [List.nil_append] at hown4
   obtain rfl : nfp = [] := by obtain ⟨ys, _, h, _⟩ := hown4; exact zH xs _ _ _ h
   clear hg hs4
   go_wp2_with fail
   go_ret
   obtain ⟨fp', h1, h2, _⟩ := hown4.fresh (Fresh.nil _ _)
   exact ⟨_, fp', rfl, h1, h2, hb4⟩
end Go.Proofs.YtbfinjiledfpcaaGreat
