/- Parts of the proof: ExTo Sig3 Rdr3 Rdr4. -/
import Derived.Deep.Cut
import Derived.Test.YtbfinjiledfpcaaGreatPb7
import Derived.Test.YtbfinjiledfpcaaGreatPb8
import Derived.Test.YtbfinjiledfpcaaGreatPb3
import Derived.Deep.RegionLaw
import Derived.Test.YtbfinjiledfpcaaGreatPb5
namespace Go.Proofs.YtbfinjiledfpcaaGreat
open Go Go.RowKit
set_option linter.unusedVariables false
set_option linter.unusedSimpArgs false
set_option maxHeartbeats 800000
theorem z_int (w : World) : RdVs w [.int 0] [.int .i64 0] [] := zaN (by unfold I64; omega)
theorem z_str (w : World) : RdVs w [.str ⟨#[]⟩] [.string ⟨#[]⟩] [] := zcu (by simp [maxLen, ByteArray.size])
theorem z_bool (w : World) : RdVs w [.bool false] [.bool false] [] := zbj
theorem z_sl (w : World) : RdVs w [.sl []] [.slice none 0 0] [] := RdVs.single (by simp only [Rd]; exact ⟨none, 0, rfl, by simp, by simp [maxLen], by simp⟩)
theorem zco {n : Int} : NoFp [.int n] := fun w vs f h => by obtain ⟨v, rfl, h'⟩ := RdVs.one_inv h; exact (zaS h').2.2
theorem zeK {n : ByteArray} : NoFp [.str n] := fun w vs f h => by obtain ⟨v, rfl, h'⟩ := RdVs.one_inv h; exact (zb1 h').2.2
theorem zdR {n : Bool} : NoFp [.bool n] := fun w vs f h => by obtain ⟨v, rfl, h'⟩ := RdVs.one_inv h; exact (zbu h').2
theorem zcy : NoFp [.sl []] := fun w vs f h => by
 obtain ⟨v, rfl, h'⟩ := RdVs.one_inv h
 simp only [Rd] at h'
 obtain ⟨a, c, _, _, _, ⟨_, h2⟩ | ⟨h2, _⟩⟩ := h'
 ·exact h2
 ·exact absurd rfl h2
def zcz (d : CD) (w : World) (e : Ending) (w' : World) : Prop := ∃ kv fp, e = .returned kv ∧ Rd w' d kv fp ∧ Fresh w.heap.size w' fp ∧ Below w.heap.size w w'
def zbq (ds : List CD) (w : World) (e : Ending) (w' : World) : Prop := ∃ vs fp, e = .returned (.agg vs.toArray) ∧ RdVs w' ds vs fp ∧ Fresh w.heap.size w' fp ∧ Below w.heap.size w w'
theorem cells_set {w : World} {b : Nat} {cs : Array Value} (h : ∀ j, w.cell? ⟨b, j, none⟩ = cs[j]?) (i : Nat) (v : Value) (hi : i < cs.size := by simp) : ∀ j, (w.setCell ⟨b, i, none⟩ v).cell? ⟨b, j, none⟩ = (cs.setIfInBounds i v)[j]? := by
 intro j
 by_cases hij : i = j
 ·subst hij
  rw [World.cell?_setCell_same w _ v ((h i).trans (Array.getElem?_eq_getElem hi)), Array.getElem?_setIfInBounds]
  simp [hi]
 ·rw [World.cell?_setCell_other w _ _ v (by simp [hij]), h j, Array.getElem?_setIfInBounds]
  simp [hij]
theorem zcA {w : World} {b b' : Nat} {cs : Array Value} (h : ∀ j, w.cell? ⟨b, j, none⟩ = cs[j]?) (i : Nat) (v : Value) (hne : b' ≠ b) : ∀ j, (w.setCell ⟨b', i, none⟩ v).cell? ⟨b, j, none⟩ = cs[j]? :=
 fun j => (World.cell?_setCell_other w _ _ v (by simp [hne])).trans (h j)
theorem zj {w1 w2 : World} {b : Nat} (h : ∀ j, w1.frozen? ⟨b, j, none⟩ = false) (hl : b < w1.heap.size) (hb : Below w1.heap.size w1 w2) : ∀ j, w2.frozen? ⟨b, j, none⟩ = false :=
 fun j => (hb.frozen (p := ⟨b, j, none⟩) hl).trans (h j)
theorem zaR {w : World} {b : Nat} (h : ∀ j, w.frozen? ⟨b, j, none⟩ = false) (a : Addr) (v : Value) : ∀ j, (w.setCell a v).frozen? ⟨b, j, none⟩ = false := fun j => by rw [World.frozen?_setCell]; exact h j
/-- From w to w' of what was there the blocks from lo to hi alone have turned. -/
structure Loc (lo hi : Nat) (w w' : World) : Prop where
 os : w'.os = w.os
 tape : w'.tape = w.tape
 output : w'.output = w.output
 size : w.heap.size ≤ w'.heap.size
 block : ∀ k, k < w.heap.size → (k < lo ∨ hi ≤ k) → w'.heap[k]? = w.heap[k]?
theorem Loc.refl (lo hi : Nat) (w : World) : Loc lo hi w w := ⟨rfl, rfl, rfl, Nat.le_refl _, fun _ _ _ => rfl⟩
theorem Loc.set {lo hi : Nat} {w w' : World} (h : Loc lo hi w w') {b i : Nat} {v : Value} (h1 : lo ≤ b) (h2 : b < hi) : Loc lo hi w (w'.setCell ⟨b, i, none⟩ v) :=
 ⟨h.os, h.tape, h.output, by simpa [World.setCell] using h.size, fun k hk hn => (Below.heap_setCell _ _ _ _ (by simp only; omega)).trans (h.block k hk hn)⟩
theorem Loc.below {lo hi : Nat} {w w1 w2 : World} (h : Loc lo hi w w1) (hb : Below w1.heap.size w1 w2) : Loc lo hi w w2 :=
 ⟨hb.os.trans h.os, hb.tape.trans h.tape, hb.output.trans h.output, Nat.le_trans h.size hb.size, fun k hk hn => (hb.block k (zfH hk h.size)).trans (h.block k hk hn)⟩
theorem Loc.toBelow {lo hi : Nat} {w w1 : World} (h : Loc lo hi w w1) {B : Nat} (hB : B ≤ w.heap.size) (hl : B ≤ lo) : Below B w w1 :=
 ⟨h.os, h.tape, h.output, h.size, fun k hk => h.block k (by omega) (.inl (by omega))⟩
theorem Loc.same {lo hi : Nat} {w w1 w0 : World} (h : Loc lo hi w w1) {f : List Nat} (hf : Fresh hi w f) : SameOn f w w1 := fun b hb => h.block b (hf.lt b hb) (.inr (hf.2 b hb).1)
def zu (b : Nat) : List (Nat × Value) → World → World
 | [], w => w
 | u :: r, w => zu b r (w.setCell ⟨b, u.1, none⟩ u.2)
def zab : List (Nat × Value) → List Value → List Value
 | [], l => l
 | u :: r, l => zab r (l.set u.1 u.2)
theorem zw {b : Nat} : ∀ (ups : List (Nat × Value)) {w : World} {l : List Value}, (∀ j, w.cell? ⟨b, j, none⟩ = (l.toArray)[j]?) → (∀ u ∈ ups, u.1 < l.length) → ∀ j, (zu b ups w).cell? ⟨b, j, none⟩ = ((zab ups l).toArray)[j]?
 | [], _, _, h, _ => h
 | u :: r, w, l, h, hu => by
  have h1 := cells_set h u.1 u.2 (by simpa using hu u (List.mem_cons_self ..))
  rw [zfB] at h1
  exact zw r h1 (fun x hx => by rw [List.length_set]; exact hu x (List.mem_cons_of_mem _ hx))
theorem zaA {b b' : Nat} {cs : Array Value} (hne : b' ≠ b) : ∀ (ups : List (Nat × Value)) {w : World}, (∀ j, w.cell? ⟨b, j, none⟩ = cs[j]?) → ∀ j, (zu b' ups w).cell? ⟨b, j, none⟩ = cs[j]?
 | [], _, h => h
 | u :: r, w, h => zaA hne r (zcA h u.1 u.2 hne)
theorem zan {b b' : Nat} : ∀ (ups : List (Nat × Value)) {w : World}, (∀ j, w.frozen? ⟨b, j, none⟩ = false) → ∀ j, (zu b' ups w).frozen? ⟨b, j, none⟩ = false
 | [], _, h => h
 | u :: r, w, h => zan r (zaR h _ _)
theorem Loc.sets {lo hi b : Nat} {w : World} (h1 : lo ≤ b) (h2 : b < hi) : ∀ (ups : List (Nat × Value)) {w' : World}, Loc lo hi w w' → Loc lo hi w (zu b ups w')
 | [], _, h => h
 | u :: r, w', h => Loc.sets h1 h2 r (h.set h1 h2)
theorem Fresh.app2 {lo mid : Nat} {w : World} {f g : List Nat} (h : Fresh lo w f) (hm : ∀ b ∈ f, b < mid) (h' : Fresh mid w g) (hl : lo ≤ mid) : Fresh lo w (f ++ g) := Fresh.app h hm hl h'
theorem zU : SlTy Tryz.prog 29 3 (.int .i64 0) 1 8 := ⟨Tryz.underlying29, by kernel_rfl, rfl, by omega⟩
theorem zaT : SlTy Tryz.prog 51 34 (.slice none 0 0) 1 24 := ⟨Tryz.underlying51, by kernel_rfl, rfl, by omega⟩
theorem zbl : SlTy Tryz.prog 23 109 (.agg #[.string ByteArray.empty, .slice none 0 0, .int .i64 0]) 3 48 := ⟨Tryz.underlying23, by kernel_rfl, rfl, by omega⟩
theorem zaH : SlTy Tryz.prog 39 31 (.agg #[.int .i64 0, .string ByteArray.empty, .slice none 0 0, .string ByteArray.empty, .slice none 0 0, .slice none 0 0, .slice none 0 0, .int .i64 0, .bool false]) 9 152 := ⟨Tryz.underlying39, by kernel_rfl, rfl, by omega⟩
theorem zeL : SlTy Tryz.prog 42 33 (.agg #[.int .i64 0, .string ByteArray.empty, .slice none 0 0, .string ByteArray.empty, .slice none 0 0, .slice none 0 0, .slice none 0 0, .int .i64 0, .bool false, .bool false]) 10 160 := ⟨Tryz.underlying42, by kernel_rfl, rfl, by omega⟩
theorem zao : SlTy Tryz.prog 34 36 (.agg #[.int .i64 0, .int .i64 0, .string ByteArray.empty, .slice none 0 0, .string ByteArray.empty, .slice none 0 0, .slice none 0 0, .slice none 0 0, .int .i64 0, .bool false, .bool false, .slice none 0 0]) 12 192 := ⟨Tryz.underlying34, by kernel_rfl, rfl, by omega⟩
def zJ : List CD := [.int 0, .int 0, .str ⟨#[]⟩, .sl [], .str ⟨#[]⟩, .sl [], .sl [], .sl [], .int 0, .bool false, .bool false, .sl []]
theorem za2 (w : World) : RdVs w zJ [.int .i64 0, .int .i64 0, .string ⟨#[]⟩, .slice none 0 0, .string ⟨#[]⟩, .slice none 0 0, .slice none 0 0, .slice none 0 0, .int .i64 0, .bool false, .bool false, .slice none 0 0] [] := by
 have h := (RdVs.app (z_int w) (RdVs.app (z_int w) (RdVs.app (z_str w) (RdVs.app (z_sl w) (RdVs.app (z_str w) (RdVs.app (z_sl w) (RdVs.app (z_sl w) (RdVs.app (z_sl w) (RdVs.app (z_int w) (RdVs.app (z_bool w) (RdVs.app (z_bool w) (z_sl w))))))))))))
 exact h
theorem zbw : NoFp zJ := (NoFp.append zco (NoFp.append zco (NoFp.append zeK (NoFp.append zcy (NoFp.append zeK (NoFp.append zcy (NoFp.append zcy (NoFp.append zcy (NoFp.append zco (NoFp.append zdR (NoFp.append zdR zcy)))))))))))
end Go.Proofs.YtbfinjiledfpcaaGreat
section
namespace Go.Proofs.YtbfinjiledfpcaaGreat
open Go Go.RowKit
set_option linter.unusedVariables false
set_option linter.unusedSimpArgs false
set_option maxRecDepth 100000
set_option maxHeartbeats 16000000
def Sg.find (s : Sg) (n : ByteArray) : Option Sy := s.syms.find? (fun x => decide (x.name = n))
def FindOut (s : Sg) (n : ByteArray) (w : World) (e : Ending) (w' : World) : Prop :=
 ∃ (x : Sy) (ok : Bool) (vs : List Value) (fp : List Nat), e = .returned (.tuple #[.agg vs.toArray, .bool ok]) ∧ RdVs w' x.cd vs fp ∧ ((ok = true ∧ s.find n = some x) ∨ (ok = false ∧ s.find n = none)) ∧ Below w.heap.size w w'
def NotYet (s : Sg) (n : ByteArray) (k : Nat) : Prop := ∀ x ∈ s.syms.take k, ¬ x.name = n
theorem NotYet.succ {s : Sg} {n : ByteArray} {k : Nat} (h : NotYet s n k) (hk : k < s.syms.length) (h' : ¬ s.syms[k].name = n) : NotYet s n (k + 1) := by
 intro x hx; rw [zfI hk] at hx
 rcases zfJ.1 hx with h1 | h1
 ·exact h x h1
 ·obtain rfl := List.mem_singleton.1 h1; exact h'
theorem NotYet.found {s : Sg} {n : ByteArray} {k : Nat} (h : NotYet s n k) (hk : k < s.syms.length) (h' : s.syms[k].name = n) : s.find n = some s.syms[k] := by
 have e : s.syms = s.syms.take k ++ s.syms[k] :: s.syms.drop (k + 1) := by rw [← List.drop_eq_getElem_cons hk, List.take_append_drop]
 have h2 : ∀ l : List Sy, l = s.syms.take k ++ s.syms[k] :: s.syms.drop (k + 1) → l.find? (fun x => decide (x.name = n)) = some s.syms[k] := by
  intro l hl
  rw [hl, List.find?_append, List.find?_eq_none.2 (fun x hx => by simpa using h x hx)]
  simp only [Option.none_or, List.find?_cons, h', decide_true]
 exact h2 _ e
theorem NotYet.all {s : Sg} {n : ByteArray} {k : Nat} (h : NotYet s n k) (hk : s.syms.length ≤ k) : s.find n = none := by
 unfold NotYet at h; rw [List.take_of_length_le hk] at h
 exact List.find?_eq_none.2 (fun x hx => by simpa using h x hx)
def Sy.zero : Sy := ⟨⟨#[]⟩, [], 0⟩
theorem Sy.zero_rd (w : World) : RdVs w Sy.zero.cd [.string ⟨#[]⟩, .slice none 0 0, .int .i64 0] [] :=
 Sy.close (x := Sy.zero) (a1 := none) (c1 := 0) (Nat.zero_le _) (by simp only [Sy.zero, List.map_nil, Rd]; exact ⟨none, 0, rfl, by simp, by simp [maxLen], by simp⟩) (by unfold I64 Sy.zero; exact ⟨by decide, by decide⟩)
theorem ze4 (s : Sg) (n : ByteArray) (vs : List Value) (f : List Nat) (w : World) (hn : n.size ≤ maxLen) (hv : RdVs w s.cd vs f) :
  Calls Tryz.prog 158 #[.agg vs.toArray, .string n] w (FindOut s n w) := by
 obtain ⟨a0, c0, f0, rfl, _, m0⟩ := Sg.open hv
 have hlen := zam m0
 go_enter Tryz.func158, Tryz.ntmps158
 go_wp2_with fail
 go_loopw [11] (fun i wq => ∃ k : Nat, k ≤ s.syms.length ∧ i = .int .i64 k ∧ Hid (NotYet s n k) ∧ Below (w.heap.size + 1 + 1) ((w.alloc (.cells #[.slice a0 s.syms.length c0] 25)).alloc (.cells #[.string ⟨#[]⟩, .slice none 0 0, .int .i64 0] 109)) wq) (fun i _ => s.syms.length - (intOf i).toNat)
 case atStart => exact ⟨0, Nat.zero_le _, rfl, Lib.hid (fun x hx => by simp at hx), Below.refl _ _⟩
 case round =>
  obtain ⟨k, hkl, rfl, hall, hL⟩ := hrel
  obtain ⟨hxL, hyL, hzL, hBL⟩ := box2 hL
  have hfy := fun j => (zO hL j).2
  have cx := hxL 0
  simp only [zfG, zfE, zfF] at cx
  by_cases hlt : k < s.syms.length
  ·obtain ⟨b, off, rfl, hbs, _⟩ := zr m0 (by omega)
   have hbz2 : b < wr.heap.size := by omega
   have hz0 : w.heap.size < wr.heap.size := by omega
   have hz1 : w.heap.size + 1 < wr.heap.size := by omega
   obtain ⟨ea1, ec1, ef1, d0', d1', d2', em0, em1, em2, _⟩ := Sy.at m0 hlt
   have d0 := zb d0' hBL
   have d1 := zb d1' hBL
   have d2 := zb d2' hBL
   have hLX := zas (cs := #[.string s.syms[k].name, .slice ea1 s.syms[k].args.length ec1, .int .i64 s.syms[k].sort]) (T := 109) hL (by omega)
   have hBX := zas (cs := #[.string s.syms[k].name, .slice ea1 s.syms[k].args.length ec1, .int .i64 s.syms[k].sort]) (T := 109) hBL (by omega)
   have hsz : (wr.alloc (.cells #[.string s.syms[k].name, .slice ea1 s.syms[k].args.length ec1, .int .i64 s.syms[k].sort] 109)).heap.size = wr.heap.size + 1 := by simp
   by_cases hnm : s.syms[k].name.toList = n.toList
   ·have HF := Lib.hid (hall.out.found hlt (zaG.1 hnm))
    have hres := zg (zw (b := w.heap.size + 1) [(0, .string s.syms[k].name), (1, .slice ea1 s.syms[k].args.length ec1), (2, .int .i64 s.syms[k].sort)] hyL (by simp)) (by simp [zu]; omega) (zd _ (.cells #[.string s.syms[k].name, .slice ea1 s.syms[k].args.length ec1, .int .i64 s.syms[k].sort] 109))
    simp only [zu, zab, zfC, zfD] at hres
    have hf0 := hfy 0
    have hf1 := hfy 1
    have hf2 := hfy 2
    have y0 := hyL 0
    have y1 := hyL 1
    have y2 := hyL 2
    simp only [zfG, zfE, zfF] at y0 y1 y2
    have n0 := zx wr #[.string s.syms[k].name, .slice ea1 s.syms[k].args.length ec1, .int .i64 s.syms[k].sort] 109
    clear hyL hfy
    go_wp2_with fail
    refine bodyPost_ret (v := .tuple #[.agg #[.string s.syms[k].name, .slice ea1 s.syms[k].args.length ec1, .int .i64 s.syms[k].sort], .bool true]) (by simp [results, Tryz.results158, go_sem, hres]) rfl ?_
    have hBF := zas (cs := #[.string s.syms[k].name, .slice ea1 s.syms[k].args.length ec1, .int .i64 s.syms[k].sort]) (T := 109) (((hBL.setCell (p := ⟨w.heap.size + 1, 0, none⟩) (by simp) (.string s.syms[k].name)).setCell (p := ⟨w.heap.size + 1, 1, none⟩) (by simp) (.slice ea1 s.syms[k].args.length ec1)).setCell (p := ⟨w.heap.size + 1, 2, none⟩) (by simp) (.int .i64 s.syms[k].sort)) (by simp; omega)
    exact ⟨s.syms[k], true, _, _, rfl, (Sy.close em0 em1 em2).below hBF, .inl ⟨rfl, HF.out⟩, hBF⟩
   ·have HN := Lib.hid (hall.out.succ hlt (fun h => hnm (zaG.2 h)))
    have hnb : (s.syms[k].name.toList == n.toList) = false := by simpa using hnm
    go_wp2_with fail
    go_roundw
    case rel => exact ⟨k + 1, by omega, by go_num, HN, hLX⟩
    case measure => simp [intOf]; omega
  ·have HF := Lib.hid (hall.out.all (by omega))
   have hres := zw (b := w.heap.size + 1) [(0, .string ⟨#[]⟩), (1, .slice none 0 0), (2, .int .i64 0)] hyL (by simp)
   simp only [zu, zab, zfC, zfD] at hres
   have hf0 := hfy 0
   have hf1 := hfy 1
   have hf2 := hfy 2
   go_wp2_with fail
   refine bodyPost_ret (v := .tuple #[.agg #[.string ⟨#[]⟩, .slice none 0 0, .int .i64 0], .bool false]) (by simp [results, Tryz.results158, go_sem, hres]) rfl ?_
   have hBF := ((hBL.setCell (p := ⟨w.heap.size + 1, 0, none⟩) (by simp) (.string ⟨#[]⟩)).setCell (p := ⟨w.heap.size + 1, 1, none⟩) (by simp) (.slice none 0 0)).setCell (p := ⟨w.heap.size + 1, 2, none⟩) (by simp) (.int .i64 0)
   exact ⟨Sy.zero, false, _, _, rfl, Sy.zero_rd _, .inr ⟨rfl, HF.out⟩, hBF⟩
theorem ze5 (s : Sg) (n : ByteArray) (vs : List Value) (f : List Nat) (w : World) (hn : n.size ≤ maxLen) (hv : RdVs w s.cd vs f) :
  Calls Tryz.prog 153 #[.agg vs.toArray, .string n] w (FindOut s n w) := by
 obtain ⟨a0, c0, f0, rfl, _, m0⟩ := Sg.open hv
 have hlen := zam m0
 go_enter Tryz.func153, Tryz.ntmps153
 go_wp2_with fail
 go_loopw [6] (fun i wq => ∃ k : Nat, k ≤ s.syms.length ∧ i = .int .i64 k ∧ Hid (NotYet s n k) ∧ Below (w.heap.size + 1 + 1) ((w.alloc (.cells #[.slice a0 s.syms.length c0] 25)).alloc (.cells #[.string ⟨#[]⟩, .slice none 0 0, .int .i64 0] 109)) wq) (fun i _ => s.syms.length - (intOf i).toNat)
 case atStart => exact ⟨0, Nat.zero_le _, rfl, Lib.hid (fun x hx => by simp at hx), Below.refl _ _⟩
 case round =>
  obtain ⟨k, hkl, rfl, hall, hL⟩ := hrel
  obtain ⟨hxL, hyL, hzL, hBL⟩ := box2 hL
  have hfy := fun j => (zO hL j).2
  have cx := hxL 0
  simp only [zfG, zfE, zfF] at cx
  by_cases hlt : k < s.syms.length
  ·obtain ⟨b, off, rfl, hbs, _⟩ := zr m0 (by omega)
   have hbz2 : b < wr.heap.size := by omega
   have hz0 : w.heap.size < wr.heap.size := by omega
   have hz1 : w.heap.size + 1 < wr.heap.size := by omega
   obtain ⟨ea1, ec1, ef1, d0', d1', d2', em0, em1, em2, _⟩ := Sy.at m0 hlt
   have d0 := zb d0' hBL
   have d1 := zb d1' hBL
   have d2 := zb d2' hBL
   by_cases hnm : s.syms[k].name.toList = n.toList
   ·have HF := Lib.hid (hall.out.found hlt (zaG.1 hnm))
    have hres := zw (b := w.heap.size + 1) [(0, .string s.syms[k].name), (1, .slice ea1 s.syms[k].args.length ec1), (2, .int .i64 s.syms[k].sort)] hyL (by simp)
    simp only [zu, zab, zfC, zfD] at hres
    have hf0 := hfy 0
    have hf1 := hfy 1
    have hf2 := hfy 2
    have y0 := hyL 0
    have y1 := hyL 1
    have y2 := hyL 2
    simp only [zfG, zfE, zfF] at y0 y1 y2
    clear hyL hfy
    go_wp2_with fail
    refine bodyPost_ret (v := .tuple #[.agg #[.string s.syms[k].name, .slice ea1 s.syms[k].args.length ec1, .int .i64 s.syms[k].sort], .bool true]) (by simp [results, Tryz.results153, go_sem, hres]) rfl ?_
    have hBF := ((hBL.setCell (p := ⟨w.heap.size + 1, 0, none⟩) (by simp) (.string s.syms[k].name)).setCell (p := ⟨w.heap.size + 1, 1, none⟩) (by simp) (.slice ea1 s.syms[k].args.length ec1)).setCell (p := ⟨w.heap.size + 1, 2, none⟩) (by simp) (.int .i64 s.syms[k].sort)
    exact ⟨s.syms[k], true, _, _, rfl, (Sy.close em0 em1 em2).below hBF, .inl ⟨rfl, HF.out⟩, hBF⟩
   ·have HN := Lib.hid (hall.out.succ hlt (fun h => hnm (zaG.2 h)))
    have hnb : (s.syms[k].name.toList == n.toList) = false := by simpa using hnm
    go_wp2_with fail
    go_roundw
    case rel => exact ⟨k + 1, by omega, by go_num, HN, hL⟩
    case measure => simp [intOf]; omega
  ·have HF := Lib.hid (hall.out.all (by omega))
   have hres := zw (b := w.heap.size + 1) [(0, .string ⟨#[]⟩), (1, .slice none 0 0), (2, .int .i64 0)] hyL (by simp)
   simp only [zu, zab, zfC, zfD] at hres
   have hf0 := hfy 0
   have hf1 := hfy 1
   have hf2 := hfy 2
   go_wp2_with fail
   refine bodyPost_ret (v := .tuple #[.agg #[.string ⟨#[]⟩, .slice none 0 0, .int .i64 0], .bool false]) (by simp [results, Tryz.results153, go_sem, hres]) rfl ?_
   have hBF := ((hBL.setCell (p := ⟨w.heap.size + 1, 0, none⟩) (by simp) (.string ⟨#[]⟩)).setCell (p := ⟨w.heap.size + 1, 1, none⟩) (by simp) (.slice none 0 0)).setCell (p := ⟨w.heap.size + 1, 2, none⟩) (by simp) (.int .i64 0)
   exact ⟨Sy.zero, false, _, _, rfl, Sy.zero_rd _, .inr ⟨rfl, HF.out⟩, hBF⟩
theorem zbS {w : World} {b n c k : Nat} {es : List (List CD)} {vs : List Value} {f : List Nat} (hc : ∀ j u, vs[j]? = some u → w.cell? ⟨b, j, none⟩ = some u) (h : RdVs w es.flatten vs f) (hne : es ≠ []) (hn : n = es.length) (hcap : es.length ≤ c) (hm : c ≤ 9223372036854775807) (hb : b < w.heap.size) :
  Rd w (.sl es) (.slice (some ⟨b, 0, none⟩) n c) (b :: f) := by
 simp only [Rd]
 exact ⟨_, c, by rw [hn], hcap, by simpa [maxLen] using hm, .inr ⟨hne, b, 0, f, rfl, hb, rfl, RdRows.mk (k := k) (fun j u hu => by rw [Nat.zero_add]; exact hc j u hu) h⟩⟩
theorem zeT {w : World} {α : Type} {cd : α → List CD} (a : Option Addr) : Rd w (.sl (([] : List α).map cd)) (.slice a 0 0) [] := by
 simp only [List.map_nil, Rd]; exact ⟨a, 0, rfl, by simp, by simp [maxLen], by simp⟩
/-- Words that are drawn: few, of few arguments. -/
def Sg.few (s : Sg) : Prop := s.syms.length ≤ 5 ∧ ∀ y ∈ s.syms, y.args.length ≤ 2
theorem zI (w : World) (vs : List Value) (T : Nat) (j : Nat) (u : Value) (h : vs[j]? = some u) : (w.alloc (.cells vs.toArray T)).cell? ⟨w.heap.size, j, none⟩ = some u := by
 rw [zx]; simpa using h
theorem sym0 (w : World) (nm : ByteArray) (k : Int) (h : nm.size ≤ 9223372036854775807) (hk : -9223372036854775808 ≤ k ∧ k ≤ 9223372036854775807) : RdVs w (Sy.cd ⟨nm, [], k⟩) [.string nm, .slice none 0 0, .int .i64 k] [] :=
 Sy.close (x := ⟨nm, [], k⟩) (f1 := []) (by simpa [maxLen] using h) (zeT none) hk
theorem zeU {w : World} : ∀ (l : List Int), (∀ x ∈ l, I64 x) → RdVs w (l.map zD).flatten (l.map (Value.int .i64)) []
 | [], _ => by simp only [List.map_nil, List.flatten_nil, RdVs]; exact ⟨trivial, trivial⟩
 | x :: l, h => by
  have := (RdVs.single (w := w) (d := .int x) (v := .int .i64 x) (fp := []) (by simp only [Rd]; exact ⟨trivial, h x (by simp), trivial⟩)).app (zeU l (fun y hy => h y (by simp [hy])))
  simpa [zD] using this
theorem sym1 (w : World) (nm : ByteArray) (l : List Int) (k : Int) (b : Nat) (h : nm.size ≤ 9223372036854775807) (hk : -9223372036854775808 ≤ k ∧ k ≤ 9223372036854775807) (hne : l ≠ []) (hl : l.length ≤ 1000) (ha : ∀ x ∈ l, I64 x) (hb : b < w.heap.size)
  (hc : ∀ j u, (l.map (Value.int .i64))[j]? = some u → w.cell? ⟨b, j, none⟩ = some u) : RdVs w (Sy.cd ⟨nm, l, k⟩) [.string nm, .slice (some ⟨b, 0, none⟩) l.length l.length, .int .i64 k] [b] :=
 Sy.close (x := ⟨nm, l, k⟩) (f1 := [b]) (by simpa [maxLen] using h) (zbS (k := 1) hc (zeU l ha) (by simpa using hne) (by simp) (by simp) (by omega) hb) hk
theorem Only.undrew {w w' : World} {fp : List Nat} (h : Only fp w.drew w') : Only fp w w' := ⟨h.os, h.tape, h.output, h.size, h.block⟩
theorem Only.set_new {w w' : World} {rb b i : Nat} {u : Value} (h : Only [rb] w w') (hb : w.heap.size ≤ b) : Only [rb] w (w'.setCell ⟨b, i, none⟩ u) :=
 ⟨h.os, h.tape, h.output, by simpa [World.setCell] using h.size, fun q hq hn => (Below.heap_setCell _ _ _ _ (by show q ≠ b; omega)).trans (h.block q hq hn)⟩
theorem Rdr.set {w : World} {rb p b i : Nat} {u : Value} (h : Rdr w rb p) (hb : rb < b) : Rdr (w.setCell ⟨b, i, none⟩ u) rb p := h.same (fun q hq => Below.heap_setCell _ _ _ _ (by show q ≠ b; omega))
theorem Only.free {w w' : World} {rb b i : Nat} {f : Bool} (h : Only [rb] w w') (hc : w.frozen? ⟨b, i, none⟩ = f) (hb : b < w.heap.size) (hne : b ≠ rb) : w'.frozen? ⟨b, i, none⟩ = f := zt (h.block b hb (by simpa using hne)) hc
theorem zaE {wr w2 w4 : World} {o : Obj} {row : Option Nat} {b rb : Nat} (ho : Only [rb] wr w2) (hg : (w2.alloc o).grownBy w4 row) (hl : b < wr.heap.size) (hb : b ≠ rb) (hn : row ≠ some b) : w4.heap[b]? = wr.heap[b]? := by
 have h1 : b < w2.heap.size := zfH hl ho.size
 exact ((hg.block b (by simp; omega) (fun e => hn e.symm)).trans ((zd w2 o).block b h1)).trans (ho.block b hl (by simpa using hb))
def pcap : Nat → Nat | 0 => 0 | n + 1 => 1 + 2 * pcap n
theorem Fresh.notin {lo rb : Nat} {w : World} {fp : List Nat} (h : Fresh lo w fp) (hl : rb < lo) : rb ∉ fp := fun hm => by have := (h.2 _ hm).1; omega
theorem Own.set_row {w : World} {base e k : Nat} {v : Value} {es : List (List CD)} {fp : List Nat} (h : Own w base e k v es fp) {b j : Nat} {u : Value} (hb : b < base) (hn : b ∉ fp) : Own (w.setCell ⟨b, j, none⟩ u) base e k v es fp :=
 h.same (zF (fun x hx (e : x = b) => hn (e ▸ hx))) fun x hx => Below.heap_setCell _ _ _ _ (by have := (h.block hx).1; show x ≠ b; omega)
def Sg.words (s : Sg) (so deep : Int) (k : Nat) : List Sy := (s.syms.take k).filter fun y => (y.sort == so) && (decide (1 < deep) || ((y.args.length : Int) == 0))
theorem Sg.words_yes {s : Sg} {so deep : Int} {k : Nat} (hk : k < s.syms.length) (h : ((s.syms[k].sort == so) && (decide (1 < deep) || ((s.syms[k].args.length : Int) == 0))) = true) : s.words so deep (k + 1) = s.words so deep k ++ [s.syms[k]] := by
 unfold Sg.words; rw [zfI hk, List.filter_append, List.filter_cons, if_pos h, List.filter_nil]
theorem Sg.words_no {s : Sg} {so deep : Int} {k : Nat} (hk : k < s.syms.length) (h : ((s.syms[k].sort == so) && (decide (1 < deep) || ((s.syms[k].args.length : Int) == 0))) = false) : s.words so deep (k + 1) = s.words so deep k := by
 unfold Sg.words; rw [zfI hk, List.filter_append, List.filter_cons, if_neg (by simp [h]), List.filter_nil, List.append_nil]
theorem Sg.words_len (s : Sg) (so deep : Int) (k : Nat) : (s.words so deep k).length ≤ s.syms.length := by
 unfold Sg.words; have h1 := List.length_filter_le (fun y : Sy => (y.sort == so) && (decide (1 < deep) || ((y.args.length : Int) == 0))) (s.syms.take k); have h2 : (s.syms.take k).length ≤ s.syms.length := by simp; omega
 omega
theorem Sg.words_mem {s : Sg} {so deep : Int} {k : Nat} {y : Sy} (h : y ∈ s.words so deep k) : y ∈ s.syms ∧ (0 < y.args.length → 1 < deep) := by
 unfold Sg.words at h
 rw [List.mem_filter] at h
 refine ⟨List.mem_of_mem_take h.1, fun h0 => ?_⟩
 have h2 := h.2
 simp only [zfP, Bool.or_eq_true, decide_eq_true_eq, beq_iff_eq] at h2
 omega
end Go.Proofs.YtbfinjiledfpcaaGreat
end
