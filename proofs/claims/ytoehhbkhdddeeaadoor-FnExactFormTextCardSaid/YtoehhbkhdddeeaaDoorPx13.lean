/- Parts of the proof: ExTo. -/
import Derived.Deep.Cut
import Derived.Test.YtoehhbkhdddeeaaDoorPx11
namespace Go.Proofs.YtoehhbkhdddeeaaDoor
open Go Go.RowKit
set_option linter.unusedVariables false
set_option linter.unusedSimpArgs false
set_option maxHeartbeats 800000
theorem z_int (w : World) : RdVs w [.int 0] [.int .i64 0] [] := zI (by unfold I64; omega)
theorem z_str (w : World) : RdVs w [.str ⟨#[]⟩] [.string ⟨#[]⟩] [] := zaI (by simp [maxLen, ByteArray.size])
theorem z_bool (w : World) : RdVs w [.bool false] [.bool false] [] := zR
theorem z_sl (w : World) : RdVs w [.sl []] [.slice none 0 0] [] := RdVs.single (by simp only [Rd]; exact ⟨none, 0, rfl, by simp, by simp [maxLen], by simp⟩)
theorem zak {n : Int} : NoFp [.int n] := fun w vs f h => by obtain ⟨v, rfl, h'⟩ := RdVs.one_inv h; exact (zo h').2.2
theorem za7 {n : ByteArray} : NoFp [.str n] := fun w vs f h => by obtain ⟨v, rfl, h'⟩ := RdVs.one_inv h; exact (zae h').2.2
theorem zbj {n : Bool} : NoFp [.bool n] := fun w vs f h => by obtain ⟨v, rfl, h'⟩ := RdVs.one_inv h; exact (zV h').2
theorem zau : NoFp [.sl []] := fun w vs f h => by
 obtain ⟨v, rfl, h'⟩ := RdVs.one_inv h
 simp only [Rd] at h'
 obtain ⟨a, c, _, _, _, ⟨_, h2⟩ | ⟨h2, _⟩⟩ := h'
 ·exact h2
 ·exact absurd rfl h2
def zb1 (d : CD) (w : World) (e : Ending) (w' : World) : Prop := ∃ kv fp, e = .returned kv ∧ Rd w' d kv fp ∧ Fresh w.heap.size w' fp ∧ Below w.heap.size w w'
def zal (ds : List CD) (w : World) (e : Ending) (w' : World) : Prop := ∃ vs fp, e = .returned (.agg vs.toArray) ∧ RdVs w' ds vs fp ∧ Fresh w.heap.size w' fp ∧ Below w.heap.size w w'
theorem cells_set {w : World} {b : Nat} {cs : Array Value} (h : ∀ j, w.cell? ⟨b, j, none⟩ = cs[j]?) (i : Nat) (v : Value) (hi : i < cs.size := by simp) : ∀ j, (w.setCell ⟨b, i, none⟩ v).cell? ⟨b, j, none⟩ = (cs.setIfInBounds i v)[j]? := by
 intro j
 by_cases hij : i = j
 ·subst hij
  rw [World.cell?_setCell_same w _ v ((h i).trans (Array.getElem?_eq_getElem hi)), Array.getElem?_setIfInBounds]
  simp [hi]
 ·rw [World.cell?_setCell_other w _ _ v (by simp [hij]), h j, Array.getElem?_setIfInBounds]
  simp [hij]
theorem zaM {w : World} {b b' : Nat} {cs : Array Value} (h : ∀ j, w.cell? ⟨b, j, none⟩ = cs[j]?) (i : Nat) (v : Value) (hne : b' ≠ b) : ∀ j, (w.setCell ⟨b', i, none⟩ v).cell? ⟨b, j, none⟩ = cs[j]? :=
 fun j => (World.cell?_setCell_other w _ _ v (by simp [hne])).trans (h j)
theorem zx {w1 w2 : World} {b : Nat} (h : ∀ j, w1.frozen? ⟨b, j, none⟩ = false) (hl : b < w1.heap.size) (hb : Below w1.heap.size w1 w2) : ∀ j, w2.frozen? ⟨b, j, none⟩ = false :=
 fun j => (hb.frozen (p := ⟨b, j, none⟩) hl).trans (h j)
theorem free_set {w : World} {b : Nat} (h : ∀ j, w.frozen? ⟨b, j, none⟩ = false) (a : Addr) (v : Value) : ∀ j, (w.setCell a v).frozen? ⟨b, j, none⟩ = false := fun j => by rw [World.frozen?_setCell]; exact h j
/-- From w to w' of what was there the blocks from lo to hi alone have turned. -/
structure Loc (lo hi : Nat) (w w' : World) : Prop where
 os : w'.os = w.os
 tape : w'.tape = w.tape
 output : w'.output = w.output
 size : w.heap.size ≤ w'.heap.size
 block : ∀ k, k < w.heap.size → (k < lo ∨ hi ≤ k) → w'.heap[k]? = w.heap[k]?
theorem Loc.refl (lo hi : Nat) (w : World) : Loc lo hi w w := ⟨rfl, rfl, rfl, Nat.le_refl _, fun _ _ _ => rfl⟩
theorem Loc.set {lo hi : Nat} {w w' : World} (h : Loc lo hi w w') {b i : Nat} {v : Value} (h1 : lo ≤ b) (h2 : b < hi) : Loc lo hi w (w'.setCell ⟨b, i, none⟩ v) :=
 ⟨h.os, h.tape, h.output, by simpa [World.setCell] using h.size, fun k hk hn => (Below.heap_setCell _ _ _ _ (by simp only; omega)).trans (h.block k hk hn)⟩
theorem Loc.below {lo hi : Nat} {w w1 w2 : World} (h : Loc lo hi w w1) (hb : Below w1.heap.size w1 w2) : Loc lo hi w w2 :=
 ⟨hb.os.trans h.os, hb.tape.trans h.tape, hb.output.trans h.output, Nat.le_trans h.size hb.size, fun k hk hn => (hb.block k (zcj hk h.size)).trans (h.block k hk hn)⟩
theorem Loc.toBelow {lo hi : Nat} {w w1 : World} (h : Loc lo hi w w1) {B : Nat} (hB : B ≤ w.heap.size) (hl : B ≤ lo) : Below B w w1 :=
 ⟨h.os, h.tape, h.output, h.size, fun k hk => h.block k (by omega) (.inl (by omega))⟩
theorem Loc.same {lo hi : Nat} {w w1 w0 : World} (h : Loc lo hi w w1) {f : List Nat} (hf : Fresh hi w f) : SameOn f w w1 := fun b hb => h.block b (hf.lt b hb) (.inr (hf.2 b hb).1)
def zW (b : Nat) : List (Nat × Value) → World → World
 | [], w => w
 | u :: r, w => zW b r (w.setCell ⟨b, u.1, none⟩ u.2)
def zS : List (Nat × Value) → List Value → List Value
 | [], l => l
 | u :: r, l => zS r (l.set u.1 u.2)
theorem zt {b : Nat} : ∀ (ups : List (Nat × Value)) {w : World} {l : List Value}, (∀ j, w.cell? ⟨b, j, none⟩ = (l.toArray)[j]?) → (∀ u ∈ ups, u.1 < l.length) → ∀ j, (zW b ups w).cell? ⟨b, j, none⟩ = ((zS ups l).toArray)[j]?
 | [], _, _, h, _ => h
 | u :: r, w, l, h, hu => by
  have h1 := cells_set h u.1 u.2 (by simpa using hu u (List.mem_cons_self ..))
  rw [zcd] at h1
  exact zt r h1 (fun x hx => by rw [List.length_set]; exact hu x (List.mem_cons_of_mem _ hx))
theorem zi {b b' : Nat} {cs : Array Value} (hne : b' ≠ b) : ∀ (ups : List (Nat × Value)) {w : World}, (∀ j, w.cell? ⟨b, j, none⟩ = cs[j]?) → ∀ j, (zW b' ups w).cell? ⟨b, j, none⟩ = cs[j]?
 | [], _, h => h
 | u :: r, w, h => zi hne r (zaM h u.1 u.2 hne)
theorem zw {b b' : Nat} : ∀ (ups : List (Nat × Value)) {w : World}, (∀ j, w.frozen? ⟨b, j, none⟩ = false) → ∀ j, (zW b' ups w).frozen? ⟨b, j, none⟩ = false
 | [], _, h => h
 | u :: r, w, h => zw r (free_set h _ _)
theorem Loc.sets {lo hi b : Nat} {w : World} (h1 : lo ≤ b) (h2 : b < hi) : ∀ (ups : List (Nat × Value)) {w' : World}, Loc lo hi w w' → Loc lo hi w (zW b ups w')
 | [], _, h => h
 | u :: r, w', h => Loc.sets h1 h2 r (h.set h1 h2)
theorem Fresh.app2 {lo mid : Nat} {w : World} {f g : List Nat} (h : Fresh lo w f) (hm : ∀ b ∈ f, b < mid) (h' : Fresh mid w g) (hl : lo ≤ mid) : Fresh lo w (f ++ g) := Fresh.app h hm hl h'
theorem zbN : SlTy Tryd.prog 26 3 (.int .i64 0) 1 8 := ⟨Tryd.underlying26, by kernel_rfl, rfl, by omega⟩
def zIntS : List CD := [.int 0]
theorem zIntS_rd (w : World) : RdVs w zIntS [.int .i64 0] [] := by
 have h := (z_int w)
 exact h
theorem zaZ : NoFp zIntS := zak
theorem slTyTermS : SlTy Tryd.prog 23 25 (.agg #[.string ByteArray.empty, .slice none 0 0]) 2 40 := ⟨Tryd.underlying23, by kernel_rfl, rfl, by omega⟩
def za0 : List CD := [.str ⟨#[]⟩, .sl []]
theorem zTermS_rd (w : World) : RdVs w za0 [.string ⟨#[]⟩, .slice none 0 0] [] := by
 have h := (RdVs.app (z_str w) (z_sl w))
 exact h
theorem zaN : NoFp za0 := (NoFp.append za7 zau)
theorem zbk : SlTy Tryd.prog 120 28 (.agg #[.int .i64 0, .string ByteArray.empty, .slice none 0 0, .string ByteArray.empty, .slice none 0 0, .slice none 0 0, .slice none 0 0, .int .i64 0, .bool false]) 9 152 := ⟨Tryd.underlying120, by kernel_rfl, rfl, by omega⟩
theorem slTyFormS : SlTy Tryd.prog 58 60 (.agg #[.int .i64 0, .int .i64 0, .string ByteArray.empty, .slice none 0 0, .string ByteArray.empty, .slice none 0 0, .slice none 0 0, .slice none 0 0, .int .i64 0, .bool false, .bool false, .slice none 0 0]) 12 192 := ⟨Tryd.underlying58, by kernel_rfl, rfl, by omega⟩
def zK : List CD := [.int 0, .int 0, .str ⟨#[]⟩, .sl [], .str ⟨#[]⟩, .sl [], .sl [], .sl [], .int 0, .bool false, .bool false, .sl []]
theorem zFormS_rd (w : World) : RdVs w zK [.int .i64 0, .int .i64 0, .string ⟨#[]⟩, .slice none 0 0, .string ⟨#[]⟩, .slice none 0 0, .slice none 0 0, .slice none 0 0, .int .i64 0, .bool false, .bool false, .slice none 0 0] [] := by
 have h := (RdVs.app (z_int w) (RdVs.app (z_int w) (RdVs.app (z_str w) (RdVs.app (z_sl w) (RdVs.app (z_str w) (RdVs.app (z_sl w) (RdVs.app (z_sl w) (RdVs.app (z_sl w) (RdVs.app (z_int w) (RdVs.app (z_bool w) (RdVs.app (z_bool w) (z_sl w))))))))))))
 exact h
theorem zaO : NoFp zK := (NoFp.append zak (NoFp.append zak (NoFp.append za7 (NoFp.append zau (NoFp.append za7 (NoFp.append zau (NoFp.append zau (NoFp.append zau (NoFp.append zak (NoFp.append zbj (NoFp.append zbj zau)))))))))))
theorem toIntS_x (xs : List Int) (v : Value) (fp0 : List Nat) (w : World) (hbig : xs.length + wtR (xs.map zn) ≤ 1048576) (hv : Rd w (.sl (xs.map zn)) v fp0) :
  Calls Tryd.prog 110 #[v] w (zb1 (.sl (xs.map zn)) w) := by
 obtain ⟨a, c, rfl, hc1, hc2⟩ := ze hv
 go_enter Tryd.func110, Tryd.ntmps110
 go_wp2_with (at_make; refine zaF zbN _ rfl _ _ rfl w.heap.size zIntS (fun w => zIntS_rd w) xs.length rfl rfl (by omega) (by omega) (Nat.le_refl _) ?_)
 intro w1 hown0 hb0 hz0
 go_wp2_with fail
 go_loopw [4] (fun i wr => ∃ (k : Nat) (fp : List Nat), k ≤ xs.length ∧ i = .int .i64 k ∧ Own wr w.heap.size 3 1 (.slice (some ⟨w.heap.size, 0, none⟩) xs.length xs.length) ((xs.map zn).take k ++ List.replicate (xs.length - k) zIntS) fp ∧ Fresh (w.heap.size + 1) wr fp ∧ Below w.heap.size w wr ∧ w.heap.size < wr.heap.size) (fun i _ => xs.length - (intOf i).toNat)
 case atStart => exact ⟨0, [], Nat.zero_le _, rfl, by simpa using hown0, Fresh.nil _ _, hb0, hz0⟩
 case round =>
  clear hown0 hb0 hz0
  obtain ⟨k, fp, hkl, rfl, hown, hfr, hb, hz⟩ := hrel
  by_cases hlt : k < xs.length
  ·obtain ⟨b, off, rfl, hbs, _⟩ := zk hv (by omega)
   obtain ⟨d0, m0⟩ := zC (hv.below hb) hlt
   have hle := zj zn xs (k + 1)
   rw [zm zn xs k hlt] at hle
   have hown2 := hown
   rw [show xs.length - k = (xs.length - (k + 1)) + 1 from by omega, List.replicate_succ] at hown2
   obtain ⟨zs, zf, hzc, hzr⟩ := hown2.cells
   have hzl := hzr.length
   rw [List.length_take, zcq, Nat.min_eq_left (by omega)] at hzc
   have hz0 := hzc 0 _ (List.getElem?_eq_getElem (by rw [hzl]; simp [zIntS]))
   have hfz := hown2.free
   have hf0 := hfz (k)
   clear hfz hzc
   rw [Nat.mul_one, Nat.add_zero] at hz0
   generalize zs[0]'_ = u0 at hz0
   obtain ⟨hown3, hg3⟩ := hown2.put (vs := [.int .i64 xs[k]]) (nf := []) (new := zn xs[k]) zaZ (zaZ.replicate _) (zI m0) rfl (by simp)
   rw [List.length_take, zcq, Nat.min_eq_left (by omega)] at hown3 hg3
   rw [Nat.mul_one] at hown3 hg3
   simp only [World.setCells] at hown3 hg3
   have hsz := hg3.size
   have hb4 := zD hb hg3 (by omega) (fun q hq => by simp only [Option.some.injEq] at hq; omega)
   have hfr4 : Fresh (w.heap.size + 1) wr (fp ++ []) := by simpa using hfr
   have hfr5 := hfr4.same (fun x hx => hg3.block x (hfr4.lt x hx) (fun e => by have := (hfr4.2 x hx).1; simp only [Option.some.injEq] at e; omega))
   clear hg3 hown2 hfr4
   go_wp2_with fail
   go_roundw
   case rel => exact ⟨k + 1, _, by omega, by go_num, by rw [zck (by simpa using hlt), List.getElem_map, List.append_assoc]; exact hown3, hfr5, hb4, zcj hz hsz⟩
   case measure => simp [intOf]; omega
  ·have he : (xs.map zn).take k = xs.map zn := List.take_of_length_le (by simp; omega)
   rw [he, show xs.length - k = 0 from by omega, List.replicate_zero, List.append_nil] at hown
   obtain ⟨fp', h1, h2⟩ := hown.rd
   have hfr' : Fresh w.heap.size wr fp' := by
    rcases h2 with ⟨_, _, rfl⟩ | ⟨b, c, hv, rfl, hnb, hbb, hc⟩
    ·exact Fresh.nil _ _
    ·exact ⟨List.nodup_cons.2 ⟨hnb, hfr.1⟩, fun x hx => (zcp.1 hx).elim (fun e => e ▸ ⟨hbb, c, _, hc⟩) (fun hx => ⟨by have := (hfr.2 x hx).1; omega, (hfr.2 x hx).2⟩)⟩
   go_wp2_with fail
   go_ret
   exact ⟨_, fp', rfl, h1, hfr', hb⟩
theorem zbl (n : Nat) (ih : ∀ (x : Tm) (vs : List Value) (fp : List Nat) (w : World), ndV x.cd ≤ n → wtV x.cd ≤ 1048576 → RdVs w x.cd vs fp → Calls Tryd.prog 108 #[.agg vs.toArray] w (zal x.cd w)) (xs : List Tm) (v : Value) (fp0 : List Nat) (w : World) (hn : ∀ x ∈ xs, ndV (Tm.cd x) ≤ n) (hbig : xs.length + wtR (xs.map Tm.cd) ≤ 1048576) (hv : Rd w (.sl (xs.map Tm.cd)) v fp0) :
  Calls Tryd.prog 109 #[v] w (zb1 (.sl (xs.map Tm.cd)) w) := by
 obtain ⟨a, c, rfl, hc1, hc2⟩ := ze hv
 have IH := Lib.hid ih
 have HN := Lib.hid hn
 clear ih hn
 go_enter Tryd.func109, Tryd.ntmps109
 go_wp2_with (at_make; refine zaF slTyTermS _ rfl _ _ rfl w.heap.size za0 (fun w => zTermS_rd w) xs.length rfl rfl (by omega) (by omega) (Nat.le_refl _) ?_)
 intro w1 hown0 hb0 hz0
 go_wp2_with fail
 go_loopw [4] (fun i wr => ∃ (k : Nat) (fp : List Nat), k ≤ xs.length ∧ i = .int .i64 k ∧ Own wr w.heap.size 25 2 (.slice (some ⟨w.heap.size, 0, none⟩) xs.length xs.length) ((xs.map Tm.cd).take k ++ List.replicate (xs.length - k) za0) fp ∧ Fresh (w.heap.size + 1) wr fp ∧ Below w.heap.size w wr ∧ w.heap.size < wr.heap.size) (fun i _ => xs.length - (intOf i).toNat)
 case atStart => exact ⟨0, [], Nat.zero_le _, rfl, by simpa using hown0, Fresh.nil _ _, hb0, hz0⟩
 case round =>
  clear hown0 hb0 hz0
  obtain ⟨k, fp, hkl, rfl, hown, hfr, hb, hz⟩ := hrel
  by_cases hlt : k < xs.length
  ·obtain ⟨b, off, rfl, hbs, _⟩ := zk hv (by omega)
   obtain ⟨a1, c1, f1, d0, d1, m0, m1, _⟩ := Tm.at (hv.below hb) hlt
   have hle := zj Tm.cd xs (k + 1)
   rw [zm Tm.cd xs k hlt] at hle
   go_wp2_with fail
   refine (IH.out xs[k] _ _ _ (HN.out _ (zcm hlt)) (by omega) (Tm.close m0 m1)).mono ?_
   rintro e w2 ⟨kv, fk, rfl, hrk, hfk, hb2⟩
   obtain ⟨b1, e1, g1, rfl, hfk2, n0, n1⟩ := Tm.open hrk
   have hown2 := hown.below hb2
   rw [show xs.length - k = (xs.length - (k + 1)) + 1 from by omega, List.replicate_succ] at hown2
   obtain ⟨zs, zf, hzc, hzr⟩ := hown2.cells
   have hzl := hzr.length
   rw [List.length_take, zcq, Nat.min_eq_left (by omega)] at hzc
   have hz0 := hzc 0 _ (List.getElem?_eq_getElem (by rw [hzl]; simp [za0]))
   have hz1 := hzc 1 _ (List.getElem?_eq_getElem (by rw [hzl]; simp [za0]))
   have hfz := hown2.free
   have hf0 := hfz (k * 2)
   have hf1 := hfz (k * 2 + 1)
   clear hfz hzc
   rw [Nat.add_zero] at hz0
   generalize zs[0]'_ = u0 at hz0
   generalize zs[1]'_ = u1 at hz1
   obtain ⟨hown3, hg3⟩ := hown2.put (vs := [.string xs[k].name, .slice b1 xs[k].kids.length e1]) (nf := fk) zaN (zaN.replicate _) (hrk) (by exact Tm.cd_len _) (fun hm => by have := (hfk.2 _ hm).1; omega)
   rw [List.length_take, zcq, Nat.min_eq_left (by omega)] at hown3 hg3
   simp only [World.setCells] at hown3 hg3
   have hsz := hg3.size
   have hb4 := zD (hb.trans (hb2.mono (by omega))) hg3 (by have := hb2.size; omega) (fun q hq => by simp only [Option.some.injEq] at hq; omega)
   have hfr4 : Fresh (w.heap.size + 1) w2 (fp ++ fk) := Fresh.app (hfr.below hb2) hfr.lt (by omega) hfk
   have hfr5 := hfr4.same (fun x hx => hg3.block x (hfr4.lt x hx) (fun e => by have := (hfr4.2 x hx).1; simp only [Option.some.injEq] at e; omega))
   clear hg3 hown2 hfr4
   go_wp2_with fail
   go_roundw
   case rel => exact ⟨k + 1, _, by omega, by go_num, by rw [zck (by simpa using hlt), List.getElem_map, List.append_assoc]; exact hown3, hfr5, hb4, zcj (zcj hz hb2.size) hsz⟩
   case measure => simp [intOf]; omega
  ·have he : (xs.map Tm.cd).take k = xs.map Tm.cd := List.take_of_length_le (by simp; omega)
   rw [he, show xs.length - k = 0 from by omega, List.replicate_zero, List.append_nil] at hown
   obtain ⟨fp', h1, h2⟩ := hown.rd
   have hfr' : Fresh w.heap.size wr fp' := by
    rcases h2 with ⟨_, _, rfl⟩ | ⟨b, c, hv, rfl, hnb, hbb, hc⟩
    ·exact Fresh.nil _ _
    ·exact ⟨List.nodup_cons.2 ⟨hnb, hfr.1⟩, fun x hx => (zcp.1 hx).elim (fun e => e ▸ ⟨hbb, c, _, hc⟩) (fun hx => ⟨by have := (hfr.2 x hx).1; omega, (hfr.2 x hx).2⟩)⟩
   go_wp2_with fail
   go_ret
   exact ⟨_, fp', rfl, h1, hfr', hb⟩
theorem zbO (n : Nat) : ∀ (x : Tm) (vs : List Value) (fp : List Nat) (w : World), ndV x.cd ≤ n → wtV x.cd ≤ 1048576 → RdVs w x.cd vs fp → Calls Tryd.prog 108 #[.agg vs.toArray] w (zal x.cd w) := by
 induction n with
 | zero => intro x vs fp w hn; have h : 0 < ndV x.cd := (by rw [Tm.cd_eq]; simp [ndV, ndC]; try omega); omega
 | succ n ih =>
  intro x vs fp w hn hbig hv
  have HK : Hid (∀ k ∈ x.kids, ndV k.cd ≤ n) := fun k hk => by have := Tm.kid_nd hk; omega
  have IH := Lib.hid ih
  clear ih
  obtain ⟨a1, c1, f1, rfl, _, m0, m1⟩ := Tm.open hv
  have hw : wtV x.cd = x.name.size + (x.kids.length + wtR (x.kids.map Tm.cd)) := by rw [Tm.cd_app]; simp only [zq, zO, zG, zac, zad]; try omega
  rw [hw] at hbig
  clear hw
  go_enter Tryd.func108, Tryd.ntmps108
  go_wp2_with fail
  refine (zbl n IH.out x.kids _ _ _ HK.out (by omega) (by exact m1.below ((((Below.refl _ _).alloc (Nat.le_refl _) _).alloc (by simp) _).alloc (by simp; omega) _))).mono ?_
  rintro e w1 ⟨kv1, g1, rfl, hr1, hf1, hb1⟩
  obtain ⟨hx1, hy1, ho1, fy1, fo1, hz1, hB1⟩ := box3 (w := w) (wr := w1) (cs := #[.string x.name, .slice a1 x.kids.length c1]) (ds := #[.string ⟨#[]⟩, .slice none 0 0]) (es := #[.string x.name, .slice none 0 0]) (T := 48) (U := 25) (V := 25) (zg hb1 (by simp))
  have hf1 : Fresh (w.heap.size + 1 + 1 + 1) w1 g1 := hf1.mono (by simp)
  have hF1 := hf1
  obtain ⟨b1, e1, rfl, _⟩ := ze hr1
  clear hb1
  go_wp2_with fail
  have hres := zt (b := w.heap.size + 1) [(0, .string x.name), (1, .slice b1 x.kids.length e1)] (zi (b' := w.heap.size + 1 + 1) (by omega) [(1, .slice b1 x.kids.length e1)] hy1) (by simp)
  have hL := Loc.sets (b := w.heap.size + 1) (lo := w.heap.size) (hi := w.heap.size + 1 + 1 + 1) (by omega) (by omega) [(0, .string x.name), (1, .slice b1 x.kids.length e1)] (Loc.sets (b := w.heap.size + 1 + 1) (by omega) (by omega) [(1, .slice b1 x.kids.length e1)] (Loc.refl _ _ w1))
  simp only [zW, zS, zce, zcf] at hres hL
  have hr1 := hr1.same _ (hL.same (w0 := w) hf1)
  have hfin := hF1.same (hL.same (w0 := w) hF1)
  refine bodyPost_ret (v := .agg #[.string x.name, .slice b1 x.kids.length e1]) (by simp [results, Tryd.results108, go_sem, hres]) rfl ⟨[.string x.name, .slice b1 x.kids.length e1], [] ++ g1, rfl, ?_, ?_, hB1.trans (hL.toBelow (by omega) (Nat.le_refl _))⟩
  ·rw [Tm.cd_app]
   exact ((zaI m0).app (RdVs.single hr1))
  ·have hx := hfin.mono (lo' := w.heap.size) (by omega)
   simpa [List.append_assoc] using hx
theorem toTermS_x (xs : List Tm) (v : Value) (fp0 : List Nat) (w : World) (hbig : xs.length + wtR (xs.map Tm.cd) ≤ 1048576) (hv : Rd w (.sl (xs.map Tm.cd)) v fp0) :
  Calls Tryd.prog 109 #[v] w (zb1 (.sl (xs.map Tm.cd)) w) :=
 zbl (ndR (xs.map Tm.cd)) (zbO _) xs v fp0 w (fun x hx => Nat.le_of_lt (zar (List.mem_map_of_mem hx))) hbig hv
theorem zbP (x : Tm) (vs : List Value) (fp : List Nat) (w : World) (hbig : wtV x.cd ≤ 1048576) (hv : RdVs w x.cd vs fp) :
  Calls Tryd.prog 108 #[.agg vs.toArray] w (zal x.cd w) := zbO _ x vs fp w (Nat.le_refl _) hbig hv
theorem toAtom_x (x : Atm) (vs : List Value) (fp : List Nat) (w : World) (hbig : wtV x.cd ≤ 1048576) (hv : RdVs w x.cd vs fp) :
  Calls Tryd.prog 85 #[.agg vs.toArray] w (zal x.cd w) := by
 obtain ⟨a2, c2, f2, a4, c4, f4, a5, c5, f5, a6, c6, f6, rfl, _, m0, m1, m2, m3, m4, m5, m6, m7⟩ := Atm.open hv
 have hw : wtV x.cd = wtV x.a.cd + wtV x.b.cd + (x.nums.length + wtR (x.nums.map Tm.cd)) + (x.times.length + wtR (x.times.map zn)) := by unfold Atm.cd; simp only [zq, zO, zG, zac, zad]; try omega
 rw [hw] at hbig
 clear hw
 go_enter Tryd.func85, Tryd.ntmps85
 go_wp2_with fail
 refine (zbP x.a _ _ _ (by omega) (by exact (Tm.close m1 m2).below ((((Below.refl _ _).alloc (Nat.le_refl _) _).alloc (by simp) _).alloc (by simp; omega) _))).mono ?_
 rintro e w1 ⟨kv1, g1, rfl, hr1, hf1, hb1⟩
 obtain ⟨hx1, hy1, ho1, fy1, fo1, hz1, hB1⟩ := box3 (w := w) (wr := w1) (cs := #[.int .i64 x.kind, .string x.a.name, .slice a2 x.a.kids.length c2, .string x.b.name, .slice a4 x.b.kids.length c4, .slice a5 x.nums.length c5, .slice a6 x.times.length c6, .int .i64 x.bound, .bool x.strict]) (ds := #[.int .i64 0, .string ⟨#[]⟩, .slice none 0 0, .string ⟨#[]⟩, .slice none 0 0, .slice none 0 0, .slice none 0 0, .int .i64 0, .bool false]) (es := #[.int .i64 x.kind, .string ⟨#[]⟩, .slice none 0 0, .string ⟨#[]⟩, .slice none 0 0, .slice none 0 0, .slice none 0 0, .int .i64 0, .bool false]) (T := 50) (U := 28) (V := 28) (zg hb1 (by simp))
 have hf1 : Fresh (w.heap.size + 1 + 1 + 1) w1 g1 := hf1.mono (by simp)
 have hF1 := hf1
 obtain ⟨b2, e2, gg1_1, rfl, hgg1, _, _⟩ := Tm.open hr1
 clear hb1
 go_wp2_with fail
 have hoA := zt (b := w.heap.size + 1 + 1) [(1, .string x.a.name), (2, .slice b2 x.a.kids.length e2)] ho1 (by simp)
 have hxA := zi (b' := w.heap.size + 1 + 1) (by omega) [(1, .string x.a.name), (2, .slice b2 x.a.kids.length e2)] hx1
 have hyA := zi (b' := w.heap.size + 1 + 1) (by omega) [(1, .string x.a.name), (2, .slice b2 x.a.kids.length e2)] hy1
 have fyA := zw (b' := w.heap.size + 1 + 1) [(1, .string x.a.name), (2, .slice b2 x.a.kids.length e2)] fy1
 have foA := zw (b' := w.heap.size + 1 + 1) [(1, .string x.a.name), (2, .slice b2 x.a.kids.length e2)] fo1
 have hLA := Loc.sets (b := w.heap.size + 1 + 1) (lo := w.heap.size) (hi := w.heap.size + 1 + 1 + 1) (by omega) (by omega) [(1, .string x.a.name), (2, .slice b2 x.a.kids.length e2)] (Loc.refl _ _ w1)
 have hBA := hB1.trans (hLA.toBelow (B := w.heap.size) (by omega) (Nat.le_refl _))
 have hsA := hLA.size
 simp only [zW, zS, zce, zcf] at hoA hxA hyA fyA foA hLA hBA hsA
 clear hx1 hy1 ho1 fy1 fo1
 refine (zbP x.b _ _ _ (by omega) (by exact (Tm.close m3 m4).below hBA)).mono ?_
 rintro e w2 ⟨kv2, g2, rfl, hr2, hf2, hb2⟩
 have hzA : w.heap.size + 1 + 1 + 1 ≤ _ := Nat.le_trans hz1 hsA
 have hx2 := zb hxA (by omega) hb2
 have hy2 := zb hyA (by omega) hb2
 have ho2 := zb hoA (by omega) hb2
 have fy2 := zx fyA (by omega) hb2
 have fo2 := zx foA (by omega) hb2
 have hL2 : Loc w.heap.size (w.heap.size + 1 + 1 + 1) w1 w2 := hLA.below hb2
 have hz2 := Nat.le_trans hz1 hL2.size
 have hB2 := hB1.trans (hL2.toBelow (by omega) (Nat.le_refl _))
 have hf2' : Fresh w1.heap.size w2 g2 := hf2.mono hsA
 have hf2 : Fresh (w.heap.size + 1 + 1 + 1) w2 g2 := hf2'.mono hz1
 have hF2 := Fresh.app2 (hF1.same (hL2.same (w0 := w) hF1)) hF1.lt hf2' (by omega)
 have hr1 := hr1.same _ (hL2.same (w0 := w) hf1)
 have hf1 := hf1.same (hL2.same (w0 := w) hf1)
 clear hoA hxA hyA fyA foA hLA hBA hsA hzA
 obtain ⟨b4, e4, gg2_1, rfl, hgg2, _, _⟩ := Tm.open hr2
 clear hb2
 go_wp2_with fail
 have hoA := zt (b := w.heap.size + 1 + 1) [(3, .string x.b.name), (4, .slice b4 x.b.kids.length e4)] ho2 (by simp)
 have hxA := zi (b' := w.heap.size + 1 + 1) (by omega) [(3, .string x.b.name), (4, .slice b4 x.b.kids.length e4)] hx2
 have hyA := zi (b' := w.heap.size + 1 + 1) (by omega) [(3, .string x.b.name), (4, .slice b4 x.b.kids.length e4)] hy2
 have fyA := zw (b' := w.heap.size + 1 + 1) [(3, .string x.b.name), (4, .slice b4 x.b.kids.length e4)] fy2
 have foA := zw (b' := w.heap.size + 1 + 1) [(3, .string x.b.name), (4, .slice b4 x.b.kids.length e4)] fo2
 have hLA := Loc.sets (b := w.heap.size + 1 + 1) (lo := w.heap.size) (hi := w.heap.size + 1 + 1 + 1) (by omega) (by omega) [(3, .string x.b.name), (4, .slice b4 x.b.kids.length e4)] (Loc.refl _ _ w2)
 have hBA := hB2.trans (hLA.toBelow (B := w.heap.size) (by omega) (Nat.le_refl _))
 have hsA := hLA.size
 simp only [zW, zS, zce, zcf] at hoA hxA hyA fyA foA hLA hBA hsA
 clear hx2 hy2 ho2 fy2 fo2
 refine (toTermS_x x.nums _ _ _ (by omega) (by exact m5.below hBA)).mono ?_
 rintro e w3 ⟨kv3, g3, rfl, hr3, hf3, hb3⟩
 have hzA : w.heap.size + 1 + 1 + 1 ≤ _ := Nat.le_trans hz2 hsA
 have hx3 := zb hxA (by omega) hb3
 have hy3 := zb hyA (by omega) hb3
 have ho3 := zb hoA (by omega) hb3
 have fy3 := zx fyA (by omega) hb3
 have fo3 := zx foA (by omega) hb3
 have hL3 : Loc w.heap.size (w.heap.size + 1 + 1 + 1) w2 w3 := hLA.below hb3
 have hz3 := Nat.le_trans hz2 hL3.size
 have hB3 := hB2.trans (hL3.toBelow (by omega) (Nat.le_refl _))
 have hf3' : Fresh w2.heap.size w3 g3 := hf3.mono hsA
 have hf3 : Fresh (w.heap.size + 1 + 1 + 1) w3 g3 := hf3'.mono hz2
 have hF3 := Fresh.app2 (hF2.same (hL3.same (w0 := w) hF2)) hF2.lt hf3' (by omega)
 have hr1 := hr1.same _ (hL3.same (w0 := w) hf1)
 have hf1 := hf1.same (hL3.same (w0 := w) hf1)
 have hr2 := hr2.same _ (hL3.same (w0 := w) hf2)
 have hf2 := hf2.same (hL3.same (w0 := w) hf2)
 clear hoA hxA hyA fyA foA hLA hBA hsA hzA
 obtain ⟨b5, e5, rfl, _⟩ := ze hr3
 clear hb3
 go_wp2_with fail
 have hoA := zt (b := w.heap.size + 1 + 1) [(5, .slice b5 x.nums.length e5)] ho3 (by simp)
 have hxA := zi (b' := w.heap.size + 1 + 1) (by omega) [(5, .slice b5 x.nums.length e5)] hx3
 have hyA := zi (b' := w.heap.size + 1 + 1) (by omega) [(5, .slice b5 x.nums.length e5)] hy3
 have fyA := zw (b' := w.heap.size + 1 + 1) [(5, .slice b5 x.nums.length e5)] fy3
 have foA := zw (b' := w.heap.size + 1 + 1) [(5, .slice b5 x.nums.length e5)] fo3
 have hLA := Loc.sets (b := w.heap.size + 1 + 1) (lo := w.heap.size) (hi := w.heap.size + 1 + 1 + 1) (by omega) (by omega) [(5, .slice b5 x.nums.length e5)] (Loc.refl _ _ w3)
 have hBA := hB3.trans (hLA.toBelow (B := w.heap.size) (by omega) (Nat.le_refl _))
 have hsA := hLA.size
 simp only [zW, zS, zce, zcf] at hoA hxA hyA fyA foA hLA hBA hsA
 clear hx3 hy3 ho3 fy3 fo3
 refine (toIntS_x x.times _ _ _ (by omega) (by exact m6.below hBA)).mono ?_
 rintro e w4 ⟨kv4, g4, rfl, hr4, hf4, hb4⟩
 have hzA : w.heap.size + 1 + 1 + 1 ≤ _ := Nat.le_trans hz3 hsA
 have hx4 := zb hxA (by omega) hb4
 have hy4 := zb hyA (by omega) hb4
 have ho4 := zb hoA (by omega) hb4
 have fy4 := zx fyA (by omega) hb4
 have fo4 := zx foA (by omega) hb4
 have hL4 : Loc w.heap.size (w.heap.size + 1 + 1 + 1) w3 w4 := hLA.below hb4
 have hz4 := Nat.le_trans hz3 hL4.size
 have hB4 := hB3.trans (hL4.toBelow (by omega) (Nat.le_refl _))
 have hf4' : Fresh w3.heap.size w4 g4 := hf4.mono hsA
 have hf4 : Fresh (w.heap.size + 1 + 1 + 1) w4 g4 := hf4'.mono hz3
 have hF4 := Fresh.app2 (hF3.same (hL4.same (w0 := w) hF3)) hF3.lt hf4' (by omega)
 have hr1 := hr1.same _ (hL4.same (w0 := w) hf1)
 have hf1 := hf1.same (hL4.same (w0 := w) hf1)
 have hr2 := hr2.same _ (hL4.same (w0 := w) hf2)
 have hf2 := hf2.same (hL4.same (w0 := w) hf2)
 have hr3 := hr3.same _ (hL4.same (w0 := w) hf3)
 have hf3 := hf3.same (hL4.same (w0 := w) hf3)
 clear hoA hxA hyA fyA foA hLA hBA hsA hzA
 obtain ⟨b6, e6, rfl, _⟩ := ze hr4
 clear hb4
 go_wp2_with fail
 have hres := zt (b := w.heap.size + 1) [(0, .int .i64 x.kind), (1, .string x.a.name), (2, .slice b2 x.a.kids.length e2), (3, .string x.b.name), (4, .slice b4 x.b.kids.length e4), (5, .slice b5 x.nums.length e5), (6, .slice b6 x.times.length e6), (7, .int .i64 x.bound), (8, .bool x.strict)] (zi (b' := w.heap.size + 1 + 1) (by omega) [(6, .slice b6 x.times.length e6), (7, .int .i64 x.bound), (8, .bool x.strict)] hy4) (by simp)
 have hL := Loc.sets (b := w.heap.size + 1) (lo := w.heap.size) (hi := w.heap.size + 1 + 1 + 1) (by omega) (by omega) [(0, .int .i64 x.kind), (1, .string x.a.name), (2, .slice b2 x.a.kids.length e2), (3, .string x.b.name), (4, .slice b4 x.b.kids.length e4), (5, .slice b5 x.nums.length e5), (6, .slice b6 x.times.length e6), (7, .int .i64 x.bound), (8, .bool x.strict)] (Loc.sets (b := w.heap.size + 1 + 1) (by omega) (by omega) [(6, .slice b6 x.times.length e6), (7, .int .i64 x.bound), (8, .bool x.strict)] (Loc.refl _ _ w4))
 simp only [zW, zS, zce, zcf] at hres hL
 have hr1 := hr1.same _ (hL.same (w0 := w) hf1)
 have hr2 := hr2.same _ (hL.same (w0 := w) hf2)
 have hr3 := hr3.same _ (hL.same (w0 := w) hf3)
 have hr4 := hr4.same _ (hL.same (w0 := w) hf4)
 have hfin := hF4.same (hL.same (w0 := w) hF4)
 refine bodyPost_ret (v := .agg #[.int .i64 x.kind, .string x.a.name, .slice b2 x.a.kids.length e2, .string x.b.name, .slice b4 x.b.kids.length e4, .slice b5 x.nums.length e5, .slice b6 x.times.length e6, .int .i64 x.bound, .bool x.strict]) (by simp [results, Tryd.results85, go_sem, hres]) rfl ⟨[.int .i64 x.kind, .string x.a.name, .slice b2 x.a.kids.length e2, .string x.b.name, .slice b4 x.b.kids.length e4, .slice b5 x.nums.length e5, .slice b6 x.times.length e6, .int .i64 x.bound, .bool x.strict], [] ++ (g1 ++ (g2 ++ (g3 ++ (g4 ++ ([] ++ []))))), rfl, ?_, ?_, hB4.trans (hL.toBelow (by omega) (Nat.le_refl _))⟩
 ·unfold Atm.cd
  exact ((zI m0).app (hr1.app (hr2.app ((RdVs.single hr3).app ((RdVs.single hr4).app ((zI m7).app zR))))))
 ·have hx := hfin.mono (lo' := w.heap.size) (by omega)
  simpa [List.append_assoc] using hx
theorem toLit_x (x : Lt) (vs : List Value) (fp : List Nat) (w : World) (hbig : wtV x.cd ≤ 1048576) (hv : RdVs w x.cd vs fp) :
  Calls Tryd.prog 52 #[.agg vs.toArray] w (zal x.cd w) := by
 obtain ⟨a2, c2, f2, a4, c4, f4, a5, c5, f5, a6, c6, f6, rfl, _, m0, m1, m2, m3, m4, m5, m6, m7⟩ := Lt.open hv
 have hw : wtV x.cd = wtV x.atom.cd := by unfold Lt.cd; simp only [zq, zO, zG, zac, zad]; try omega
 rw [hw] at hbig
 clear hw
 go_enter Tryd.func52, Tryd.ntmps52
 go_wp2_with fail
 refine (toAtom_x x.atom _ _ _ (by omega) (by exact (Atm.close m0 m1 m2 m3 m4 m5 m6 m7).below ((((Below.refl _ _).alloc (Nat.le_refl _) _).alloc (by simp) _).alloc (by simp; omega) _))).mono ?_
 rintro e w1 ⟨kv1, g1, rfl, hr1, hf1, hb1⟩
 obtain ⟨hx1, hy1, ho1, fy1, fo1, hz1, hB1⟩ := box3 (w := w) (wr := w1) (cs := #[.int .i64 x.atom.kind, .string x.atom.a.name, .slice a2 x.atom.a.kids.length c2, .string x.atom.b.name, .slice a4 x.atom.b.kids.length c4, .slice a5 x.atom.nums.length c5, .slice a6 x.atom.times.length c6, .int .i64 x.atom.bound, .bool x.atom.strict, .bool x.no]) (ds := #[.int .i64 0, .string ⟨#[]⟩, .slice none 0 0, .string ⟨#[]⟩, .slice none 0 0, .slice none 0 0, .slice none 0 0, .int .i64 0, .bool false, .bool false]) (es := #[.int .i64 0, .string ⟨#[]⟩, .slice none 0 0, .string ⟨#[]⟩, .slice none 0 0, .slice none 0 0, .slice none 0 0, .int .i64 0, .bool false, .bool false]) (T := 52) (U := 30) (V := 30) (zg hb1 (by simp))
 have hf1 : Fresh (w.heap.size + 1 + 1 + 1) w1 g1 := hf1.mono (by simp)
 have hF1 := hf1
 obtain ⟨b2, e2, gg1_2, b4, e4, gg1_4, b5, e5, gg1_5, b6, e6, gg1_6, rfl, hgg1, _, _, _, _, _, _, _, _⟩ := Atm.open hr1
 clear hb1
 go_upto_region 4 with (fail)
 obtain ⟨wx, hwx⟩ : ∃ wx, wx = zW (w.heap.size + 1 + 1) [(0, .int .i64 x.atom.kind), (1, .string x.atom.a.name), (2, .slice b2 x.atom.a.kids.length e2), (3, .string x.atom.b.name), (4, .slice b4 x.atom.b.kids.length e4), (5, .slice b5 x.atom.nums.length e5), (6, .slice b6 x.atom.times.length e6), (7, .int .i64 x.atom.bound), (8, .bool x.atom.strict), (9, .bool x.no)] w1 := ⟨_, rfl⟩
 have hoA := zt (b := w.heap.size + 1 + 1) [(0, .int .i64 x.atom.kind), (1, .string x.atom.a.name), (2, .slice b2 x.atom.a.kids.length e2), (3, .string x.atom.b.name), (4, .slice b4 x.atom.b.kids.length e4), (5, .slice b5 x.atom.nums.length e5), (6, .slice b6 x.atom.times.length e6), (7, .int .i64 x.atom.bound), (8, .bool x.atom.strict), (9, .bool x.no)] ho1 (by simp)
 have hyA := zi (b' := w.heap.size + 1 + 1) (by omega) [(0, .int .i64 x.atom.kind), (1, .string x.atom.a.name), (2, .slice b2 x.atom.a.kids.length e2), (3, .string x.atom.b.name), (4, .slice b4 x.atom.b.kids.length e4), (5, .slice b5 x.atom.nums.length e5), (6, .slice b6 x.atom.times.length e6), (7, .int .i64 x.atom.bound), (8, .bool x.atom.strict), (9, .bool x.no)] hy1
 have fyA := zw (b' := w.heap.size + 1 + 1) [(0, .int .i64 x.atom.kind), (1, .string x.atom.a.name), (2, .slice b2 x.atom.a.kids.length e2), (3, .string x.atom.b.name), (4, .slice b4 x.atom.b.kids.length e4), (5, .slice b5 x.atom.nums.length e5), (6, .slice b6 x.atom.times.length e6), (7, .int .i64 x.atom.bound), (8, .bool x.atom.strict), (9, .bool x.no)] fy1
 have foA := zw (b' := w.heap.size + 1 + 1) [(0, .int .i64 x.atom.kind), (1, .string x.atom.a.name), (2, .slice b2 x.atom.a.kids.length e2), (3, .string x.atom.b.name), (4, .slice b4 x.atom.b.kids.length e4), (5, .slice b5 x.atom.nums.length e5), (6, .slice b6 x.atom.times.length e6), (7, .int .i64 x.atom.bound), (8, .bool x.atom.strict), (9, .bool x.no)] fo1
 have hLA := Loc.sets (b := w.heap.size + 1 + 1) (lo := w.heap.size) (hi := w.heap.size + 1 + 1 + 1) (by omega) (by omega) [(0, .int .i64 x.atom.kind), (1, .string x.atom.a.name), (2, .slice b2 x.atom.a.kids.length e2), (3, .string x.atom.b.name), (4, .slice b4 x.atom.b.kids.length e4), (5, .slice b5 x.atom.nums.length e5), (6, .slice b6 x.atom.times.length e6), (7, .int .i64 x.atom.bound), (8, .bool x.atom.strict), (9, .bool x.no)] (Loc.refl _ _ w1)
 simp only [zS, zce, zcf] at hoA
 change Code.wp _ _ _ _ (zW (w.heap.size + 1 + 1) [(0, .int .i64 x.atom.kind), (1, .string x.atom.a.name), (2, .slice b2 x.atom.a.kids.length e2), (3, .string x.atom.b.name), (4, .slice b4 x.atom.b.kids.length e4), (5, .slice b5 x.atom.nums.length e5), (6, .slice b6 x.atom.times.length e6), (7, .int .i64 x.atom.bound), (8, .bool x.atom.strict), (9, .bool x.no)] w1)
 rw [← hwx] at hoA hyA fyA foA hLA ⊢
 have hsA := hLA.size
 clear hwx hx1 hy1 ho1 fy1 fo1
 go_wp2_with fail
 have hres := zt (b := w.heap.size + 1) [(0, .int .i64 x.atom.kind), (1, .string x.atom.a.name), (2, .slice b2 x.atom.a.kids.length e2), (3, .string x.atom.b.name), (4, .slice b4 x.atom.b.kids.length e4), (5, .slice b5 x.atom.nums.length e5), (6, .slice b6 x.atom.times.length e6), (7, .int .i64 x.atom.bound), (8, .bool x.atom.strict), (9, .bool x.no)] hyA (by simp)
 have hL := Loc.sets (b := w.heap.size + 1) (by omega) (by omega) [(0, .int .i64 x.atom.kind), (1, .string x.atom.a.name), (2, .slice b2 x.atom.a.kids.length e2), (3, .string x.atom.b.name), (4, .slice b4 x.atom.b.kids.length e4), (5, .slice b5 x.atom.nums.length e5), (6, .slice b6 x.atom.times.length e6), (7, .int .i64 x.atom.bound), (8, .bool x.atom.strict), (9, .bool x.no)] hLA
 simp only [zW, zS, zce, zcf] at hres hL
 have hr1 := hr1.same _ (hL.same (w0 := w) hf1)
 have hfin := hF1.same (hL.same (w0 := w) hF1)
 refine bodyPost_ret (v := .agg #[.int .i64 x.atom.kind, .string x.atom.a.name, .slice b2 x.atom.a.kids.length e2, .string x.atom.b.name, .slice b4 x.atom.b.kids.length e4, .slice b5 x.atom.nums.length e5, .slice b6 x.atom.times.length e6, .int .i64 x.atom.bound, .bool x.atom.strict, .bool x.no]) (by simp [results, Tryd.results52, go_sem, hres]) rfl ⟨[.int .i64 x.atom.kind, .string x.atom.a.name, .slice b2 x.atom.a.kids.length e2, .string x.atom.b.name, .slice b4 x.atom.b.kids.length e4, .slice b5 x.atom.nums.length e5, .slice b6 x.atom.times.length e6, .int .i64 x.atom.bound, .bool x.atom.strict, .bool x.no], g1 ++ [], rfl, ?_, ?_, hB1.trans (hL.toBelow (by omega) (Nat.le_refl _))⟩
 ·unfold Lt.cd
  exact (hr1.app zR)
 ·have hx := hfin.mono (lo' := w.heap.size) (by omega)
  simpa [List.append_assoc] using hx
theorem toFormS_n (n : Nat) (ih : ∀ (x : Fm) (vs : List Value) (fp : List Nat) (w : World), ndV x.cd ≤ n → wtV x.cd ≤ 1048576 → RdVs w x.cd vs fp → Calls Tryd.prog 20 #[.agg vs.toArray] w (zal x.cd w)) (xs : List Fm) (v : Value) (fp0 : List Nat) (w : World) (hn : ∀ x ∈ xs, ndV (Fm.cd x) ≤ n) (hbig : xs.length + wtR (xs.map Fm.cd) ≤ 1048576) (hv : Rd w (.sl (xs.map Fm.cd)) v fp0) :
  Calls Tryd.prog 53 #[v] w (zb1 (.sl (xs.map Fm.cd)) w) := by
 obtain ⟨a, c, rfl, hc1, hc2⟩ := ze hv
 have IH := Lib.hid ih
 have HN := Lib.hid hn
 clear ih hn
 go_enter Tryd.func53, Tryd.ntmps53
 go_wp2_with (at_make; refine zaF slTyFormS _ rfl _ _ rfl w.heap.size zK (fun w => zFormS_rd w) xs.length rfl rfl (by omega) (by omega) (Nat.le_refl _) ?_)
 intro w1 hown0 hb0 hz0
 go_wp2_with fail
 go_loopw [4] (fun i wr => ∃ (k : Nat) (fp : List Nat), k ≤ xs.length ∧ i = .int .i64 k ∧ Own wr w.heap.size 60 12 (.slice (some ⟨w.heap.size, 0, none⟩) xs.length xs.length) ((xs.map Fm.cd).take k ++ List.replicate (xs.length - k) zK) fp ∧ Fresh (w.heap.size + 1) wr fp ∧ Below w.heap.size w wr ∧ w.heap.size < wr.heap.size) (fun i _ => xs.length - (intOf i).toNat)
 case atStart => exact ⟨0, [], Nat.zero_le _, rfl, by simpa using hown0, Fresh.nil _ _, hb0, hz0⟩
 case round =>
  clear hown0 hb0 hz0
  obtain ⟨k, fp, hkl, rfl, hown, hfr, hb, hz⟩ := hrel
  by_cases hlt : k < xs.length
  ·obtain ⟨b, off, rfl, hbs, _⟩ := zk hv (by omega)
   obtain ⟨a3, c3, f3, a5, c5, f5, a6, c6, f6, a7, c7, f7, a11, c11, f11, d0, d1, d2, d3, d4, d5, d6, d7, d8, d9, d10, d11, m0, m1, m2, m3, m4, m5, m6, m7, m8, m9, _⟩ := Fm.at (hv.below hb) hlt
   have hle := zj Fm.cd xs (k + 1)
   rw [zm Fm.cd xs k hlt] at hle
   go_wp2_with fail
   refine (IH.out xs[k] _ _ _ (HN.out _ (zcm hlt)) (by omega) (Fm.close m0 m1 m2 m3 m4 m5 m6 m7 m8 m9)).mono ?_
   rintro e w2 ⟨kv, fk, rfl, hrk, hfk, hb2⟩
   obtain ⟨b3, e3, g3, b5, e5, g5, b6, e6, g6, b7, e7, g7, b11, e11, g11, rfl, hfk2, n0, n1, n2, n3, n4, n5, n6, n7, n8, n9⟩ := Fm.open hrk
   have hown2 := hown.below hb2
   rw [show xs.length - k = (xs.length - (k + 1)) + 1 from by omega, List.replicate_succ] at hown2
   obtain ⟨zs, zf, hzc, hzr⟩ := hown2.cells
   have hzl := hzr.length
   rw [List.length_take, zcq, Nat.min_eq_left (by omega)] at hzc
   have hz0 := hzc 0 _ (List.getElem?_eq_getElem (by rw [hzl]; simp [zK]))
   have hz1 := hzc 1 _ (List.getElem?_eq_getElem (by rw [hzl]; simp [zK]))
   have hz2 := hzc 2 _ (List.getElem?_eq_getElem (by rw [hzl]; simp [zK]))
   have hz3 := hzc 3 _ (List.getElem?_eq_getElem (by rw [hzl]; simp [zK]))
   have hz4 := hzc 4 _ (List.getElem?_eq_getElem (by rw [hzl]; simp [zK]))
   have hz5 := hzc 5 _ (List.getElem?_eq_getElem (by rw [hzl]; simp [zK]))
   have hz6 := hzc 6 _ (List.getElem?_eq_getElem (by rw [hzl]; simp [zK]))
   have hz7 := hzc 7 _ (List.getElem?_eq_getElem (by rw [hzl]; simp [zK]))
   have hz8 := hzc 8 _ (List.getElem?_eq_getElem (by rw [hzl]; simp [zK]))
   have hz9 := hzc 9 _ (List.getElem?_eq_getElem (by rw [hzl]; simp [zK]))
   have hz10 := hzc 10 _ (List.getElem?_eq_getElem (by rw [hzl]; simp [zK]))
   have hz11 := hzc 11 _ (List.getElem?_eq_getElem (by rw [hzl]; simp [zK]))
   have hfz := hown2.free
   have hf0 := hfz (k * 12)
   have hf1 := hfz (k * 12 + 1)
   have hf2 := hfz (k * 12 + 2)
   have hf3 := hfz (k * 12 + 3)
   have hf4 := hfz (k * 12 + 4)
   have hf5 := hfz (k * 12 + 5)
   have hf6 := hfz (k * 12 + 6)
   have hf7 := hfz (k * 12 + 7)
   have hf8 := hfz (k * 12 + 8)
   have hf9 := hfz (k * 12 + 9)
   have hf10 := hfz (k * 12 + 10)
   have hf11 := hfz (k * 12 + 11)
   clear hfz hzc
   rw [Nat.add_zero] at hz0
   generalize zs[0]'_ = u0 at hz0
   generalize zs[1]'_ = u1 at hz1
   generalize zs[2]'_ = u2 at hz2
   generalize zs[3]'_ = u3 at hz3
   generalize zs[4]'_ = u4 at hz4
   generalize zs[5]'_ = u5 at hz5
   generalize zs[6]'_ = u6 at hz6
   generalize zs[7]'_ = u7 at hz7
   generalize zs[8]'_ = u8 at hz8
   generalize zs[9]'_ = u9 at hz9
   generalize zs[10]'_ = u10 at hz10
   generalize zs[11]'_ = u11 at hz11
   obtain ⟨hown3, hg3⟩ := hown2.put (vs := [.int .i64 xs[k].kind, .int .i64 xs[k].lit.atom.kind, .string xs[k].lit.atom.a.name, .slice b3 xs[k].lit.atom.a.kids.length e3, .string xs[k].lit.atom.b.name, .slice b5 xs[k].lit.atom.b.kids.length e5, .slice b6 xs[k].lit.atom.nums.length e6, .slice b7 xs[k].lit.atom.times.length e7, .int .i64 xs[k].lit.atom.bound, .bool xs[k].lit.atom.strict, .bool xs[k].lit.no, .slice b11 xs[k].kids.length e11]) (nf := fk) zaO (zaO.replicate _) (hrk) (by exact Fm.cd_len _) (fun hm => by have := (hfk.2 _ hm).1; omega)
   rw [List.length_take, zcq, Nat.min_eq_left (by omega)] at hown3 hg3
   simp only [World.setCells] at hown3 hg3
   have hsz := hg3.size
   have hb4 := zD (hb.trans (hb2.mono (by omega))) hg3 (by have := hb2.size; omega) (fun q hq => by simp only [Option.some.injEq] at hq; omega)
   have hfr4 : Fresh (w.heap.size + 1) w2 (fp ++ fk) := Fresh.app (hfr.below hb2) hfr.lt (by omega) hfk
   have hfr5 := hfr4.same (fun x hx => hg3.block x (hfr4.lt x hx) (fun e => by have := (hfr4.2 x hx).1; simp only [Option.some.injEq] at e; omega))
   clear hg3 hown2 hfr4
   go_wp2_with fail
   go_roundw
   case rel => exact ⟨k + 1, _, by omega, by go_num, by rw [zck (by simpa using hlt), List.getElem_map, List.append_assoc]; exact hown3, hfr5, hb4, zcj (zcj hz hb2.size) hsz⟩
   case measure => simp [intOf]; omega
  ·have he : (xs.map Fm.cd).take k = xs.map Fm.cd := List.take_of_length_le (by simp; omega)
   rw [he, show xs.length - k = 0 from by omega, List.replicate_zero, List.append_nil] at hown
   obtain ⟨fp', h1, h2⟩ := hown.rd
   have hfr' : Fresh w.heap.size wr fp' := by
    rcases h2 with ⟨_, _, rfl⟩ | ⟨b, c, hv, rfl, hnb, hbb, hc⟩
    ·exact Fresh.nil _ _
    ·exact ⟨List.nodup_cons.2 ⟨hnb, hfr.1⟩, fun x hx => (zcp.1 hx).elim (fun e => e ▸ ⟨hbb, c, _, hc⟩) (fun hx => ⟨by have := (hfr.2 x hx).1; omega, (hfr.2 x hx).2⟩)⟩
   go_wp2_with fail
   go_ret
   exact ⟨_, fp', rfl, h1, hfr', hb⟩
theorem toForm_n (n : Nat) : ∀ (x : Fm) (vs : List Value) (fp : List Nat) (w : World), ndV x.cd ≤ n → wtV x.cd ≤ 1048576 → RdVs w x.cd vs fp → Calls Tryd.prog 20 #[.agg vs.toArray] w (zal x.cd w) := by
 induction n with
 | zero => intro x vs fp w hn; have h : 0 < ndV x.cd := (by rw [Fm.cd_eq]; simp [ndV, ndC]; try omega); omega
 | succ n ih =>
  intro x vs fp w hn hbig hv
  have HK : Hid (∀ k ∈ x.kids, ndV k.cd ≤ n) := fun k hk => by have := Fm.kid_nd hk; omega
  have IH := Lib.hid ih
  clear ih
  obtain ⟨a3, c3, f3, a5, c5, f5, a6, c6, f6, a7, c7, f7, a11, c11, f11, rfl, _, m0, m1, m2, m3, m4, m5, m6, m7, m8, m9⟩ := Fm.open hv
  have hw : wtV x.cd = wtV x.lit.cd + (x.kids.length + wtR (x.kids.map Fm.cd)) := by rw [Fm.cd_eq]; simp only [zq, zO, zG, zac, zad]; try omega
  rw [hw] at hbig
  clear hw
  go_enter Tryd.func20, Tryd.ntmps20
  go_wp2_with fail
  refine (toLit_x x.lit _ _ _ (by omega) (by exact (Lt.close m1 m2 m3 m4 m5 m6 m7 m8).below ((((Below.refl _ _).alloc (Nat.le_refl _) _).alloc (by simp) _).alloc (by simp; omega) _))).mono ?_
  rintro e w1 ⟨kv1, g1, rfl, hr1, hf1, hb1⟩
  obtain ⟨hx1, hy1, ho1, fy1, fo1, hz1, hB1⟩ := box3 (w := w) (wr := w1) (cs := #[.int .i64 x.kind, .int .i64 x.lit.atom.kind, .string x.lit.atom.a.name, .slice a3 x.lit.atom.a.kids.length c3, .string x.lit.atom.b.name, .slice a5 x.lit.atom.b.kids.length c5, .slice a6 x.lit.atom.nums.length c6, .slice a7 x.lit.atom.times.length c7, .int .i64 x.lit.atom.bound, .bool x.lit.atom.strict, .bool x.lit.no, .slice a11 x.kids.length c11]) (ds := #[.int .i64 0, .int .i64 0, .string ⟨#[]⟩, .slice none 0 0, .string ⟨#[]⟩, .slice none 0 0, .slice none 0 0, .slice none 0 0, .int .i64 0, .bool false, .bool false, .slice none 0 0]) (es := #[.int .i64 x.kind, .int .i64 0, .string ⟨#[]⟩, .slice none 0 0, .string ⟨#[]⟩, .slice none 0 0, .slice none 0 0, .slice none 0 0, .int .i64 0, .bool false, .bool false, .slice none 0 0]) (T := 55) (U := 60) (V := 60) (zg hb1 (by simp))
  have hf1 : Fresh (w.heap.size + 1 + 1 + 1) w1 g1 := hf1.mono (by simp)
  have hF1 := hf1
  obtain ⟨b3, e3, gg1_2, b5, e5, gg1_4, b6, e6, gg1_5, b7, e7, gg1_6, rfl, hgg1, _, _, _, _, _, _, _, _⟩ := Lt.open hr1
  clear hb1
  go_wp2_with fail
  have hoA := zt (b := w.heap.size + 1 + 1) [(1, .int .i64 x.lit.atom.kind), (2, .string x.lit.atom.a.name), (3, .slice b3 x.lit.atom.a.kids.length e3), (4, .string x.lit.atom.b.name), (5, .slice b5 x.lit.atom.b.kids.length e5), (6, .slice b6 x.lit.atom.nums.length e6), (7, .slice b7 x.lit.atom.times.length e7), (8, .int .i64 x.lit.atom.bound), (9, .bool x.lit.atom.strict), (10, .bool x.lit.no)] ho1 (by simp)
  have hxA := zi (b' := w.heap.size + 1 + 1) (by omega) [(1, .int .i64 x.lit.atom.kind), (2, .string x.lit.atom.a.name), (3, .slice b3 x.lit.atom.a.kids.length e3), (4, .string x.lit.atom.b.name), (5, .slice b5 x.lit.atom.b.kids.length e5), (6, .slice b6 x.lit.atom.nums.length e6), (7, .slice b7 x.lit.atom.times.length e7), (8, .int .i64 x.lit.atom.bound), (9, .bool x.lit.atom.strict), (10, .bool x.lit.no)] hx1
  have hyA := zi (b' := w.heap.size + 1 + 1) (by omega) [(1, .int .i64 x.lit.atom.kind), (2, .string x.lit.atom.a.name), (3, .slice b3 x.lit.atom.a.kids.length e3), (4, .string x.lit.atom.b.name), (5, .slice b5 x.lit.atom.b.kids.length e5), (6, .slice b6 x.lit.atom.nums.length e6), (7, .slice b7 x.lit.atom.times.length e7), (8, .int .i64 x.lit.atom.bound), (9, .bool x.lit.atom.strict), (10, .bool x.lit.no)] hy1
  have fyA := zw (b' := w.heap.size + 1 + 1) [(1, .int .i64 x.lit.atom.kind), (2, .string x.lit.atom.a.name), (3, .slice b3 x.lit.atom.a.kids.length e3), (4, .string x.lit.atom.b.name), (5, .slice b5 x.lit.atom.b.kids.length e5), (6, .slice b6 x.lit.atom.nums.length e6), (7, .slice b7 x.lit.atom.times.length e7), (8, .int .i64 x.lit.atom.bound), (9, .bool x.lit.atom.strict), (10, .bool x.lit.no)] fy1
  have foA := zw (b' := w.heap.size + 1 + 1) [(1, .int .i64 x.lit.atom.kind), (2, .string x.lit.atom.a.name), (3, .slice b3 x.lit.atom.a.kids.length e3), (4, .string x.lit.atom.b.name), (5, .slice b5 x.lit.atom.b.kids.length e5), (6, .slice b6 x.lit.atom.nums.length e6), (7, .slice b7 x.lit.atom.times.length e7), (8, .int .i64 x.lit.atom.bound), (9, .bool x.lit.atom.strict), (10, .bool x.lit.no)] fo1
  have hLA := Loc.sets (b := w.heap.size + 1 + 1) (lo := w.heap.size) (hi := w.heap.size + 1 + 1 + 1) (by omega) (by omega) [(1, .int .i64 x.lit.atom.kind), (2, .string x.lit.atom.a.name), (3, .slice b3 x.lit.atom.a.kids.length e3), (4, .string x.lit.atom.b.name), (5, .slice b5 x.lit.atom.b.kids.length e5), (6, .slice b6 x.lit.atom.nums.length e6), (7, .slice b7 x.lit.atom.times.length e7), (8, .int .i64 x.lit.atom.bound), (9, .bool x.lit.atom.strict), (10, .bool x.lit.no)] (Loc.refl _ _ w1)
  have hBA := hB1.trans (hLA.toBelow (B := w.heap.size) (by omega) (Nat.le_refl _))
  have hsA := hLA.size
  simp only [zW, zS, zce, zcf] at hoA hxA hyA fyA foA hLA hBA hsA
  clear hx1 hy1 ho1 fy1 fo1
  refine (toFormS_n n IH.out x.kids _ _ _ HK.out (by omega) (by exact m9.below hBA)).mono ?_
  rintro e w2 ⟨kv2, g2, rfl, hr2, hf2, hb2⟩
  have hzA : w.heap.size + 1 + 1 + 1 ≤ _ := Nat.le_trans hz1 hsA
  have hx2 := zb hxA (by omega) hb2
  have hy2 := zb hyA (by omega) hb2
  have ho2 := zb hoA (by omega) hb2
  have fy2 := zx fyA (by omega) hb2
  have fo2 := zx foA (by omega) hb2
  have hL2 : Loc w.heap.size (w.heap.size + 1 + 1 + 1) w1 w2 := hLA.below hb2
  have hz2 := Nat.le_trans hz1 hL2.size
  have hB2 := hB1.trans (hL2.toBelow (by omega) (Nat.le_refl _))
  have hf2' : Fresh w1.heap.size w2 g2 := hf2.mono hsA
  have hf2 : Fresh (w.heap.size + 1 + 1 + 1) w2 g2 := hf2'.mono hz1
  have hF2 := Fresh.app2 (hF1.same (hL2.same (w0 := w) hF1)) hF1.lt hf2' (by omega)
  have hr1 := hr1.same _ (hL2.same (w0 := w) hf1)
  have hf1 := hf1.same (hL2.same (w0 := w) hf1)
  clear hoA hxA hyA fyA foA hLA hBA hsA hzA
  obtain ⟨b11, e11, rfl, _⟩ := ze hr2
  clear hb2
  go_wp2_with fail
  have hres := zt (b := w.heap.size + 1) [(0, .int .i64 x.kind), (1, .int .i64 x.lit.atom.kind), (2, .string x.lit.atom.a.name), (3, .slice b3 x.lit.atom.a.kids.length e3), (4, .string x.lit.atom.b.name), (5, .slice b5 x.lit.atom.b.kids.length e5), (6, .slice b6 x.lit.atom.nums.length e6), (7, .slice b7 x.lit.atom.times.length e7), (8, .int .i64 x.lit.atom.bound), (9, .bool x.lit.atom.strict), (10, .bool x.lit.no), (11, .slice b11 x.kids.length e11)] (zi (b' := w.heap.size + 1 + 1) (by omega) [(11, .slice b11 x.kids.length e11)] hy2) (by simp)
  have hL := Loc.sets (b := w.heap.size + 1) (lo := w.heap.size) (hi := w.heap.size + 1 + 1 + 1) (by omega) (by omega) [(0, .int .i64 x.kind), (1, .int .i64 x.lit.atom.kind), (2, .string x.lit.atom.a.name), (3, .slice b3 x.lit.atom.a.kids.length e3), (4, .string x.lit.atom.b.name), (5, .slice b5 x.lit.atom.b.kids.length e5), (6, .slice b6 x.lit.atom.nums.length e6), (7, .slice b7 x.lit.atom.times.length e7), (8, .int .i64 x.lit.atom.bound), (9, .bool x.lit.atom.strict), (10, .bool x.lit.no), (11, .slice b11 x.kids.length e11)] (Loc.sets (b := w.heap.size + 1 + 1) (by omega) (by omega) [(11, .slice b11 x.kids.length e11)] (Loc.refl _ _ w2))
  simp only [zW, zS, zce, zcf] at hres hL
  have hr1 := hr1.same _ (hL.same (w0 := w) hf1)
  have hr2 := hr2.same _ (hL.same (w0 := w) hf2)
  have hfin := hF2.same (hL.same (w0 := w) hF2)
  refine bodyPost_ret (v := .agg #[.int .i64 x.kind, .int .i64 x.lit.atom.kind, .string x.lit.atom.a.name, .slice b3 x.lit.atom.a.kids.length e3, .string x.lit.atom.b.name, .slice b5 x.lit.atom.b.kids.length e5, .slice b6 x.lit.atom.nums.length e6, .slice b7 x.lit.atom.times.length e7, .int .i64 x.lit.atom.bound, .bool x.lit.atom.strict, .bool x.lit.no, .slice b11 x.kids.length e11]) (by simp [results, Tryd.results20, go_sem, hres]) rfl ⟨[.int .i64 x.kind, .int .i64 x.lit.atom.kind, .string x.lit.atom.a.name, .slice b3 x.lit.atom.a.kids.length e3, .string x.lit.atom.b.name, .slice b5 x.lit.atom.b.kids.length e5, .slice b6 x.lit.atom.nums.length e6, .slice b7 x.lit.atom.times.length e7, .int .i64 x.lit.atom.bound, .bool x.lit.atom.strict, .bool x.lit.no, .slice b11 x.kids.length e11], [] ++ (g1 ++ g2), rfl, ?_, ?_, hB2.trans (hL.toBelow (by omega) (Nat.le_refl _))⟩
  ·rw [Fm.cd_eq]
   exact ((zI m0).app (hr1.app (RdVs.single hr2)))
  ·have hx := hfin.mono (lo' := w.heap.size) (by omega)
   simpa [List.append_assoc] using hx
theorem za8 (x : Fm) (vs : List Value) (fp : List Nat) (w : World) (hbig : wtV x.cd ≤ 1048576) (hv : RdVs w x.cd vs fp) :
  Calls Tryd.prog 20 #[.agg vs.toArray] w (zal x.cd w) := toForm_n _ x vs fp w (Nat.le_refl _) hbig hv
end Go.Proofs.YtoehhbkhdddeeaaDoor
