/- Parts of the proof: ExTo. -/
import Derived.Deep.Cut
import Derived.Test.YtcfpnjcamcpieaaPw10
namespace Go.Proofs.Ytcfpnjcamcpieaa
open Go Go.RowKit
set_option linter.unusedVariables false
set_option linter.unusedSimpArgs false
set_option maxHeartbeats 800000
theorem z_int (w : World) : RdVs w [.int 0] [.int .i64 0] [] := zad (by unfold I64; omega)
theorem z_str (w : World) : RdVs w [.str ⟨#[]⟩] [.string ⟨#[]⟩] [] := zaw (by simp [maxLen, ByteArray.size])
theorem z_sl (w : World) : RdVs w [.sl []] [.slice none 0 0] [] := RdVs.single (by simp only [Rd]; exact ⟨none, 0, rfl, by simp, by simp [maxLen], by simp⟩)
theorem zbh {n : Int} : NoFp [.int n] := fun w vs f h => by obtain ⟨v, rfl, h'⟩ := RdVs.one_inv h; exact (zx h').2.2
theorem zaW {n : ByteArray} : NoFp [.str n] := fun w vs f h => by obtain ⟨v, rfl, h'⟩ := RdVs.one_inv h; exact (zaE h').2.2
theorem za3 : NoFp [.sl []] := fun w vs f h => by
 obtain ⟨v, rfl, h'⟩ := RdVs.one_inv h
 simp only [Rd] at h'
 obtain ⟨a, c, _, _, _, ⟨_, h2⟩ | ⟨h2, _⟩⟩ := h'
 ·exact h2
 ·exact absurd rfl h2
def ToOut (d : CD) (w : World) (e : Ending) (w' : World) : Prop := ∃ kv fp, e = .returned kv ∧ Rd w' d kv fp ∧ Fresh w.heap.size w' fp ∧ Below w.heap.size w w'
def zaX (ds : List CD) (w : World) (e : Ending) (w' : World) : Prop := ∃ vs fp, e = .returned (.agg vs.toArray) ∧ RdVs w' ds vs fp ∧ Fresh w.heap.size w' fp ∧ Below w.heap.size w w'
theorem cells_set {w : World} {b : Nat} {cs : Array Value} (h : ∀ j, w.cell? ⟨b, j, none⟩ = cs[j]?) (i : Nat) (v : Value) (hi : i < cs.size := by simp) : ∀ j, (w.setCell ⟨b, i, none⟩ v).cell? ⟨b, j, none⟩ = (cs.setIfInBounds i v)[j]? := by
 intro j
 by_cases hij : i = j
 ·subst hij
  rw [World.cell?_setCell_same w _ v ((h i).trans (Array.getElem?_eq_getElem hi)), Array.getElem?_setIfInBounds]
  simp [hi]
 ·rw [World.cell?_setCell_other w _ _ v (by simp [hij]), h j, Array.getElem?_setIfInBounds]
  simp [hij]
theorem zbo {w : World} {b b' : Nat} {cs : Array Value} (h : ∀ j, w.cell? ⟨b, j, none⟩ = cs[j]?) (i : Nat) (v : Value) (hne : b' ≠ b) : ∀ j, (w.setCell ⟨b', i, none⟩ v).cell? ⟨b, j, none⟩ = cs[j]? :=
 fun j => (World.cell?_setCell_other w _ _ v (by simp [hne])).trans (h j)
theorem zaG {w1 w2 : World} {b : Nat} (h : ∀ j, w1.frozen? ⟨b, j, none⟩ = false) (hl : b < w1.heap.size) (hb : Below w1.heap.size w1 w2) : ∀ j, w2.frozen? ⟨b, j, none⟩ = false :=
 fun j => (hb.frozen (p := ⟨b, j, none⟩) hl).trans (h j)
theorem free_set {w : World} {b : Nat} (h : ∀ j, w.frozen? ⟨b, j, none⟩ = false) (a : Addr) (v : Value) : ∀ j, (w.setCell a v).frozen? ⟨b, j, none⟩ = false := fun j => by rw [World.frozen?_setCell]; exact h j
/-- From w to w' of what was there the blocks from lo to hi alone have turned. -/
structure Loc (lo hi : Nat) (w w' : World) : Prop where
 os : w'.os = w.os
 tape : w'.tape = w.tape
 output : w'.output = w.output
 size : w.heap.size ≤ w'.heap.size
 block : ∀ k, k < w.heap.size → (k < lo ∨ hi ≤ k) → w'.heap[k]? = w.heap[k]?
theorem Loc.refl (lo hi : Nat) (w : World) : Loc lo hi w w := ⟨rfl, rfl, rfl, Nat.le_refl _, fun _ _ _ => rfl⟩
theorem Loc.set {lo hi : Nat} {w w' : World} (h : Loc lo hi w w') {b i : Nat} {v : Value} (h1 : lo ≤ b) (h2 : b < hi) : Loc lo hi w (w'.setCell ⟨b, i, none⟩ v) :=
 ⟨h.os, h.tape, h.output, by simpa [World.setCell] using h.size, fun k hk hn => (Below.heap_setCell _ _ _ _ (by simp only; omega)).trans (h.block k hk hn)⟩
theorem Loc.below {lo hi : Nat} {w w1 w2 : World} (h : Loc lo hi w w1) (hb : Below w1.heap.size w1 w2) : Loc lo hi w w2 :=
 ⟨hb.os.trans h.os, hb.tape.trans h.tape, hb.output.trans h.output, Nat.le_trans h.size hb.size, fun k hk hn => (hb.block k (zc4 hk h.size)).trans (h.block k hk hn)⟩
theorem Loc.toBelow {lo hi : Nat} {w w1 : World} (h : Loc lo hi w w1) {B : Nat} (hB : B ≤ w.heap.size) (hl : B ≤ lo) : Below B w w1 :=
 ⟨h.os, h.tape, h.output, h.size, fun k hk => h.block k (by omega) (.inl (by omega))⟩
theorem Loc.same {lo hi : Nat} {w w1 w0 : World} (h : Loc lo hi w w1) {f : List Nat} (hf : Fresh hi w f) : SameOn f w w1 := fun b hb => h.block b (hf.lt b hb) (.inr (hf.2 b hb).1)
def zF (b : Nat) : List (Nat × Value) → World → World
 | [], w => w
 | u :: r, w => zF b r (w.setCell ⟨b, u.1, none⟩ u.2)
def zQ : List (Nat × Value) → List Value → List Value
 | [], l => l
 | u :: r, l => zQ r (l.set u.1 u.2)
theorem zq {b : Nat} : ∀ (ups : List (Nat × Value)) {w : World} {l : List Value}, (∀ j, w.cell? ⟨b, j, none⟩ = (l.toArray)[j]?) → (∀ u ∈ ups, u.1 < l.length) → ∀ j, (zF b ups w).cell? ⟨b, j, none⟩ = ((zQ ups l).toArray)[j]?
 | [], _, _, h, _ => h
 | u :: r, w, l, h, hu => by
  have h1 := cells_set h u.1 u.2 (by simpa using hu u (List.mem_cons_self ..))
  rw [zcY] at h1
  exact zq r h1 (fun x hx => by rw [List.length_set]; exact hu x (List.mem_cons_of_mem _ hx))
theorem zu {b b' : Nat} {cs : Array Value} (hne : b' ≠ b) : ∀ (ups : List (Nat × Value)) {w : World}, (∀ j, w.cell? ⟨b, j, none⟩ = cs[j]?) → ∀ j, (zF b' ups w).cell? ⟨b, j, none⟩ = cs[j]?
 | [], _, h => h
 | u :: r, w, h => zu hne r (zbo h u.1 u.2 hne)
theorem zaz {b b' : Nat} : ∀ (ups : List (Nat × Value)) {w : World}, (∀ j, w.frozen? ⟨b, j, none⟩ = false) → ∀ j, (zF b' ups w).frozen? ⟨b, j, none⟩ = false
 | [], _, h => h
 | u :: r, w, h => zaz r (free_set h _ _)
theorem Loc.sets {lo hi b : Nat} {w : World} (h1 : lo ≤ b) (h2 : b < hi) : ∀ (ups : List (Nat × Value)) {w' : World}, Loc lo hi w w' → Loc lo hi w (zF b ups w')
 | [], _, h => h
 | u :: r, w', h => Loc.sets h1 h2 r (h.set h1 h2)
theorem Fresh.app2 {lo mid : Nat} {w : World} {f g : List Nat} (h : Fresh lo w f) (hm : ∀ b ∈ f, b < mid) (h' : Fresh mid w g) (hl : lo ≤ mid) : Fresh lo w (f ++ g) := Fresh.app h hm hl h'
theorem slTyIntS : SlTy Try.prog 85 3 (.int .i64 0) 1 8 := ⟨Try.underlying85, by kernel_rfl, rfl, by omega⟩
def zIntS : List CD := [.int 0]
theorem zIntS_rd (w : World) : RdVs w zIntS [.int .i64 0] [] := by
 have h := (z_int w)
 exact h
theorem zbE : NoFp zIntS := zbh
theorem slTySymS : SlTy Try.prog 42 94 (.agg #[.string ByteArray.empty, .slice none 0 0, .int .i64 0]) 3 48 := ⟨Try.underlying42, by kernel_rfl, rfl, by omega⟩
def zck : List CD := [.str ⟨#[]⟩, .sl [], .int 0]
theorem zSymS_rd (w : World) : RdVs w zck [.string ⟨#[]⟩, .slice none 0 0, .int .i64 0] [] := by
 have h := (RdVs.app (z_str w) (RdVs.app (z_sl w) (z_int w)))
 exact h
theorem zbF : NoFp zck := (NoFp.append zaW (NoFp.append za3 zbh))
theorem slTyTermS : SlTy Try.prog 35 37 (.agg #[.string ByteArray.empty, .slice none 0 0]) 2 40 := ⟨Try.underlying35, by kernel_rfl, rfl, by omega⟩
def zbG : List CD := [.str ⟨#[]⟩, .sl []]
theorem zTermS_rd (w : World) : RdVs w zbG [.string ⟨#[]⟩, .slice none 0 0] [] := by
 have h := (RdVs.app (z_str w) (z_sl w))
 exact h
theorem zbp : NoFp zbG := (NoFp.append zaW za3)
theorem zZ : SlTy Try.prog 46 39 (.agg #[.string ByteArray.empty, .slice none 0 0, .string ByteArray.empty, .slice none 0 0]) 4 80 := ⟨Try.underlying46, by kernel_rfl, rfl, by omega⟩
def zEqS : List CD := [.str ⟨#[]⟩, .sl [], .str ⟨#[]⟩, .sl []]
theorem zEqS_rd (w : World) : RdVs w zEqS [.string ⟨#[]⟩, .slice none 0 0, .string ⟨#[]⟩, .slice none 0 0] [] := by
 have h := (RdVs.app (z_str w) (RdVs.app (z_sl w) (RdVs.app (z_str w) (z_sl w))))
 exact h
theorem zb5 : NoFp zEqS := (NoFp.append zaW (NoFp.append za3 (NoFp.append zaW za3)))
theorem slTyWhyS : SlTy Try.prog 48 50 (.agg #[.int .i64 0, .int .i64 0, .string ByteArray.empty, .slice none 0 0, .slice none 0 0]) 5 80 := ⟨Try.underlying48, by kernel_rfl, rfl, by omega⟩
def zbR : List CD := [.int 0, .int 0, .str ⟨#[]⟩, .sl [], .sl []]
theorem zWhyS_rd (w : World) : RdVs w zbR [.int .i64 0, .int .i64 0, .string ⟨#[]⟩, .slice none 0 0, .slice none 0 0] [] := by
 have h := (RdVs.app (z_int w) (RdVs.app (z_int w) (RdVs.app (z_str w) (RdVs.app (z_sl w) (z_sl w)))))
 exact h
theorem zbH : NoFp zbR := (NoFp.append zbh (NoFp.append zbh (NoFp.append zaW (NoFp.append za3 za3))))
theorem toIntS_x (xs : List Int) (v : Value) (fp0 : List Nat) (w : World) (hbig : xs.length + wtR (xs.map zt) ≤ 1048576) (hv : Rd w (.sl (xs.map zt)) v fp0) :
  Calls Try.prog 74 #[v] w (ToOut (.sl (xs.map zt)) w) := by
 obtain ⟨a, c, rfl, hc1, hc2⟩ := ze hv
 go_enter Try.func74, Try.ntmps74
 go_wp2_with (at_make; refine zav slTyIntS _ rfl _ _ rfl w.heap.size zIntS (fun w => zIntS_rd w) xs.length rfl rfl (by omega) (by omega) (Nat.le_refl _) ?_)
 intro w1 hown0 hb0 hz0
 go_wp2_with fail
 go_loopw [4] (fun i wr => ∃ (k : Nat) (fp : List Nat), k ≤ xs.length ∧ i = .int .i64 k ∧ Own wr w.heap.size 3 1 (.slice (some ⟨w.heap.size, 0, none⟩) xs.length xs.length) ((xs.map zt).take k ++ List.replicate (xs.length - k) zIntS) fp ∧ Fresh (w.heap.size + 1) wr fp ∧ Below w.heap.size w wr ∧ w.heap.size < wr.heap.size) (fun i _ => xs.length - (intOf i).toNat)
 case atStart => exact ⟨0, [], Nat.zero_le _, rfl, by simpa using hown0, Fresh.nil _ _, hb0, hz0⟩
 case round =>
  clear hown0 hb0 hz0
  obtain ⟨k, fp, hkl, rfl, hown, hfr, hb, hz⟩ := hrel
  by_cases hlt : k < xs.length
  ·obtain ⟨b, off, rfl, hbs, _⟩ := zk hv (by omega)
   obtain ⟨d0, m0⟩ := zam (hv.below hb) hlt
   have hle := zN zt xs (k + 1)
   rw [zE zt xs k hlt] at hle
   have hown2 := hown
   rw [show xs.length - k = (xs.length - (k + 1)) + 1 from by omega, List.replicate_succ] at hown2
   obtain ⟨zs, zf, hzc, hzr⟩ := hown2.cells
   have hzl := hzr.length
   rw [List.length_take, zdb, Nat.min_eq_left (by omega)] at hzc
   have hz0 := hzc 0 _ (List.getElem?_eq_getElem (by rw [hzl]; simp [zIntS]))
   have hfz := hown2.free
   have hf0 := hfz (k)
   clear hfz hzc
   rw [Nat.mul_one, Nat.add_zero] at hz0
   generalize zs[0]'_ = u0 at hz0
   obtain ⟨hown3, hg3⟩ := hown2.put (vs := [.int .i64 xs[k]]) (nf := []) (new := zt xs[k]) zbE (zbE.replicate _) (zad m0) rfl (by simp)
   rw [List.length_take, zdb, Nat.min_eq_left (by omega)] at hown3 hg3
   rw [Nat.mul_one] at hown3 hg3
   simp only [World.setCells] at hown3 hg3
   have hsz := hg3.size
   have hb4 := zh hb hg3 (by omega) (fun q hq => by simp only [Option.some.injEq] at hq; omega)
   have hfr4 : Fresh (w.heap.size + 1) wr (fp ++ []) := by simpa using hfr
   have hfr5 := hfr4.same (fun x hx => hg3.block x (hfr4.lt x hx) (fun e => by have := (hfr4.2 x hx).1; simp only [Option.some.injEq] at e; omega))
   clear hg3 hown2 hfr4
   go_wp2_with fail
   go_roundw
   case rel => exact ⟨k + 1, _, by omega, by go_num, by rw [zc5 (by simpa using hlt), List.getElem_map, List.append_assoc]; exact hown3, hfr5, hb4, zc4 hz hsz⟩
   case measure => simp [intOf]; omega
  ·have he : (xs.map zt).take k = xs.map zt := List.take_of_length_le (by simp; omega)
   rw [he, show xs.length - k = 0 from by omega, List.replicate_zero, List.append_nil] at hown
   obtain ⟨fp', h1, h2⟩ := hown.rd
   have hfr' : Fresh w.heap.size wr fp' := by
    rcases h2 with ⟨_, _, rfl⟩ | ⟨b, c, hv, rfl, hnb, hbb, hc⟩
    ·exact Fresh.nil _ _
    ·exact ⟨List.nodup_cons.2 ⟨hnb, hfr.1⟩, fun x hx => (zda.1 hx).elim (fun e => e ▸ ⟨hbb, c, _, hc⟩) (fun hx => ⟨by have := (hfr.2 x hx).1; omega, (hfr.2 x hx).2⟩)⟩
   go_wp2_with fail
   go_ret
   exact ⟨_, fp', rfl, h1, hfr', hb⟩
theorem toTermS_n (n : Nat) (ih : ∀ (x : Tm) (vs : List Value) (fp : List Nat) (w : World), ndV x.cd ≤ n → wtV x.cd ≤ 1048576 → RdVs w x.cd vs fp → Calls Try.prog 30 #[.agg vs.toArray] w (zaX x.cd w)) (xs : List Tm) (v : Value) (fp0 : List Nat) (w : World) (hn : ∀ x ∈ xs, ndV (Tm.cd x) ≤ n) (hbig : xs.length + wtR (xs.map Tm.cd) ≤ 1048576) (hv : Rd w (.sl (xs.map Tm.cd)) v fp0) :
  Calls Try.prog 52 #[v] w (ToOut (.sl (xs.map Tm.cd)) w) := by
 obtain ⟨a, c, rfl, hc1, hc2⟩ := ze hv
 have IH := Lib.hid ih
 have HN := Lib.hid hn
 clear ih hn
 go_enter Try.func52, Try.ntmps52
 go_wp2_with (at_make; refine zav slTyTermS _ rfl _ _ rfl w.heap.size zbG (fun w => zTermS_rd w) xs.length rfl rfl (by omega) (by omega) (Nat.le_refl _) ?_)
 intro w1 hown0 hb0 hz0
 go_wp2_with fail
 go_loopw [4] (fun i wr => ∃ (k : Nat) (fp : List Nat), k ≤ xs.length ∧ i = .int .i64 k ∧ Own wr w.heap.size 37 2 (.slice (some ⟨w.heap.size, 0, none⟩) xs.length xs.length) ((xs.map Tm.cd).take k ++ List.replicate (xs.length - k) zbG) fp ∧ Fresh (w.heap.size + 1) wr fp ∧ Below w.heap.size w wr ∧ w.heap.size < wr.heap.size) (fun i _ => xs.length - (intOf i).toNat)
 case atStart => exact ⟨0, [], Nat.zero_le _, rfl, by simpa using hown0, Fresh.nil _ _, hb0, hz0⟩
 case round =>
  clear hown0 hb0 hz0
  obtain ⟨k, fp, hkl, rfl, hown, hfr, hb, hz⟩ := hrel
  by_cases hlt : k < xs.length
  ·obtain ⟨b, off, rfl, hbs, _⟩ := zk hv (by omega)
   obtain ⟨a1, c1, f1, d0, d1, m0, m1, _⟩ := Tm.at (hv.below hb) hlt
   have hle := zN Tm.cd xs (k + 1)
   rw [zE Tm.cd xs k hlt] at hle
   go_wp2_with fail
   refine (IH.out xs[k] _ _ _ (HN.out _ (zc7 hlt)) (by omega) (Tm.close m0 m1)).mono ?_
   rintro e w2 ⟨kv, fk, rfl, hrk, hfk, hb2⟩
   obtain ⟨b1, e1, g1, rfl, hfk2, n0, n1⟩ := Tm.open hrk
   have hown2 := hown.below hb2
   rw [show xs.length - k = (xs.length - (k + 1)) + 1 from by omega, List.replicate_succ] at hown2
   obtain ⟨zs, zf, hzc, hzr⟩ := hown2.cells
   have hzl := hzr.length
   rw [List.length_take, zdb, Nat.min_eq_left (by omega)] at hzc
   have hz0 := hzc 0 _ (List.getElem?_eq_getElem (by rw [hzl]; simp [zbG]))
   have hz1 := hzc 1 _ (List.getElem?_eq_getElem (by rw [hzl]; simp [zbG]))
   have hfz := hown2.free
   have hf0 := hfz (k * 2)
   have hf1 := hfz (k * 2 + 1)
   clear hfz hzc
   rw [Nat.add_zero] at hz0
   generalize zs[0]'_ = u0 at hz0
   generalize zs[1]'_ = u1 at hz1
   obtain ⟨hown3, hg3⟩ := hown2.put (vs := [.string xs[k].name, .slice b1 xs[k].kids.length e1]) (nf := fk) zbp (zbp.replicate _) (hrk) (by exact Tm.cd_len _) (fun hm => by have := (hfk.2 _ hm).1; omega)
   rw [List.length_take, zdb, Nat.min_eq_left (by omega)] at hown3 hg3
   simp only [World.setCells] at hown3 hg3
   have hsz := hg3.size
   have hb4 := zh (hb.trans (hb2.mono (by omega))) hg3 (by have := hb2.size; omega) (fun q hq => by simp only [Option.some.injEq] at hq; omega)
   have hfr4 : Fresh (w.heap.size + 1) w2 (fp ++ fk) := Fresh.app (hfr.below hb2) hfr.lt (by omega) hfk
   have hfr5 := hfr4.same (fun x hx => hg3.block x (hfr4.lt x hx) (fun e => by have := (hfr4.2 x hx).1; simp only [Option.some.injEq] at e; omega))
   clear hg3 hown2 hfr4
   go_wp2_with fail
   go_roundw
   case rel => exact ⟨k + 1, _, by omega, by go_num, by rw [zc5 (by simpa using hlt), List.getElem_map, List.append_assoc]; exact hown3, hfr5, hb4, zc4 (zc4 hz hb2.size) hsz⟩
   case measure => simp [intOf]; omega
  ·have he : (xs.map Tm.cd).take k = xs.map Tm.cd := List.take_of_length_le (by simp; omega)
   rw [he, show xs.length - k = 0 from by omega, List.replicate_zero, List.append_nil] at hown
   obtain ⟨fp', h1, h2⟩ := hown.rd
   have hfr' : Fresh w.heap.size wr fp' := by
    rcases h2 with ⟨_, _, rfl⟩ | ⟨b, c, hv, rfl, hnb, hbb, hc⟩
    ·exact Fresh.nil _ _
    ·exact ⟨List.nodup_cons.2 ⟨hnb, hfr.1⟩, fun x hx => (zda.1 hx).elim (fun e => e ▸ ⟨hbb, c, _, hc⟩) (fun hx => ⟨by have := (hfr.2 x hx).1; omega, (hfr.2 x hx).2⟩)⟩
   go_wp2_with fail
   go_ret
   exact ⟨_, fp', rfl, h1, hfr', hb⟩
theorem toTerm_n (n : Nat) : ∀ (x : Tm) (vs : List Value) (fp : List Nat) (w : World), ndV x.cd ≤ n → wtV x.cd ≤ 1048576 → RdVs w x.cd vs fp → Calls Try.prog 30 #[.agg vs.toArray] w (zaX x.cd w) := by
 induction n with
 | zero => intro x vs fp w hn; have h : 0 < ndV x.cd := (by rw [Tm.cd_eq]; simp [ndV, ndC]; try omega); omega
 | succ n ih =>
  intro x vs fp w hn hbig hv
  have HK : Hid (∀ k ∈ x.kids, ndV k.cd ≤ n) := fun k hk => by have := Tm.kid_nd hk; omega
  have IH := Lib.hid ih
  clear ih
  obtain ⟨a1, c1, f1, rfl, _, m0, m1⟩ := Tm.open hv
  have hw : wtV x.cd = x.name.size + (x.kids.length + wtR (x.kids.map Tm.cd)) := by rw [Tm.cd_app]; simp only [zH, zal, zab, zao, zay]; try omega
  rw [hw] at hbig
  clear hw
  go_enter Try.func30, Try.ntmps30
  go_wp2_with fail
  refine (toTermS_n n IH.out x.kids _ _ _ HK.out (by omega) (by exact m1.below ((((Below.refl _ _).alloc (Nat.le_refl _) _).alloc (by simp) _).alloc (by simp; omega) _))).mono ?_
  rintro e w1 ⟨kv1, g1, rfl, hr1, hf1, hb1⟩
  obtain ⟨hx1, hy1, ho1, fy1, fo1, hz1, hB1⟩ := box3 (w := w) (wr := w1) (cs := #[.string x.name, .slice a1 x.kids.length c1]) (ds := #[.string ⟨#[]⟩, .slice none 0 0]) (es := #[.string x.name, .slice none 0 0]) (T := 28) (U := 37) (V := 37) (zm hb1 (by simp))
  have hf1 : Fresh (w.heap.size + 1 + 1 + 1) w1 g1 := hf1.mono (by simp)
  have hF1 := hf1
  obtain ⟨b1, e1, rfl, _⟩ := ze hr1
  clear hb1
  go_wp2_with fail
  have hres := zq (b := w.heap.size + 1) [(0, .string x.name), (1, .slice b1 x.kids.length e1)] (zu (b' := w.heap.size + 1 + 1) (by omega) [(1, .slice b1 x.kids.length e1)] hy1) (by simp)
  have hL := Loc.sets (b := w.heap.size + 1) (lo := w.heap.size) (hi := w.heap.size + 1 + 1 + 1) (by omega) (by omega) [(0, .string x.name), (1, .slice b1 x.kids.length e1)] (Loc.sets (b := w.heap.size + 1 + 1) (by omega) (by omega) [(1, .slice b1 x.kids.length e1)] (Loc.refl _ _ w1))
  simp only [zF, zQ, zcZ, zc0] at hres hL
  have hr1 := hr1.same _ (hL.same (w0 := w) hf1)
  have hfin := hF1.same (hL.same (w0 := w) hF1)
  refine bodyPost_ret (v := .agg #[.string x.name, .slice b1 x.kids.length e1]) (by simp [results, Try.results30, go_sem, hres]) rfl ⟨[.string x.name, .slice b1 x.kids.length e1], [] ++ g1, rfl, ?_, ?_, hB1.trans (hL.toBelow (by omega) (Nat.le_refl _))⟩
  ·rw [Tm.cd_app]
   exact ((zaw m0).app (RdVs.single hr1))
  ·have hx := hfin.mono (lo' := w.heap.size) (by omega)
   simpa [List.append_assoc] using hx
theorem zbS (x : Tm) (vs : List Value) (fp : List Nat) (w : World) (hbig : wtV x.cd ≤ 1048576) (hv : RdVs w x.cd vs fp) :
  Calls Try.prog 30 #[.agg vs.toArray] w (zaX x.cd w) := toTerm_n _ x vs fp w (Nat.le_refl _) hbig hv
theorem toSym_x (x : Sy) (vs : List Value) (fp : List Nat) (w : World) (hbig : wtV x.cd ≤ 1048576) (hv : RdVs w x.cd vs fp) :
  Calls Try.prog 51 #[.agg vs.toArray] w (zaX x.cd w) := by
 obtain ⟨a1, c1, f1, rfl, _, m0, m1, m2⟩ := Sy.open hv
 have hw : wtV x.cd = x.name.size + (x.args.length + wtR (x.args.map zt)) := by unfold Sy.cd; simp only [zH, zal, zab, zao, zay]; try omega
 rw [hw] at hbig
 clear hw
 go_enter Try.func51, Try.ntmps51
 go_wp2_with fail
 refine (toIntS_x x.args _ _ _ (by omega) (by exact m1.below ((((Below.refl _ _).alloc (Nat.le_refl _) _).alloc (by simp) _).alloc (by simp; omega) _))).mono ?_
 rintro e w1 ⟨kv1, g1, rfl, hr1, hf1, hb1⟩
 obtain ⟨hx1, hy1, ho1, fy1, fo1, hz1, hB1⟩ := box3 (w := w) (wr := w1) (cs := #[.string x.name, .slice a1 x.args.length c1, .int .i64 x.sort]) (ds := #[.string ⟨#[]⟩, .slice none 0 0, .int .i64 0]) (es := #[.string x.name, .slice none 0 0, .int .i64 0]) (T := 87) (U := 94) (V := 94) (zm hb1 (by simp))
 have hf1 : Fresh (w.heap.size + 1 + 1 + 1) w1 g1 := hf1.mono (by simp)
 have hF1 := hf1
 obtain ⟨b1, e1, rfl, _⟩ := ze hr1
 clear hb1
 go_wp2_with fail
 have hres := zq (b := w.heap.size + 1) [(0, .string x.name), (1, .slice b1 x.args.length e1), (2, .int .i64 x.sort)] (zu (b' := w.heap.size + 1 + 1) (by omega) [(1, .slice b1 x.args.length e1), (2, .int .i64 x.sort)] hy1) (by simp)
 have hL := Loc.sets (b := w.heap.size + 1) (lo := w.heap.size) (hi := w.heap.size + 1 + 1 + 1) (by omega) (by omega) [(0, .string x.name), (1, .slice b1 x.args.length e1), (2, .int .i64 x.sort)] (Loc.sets (b := w.heap.size + 1 + 1) (by omega) (by omega) [(1, .slice b1 x.args.length e1), (2, .int .i64 x.sort)] (Loc.refl _ _ w1))
 simp only [zF, zQ, zcZ, zc0] at hres hL
 have hr1 := hr1.same _ (hL.same (w0 := w) hf1)
 have hfin := hF1.same (hL.same (w0 := w) hF1)
 refine bodyPost_ret (v := .agg #[.string x.name, .slice b1 x.args.length e1, .int .i64 x.sort]) (by simp [results, Try.results51, go_sem, hres]) rfl ⟨[.string x.name, .slice b1 x.args.length e1, .int .i64 x.sort], [] ++ (g1 ++ []), rfl, ?_, ?_, hB1.trans (hL.toBelow (by omega) (Nat.le_refl _))⟩
 ·unfold Sy.cd
  exact ((zaw m0).app ((RdVs.single hr1).app (zad m2)))
 ·have hx := hfin.mono (lo' := w.heap.size) (by omega)
  simpa [List.append_assoc] using hx
theorem toSymS_x (xs : List Sy) (v : Value) (fp0 : List Nat) (w : World) (hbig : xs.length + wtR (xs.map Sy.cd) ≤ 1048576) (hv : Rd w (.sl (xs.map Sy.cd)) v fp0) :
  Calls Try.prog 28 #[v] w (ToOut (.sl (xs.map Sy.cd)) w) := by
 obtain ⟨a, c, rfl, hc1, hc2⟩ := ze hv
 go_enter Try.func28, Try.ntmps28
 go_wp2_with (at_make; refine zav slTySymS _ rfl _ _ rfl w.heap.size zck (fun w => zSymS_rd w) xs.length rfl rfl (by omega) (by omega) (Nat.le_refl _) ?_)
 intro w1 hown0 hb0 hz0
 go_wp2_with fail
 go_loopw [4] (fun i wr => ∃ (k : Nat) (fp : List Nat), k ≤ xs.length ∧ i = .int .i64 k ∧ Own wr w.heap.size 94 3 (.slice (some ⟨w.heap.size, 0, none⟩) xs.length xs.length) ((xs.map Sy.cd).take k ++ List.replicate (xs.length - k) zck) fp ∧ Fresh (w.heap.size + 1) wr fp ∧ Below w.heap.size w wr ∧ w.heap.size < wr.heap.size) (fun i _ => xs.length - (intOf i).toNat)
 case atStart => exact ⟨0, [], Nat.zero_le _, rfl, by simpa using hown0, Fresh.nil _ _, hb0, hz0⟩
 case round =>
  clear hown0 hb0 hz0
  obtain ⟨k, fp, hkl, rfl, hown, hfr, hb, hz⟩ := hrel
  by_cases hlt : k < xs.length
  ·obtain ⟨b, off, rfl, hbs, _⟩ := zk hv (by omega)
   obtain ⟨a1, c1, f1, d0, d1, d2, m0, m1, m2, _⟩ := Sy.at (hv.below hb) hlt
   have hle := zN Sy.cd xs (k + 1)
   rw [zE Sy.cd xs k hlt] at hle
   go_wp2_with fail
   refine (toSym_x xs[k] _ _ _ (by omega) (Sy.close m0 m1 m2)).mono ?_
   rintro e w2 ⟨kv, fk, rfl, hrk, hfk, hb2⟩
   obtain ⟨b1, e1, g1, rfl, hfk2, n0, n1, n2⟩ := Sy.open hrk
   have hown2 := hown.below hb2
   rw [show xs.length - k = (xs.length - (k + 1)) + 1 from by omega, List.replicate_succ] at hown2
   obtain ⟨zs, zf, hzc, hzr⟩ := hown2.cells
   have hzl := hzr.length
   rw [List.length_take, zdb, Nat.min_eq_left (by omega)] at hzc
   have hz0 := hzc 0 _ (List.getElem?_eq_getElem (by rw [hzl]; simp [zck]))
   have hz1 := hzc 1 _ (List.getElem?_eq_getElem (by rw [hzl]; simp [zck]))
   have hz2 := hzc 2 _ (List.getElem?_eq_getElem (by rw [hzl]; simp [zck]))
   have hfz := hown2.free
   have hf0 := hfz (k * 3)
   have hf1 := hfz (k * 3 + 1)
   have hf2 := hfz (k * 3 + 2)
   clear hfz hzc
   rw [Nat.add_zero] at hz0
   generalize zs[0]'_ = u0 at hz0
   generalize zs[1]'_ = u1 at hz1
   generalize zs[2]'_ = u2 at hz2
   obtain ⟨hown3, hg3⟩ := hown2.put (vs := [.string xs[k].name, .slice b1 xs[k].args.length e1, .int .i64 xs[k].sort]) (nf := fk) zbF (zbF.replicate _) (hrk) (by exact Sy.cd_len _) (fun hm => by have := (hfk.2 _ hm).1; omega)
   rw [List.length_take, zdb, Nat.min_eq_left (by omega)] at hown3 hg3
   simp only [World.setCells] at hown3 hg3
   have hsz := hg3.size
   have hb4 := zh (hb.trans (hb2.mono (by omega))) hg3 (by have := hb2.size; omega) (fun q hq => by simp only [Option.some.injEq] at hq; omega)
   have hfr4 : Fresh (w.heap.size + 1) w2 (fp ++ fk) := Fresh.app (hfr.below hb2) hfr.lt (by omega) hfk
   have hfr5 := hfr4.same (fun x hx => hg3.block x (hfr4.lt x hx) (fun e => by have := (hfr4.2 x hx).1; simp only [Option.some.injEq] at e; omega))
   clear hg3 hown2 hfr4
   go_wp2_with fail
   go_roundw
   case rel => exact ⟨k + 1, _, by omega, by go_num, by rw [zc5 (by simpa using hlt), List.getElem_map, List.append_assoc]; exact hown3, hfr5, hb4, zc4 (zc4 hz hb2.size) hsz⟩
   case measure => simp [intOf]; omega
  ·have he : (xs.map Sy.cd).take k = xs.map Sy.cd := List.take_of_length_le (by simp; omega)
   rw [he, show xs.length - k = 0 from by omega, List.replicate_zero, List.append_nil] at hown
   obtain ⟨fp', h1, h2⟩ := hown.rd
   have hfr' : Fresh w.heap.size wr fp' := by
    rcases h2 with ⟨_, _, rfl⟩ | ⟨b, c, hv, rfl, hnb, hbb, hc⟩
    ·exact Fresh.nil _ _
    ·exact ⟨List.nodup_cons.2 ⟨hnb, hfr.1⟩, fun x hx => (zda.1 hx).elim (fun e => e ▸ ⟨hbb, c, _, hc⟩) (fun hx => ⟨by have := (hfr.2 x hx).1; omega, (hfr.2 x hx).2⟩)⟩
   go_wp2_with fail
   go_ret
   exact ⟨_, fp', rfl, h1, hfr', hb⟩
theorem toEq_x (x : Eqn) (vs : List Value) (fp : List Nat) (w : World) (hbig : wtV x.cd ≤ 1048576) (hv : RdVs w x.cd vs fp) :
  Calls Try.prog 29 #[.agg vs.toArray] w (zaX x.cd w) := by
 obtain ⟨a1, c1, f1, a3, c3, f3, rfl, _, m0, m1, m2, m3⟩ := Eqn.open hv
 have hw : wtV x.cd = wtV x.a.cd + wtV x.b.cd := by unfold Eqn.cd; simp only [zH, zal, zab, zao, zay]; try omega
 rw [hw] at hbig
 clear hw
 go_enter Try.func29, Try.ntmps29
 go_wp2_with fail
 refine (zbS x.a _ _ _ (by omega) (by exact (Tm.close m0 m1).below ((((Below.refl _ _).alloc (Nat.le_refl _) _).alloc (by simp) _).alloc (by simp; omega) _))).mono ?_
 rintro e w1 ⟨kv1, g1, rfl, hr1, hf1, hb1⟩
 obtain ⟨hx1, hy1, ho1, fy1, fo1, hz1, hB1⟩ := box3 (w := w) (wr := w1) (cs := #[.string x.a.name, .slice a1 x.a.kids.length c1, .string x.b.name, .slice a3 x.b.kids.length c3]) (ds := #[.string ⟨#[]⟩, .slice none 0 0, .string ⟨#[]⟩, .slice none 0 0]) (es := #[.string ⟨#[]⟩, .slice none 0 0, .string ⟨#[]⟩, .slice none 0 0]) (T := 64) (U := 39) (V := 39) (zm hb1 (by simp))
 have hf1 : Fresh (w.heap.size + 1 + 1 + 1) w1 g1 := hf1.mono (by simp)
 have hF1 := hf1
 obtain ⟨b1, e1, gg1_1, rfl, hgg1, _, _⟩ := Tm.open hr1
 clear hb1
 go_wp2_with fail
 have hoA := zq (b := w.heap.size + 1 + 1) [(0, .string x.a.name), (1, .slice b1 x.a.kids.length e1)] ho1 (by simp)
 have hxA := zu (b' := w.heap.size + 1 + 1) (by omega) [(0, .string x.a.name), (1, .slice b1 x.a.kids.length e1)] hx1
 have hyA := zu (b' := w.heap.size + 1 + 1) (by omega) [(0, .string x.a.name), (1, .slice b1 x.a.kids.length e1)] hy1
 have fyA := zaz (b' := w.heap.size + 1 + 1) [(0, .string x.a.name), (1, .slice b1 x.a.kids.length e1)] fy1
 have foA := zaz (b' := w.heap.size + 1 + 1) [(0, .string x.a.name), (1, .slice b1 x.a.kids.length e1)] fo1
 have hLA := Loc.sets (b := w.heap.size + 1 + 1) (lo := w.heap.size) (hi := w.heap.size + 1 + 1 + 1) (by omega) (by omega) [(0, .string x.a.name), (1, .slice b1 x.a.kids.length e1)] (Loc.refl _ _ w1)
 have hBA := hB1.trans (hLA.toBelow (B := w.heap.size) (by omega) (Nat.le_refl _))
 have hsA := hLA.size
 simp only [zF, zQ, zcZ, zc0] at hoA hxA hyA fyA foA hLA hBA hsA
 clear hx1 hy1 ho1 fy1 fo1
 refine (zbS x.b _ _ _ (by omega) (by exact (Tm.close m2 m3).below hBA)).mono ?_
 rintro e w2 ⟨kv2, g2, rfl, hr2, hf2, hb2⟩
 have hzA : w.heap.size + 1 + 1 + 1 ≤ _ := Nat.le_trans hz1 hsA
 have hx2 := za hxA (by omega) hb2
 have hy2 := za hyA (by omega) hb2
 have ho2 := za hoA (by omega) hb2
 have fy2 := zaG fyA (by omega) hb2
 have fo2 := zaG foA (by omega) hb2
 have hL2 : Loc w.heap.size (w.heap.size + 1 + 1 + 1) w1 w2 := hLA.below hb2
 have hz2 := Nat.le_trans hz1 hL2.size
 have hB2 := hB1.trans (hL2.toBelow (by omega) (Nat.le_refl _))
 have hf2' : Fresh w1.heap.size w2 g2 := hf2.mono hsA
 have hf2 : Fresh (w.heap.size + 1 + 1 + 1) w2 g2 := hf2'.mono hz1
 have hF2 := Fresh.app2 (hF1.same (hL2.same (w0 := w) hF1)) hF1.lt hf2' (by omega)
 have hr1 := hr1.same _ (hL2.same (w0 := w) hf1)
 have hf1 := hf1.same (hL2.same (w0 := w) hf1)
 clear hoA hxA hyA fyA foA hLA hBA hsA hzA
 obtain ⟨b3, e3, gg2_1, rfl, hgg2, _, _⟩ := Tm.open hr2
 clear hb2
 go_wp2_with fail
 have hres := zq (b := w.heap.size + 1) [(0, .string x.a.name), (1, .slice b1 x.a.kids.length e1), (2, .string x.b.name), (3, .slice b3 x.b.kids.length e3)] (zu (b' := w.heap.size + 1 + 1) (by omega) [(2, .string x.b.name), (3, .slice b3 x.b.kids.length e3)] hy2) (by simp)
 have hL := Loc.sets (b := w.heap.size + 1) (lo := w.heap.size) (hi := w.heap.size + 1 + 1 + 1) (by omega) (by omega) [(0, .string x.a.name), (1, .slice b1 x.a.kids.length e1), (2, .string x.b.name), (3, .slice b3 x.b.kids.length e3)] (Loc.sets (b := w.heap.size + 1 + 1) (by omega) (by omega) [(2, .string x.b.name), (3, .slice b3 x.b.kids.length e3)] (Loc.refl _ _ w2))
 simp only [zF, zQ, zcZ, zc0] at hres hL
 have hr1 := hr1.same _ (hL.same (w0 := w) hf1)
 have hr2 := hr2.same _ (hL.same (w0 := w) hf2)
 have hfin := hF2.same (hL.same (w0 := w) hF2)
 refine bodyPost_ret (v := .agg #[.string x.a.name, .slice b1 x.a.kids.length e1, .string x.b.name, .slice b3 x.b.kids.length e3]) (by simp [results, Try.results29, go_sem, hres]) rfl ⟨[.string x.a.name, .slice b1 x.a.kids.length e1, .string x.b.name, .slice b3 x.b.kids.length e3], g1 ++ g2, rfl, ?_, ?_, hB2.trans (hL.toBelow (by omega) (Nat.le_refl _))⟩
 ·unfold Eqn.cd
  exact (hr1.app hr2)
 ·have hx := hfin.mono (lo' := w.heap.size) (by omega)
  simpa [List.append_assoc] using hx
theorem zaA (xs : List Eqn) (v : Value) (fp0 : List Nat) (w : World) (hbig : xs.length + wtR (xs.map Eqn.cd) ≤ 1048576) (hv : Rd w (.sl (xs.map Eqn.cd)) v fp0) :
  Calls Try.prog 9 #[v] w (ToOut (.sl (xs.map Eqn.cd)) w) := by
 obtain ⟨a, c, rfl, hc1, hc2⟩ := ze hv
 go_enter Try.func9, Try.ntmps9
 go_wp2_with (at_make; refine zav zZ _ rfl _ _ rfl w.heap.size zEqS (fun w => zEqS_rd w) xs.length rfl rfl (by omega) (by omega) (Nat.le_refl _) ?_)
 intro w1 hown0 hb0 hz0
 go_wp2_with fail
 go_loopw [4] (fun i wr => ∃ (k : Nat) (fp : List Nat), k ≤ xs.length ∧ i = .int .i64 k ∧ Own wr w.heap.size 39 4 (.slice (some ⟨w.heap.size, 0, none⟩) xs.length xs.length) ((xs.map Eqn.cd).take k ++ List.replicate (xs.length - k) zEqS) fp ∧ Fresh (w.heap.size + 1) wr fp ∧ Below w.heap.size w wr ∧ w.heap.size < wr.heap.size) (fun i _ => xs.length - (intOf i).toNat)
 case atStart => exact ⟨0, [], Nat.zero_le _, rfl, by simpa using hown0, Fresh.nil _ _, hb0, hz0⟩
 case round =>
  clear hown0 hb0 hz0
  obtain ⟨k, fp, hkl, rfl, hown, hfr, hb, hz⟩ := hrel
  by_cases hlt : k < xs.length
  ·obtain ⟨b, off, rfl, hbs, _⟩ := zk hv (by omega)
   obtain ⟨a1, c1, f1, a3, c3, f3, d0, d1, d2, d3, m0, m1, m2, m3, _⟩ := Eqn.at (hv.below hb) hlt
   have hle := zN Eqn.cd xs (k + 1)
   rw [zE Eqn.cd xs k hlt] at hle
   go_wp2_with fail
   refine (toEq_x xs[k] _ _ _ (by omega) (Eqn.close m0 m1 m2 m3)).mono ?_
   rintro e w2 ⟨kv, fk, rfl, hrk, hfk, hb2⟩
   obtain ⟨b1, e1, g1, b3, e3, g3, rfl, hfk2, n0, n1, n2, n3⟩ := Eqn.open hrk
   have hown2 := hown.below hb2
   rw [show xs.length - k = (xs.length - (k + 1)) + 1 from by omega, List.replicate_succ] at hown2
   obtain ⟨zs, zf, hzc, hzr⟩ := hown2.cells
   have hzl := hzr.length
   rw [List.length_take, zdb, Nat.min_eq_left (by omega)] at hzc
   have hz0 := hzc 0 _ (List.getElem?_eq_getElem (by rw [hzl]; simp [zEqS]))
   have hz1 := hzc 1 _ (List.getElem?_eq_getElem (by rw [hzl]; simp [zEqS]))
   have hz2 := hzc 2 _ (List.getElem?_eq_getElem (by rw [hzl]; simp [zEqS]))
   have hz3 := hzc 3 _ (List.getElem?_eq_getElem (by rw [hzl]; simp [zEqS]))
   have hfz := hown2.free
   have hf0 := hfz (k * 4)
   have hf1 := hfz (k * 4 + 1)
   have hf2 := hfz (k * 4 + 2)
   have hf3 := hfz (k * 4 + 3)
   clear hfz hzc
   rw [Nat.add_zero] at hz0
   generalize zs[0]'_ = u0 at hz0
   generalize zs[1]'_ = u1 at hz1
   generalize zs[2]'_ = u2 at hz2
   generalize zs[3]'_ = u3 at hz3
   obtain ⟨hown3, hg3⟩ := hown2.put (vs := [.string xs[k].a.name, .slice b1 xs[k].a.kids.length e1, .string xs[k].b.name, .slice b3 xs[k].b.kids.length e3]) (nf := fk) zb5 (zb5.replicate _) (hrk) (by exact Eqn.cd_len _) (fun hm => by have := (hfk.2 _ hm).1; omega)
   rw [List.length_take, zdb, Nat.min_eq_left (by omega)] at hown3 hg3
   simp only [World.setCells] at hown3 hg3
   have hsz := hg3.size
   have hb4 := zh (hb.trans (hb2.mono (by omega))) hg3 (by have := hb2.size; omega) (fun q hq => by simp only [Option.some.injEq] at hq; omega)
   have hfr4 : Fresh (w.heap.size + 1) w2 (fp ++ fk) := Fresh.app (hfr.below hb2) hfr.lt (by omega) hfk
   have hfr5 := hfr4.same (fun x hx => hg3.block x (hfr4.lt x hx) (fun e => by have := (hfr4.2 x hx).1; simp only [Option.some.injEq] at e; omega))
   clear hg3 hown2 hfr4
   go_wp2_with fail
   go_roundw
   case rel => exact ⟨k + 1, _, by omega, by go_num, by rw [zc5 (by simpa using hlt), List.getElem_map, List.append_assoc]; exact hown3, hfr5, hb4, zc4 (zc4 hz hb2.size) hsz⟩
   case measure => simp [intOf]; omega
  ·have he : (xs.map Eqn.cd).take k = xs.map Eqn.cd := List.take_of_length_le (by simp; omega)
   rw [he, show xs.length - k = 0 from by omega, List.replicate_zero, List.append_nil] at hown
   obtain ⟨fp', h1, h2⟩ := hown.rd
   have hfr' : Fresh w.heap.size wr fp' := by
    rcases h2 with ⟨_, _, rfl⟩ | ⟨b, c, hv, rfl, hnb, hbb, hc⟩
    ·exact Fresh.nil _ _
    ·exact ⟨List.nodup_cons.2 ⟨hnb, hfr.1⟩, fun x hx => (zda.1 hx).elim (fun e => e ▸ ⟨hbb, c, _, hc⟩) (fun hx => ⟨by have := (hfr.2 x hx).1; omega, (hfr.2 x hx).2⟩)⟩
   go_wp2_with fail
   go_ret
   exact ⟨_, fp', rfl, h1, hfr', hb⟩
theorem toWhyS_n (n : Nat) (ih : ∀ (x : Wy) (vs : List Value) (fp : List Nat) (w : World), ndV x.cd ≤ n → wtV x.cd ≤ 1048576 → RdVs w x.cd vs fp → Calls Try.prog 10 #[.agg vs.toArray] w (zaX x.cd w)) (xs : List Wy) (v : Value) (fp0 : List Nat) (w : World) (hn : ∀ x ∈ xs, ndV (Wy.cd x) ≤ n) (hbig : xs.length + wtR (xs.map Wy.cd) ≤ 1048576) (hv : Rd w (.sl (xs.map Wy.cd)) v fp0) :
  Calls Try.prog 31 #[v] w (ToOut (.sl (xs.map Wy.cd)) w) := by
 obtain ⟨a, c, rfl, hc1, hc2⟩ := ze hv
 have IH := Lib.hid ih
 have HN := Lib.hid hn
 clear ih hn
 go_enter Try.func31, Try.ntmps31
 go_wp2_with (at_make; refine zav slTyWhyS _ rfl _ _ rfl w.heap.size zbR (fun w => zWhyS_rd w) xs.length rfl rfl (by omega) (by omega) (Nat.le_refl _) ?_)
 intro w1 hown0 hb0 hz0
 go_wp2_with fail
 go_loopw [4] (fun i wr => ∃ (k : Nat) (fp : List Nat), k ≤ xs.length ∧ i = .int .i64 k ∧ Own wr w.heap.size 50 5 (.slice (some ⟨w.heap.size, 0, none⟩) xs.length xs.length) ((xs.map Wy.cd).take k ++ List.replicate (xs.length - k) zbR) fp ∧ Fresh (w.heap.size + 1) wr fp ∧ Below w.heap.size w wr ∧ w.heap.size < wr.heap.size) (fun i _ => xs.length - (intOf i).toNat)
 case atStart => exact ⟨0, [], Nat.zero_le _, rfl, by simpa using hown0, Fresh.nil _ _, hb0, hz0⟩
 case round =>
  clear hown0 hb0 hz0
  obtain ⟨k, fp, hkl, rfl, hown, hfr, hb, hz⟩ := hrel
  by_cases hlt : k < xs.length
  ·obtain ⟨b, off, rfl, hbs, _⟩ := zk hv (by omega)
   obtain ⟨a3, c3, f3, a4, c4, f4, d0, d1, d2, d3, d4, m0, m1, m2, m3, m4, _⟩ := Wy.at (hv.below hb) hlt
   have hle := zN Wy.cd xs (k + 1)
   rw [zE Wy.cd xs k hlt] at hle
   go_wp2_with fail
   refine (IH.out xs[k] _ _ _ (HN.out _ (zc7 hlt)) (by omega) (Wy.close m0 m1 m2 m3 m4)).mono ?_
   rintro e w2 ⟨kv, fk, rfl, hrk, hfk, hb2⟩
   obtain ⟨b3, e3, g3, b4, e4, g4, rfl, hfk2, n0, n1, n2, n3, n4⟩ := Wy.open hrk
   have hown2 := hown.below hb2
   rw [show xs.length - k = (xs.length - (k + 1)) + 1 from by omega, List.replicate_succ] at hown2
   obtain ⟨zs, zf, hzc, hzr⟩ := hown2.cells
   have hzl := hzr.length
   rw [List.length_take, zdb, Nat.min_eq_left (by omega)] at hzc
   have hz0 := hzc 0 _ (List.getElem?_eq_getElem (by rw [hzl]; simp [zbR]))
   have hz1 := hzc 1 _ (List.getElem?_eq_getElem (by rw [hzl]; simp [zbR]))
   have hz2 := hzc 2 _ (List.getElem?_eq_getElem (by rw [hzl]; simp [zbR]))
   have hz3 := hzc 3 _ (List.getElem?_eq_getElem (by rw [hzl]; simp [zbR]))
   have hz4 := hzc 4 _ (List.getElem?_eq_getElem (by rw [hzl]; simp [zbR]))
   have hfz := hown2.free
   have hf0 := hfz (k * 5)
   have hf1 := hfz (k * 5 + 1)
   have hf2 := hfz (k * 5 + 2)
   have hf3 := hfz (k * 5 + 3)
   have hf4 := hfz (k * 5 + 4)
   clear hfz hzc
   rw [Nat.add_zero] at hz0
   generalize zs[0]'_ = u0 at hz0
   generalize zs[1]'_ = u1 at hz1
   generalize zs[2]'_ = u2 at hz2
   generalize zs[3]'_ = u3 at hz3
   generalize zs[4]'_ = u4 at hz4
   obtain ⟨hown3, hg3⟩ := hown2.put (vs := [.int .i64 xs[k].rule, .int .i64 xs[k].n, .string xs[k].t.name, .slice b3 xs[k].t.kids.length e3, .slice b4 xs[k].kids.length e4]) (nf := fk) zbH (zbH.replicate _) (hrk) (by exact Wy.cd_len _) (fun hm => by have := (hfk.2 _ hm).1; omega)
   rw [List.length_take, zdb, Nat.min_eq_left (by omega)] at hown3 hg3
   simp only [World.setCells] at hown3 hg3
   have hsz := hg3.size
   have hb4 := zh (hb.trans (hb2.mono (by omega))) hg3 (by have := hb2.size; omega) (fun q hq => by simp only [Option.some.injEq] at hq; omega)
   have hfr4 : Fresh (w.heap.size + 1) w2 (fp ++ fk) := Fresh.app (hfr.below hb2) hfr.lt (by omega) hfk
   have hfr5 := hfr4.same (fun x hx => hg3.block x (hfr4.lt x hx) (fun e => by have := (hfr4.2 x hx).1; simp only [Option.some.injEq] at e; omega))
   clear hg3 hown2 hfr4
   go_wp2_with fail
   go_roundw
   case rel => exact ⟨k + 1, _, by omega, by go_num, by rw [zc5 (by simpa using hlt), List.getElem_map, List.append_assoc]; exact hown3, hfr5, hb4, zc4 (zc4 hz hb2.size) hsz⟩
   case measure => simp [intOf]; omega
  ·have he : (xs.map Wy.cd).take k = xs.map Wy.cd := List.take_of_length_le (by simp; omega)
   rw [he, show xs.length - k = 0 from by omega, List.replicate_zero, List.append_nil] at hown
   obtain ⟨fp', h1, h2⟩ := hown.rd
   have hfr' : Fresh w.heap.size wr fp' := by
    rcases h2 with ⟨_, _, rfl⟩ | ⟨b, c, hv, rfl, hnb, hbb, hc⟩
    ·exact Fresh.nil _ _
    ·exact ⟨List.nodup_cons.2 ⟨hnb, hfr.1⟩, fun x hx => (zda.1 hx).elim (fun e => e ▸ ⟨hbb, c, _, hc⟩) (fun hx => ⟨by have := (hfr.2 x hx).1; omega, (hfr.2 x hx).2⟩)⟩
   go_wp2_with fail
   go_ret
   exact ⟨_, fp', rfl, h1, hfr', hb⟩
theorem toWhy_n (n : Nat) : ∀ (x : Wy) (vs : List Value) (fp : List Nat) (w : World), ndV x.cd ≤ n → wtV x.cd ≤ 1048576 → RdVs w x.cd vs fp → Calls Try.prog 10 #[.agg vs.toArray] w (zaX x.cd w) := by
 induction n with
 | zero => intro x vs fp w hn; have h : 0 < ndV x.cd := (by rw [Wy.cd_eq]; simp [ndV, ndC]; try omega); omega
 | succ n ih =>
  intro x vs fp w hn hbig hv
  have HK : Hid (∀ k ∈ x.kids, ndV k.cd ≤ n) := fun k hk => by have := Wy.kid_nd hk; omega
  have IH := Lib.hid ih
  clear ih
  obtain ⟨a3, c3, f3, a4, c4, f4, rfl, _, m0, m1, m2, m3, m4⟩ := Wy.open hv
  have hw : wtV x.cd = wtV x.t.cd + (x.kids.length + wtR (x.kids.map Wy.cd)) := by rw [Wy.cd_eq]; simp only [zH, zal, zab, zao, zay]; try omega
  rw [hw] at hbig
  clear hw
  go_enter Try.func10, Try.ntmps10
  go_wp2_with fail
  refine (zbS x.t _ _ _ (by omega) (by exact (Tm.close m2 m3).below ((((Below.refl _ _).alloc (Nat.le_refl _) _).alloc (by simp) _).alloc (by simp; omega) _))).mono ?_
  rintro e w1 ⟨kv1, g1, rfl, hr1, hf1, hb1⟩
  obtain ⟨hx1, hy1, ho1, fy1, fo1, hz1, hB1⟩ := box3 (w := w) (wr := w1) (cs := #[.int .i64 x.rule, .int .i64 x.n, .string x.t.name, .slice a3 x.t.kids.length c3, .slice a4 x.kids.length c4]) (ds := #[.int .i64 0, .int .i64 0, .string ⟨#[]⟩, .slice none 0 0, .slice none 0 0]) (es := #[.int .i64 x.rule, .int .i64 x.n, .string ⟨#[]⟩, .slice none 0 0, .slice none 0 0]) (T := 31) (U := 50) (V := 50) (zm hb1 (by simp))
  have hf1 : Fresh (w.heap.size + 1 + 1 + 1) w1 g1 := hf1.mono (by simp)
  have hF1 := hf1
  obtain ⟨b3, e3, gg1_1, rfl, hgg1, _, _⟩ := Tm.open hr1
  clear hb1
  go_wp2_with fail
  have hoA := zq (b := w.heap.size + 1 + 1) [(2, .string x.t.name), (3, .slice b3 x.t.kids.length e3)] ho1 (by simp)
  have hxA := zu (b' := w.heap.size + 1 + 1) (by omega) [(2, .string x.t.name), (3, .slice b3 x.t.kids.length e3)] hx1
  have hyA := zu (b' := w.heap.size + 1 + 1) (by omega) [(2, .string x.t.name), (3, .slice b3 x.t.kids.length e3)] hy1
  have fyA := zaz (b' := w.heap.size + 1 + 1) [(2, .string x.t.name), (3, .slice b3 x.t.kids.length e3)] fy1
  have foA := zaz (b' := w.heap.size + 1 + 1) [(2, .string x.t.name), (3, .slice b3 x.t.kids.length e3)] fo1
  have hLA := Loc.sets (b := w.heap.size + 1 + 1) (lo := w.heap.size) (hi := w.heap.size + 1 + 1 + 1) (by omega) (by omega) [(2, .string x.t.name), (3, .slice b3 x.t.kids.length e3)] (Loc.refl _ _ w1)
  have hBA := hB1.trans (hLA.toBelow (B := w.heap.size) (by omega) (Nat.le_refl _))
  have hsA := hLA.size
  simp only [zF, zQ, zcZ, zc0] at hoA hxA hyA fyA foA hLA hBA hsA
  clear hx1 hy1 ho1 fy1 fo1
  refine (toWhyS_n n IH.out x.kids _ _ _ HK.out (by omega) (by exact m4.below hBA)).mono ?_
  rintro e w2 ⟨kv2, g2, rfl, hr2, hf2, hb2⟩
  have hzA : w.heap.size + 1 + 1 + 1 ≤ _ := Nat.le_trans hz1 hsA
  have hx2 := za hxA (by omega) hb2
  have hy2 := za hyA (by omega) hb2
  have ho2 := za hoA (by omega) hb2
  have fy2 := zaG fyA (by omega) hb2
  have fo2 := zaG foA (by omega) hb2
  have hL2 : Loc w.heap.size (w.heap.size + 1 + 1 + 1) w1 w2 := hLA.below hb2
  have hz2 := Nat.le_trans hz1 hL2.size
  have hB2 := hB1.trans (hL2.toBelow (by omega) (Nat.le_refl _))
  have hf2' : Fresh w1.heap.size w2 g2 := hf2.mono hsA
  have hf2 : Fresh (w.heap.size + 1 + 1 + 1) w2 g2 := hf2'.mono hz1
  have hF2 := Fresh.app2 (hF1.same (hL2.same (w0 := w) hF1)) hF1.lt hf2' (by omega)
  have hr1 := hr1.same _ (hL2.same (w0 := w) hf1)
  have hf1 := hf1.same (hL2.same (w0 := w) hf1)
  clear hoA hxA hyA fyA foA hLA hBA hsA hzA
  obtain ⟨b4, e4, rfl, _⟩ := ze hr2
  clear hb2
  go_wp2_with fail
  have hres := zq (b := w.heap.size + 1) [(0, .int .i64 x.rule), (1, .int .i64 x.n), (2, .string x.t.name), (3, .slice b3 x.t.kids.length e3), (4, .slice b4 x.kids.length e4)] (zu (b' := w.heap.size + 1 + 1) (by omega) [(4, .slice b4 x.kids.length e4)] hy2) (by simp)
  have hL := Loc.sets (b := w.heap.size + 1) (lo := w.heap.size) (hi := w.heap.size + 1 + 1 + 1) (by omega) (by omega) [(0, .int .i64 x.rule), (1, .int .i64 x.n), (2, .string x.t.name), (3, .slice b3 x.t.kids.length e3), (4, .slice b4 x.kids.length e4)] (Loc.sets (b := w.heap.size + 1 + 1) (by omega) (by omega) [(4, .slice b4 x.kids.length e4)] (Loc.refl _ _ w2))
  simp only [zF, zQ, zcZ, zc0] at hres hL
  have hr1 := hr1.same _ (hL.same (w0 := w) hf1)
  have hr2 := hr2.same _ (hL.same (w0 := w) hf2)
  have hfin := hF2.same (hL.same (w0 := w) hF2)
  refine bodyPost_ret (v := .agg #[.int .i64 x.rule, .int .i64 x.n, .string x.t.name, .slice b3 x.t.kids.length e3, .slice b4 x.kids.length e4]) (by simp [results, Try.results10, go_sem, hres]) rfl ⟨[.int .i64 x.rule, .int .i64 x.n, .string x.t.name, .slice b3 x.t.kids.length e3, .slice b4 x.kids.length e4], [] ++ ([] ++ (g1 ++ g2)), rfl, ?_, ?_, hB2.trans (hL.toBelow (by omega) (Nat.le_refl _))⟩
  ·rw [Wy.cd_eq]
   exact ((zad m0).app ((zad m1).app (hr1.app (RdVs.single hr2))))
  ·have hx := hfin.mono (lo' := w.heap.size) (by omega)
   simpa [List.append_assoc] using hx
theorem zap (x : Wy) (vs : List Value) (fp : List Nat) (w : World) (hbig : wtV x.cd ≤ 1048576) (hv : RdVs w x.cd vs fp) :
  Calls Try.prog 10 #[.agg vs.toArray] w (zaX x.cd w) := toWhy_n _ x vs fp w (Nat.le_refl _) hbig hv
theorem za4 (x : Sg) (vs : List Value) (fp : List Nat) (w : World) (hbig : wtV x.cd ≤ 1048576) (hv : RdVs w x.cd vs fp) :
  Calls Try.prog 8 #[.agg vs.toArray] w (zaX x.cd w) := by
 obtain ⟨a0, c0, f0, rfl, _, m0⟩ := Sg.open hv
 have hw : wtV x.cd = (x.syms.length + wtR (x.syms.map Sy.cd)) := by unfold Sg.cd; simp only [zH, zal, zab, zao, zay]; try omega
 rw [hw] at hbig
 clear hw
 go_enter Try.func8, Try.ntmps8
 go_wp2_with fail
 refine (toSymS_x x.syms _ _ _ (by omega) (by exact m0.below ((((Below.refl _ _).alloc (Nat.le_refl _) _).alloc (by simp) _).alloc (by simp; omega) _))).mono ?_
 rintro e w1 ⟨kv1, g1, rfl, hr1, hf1, hb1⟩
 obtain ⟨hx1, hy1, ho1, fy1, fo1, hz1, hB1⟩ := box3 (w := w) (wr := w1) (cs := #[.slice a0 x.syms.length c0]) (ds := #[.slice none 0 0]) (es := #[.slice none 0 0]) (T := 24) (U := 44) (V := 44) (zm hb1 (by simp))
 have hf1 : Fresh (w.heap.size + 1 + 1 + 1) w1 g1 := hf1.mono (by simp)
 have hF1 := hf1
 obtain ⟨b0, e0, rfl, _⟩ := ze hr1
 clear hb1
 go_wp2_with fail
 have hres := zq (b := w.heap.size + 1) [(0, .slice b0 x.syms.length e0)] (zu (b' := w.heap.size + 1 + 1) (by omega) [(0, .slice b0 x.syms.length e0)] hy1) (by simp)
 have hL := Loc.sets (b := w.heap.size + 1) (lo := w.heap.size) (hi := w.heap.size + 1 + 1 + 1) (by omega) (by omega) [(0, .slice b0 x.syms.length e0)] (Loc.sets (b := w.heap.size + 1 + 1) (by omega) (by omega) [(0, .slice b0 x.syms.length e0)] (Loc.refl _ _ w1))
 simp only [zF, zQ, zcZ, zc0] at hres hL
 have hr1 := hr1.same _ (hL.same (w0 := w) hf1)
 have hfin := hF1.same (hL.same (w0 := w) hF1)
 refine bodyPost_ret (v := .agg #[.slice b0 x.syms.length e0]) (by simp [results, Try.results8, go_sem, hres]) rfl ⟨[.slice b0 x.syms.length e0], g1, rfl, ?_, ?_, hB1.trans (hL.toBelow (by omega) (Nat.le_refl _))⟩
 ·unfold Sg.cd
  exact (RdVs.single hr1)
 ·have hx := hfin.mono (lo' := w.heap.size) (by omega)
  simpa [List.append_assoc] using hx
end Go.Proofs.Ytcfpnjcamcpieaa
