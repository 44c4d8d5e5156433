/- Parts of the proof: Mark Rdr Rdr2 ExLib SameLib Sig. -/
import Derived.Test.YtbfinjiledfpcaaGreatPb1
import Derived.Deep.QuietTactic
import Derived.BigQuiet
import Derived.Test.YtbfinjiledfpcaaGreatPb2
import Derived.Lib.QuietBelow
import Derived.Test.YtbfinjiledfpcaaGreatPb3
import Derived.Test.YtbfinjiledfpcaaGreatPb4
section
namespace Go.Proofs.YtbfinjiledfpcaaGreat
open Go Go.RowKit
set_option linter.unusedVariables false
set_option linter.unusedSimpArgs false
set_option maxRecDepth 100000
set_option maxHeartbeats 16000000
/-- From w to w' none but the blocks of fp have turned. -/
structure Only (fp : List Nat) (w w' : World) : Prop where
 os : w'.os = w.os
 tape : w'.tape = w.tape
 output : w'.output = w.output
 size : w.heap.size ≤ w'.heap.size
 block : ∀ b, b < w.heap.size → b ∉ fp → w'.heap[b]? = w.heap[b]?
theorem Only.refl (fp : List Nat) (w : World) : Only fp w w := ⟨rfl, rfl, rfl, Nat.le_refl _, fun _ _ _ => rfl⟩
theorem Only.trans {fp : List Nat} {a b c : World} (h : Only fp a b) (h' : Only fp b c) : Only fp a c :=
 ⟨h'.os.trans h.os, h'.tape.trans h.tape, h'.output.trans h.output, Nat.le_trans h.size h'.size, fun k hk hn => (h'.block k (zfH hk h.size) hn).trans (h.block k hk hn)⟩
theorem Only.mono {fp fq : List Nat} {w w' : World} (h : Only fp w w') (hs : ∀ b ∈ fp, b ∈ fq) : Only fq w w' := ⟨h.os, h.tape, h.output, h.size, fun b hb hn => h.block b hb fun hm => hn (hs b hm)⟩
theorem Only.below {fp : List Nat} {w w' : World} (h : Below w.heap.size w w') : Only fp w w' := ⟨h.os, h.tape, h.output, h.size, fun b hb _ => h.block b hb⟩
theorem Only.set {fp : List Nat} {w : World} {a : Addr} {u : Value} (h : a.block ∈ fp) : Only fp w (w.setCell a u) :=
 ⟨rfl, rfl, rfl, by simp, fun b _ hn => Below.heap_setCell _ _ _ _ (fun e => hn (e ▸ h))⟩
theorem Only.toBelow {fp : List Nat} {w w' : World} {B : Nat} (h : Only fp w w') (hB : B ≤ w.heap.size) (hf : ∀ b ∈ fp, B ≤ b) : Below B w w' :=
 ⟨h.os, h.tape, h.output, h.size, fun b hb => h.block b (by omega) fun hm => by have := hf b hm; omega⟩
theorem Only.same {fp fq : List Nat} {w w' : World} (h : Only fp w w') (hl : ∀ b ∈ fq, b < w.heap.size) (hd : ∀ b ∈ fq, b ∉ fp) : SameOn fq w w' := fun b hb => h.block b (hl b hb) (hd b hb)
/-- Rows of cells that may be written, whatever they hold. -/
def Free (w : World) (fp : List Nat) : Prop := ∀ b ∈ fp, ∃ c e, w.heap[b]? = some (.cells c e (0, 0))
theorem Fresh.free {lo : Nat} {w : World} {fp : List Nat} (h : Fresh lo w fp) : Free w fp := fun b hb => (h.2 b hb).2
theorem Free.same {w w' : World} {fp : List Nat} (h : Free w fp) (hs : SameOn fp w w') : Free w' fp := fun b hb => by obtain ⟨c, e, h1⟩ := h b hb; exact ⟨c, e, (hs b hb).trans h1⟩
theorem Free.frozen {w : World} {fp : List Nat} (h : Free w fp) {b j : Nat} (hb : b ∈ fp) : w.frozen? ⟨b, j, none⟩ = false := by
 obtain ⟨c, e, h1⟩ := h b hb; unfold World.frozen?; rw [h1]; simp
theorem Free.lt {w : World} {fp : List Nat} (h : Free w fp) : ∀ b ∈ fp, b < w.heap.size := fun b hb => by obtain ⟨c, e, h1⟩ := h b hb; exact (Array.getElem?_eq_some_iff.1 h1).1
theorem Free.set {w : World} {fp : List Nat} {a : Addr} {u : Value} (h : Free w fp) (ha : a.spot = none) : Free (w.setCell a u) fp := fun b hb => by
 obtain ⟨c, e, h1⟩ := h b hb
 by_cases hab : b = a.block
 ·subst hab
  refine ⟨c.setIfInBounds a.off u, e, ?_⟩
  simp [World.setCell, Array.getElem?_modify, h1, ha]
 ·exact ⟨c, e, (Below.heap_setCell _ _ _ _ hab).trans h1⟩
/-- A reader in block rb, whose place is at most p: its bytes lie in another block. -/
def Rdr (w : World) (rb p : Nat) : Prop := ∃ (a : Option Addr) (n cap q T : Nat), q ≤ p ∧ n ≤ 2000 ∧ w.heap[rb]? = some (.cells #[.slice a n cap, .int .i64 q] T (0, 0)) ∧
 (n = 0 ∨ ∃ b off, a = some ⟨b, off, none⟩ ∧ b < rb ∧ ∀ i : Nat, i < n → ∃ u : Nat, u ≤ 255 ∧ w.cell? ⟨b, off + i, none⟩ = some (.int .u8 u))
theorem zdo {w : World} {b i : Nat} {u : Value} {c : Array Value} {T : Nat} (h : w.heap[b]? = some (.cells c T (0, 0))) : (w.setCell ⟨b, i, none⟩ u).heap[b]? = some (.cells (c.setIfInBounds i u) T (0, 0)) := by
 simp [World.setCell, Array.getElem?_modify, h]
theorem Rdr.next {w : World} {rb p q n cap T : Nat} {a : Option Addr} (hq : q ≤ p) (hn : n ≤ 2000) (hb : w.heap[rb]? = some (.cells #[.slice a n cap, .int .i64 q] T (0, 0)))
  (h : n = 0 ∨ ∃ b off, a = some ⟨b, off, none⟩ ∧ b < rb ∧ ∀ i : Nat, i < n → ∃ u : Nat, u ≤ 255 ∧ w.cell? ⟨b, off + i, none⟩ = some (.int .u8 u)) : Rdr (w.setCell ⟨rb, 1, none⟩ (.int .i64 ((q : Int) + 1))) rb (p + 1) := by
 refine ⟨a, n, cap, q + 1, T, by omega, hn, by rw [zdo hb]; simp, ?_⟩
 rcases h with h | ⟨b, off, h1, h2, h4⟩
 ·exact .inl h
 ·refine .inr ⟨b, off, h1, h2, fun i hi => ?_⟩
  obtain ⟨u, hu, hc⟩ := h4 i hi
  exact ⟨u, hu, by rw [World.cell?_setCell_other _ _ _ _ (by intro e; simp only [Addr.mk.injEq] at e; omega)]; exact hc⟩
theorem mod_nat {u n : Int} (hu : 0 ≤ u) (hn : 1 ≤ n) : ∃ m : Nat, (m : Int) < n ∧ (u % n) = m :=
 ⟨(u % n).toNat, by have := Int.emod_lt_of_pos u (show 0 < n by omega); have := Int.emod_nonneg u (show n ≠ 0 by omega); omega, by have := Int.emod_nonneg u (show n ≠ 0 by omega); omega⟩
theorem zdP (a b : Nat) (ha : a < 4611686018427387904) (hb : b < 4611686018427387904) : bits .xor .i64 (a : Int) (b : Int) = ((a ^^^ b : Nat) : Int) := by
 have hx : a ^^^ b < 2 ^ 62 := Nat.xor_lt_two_pow (by omega) (by omega)
 have h1 : (BitVec.ofInt 64 (a : Int)).toNat = a := by
  rw [BitVec.ofInt_natCast, BitVec.toNat_ofNat]; exact Nat.mod_eq_of_lt (by omega)
 have h2 : (BitVec.ofInt 64 (b : Int)).toNat = b := by
  rw [BitVec.ofInt_natCast, BitVec.toNat_ofNat]; exact Nat.mod_eq_of_lt (by omega)
 show IntKind.i64.wrap ((BitVec.ofInt 64 (a : Int) ^^^ BitVec.ofInt 64 (b : Int)).toNat : Int) = _
 rw [BitVec.toNat_xor, h1, h2]
 simp [IntKind.wrap, IntKind.bits, IntKind.signed]
 omega
theorem mix_nat {x n : Int} (x0 : 0 ≤ x) (x1 : x < 4611686018427387904) (hn : 1 ≤ n) : ∃ m : Nat, (m : Int) < n ∧ (bits .xor .i64 x (x / 64)).tmod n = m := by
 obtain ⟨k, rfl⟩ := Int.eq_ofNat_of_zero_le x0
 rw [show ((k : Int) / 64) = ((k / 64 : Nat) : Int) from by omega, zdP k (k / 64) (by omega) (by omega)]
 obtain ⟨m, h1, h2⟩ := mod_nat (u := ((k ^^^ k / 64 : Nat) : Int)) (n := n) (by omega) hn
 exact ⟨m, h1, by rw [Int.tmod_eq_emod_of_nonneg (by omega)]; exact h2⟩
theorem Rdr.drewN {w : World} {rb p k : Nat} (h : Rdr w rb p) : Rdr (w.drewN k) rb p := h
theorem Only.drewN {w w' : World} {fp : List Nat} (h : Only fp w w') (k : Nat) : Only fp w (w'.drewN k) := ⟨h.os, h.tape, h.output, h.size, h.block⟩
theorem zai (rb p : Nat) (n : Int) (w : World) (hp : p ≤ 1000000000) (hn : 1 ≤ n) (hn2 : n ≤ 1000000000) (h : Rdr w rb p) :
  Calls Tryz.prog 72 #[.pointer (some ⟨rb, 0, none⟩), .int .i64 n] w fun e w' => (∃ m : Nat, (m : Int) < n ∧ e = .returned (.int .i64 m)) ∧ Rdr w' rb (p + 1) ∧ Only [rb] w w' := by
 obtain ⟨a, len, cap, q, T, hq, hlen, hb, hbs⟩ := h
 have c0 : w.cell? ⟨rb, 0, none⟩ = some (.slice a len cap) := by simp [World.cell?, hb]
 have c1 : w.cell? ⟨rb, 1, none⟩ = some (.int .i64 q) := by simp [World.cell?, hb]
 have hf : w.frozen? ⟨rb, 1, none⟩ = false := by unfold World.frozen?; rw [hb]; simp
 have dn : decide (n < 1) = false := by simp; omega
 have hO := Only.set (fp := [rb]) (w := w) (a := ⟨rb, 1, none⟩) (u := .int .i64 ((q : Int) + 1)) (by simp)
 have hR := Rdr.next hq hlen hb hbs
 rcases hbs with rfl | ⟨b, off, rfl, hrb, hbs⟩
 ·go_enter Tryz.func72, Tryz.ntmps72
  go_wp2_with fail
  go_ret
  exact ⟨⟨0, by omega, rfl⟩, hR, hO⟩
 ·have hne : b ≠ rb := by omega
  have dl : ((len : Int) == 0) = false ∨ len = 0 := by by_cases h : len = 0 <;> simp [h]
  rcases dl with dl | rfl
  rotate_left
  ·go_enter Tryz.func72, Tryz.ntmps72
   go_wp2_with fail
   go_ret
   exact ⟨⟨0, by omega, rfl⟩, hR, hO⟩
  have hl0 : 0 < len := by simp at dl; omega
  by_cases hk : q < len
  ·obtain ⟨u, hu, hc⟩ := hbs q hk
   obtain ⟨m, hm1, hm2⟩ := mod_nat (u := u) (n := n) (by omega) hn
   have HM := Lib.hid hm2
   clear hm2
   go_enter Tryz.func72, Tryz.ntmps72
   go_wp2_with fail
   go_ret
   exact ⟨⟨m, hm1, by rw [HM.out]; rfl⟩, hR, hO⟩
  ·obtain ⟨u, hu, hc⟩ := hbs (q % len) (Nat.mod_lt _ hl0)
   obtain ⟨v, hv, hd⟩ := hbs ((q * 7 + 3) % len) (Nat.mod_lt _ hl0)
   have hlp : (0 : Int) < (len : Int) := by omega
   have hm1 : (0 : Int) ≤ (q : Int) % (len : Int) := Int.emod_nonneg _ (by omega)
   have hm2 : (q : Int) % (len : Int) < (len : Int) := Int.emod_lt_of_pos _ hlp
   have hm3 : (0 : Int) ≤ ((q : Int) * 7 + 3) % (len : Int) := Int.emod_nonneg _ (by omega)
   have hm4 : ((q : Int) * 7 + 3) % (len : Int) < (len : Int) := Int.emod_lt_of_pos _ hlp
   have hq1 : (0 : Int) ≤ (q : Int) / (len : Int) := Int.ediv_nonneg (by omega) (by omega)
   have hq2 : (q : Int) / (len : Int) ≤ (q : Int) := Int.ediv_le_self _ (by omega)
   obtain ⟨m, hx1, hx2⟩ := mix_nat (x := (u : Int) * 131 + (v : Int) * 1117 + (q : Int) * 29 + (q : Int) / (len : Int) * 53) (n := n) (by omega) (by omega) hn
   have HX := Lib.hid hx2
   clear hx2
   go_enter Tryz.func72, Tryz.ntmps72
   go_wp2_with fail
   go_quiet (fail)
   go_wp2_with fail
   go_ret
   exact ⟨⟨m, hx1, by rw [← HX.out]; rfl⟩, hR.drewN, hO.drewN _⟩
theorem Only.cell {w w' : World} {rb b i : Nat} (h : Only [rb] w w') (hb : b < w.heap.size) (hne : b ≠ rb) : w'.cell? ⟨b, i, none⟩ = w.cell? ⟨b, i, none⟩ := World.cell?_of_block (h.block b hb (by simpa using hne))
theorem Only.keep {w w' : World} {rb b i : Nat} {u : Value} (h : Only [rb] w w') (hc : w.cell? ⟨b, i, none⟩ = some u) (hb : b < w.heap.size) (hne : b ≠ rb) : w'.cell? ⟨b, i, none⟩ = some u := (h.cell hb hne).trans hc
theorem Only.sameOn {w w' : World} {rb : Nat} {fp : List Nat} (h : Only [rb] w w') (hl : ∀ b ∈ fp, b < w.heap.size) (hn : rb ∉ fp) : SameOn fp w w' := h.same hl (fun b hb hm => hn (by rw [List.mem_singleton.1 hm] at hb; exact hb))
theorem Rd.only {w w' : World} {d : CD} {v : Value} {fp : List Nat} {rb : Nat} (h : Rd w d v fp) (ho : Only [rb] w w') (hn : rb ∉ fp) : Rd w' d v fp := h.same d (ho.sameOn (h.lt d) hn)
theorem RdVs.only {w w' : World} {d : List CD} {v : List Value} {fp : List Nat} {rb : Nat} (h : RdVs w d v fp) (ho : Only [rb] w w') (hn : rb ∉ fp) : RdVs w' d v fp := h.same d (ho.sameOn (h.lt d) hn)
theorem Fresh.only {w w' : World} {lo rb : Nat} {fp : List Nat} (h : Fresh lo w fp) (ho : Only [rb] w w') (hn : rb < lo) : Fresh lo w' fp := h.same (ho.sameOn h.lt (fun hm => by have := (h.2 _ hm).1; omega))
theorem Own.only {w w' : World} {base e k rb : Nat} {v : Value} {es : List (List CD)} {fp : List Nat} (h : Own w base e k v es fp) (ho : Only [rb] w w') (hb : rb < base) (hn : rb ∉ fp) : Own w' base e k v es fp :=
 h.same (ho.sameOn h.lt hn) (fun b hv => ho.block b (h.block hv).2 (by have := (h.block hv).1; simp; omega))
theorem Only.alloc {w w' : World} {rb : Nat} (h : Only [rb] w w') (o : Obj) : Only [rb] w (w'.alloc o) :=
 h.trans (Only.below (zd w' o))
theorem Rdr.same {w w' : World} {rb p : Nat} (h : Rdr w rb p) (hs : ∀ b, b ≤ rb → w'.heap[b]? = w.heap[b]?) : Rdr w' rb p := by
 obtain ⟨a, n, cap, q, T, h1, h2, h3, h4⟩ := h
 refine ⟨a, n, cap, q, T, h1, h2, (hs rb (Nat.le_refl _)).trans h3, ?_⟩
 rcases h4 with h4 | ⟨b, off, r1, r2, r4⟩
 ·exact .inl h4
 ·refine .inr ⟨b, off, r1, r2, fun i hi => ?_⟩
  obtain ⟨u, hu, hc⟩ := r4 i hi
  exact ⟨u, hu, (World.cell?_of_block (w := w) (hs b (by omega))).trans hc⟩
theorem Rdr.lt {w : World} {rb p : Nat} (h : Rdr w rb p) : rb < w.heap.size := by
 obtain ⟨a, n, cap, q', T, h1, h2, h3, h4⟩ := h; exact (Array.getElem?_eq_some_iff.1 h3).1
theorem Rdr.below {w w' : World} {rb p : Nat} (h : Rdr w rb p) (hb : Below w.heap.size w w') : Rdr w' rb p := h.same (fun b hl => hb.block b (by have := h.lt; omega))
theorem Rdr.alloc {w : World} {rb p : Nat} (h : Rdr w rb p) (o : Obj) : Rdr (w.alloc o) rb p := h.below (zd w o)
theorem Rdr.mono {w : World} {rb p q : Nat} (h : Rdr w rb p) (hp : p ≤ q) : Rdr w rb q := by
 obtain ⟨a, n, cap, q', T, h1, h2⟩ := h; exact ⟨a, n, cap, q', T, by omega, h2⟩
/-- What an append leaves of an older frame. -/
theorem Only.grown {a w w' : World} {rb : Nat} {r : Option Nat} (h : Only [rb] a w) (hg : w.grownBy w' r) (hr : ∀ b, r = some b → a.heap.size ≤ b) : Only [rb] a w' :=
 ⟨hg.os.trans h.os, hg.tape.trans h.tape, hg.output.trans h.output, Nat.le_trans h.size hg.size, fun b hb hn => (hg.block b (zfH hb h.size) (fun e => by have := hr b e.symm; omega)).trans (h.block b hb hn)⟩
theorem Rdr.grown {w w' : World} {rb p : Nat} {r : Option Nat} (h : Rdr w rb p) (hg : w.grownBy w' r) (hr : ∀ b, r = some b → rb < b) : Rdr w' rb p :=
 h.same (fun b hb => hg.block b (by have := h.lt; omega) (fun e => by have := hr b e.symm; omega))
theorem num_any (xs : List Int) (rb p lb : Nat) (w : World) (hp : p ≤ 1000000000) (h0 : 1 ≤ xs.length) (h1 : xs.length ≤ 1000) (hne : lb ≠ rb) (hlb : lb < w.heap.size)
  (hc : ∀ i (h : i < xs.length), w.cell? ⟨lb, i, none⟩ = some (.int .i64 xs[i])) (h : Rdr w rb p) :
  Calls Tryz.prog 71 #[.pointer (some ⟨rb, 0, none⟩), .slice (some ⟨lb, 0, none⟩) xs.length xs.length] w fun e w' => (∃ x, x ∈ xs ∧ e = .returned (.int .i64 x)) ∧ Rdr w' rb (p + 1) ∧ Only [rb] w w' := by
 go_enter Tryz.func71, Tryz.ntmps71
 go_wp2_with fail
 refine (zai rb p xs.length w hp (by omega) (by omega) h).mono ?_
 rintro e w1 ⟨⟨m, hm, rfl⟩, hr, ho⟩
 have hm' : m < xs.length := by omega
 have c := ho.keep (hc m hm') hlb hne
 have HX := Lib.hid (zfK hm')
 go_wp2_with fail
 go_ret
 exact ⟨⟨xs[m], HX.out, rfl⟩, hr, ho⟩
theorem of_any (xs : List ByteArray) (rb p lb : Nat) (w : World) (hp : p ≤ 1000000000) (h0 : 1 ≤ xs.length) (h1 : xs.length ≤ 1000) (hne : lb ≠ rb) (hlb : lb < w.heap.size)
  (hc : ∀ i (h : i < xs.length), w.cell? ⟨lb, i, none⟩ = some (.string xs[i])) (h : Rdr w rb p) :
  Calls Tryz.prog 111 #[.pointer (some ⟨rb, 0, none⟩), .slice (some ⟨lb, 0, none⟩) xs.length xs.length] w fun e w' => (∃ x, x ∈ xs ∧ e = .returned (.string x)) ∧ Rdr w' rb (p + 1) ∧ Only [rb] w w' := by
 go_enter Tryz.func111, Tryz.ntmps111
 go_wp2_with fail
 refine (zai rb p xs.length w hp (by omega) (by omega) h).mono ?_
 rintro e w1 ⟨⟨m, hm, rfl⟩, hr, ho⟩
 have hm' : m < xs.length := by omega
 have c := ho.keep (hc m hm') hlb hne
 have HX := Lib.hid (zfK hm')
 go_wp2_with fail
 go_ret
 exact ⟨⟨xs[m], HX.out, rfl⟩, hr, ho⟩
/-- Bytes that came in. -/
def Byts (w : World) (v : Value) : Prop := ∃ a n cap, v = .slice a n cap ∧ n ≤ cap ∧ cap ≤ 9223372036854775807 ∧ (n = 0 ∨ ∃ b off, a = some ⟨b, off, none⟩ ∧ b < w.heap.size ∧ ∀ i : Nat, i < n → ∃ u : Nat, u ≤ 255 ∧ w.cell? ⟨b, off + i, none⟩ = some (.int .u8 u))
theorem Byts.below {w w' : World} {v : Value} (h : Byts w v) (hb : Below w.heap.size w w') : Byts w' v := by
 obtain ⟨a, n, cap, h1, h2, h3, h4⟩ := h
 refine ⟨a, n, cap, h1, h2, h3, ?_⟩
 rcases h4 with h4 | ⟨b, off, r1, r3, r4⟩
 ·exact .inl h4
 ·refine .inr ⟨b, off, r1, by have := hb.size; omega, fun i hi => ?_⟩
  obtain ⟨u, hu, hc⟩ := r4 i hi
  exact ⟨u, hu, (World.cell?_of_block (w := w) (hb.block b r3)).trans hc⟩
theorem rdr_new {w : World} {a : Option Addr} {n cap T : Nat} (hn : n ≤ 2000) (h : n = 0 ∨ ∃ b off, a = some ⟨b, off, none⟩ ∧ b < w.heap.size ∧ ∀ i : Nat, i < n → ∃ u : Nat, u ≤ 255 ∧ w.cell? ⟨b, off + i, none⟩ = some (.int .u8 u)) :
  Rdr (w.alloc (.cells #[.slice a n cap, .int .i64 0] T)) w.heap.size 0 := by
 refine ⟨a, n, cap, 0, T, Nat.le_refl _, hn, by show (w.heap.push _)[w.heap.size]? = _; simp, ?_⟩
 rcases h with h | ⟨b, off, r1, r3, r4⟩
 ·exact .inl h
 ·refine .inr ⟨b, off, r1, r3, fun i hi => ?_⟩
  obtain ⟨u, hu, hc⟩ := r4 i hi
  exact ⟨u, hu, (World.cell?_of_block (w := w) ((zd w _).block b r3)).trans hc⟩
theorem zej (v : Value) (w : World) (h : Byts w v) :
  Calls Tryz.prog 37 #[v] w fun e w' => e = .returned (.pointer (some ⟨w.heap.size, 0, none⟩)) ∧ Rdr w' w.heap.size 0 ∧ Below w.heap.size w w' := by
 obtain ⟨a, n, cap, rfl, h1, h2, h3⟩ := h
 by_cases hn : n ≤ 2000
 ·have dn : decide ((2000 : Int) < (n : Int)) = false := by simp; omega
  go_enter Tryz.func37, Tryz.ntmps37
  go_wp2_with fail
  go_ret
  exact ⟨rfl, rdr_new hn h3, zd _ _⟩
 ·have dn : decide ((2000 : Int) < (n : Int)) = true := by simp; omega
  obtain ⟨b, off, rfl, r3, r4⟩ : ∃ b off, a = some ⟨b, off, none⟩ ∧ b < w.heap.size ∧ ∀ i : Nat, i < n → ∃ u : Nat, u ≤ 255 ∧ w.cell? ⟨b, off + i, none⟩ = some (.int .u8 u) := by
   rcases h3 with h3 | h3
   ·omega
   ·exact h3
  go_enter Tryz.func37, Tryz.ntmps37
  go_wp2_with fail
  go_ret
  exact ⟨rfl, rdr_new (Nat.le_refl _) (.inr ⟨b, off, rfl, r3, fun i hi => r4 i (by omega)⟩), zd _ _⟩
mutual
def wtC : CD → Nat
 | .str s => s.size
 | .sl es => es.length + wtR es
 | _ => 0
def wtR : List (List CD) → Nat
 | [] => 0
 | e :: es => wtV e + wtR es
def wtV : List CD → Nat
 | [] => 0
 | d :: ds => wtC d + wtV ds
end
mutual
def ndC : CD → Nat
 | .sl es => 1 + ndR es
 | _ => 1
def ndR : List (List CD) → Nat
 | [] => 0
 | e :: es => 1 + ndV e + ndR es
def ndV : List CD → Nat
 | [] => 0
 | d :: ds => ndC d + ndV ds
end
theorem zK : ∀ (a b : List CD), wtV (a ++ b) = wtV a + wtV b
 | [], b => by simp [wtV]
 | d :: ds, b => by simp only [List.cons_append, wtV, zK ds b]; omega
theorem zah : ∀ (a b : List (List CD)), wtR (a ++ b) = wtR a + wtR b
 | [], b => by simp [wtR]
 | d :: ds, b => by simp only [List.cons_append, wtR, zah ds b]; omega
theorem zdq : ∀ {es : List (List CD)} {e : List CD}, e ∈ es → ndV e < ndR es
 | [], e, h => by simp at h
 | d :: ds, e, h => by
  simp only [ndR]
  rcases zfN.1 h with rfl | h
  ·omega
  ·have := zdq h; omega
theorem ndV_sl {es : List (List CD)} {ds : List CD} (h : CD.sl es ∈ ds) : ndR es < ndV ds := by
 induction ds with
 | nil => simp at h
 | cons d ds ih =>
  simp only [ndV]
  rcases zfN.1 h with rfl | h
  ·simp only [ndC]; omega
  ·have := ih h; omega
theorem zG {α : Type} (f : α → List CD) (ts : List α) (k : Nat) (h : k < ts.length) : wtR ((ts.map f).take (k + 1)) = wtR ((ts.map f).take k) + wtV (f ts[k]) := by
 rw [zfI (by simpa using h), zah]; simp [wtR]
theorem zC {α : Type} (f : α → List CD) (ts : List α) (k : Nat) : wtR ((ts.map f).take k) ≤ wtR (ts.map f) := by
 have := zah ((ts.map f).take k) ((ts.map f).drop k); rw [List.take_append_drop] at this; omega
theorem zeI (ns : List Int) : wtR (ns.map zD) = 0 := by induction ns with
 | nil => rfl
 | cons n ns ih => simp only [List.map_cons, wtR, ih, zD, wtV, wtC]
theorem zaV (n : Int) : wtV [.int n] = 0 := rfl
theorem zaz (n : Bool) : wtV [.bool n] = 0 := rfl
theorem zb2 (n : ByteArray) : wtV [.str n] = n.size := by simp [wtV, wtC]
theorem zaq {α : Type} (f : α → List CD) (xs : List α) : wtV [.sl (xs.map f)] = xs.length + wtR (xs.map f) := by simp [wtV, wtC]
theorem zg {w1 w2 : World} {b : Nat} {cs : Array Value} (h : ∀ j, w1.cell? ⟨b, j, none⟩ = cs[j]?) (hl : b < w1.heap.size) (hb : Below w1.heap.size w1 w2) : ∀ j, w2.cell? ⟨b, j, none⟩ = cs[j]? :=
 fun j => (hb.cell (p := ⟨b, j, none⟩) hl).trans (h j)
theorem Fm.kid_nd {x k : Fm} (h : k ∈ x.kids) : ndV k.cd < ndV x.cd := by
 have h1 := zdq (List.mem_map_of_mem (f := Fm.cd) h)
 have h2 : ndR (x.kids.map Fm.cd) < ndV x.cd := ndV_sl (by rw [Fm.cd_eq]; simp)
 omega
mutual
def eqC : CD → CD → Bool
 | .int a, .int b => decide (a = b)
 | .str a, .str b => decide (a = b)
 | .bool a, .bool b => decide (a = b)
 | .sl a, .sl b => eqR a b
 | _, _ => false
def eqR : List (List CD) → List (List CD) → Bool
 | [], [] => true
 | a :: l, b :: l2 => eqV a b && eqR l l2
 | _, _ => false
def eqV : List CD → List CD → Bool
 | [], [] => true
 | a :: l, b :: l2 => eqC a b && eqV l l2
 | _, _ => false
end
mutual
theorem eqC_iff : ∀ (a b : CD), eqC a b = true ↔ a = b
 | .int a, b => by cases b <;> simp [eqC]
 | .str a, b => by cases b <;> simp [eqC]
 | .bool a, b => by cases b <;> simp [eqC]
 | .sl a, b => by cases b <;> simp [eqC, zdr a]
theorem zdr : ∀ (a b : List (List CD)), eqR a b = true ↔ a = b
 | [], b => by cases b <;> simp [eqR]
 | a :: l, b => by cases b <;> simp [eqR, zaO a, zdr l]
theorem zaO : ∀ (a b : List CD), eqV a b = true ↔ a = b
 | [], b => by cases b <;> simp [eqV]
 | a :: l, b => by cases b <;> simp [eqV, eqC_iff a, zaO l]
end
theorem zeJ (a : List CD) : eqV a a = true := (zaO _ _).2 rfl
theorem eqV_no {a b : List CD} (h : a ≠ b) : eqV a b = false := by rw [Bool.eq_false_iff]; intro h'; exact h ((zaO _ _).1 h')
theorem eqR_no {a b : List (List CD)} (h : a ≠ b) : eqR a b = false := by rw [Bool.eq_false_iff]; intro h'; exact h ((zdr _ _).1 h')
theorem eqV_ne {a b : List CD} (h : eqV a b = false) : a ≠ b := by rintro rfl; rw [zeJ] at h; simp at h
theorem zb3 {α : Type} {cd : α → List CD} {xs ys : List α} (h : xs.length ≠ ys.length) : eqR (xs.map cd) (ys.map cd) = false := eqR_no fun e => h (by have := congrArg List.length e; simpa using this)
/-- All up to a place alike. -/
def Alike {α : Type} (cd : α → List CD) (xs ys : List α) (k : Nat) : Prop := (xs.take k).map cd = (ys.take k).map cd
theorem Alike.zero {α : Type} {cd : α → List CD} {xs ys : List α} : Alike cd xs ys 0 := by simp [Alike]
theorem Alike.succ {α : Type} {cd : α → List CD} {xs ys : List α} {k : Nat} (h : Alike cd xs ys k) (h1 : k < xs.length) (h2 : k < ys.length) (he : eqV (cd xs[k]) (cd ys[k]) = true) : Alike cd xs ys (k + 1) := by
 unfold Alike at *
 rw [zfI h1, zfI h2, zfM, zfM, h, List.map_singleton, List.map_singleton, (zaO _ _).1 he]
theorem Alike.all {α : Type} {cd : α → List CD} {xs ys : List α} {k : Nat} (h : Alike cd xs ys k) (h1 : xs.length ≤ k) (h2 : ys.length ≤ k) : eqR (xs.map cd) (ys.map cd) = true := by
 unfold Alike at h
 rw [List.take_of_length_le h1, List.take_of_length_le h2] at h
 exact (zdr _ _).2 h
theorem za1 {α : Type} {cd : α → List CD} {xs ys : List α} {k : Nat} (h1 : k < xs.length) (h2 : k < ys.length) (he : eqV (cd xs[k]) (cd ys[k]) = false) : eqR (xs.map cd) (ys.map cd) = false := eqR_no fun e => by
 have : (xs.map cd)[k]? = (ys.map cd)[k]? := by rw [e]
 simp [h1, h2] at this
 exact eqV_ne he this
theorem zaP {a a' b b' : List CD} (h : a.length = a'.length) : eqV (a ++ b) (a' ++ b') = (eqV a a' && eqV b b') := by
 rw [Bool.eq_iff_iff, zfP, zaO, zaO, zaO]
 exact ⟨fun e => List.append_inj e h, fun ⟨e, e'⟩ => by rw [e, e']⟩
theorem zb4 (a b : Int) : eqV [.int a] [.int b] = decide (a = b) := by simp [eqV, eqC]
theorem zcv (a b : ByteArray) : eqV [.str a] [.str b] = decide (a = b) := by simp [eqV, eqC]
theorem zbH (a b : Bool) : eqV [.bool a] [.bool b] = decide (a = b) := by simp [eqV, eqC]
theorem zda (a b : List (List CD)) : eqV [.sl a] [.sl b] = eqR a b := by simp [eqV, eqC]
theorem zb {w1 w2 : World} {b j : Nat} {v : Value} (h : w1.cell? ⟨b, j, none⟩ = some v) (hb : Below w1.heap.size w1 w2) : w2.cell? ⟨b, j, none⟩ = some v := (hb.cell (p := ⟨b, j, none⟩) (World.block_lt_of_cell? w1 _ h)).trans h
theorem zam {w : World} {α : Type} {cd : α → List CD} {xs : List α} {v : Value} {f : List Nat} (h : Rd w (.sl (xs.map cd)) v f) : xs.length ≤ 9223372036854775807 := by obtain ⟨a, c, _, h1, h2⟩ := zh h; omega
theorem zcw (a b : Int) : (a == b) = decide (a = b) := rfl
theorem Tm.cd_mk (n : ByteArray) (ks : List Tm) : (Tm.mk n ks).cd = [.str n, .sl (ks.map Tm.cd)] := by rw [Tm.cd_eq]; rfl
mutual
theorem Tm.beq_cd : ∀ t u : Tm, t.beq u = eqV t.cd u.cd
 | .mk n ks, .mk m js => by
  rw [Tm.cd_mk, Tm.cd_mk]
  simp only [Tm.beq, eqV, eqC, Bool.and_true]
  rw [Tm.beqs_cd ks js]
theorem Tm.beqs_cd : ∀ ts us : List Tm, Tm.beqs ts us = eqR (ts.map Tm.cd) (us.map Tm.cd)
 | [], [] => by simp [Tm.beqs, eqR]
 | [], _ :: _ => by simp [Tm.beqs, eqR]
 | _ :: _, [] => by simp [Tm.beqs, eqR]
 | t :: ts, u :: us => by
  simp only [Tm.beqs, List.map_cons, eqR]
  rw [Tm.beq_cd t u, Tm.beqs_cd ts us]
end
def srtB (n : Int) : Bool := n == 0 || n == 1
def Sy.okB (x : Sy) : Bool := zax x.name && (decide (x.args.length ≤ 2) && (srtB x.sort && x.args.all srtB))
def nmLt (a b : ByteArray) : Bool := Op.bytesLess a.toList b.toList
def Sg.okAt (s : Sg) (k : Nat) : Bool :=
 match s.syms[k]? with
 | none => true
 | some x => x.okB && (match k with | 0 => true | j + 1 => (match s.syms[j]? with | none => true | some y => nmLt y.name x.name))
def Sg.okB (s : Sg) : Bool := (List.range s.syms.length).all s.okAt && decide (s.syms.length ≤ 7)
theorem Sg.okB_no {s : Sg} {k : Nat} (hk : k < s.syms.length) (h : s.okAt k = false) : s.okB = false := by
 have : (List.range s.syms.length).all s.okAt = false := by rw [List.all_eq_false]; exact ⟨k, by simpa using hk, by simp [h]⟩
 simp [Sg.okB, this]
theorem Sg.okB_all {s : Sg} {k : Nat} (hk : s.syms.length ≤ k) (h : ∀ j, j < k → s.okAt j = true) : s.okB = decide (s.syms.length ≤ 7) := by
 have : (List.range s.syms.length).all s.okAt = true := by rw [List.all_eq_true]; intro j hj; exact h j (by have := List.mem_range.1 hj; omega)
 simp [Sg.okB, this]
theorem Sg.okAt_bad {s : Sg} {k : Nat} (hk : k < s.syms.length) (h : s.syms[k].okB = false) : s.okAt k = false := by simp [Sg.okAt, List.getElem?_eq_getElem hk, h]
theorem Sg.okAt_zero {s : Sg} (hk : 0 < s.syms.length) (h : s.syms[0].okB = true) : s.okAt 0 = true := by simp [Sg.okAt, List.getElem?_eq_getElem hk, h]
theorem Sg.okAt_succ {s : Sg} {k : Nat} (hk : k + 1 < s.syms.length) (h : s.syms[k + 1].okB = true) : s.okAt (k + 1) = nmLt s.syms[k].name s.syms[k + 1].name := by
 simp [Sg.okAt, List.getElem?_eq_getElem hk, List.getElem?_eq_getElem (show k < s.syms.length by omega), h]
theorem zdb (n : Int) (w : World) : Calls Tryz.prog 126 #[.int .i64 n] w fun e w' => e = .returned (.bool (srtB n)) ∧ w = w' := by
 cases h0 : (n == 0) <;> cases h1 : (n == 1)
 all_goals
  have HF : Hid (srtB n = ((n == 0) || (n == 1))) := Lib.hid rfl
  go_enter Tryz.func126, Tryz.ntmps126
  go_wp2
  go_ret
  exact ⟨retB (by rw [HF.out, h0, h1]; rfl), rfl⟩
theorem zaD (n : Int) (w : World) : Calls Tryz.prog 100 #[.int .i64 n] w fun e w' => e = .returned (.bool (srtB n)) ∧ w = w' := by
 cases h0 : (n == 0) <;> cases h1 : (n == 1)
 all_goals
  have HF : Hid (srtB n = ((n == 0) || (n == 1))) := Lib.hid rfl
  go_enter Tryz.func100, Tryz.ntmps100
  go_wp2
  go_ret
  exact ⟨retB (by rw [HF.out, h0, h1]; rfl), rfl⟩
theorem zem (n : Int) (w : World) : Calls Tryz.prog 128 #[.int .i64 n] w fun e w' => e = .returned (.bool (!srtB n)) ∧ w = w' := by
 go_enter Tryz.func128, Tryz.ntmps128
 go_wp2_with (go_at_call 126; refine (zdb _ _).mono ?_; rintro e w' ⟨rfl, rfl⟩)
 go_ret
 exact ⟨rfl, rfl⟩
def IdxOut (ok : Bool) (n : Nat) (w : World) (e : Ending) (w' : World) : Prop := ∃ i : Int, e = .returned (.int .i64 i) ∧ ((ok = true ∧ i = -1) ∨ (ok = false ∧ 0 ≤ i ∧ i < n)) ∧ w = w'
theorem zbv {p : Int → Bool} {xs : List Int} {k : Nat} (hk : k < xs.length) (h : (xs.take k).all p = true) (h' : p xs[k] = true) : (xs.take (k + 1)).all p = true := by
 rw [zfI hk, List.all_append, h]; simp [h']
theorem zcx {p : Int → Bool} {xs : List Int} {k : Nat} (hk : k < xs.length) (h' : p xs[k] = false) : xs.all p = false := by
 rw [List.all_eq_false]; exact ⟨xs[k], zfK hk, by simp [h']⟩
theorem zc1 (xs : List Int) (v : Value) (f : List Nat) (w : World) (hv : Rd w (.sl (xs.map zD)) v f) :
  Calls Tryz.prog 143 #[v, .func (.func 128) #[] #[]] w (IdxOut (xs.all srtB) xs.length w) := by
 obtain ⟨a, c, rfl, hc1, hc2⟩ := zh hv
 go_enter Tryz.func143, Tryz.ntmps143
 go_wp2_with fail
 go_loop [8] (fun i => ∃ k : Nat, k ≤ xs.length ∧ i = .int .i64 k ∧ Hid ((xs.take k).all srtB = true)) (fun i => xs.length - (intOf i).toNat)
 case atStart => exact ⟨0, Nat.zero_le _, rfl, Lib.hid (by simp)⟩
 case round =>
  obtain ⟨k, hkl, rfl, hall⟩ := hrel
  by_cases hlt : k < xs.length
  ·obtain ⟨b, off, rfl, hbs, _⟩ := zr hv (by omega)
   obtain ⟨d0, _⟩ := zap hv hlt
   go_wp2_with fail
   refine (zem _ _).mono ?_
   rintro e w2 ⟨rfl, rfl⟩
   cases he : srtB xs[k]
   ·have HE := Lib.hid (zcx hlt he)
    have he' : (!srtB xs[k]) = true := by rw [he]; rfl
    go_wp2_with fail
    go_ret
    exact ⟨k, rfl, .inr ⟨HE.out, by omega, by omega⟩, rfl⟩
   ·have HE := Lib.hid (zbv hlt hall.out he)
    have he' : (!srtB xs[k]) = false := by rw [he]; rfl
    go_wp2_with fail
    go_round
    case rel => exact ⟨k + 1, by omega, by go_num, HE⟩
    case measure => simp [intOf]; omega
  ·have HE : Hid (xs.all srtB = true) := Lib.hid (by have := hall.out; rwa [List.take_of_length_le (by omega)] at this)
   go_wp2_with fail
   go_ret
   exact ⟨-1, rfl, .inl ⟨HE.out, rfl⟩, rfl⟩
theorem zc2 (xs : List Int) (v : Value) (f : List Nat) (w : World) (hv : Rd w (.sl (xs.map zD)) v f) :
  Calls Tryz.prog 127 #[v, .func (.func 128) #[] #[]] w fun e w' => e = .returned (.bool (!xs.all srtB)) ∧ w = w' := by
 obtain ⟨a, c, rfl, hc1, hc2⟩ := zh hv
 go_enter Tryz.func127, Tryz.ntmps127
 go_wp2_with fail
 refine (zc1 xs _ f _ hv).mono ?_
 rintro e w' ⟨i, rfl, ⟨hi, rfl⟩ | ⟨hi, h0, h1⟩, rfl⟩
 ·have HI := Lib.hid hi
  clear hi
  go_wp2_with fail
  go_ret
  exact ⟨retB (by rw [HI.out]; rfl), rfl⟩
 ·have HI := Lib.hid hi
  clear hi
  go_wp2_with fail
  go_ret
  exact ⟨retB (by rw [HI.out]; simp; try omega), rfl⟩
theorem zbI (x : Sy) (vs : List Value) (f : List Nat) (w : World) (hv : RdVs w x.cd vs f) :
  Calls Tryz.prog 87 #[.agg vs.toArray] w fun e w' => e = .returned (.bool x.okB) ∧ Below w.heap.size w w' := by
 obtain ⟨a1, c1, f1, rfl, _, m0, m1, m2⟩ := Sy.open hv
 have HB : Hid (x.okB = (zax x.name && (decide (x.args.length ≤ 2) && (srtB x.sort && x.args.all srtB)))) := Lib.hid rfl
 have hl := zam m1
 go_enter Tryz.func87, Tryz.ntmps87
 go_wp2_with fail
 refine (zbZ _ _ m0).mono ?_
 rintro e w' ⟨rfl, rfl⟩
 cases h1 : zax x.name
 ·go_wp2_with fail
  go_ret
  exact ⟨retB (by rw [HB.out, h1]; rfl), zd _ _⟩
 have H1 := Lib.hid h1
 clear h1
 by_cases h2 : x.args.length ≤ 2
 rotate_left
 ·go_wp2_with fail
  go_ret
  exact ⟨retB (by rw [HB.out, H1.out, decide_eq_false h2]; rfl), zd _ _⟩
 go_wp2_with fail
 refine (zdb _ _).mono ?_
 rintro e w' ⟨rfl, rfl⟩
 cases h3 : srtB x.sort
 ·go_wp2_with fail
  go_ret
  exact ⟨retB (by rw [HB.out, H1.out, decide_eq_true h2, h3]; rfl), zd _ _⟩
 have H3 := Lib.hid h3
 clear h3
 go_wp2_with fail
 refine (zc2 x.args _ _ _ (by exact m1.below (zd _ _))).mono ?_
 rintro e w' ⟨rfl, rfl⟩
 go_wp2_with fail
 go_ret
 exact ⟨retB (by rw [HB.out, H1.out, decide_eq_true h2, H3.out]; simp), zd _ _⟩
end Go.Proofs.YtbfinjiledfpcaaGreat
end
