/- Parts of the proof: Mark Rdr Rdr2 Reads ExLib ExTo Wt Own SgRow ExSz ExEq. -/
import Derived.Test.YtbfinjiledfpcaaGreatPT1
import Derived.Deep.QuietTactic
import Derived.BigQuiet
import Derived.Test.YtbfinjiledfpcaaGreatPT2
import Derived.Lib.QuietBelow
import Derived.Deep.Cut
import Derived.Deep.Upon
import Derived.Lib.BufferMore
section
namespace Go.Proofs.YtbfinjiledfpcaaGreat
open Go Go.RowKit
set_option linter.unusedVariables false
set_option linter.unusedSimpArgs false
set_option maxRecDepth 100000
set_option maxHeartbeats 16000000
/-- From w to w' none but the blocks of fp have turned. -/
structure Only (fp : List Nat) (w w' : World) : Prop where
 os : w'.os = w.os
 tape : w'.tape = w.tape
 output : w'.output = w.output
 size : w.heap.size ≤ w'.heap.size
 block : ∀ b, b < w.heap.size → b ∉ fp → w'.heap[b]? = w.heap[b]?
theorem Only.refl (fp : List Nat) (w : World) : Only fp w w := ⟨rfl, rfl, rfl, zgo _, fun _ _ _ => rfl⟩
theorem Only.trans {fp : List Nat} {a b c : World} (h : Only fp a b) (h' : Only fp b c) : Only fp a c :=
 ⟨h'.os.trans h.os, h'.tape.trans h.tape, h'.output.trans h.output, zgy h.size h'.size, fun k hk hn => (h'.block k (zge hk h.size) hn).trans (h.block k hk hn)⟩
theorem Only.mono {fp fq : List Nat} {w w' : World} (h : Only fp w w') (hs : ∀ b ∈ fp, b ∈ fq) : Only fq w w' := ⟨h.os, h.tape, h.output, h.size, fun b hb hn => h.block b hb fun hm => hn (hs b hm)⟩
theorem Only.below {fp : List Nat} {w w' : World} (h : Below w.heap.size w w') : Only fp w w' := ⟨h.os, h.tape, h.output, h.size, fun b hb _ => h.block b hb⟩
theorem Only.set {fp : List Nat} {w : World} {a : Addr} {u : Value} (h : a.block ∈ fp) : Only fp w (w.setCell a u) :=
 ⟨rfl, rfl, rfl, by simp, fun b _ hn => Below.heap_setCell _ _ _ _ (fun e => hn (e ▸ h))⟩
theorem Only.toBelow {fp : List Nat} {w w' : World} {B : Nat} (h : Only fp w w') (hB : B ≤ w.heap.size) (hf : ∀ b ∈ fp, B ≤ b) : Below B w w' :=
 ⟨h.os, h.tape, h.output, h.size, fun b hb => h.block b (by omega) fun hm => by have := hf b hm; omega⟩
theorem Only.same {fp fq : List Nat} {w w' : World} (h : Only fp w w') (hl : ∀ b ∈ fq, b < w.heap.size) (hd : ∀ b ∈ fq, b ∉ fp) : SameOn fq w w' := fun b hb => h.block b (hl b hb) (hd b hb)
/-- Rows of cells that may be written, whatever they hold. -/
def Free (w : World) (fp : List Nat) : Prop := ∀ b ∈ fp, ∃ c e, w.heap[b]? = some (.cells c e (0, 0))
theorem Fresh.free {lo : Nat} {w : World} {fp : List Nat} (h : Fresh lo w fp) : Free w fp := fun b hb => (h.2 b hb).2
theorem Free.same {w w' : World} {fp : List Nat} (h : Free w fp) (hs : SameOn fp w w') : Free w' fp := fun b hb => by obtain ⟨c, e, h1⟩ := h b hb; exact ⟨c, e, (hs b hb).trans h1⟩
theorem Free.frozen {w : World} {fp : List Nat} (h : Free w fp) {b j : Nat} (hb : b ∈ fp) : w.frozen? ⟨b, j, none⟩ = false := by
 obtain ⟨c, e, h1⟩ := h b hb; unfold World.frozen?; rw [h1]; simp
theorem Free.lt {w : World} {fp : List Nat} (h : Free w fp) : ∀ b ∈ fp, b < w.heap.size := fun b hb => by obtain ⟨c, e, h1⟩ := h b hb; exact (Array.getElem?_eq_some_iff.1 h1).1
theorem Free.set {w : World} {fp : List Nat} {a : Addr} {u : Value} (h : Free w fp) (ha : a.spot = none) : Free (w.setCell a u) fp := fun b hb => by
 obtain ⟨c, e, h1⟩ := h b hb
 by_cases hab : b = a.block
 ·subst hab
  refine ⟨c.setIfInBounds a.off u, e, ?_⟩; simp [World.setCell, Array.getElem?_modify, h1, ha]
 ·exact ⟨c, e, (Below.heap_setCell _ _ _ _ hab).trans h1⟩
/-- A reader in block rb, whose place is at most p: its bytes lie in another block. -/
def Rdr (w : World) (rb p : Nat) : Prop := ∃ (a : Option Addr) (n cap q T : Nat), q ≤ p ∧ n ≤ 2000 ∧ w.heap[rb]? = some (.cells #[.slice a n cap, .int .i64 q] T (0, 0)) ∧
 (n = 0 ∨ ∃ b off, a = some ⟨b, off, none⟩ ∧ b < rb ∧ ∀ i : Nat, i < n → ∃ u : Nat, u ≤ 255 ∧ w.cell? ⟨b, off + i, none⟩ = some (.int .u8 u))
theorem zdw {w : World} {b i : Nat} {u : Value} {c : Array Value} {T : Nat} (h : w.heap[b]? = some (.cells c T (0, 0))) : (w.setCell ⟨b, i, none⟩ u).heap[b]? = some (.cells (c.setIfInBounds i u) T (0, 0)) := by
 simp [World.setCell, Array.getElem?_modify, h]
theorem Rdr.next {w : World} {rb p q n cap T : Nat} {a : Option Addr} (hq : q ≤ p) (hn : n ≤ 2000) (hb : w.heap[rb]? = some (.cells #[.slice a n cap, .int .i64 q] T (0, 0)))
  (h : n = 0 ∨ ∃ b off, a = some ⟨b, off, none⟩ ∧ b < rb ∧ ∀ i : Nat, i < n → ∃ u : Nat, u ≤ 255 ∧ w.cell? ⟨b, off + i, none⟩ = some (.int .u8 u)) : Rdr (w.setCell ⟨rb, 1, none⟩ (.int .i64 ((q : Int) + 1))) rb (p + 1) := by
 refine ⟨a, n, cap, q + 1, T, by omega, hn, by rw [zdw hb]; simp, ?_⟩
 rcases h with h | ⟨b, off, h1, h2, h4⟩
 ·exact .inl h
 ·refine .inr ⟨b, off, h1, h2, fun i hi => ?_⟩
  obtain ⟨u, hu, hc⟩ := h4 i hi; exact ⟨u, hu, by rw [zgt _ _ _ _ (by intro e; simp only [Addr.mk.injEq] at e; omega)]; exact hc⟩
theorem mod_nat {u n : Int} (hu : 0 ≤ u) (hn : 1 ≤ n) : ∃ m : Nat, (m : Int) < n ∧ (u % n) = m :=
 ⟨(u % n).toNat, by have := Int.emod_lt_of_pos u (show 0 < n by omega); have := Int.emod_nonneg u (show n ≠ 0 by omega); omega, by have := Int.emod_nonneg u (show n ≠ 0 by omega); omega⟩
theorem zd1 (a b : Nat) (ha : a < 4611686018427387904) (hb : b < 4611686018427387904) : bits .xor .i64 (a : Int) (b : Int) = ((a ^^^ b : Nat) : Int) := by
 have hx : a ^^^ b < 2 ^ 62 := Nat.xor_lt_two_pow (by omega) (by omega)
 have h1 : (BitVec.ofInt 64 (a : Int)).toNat = a := by
  rw [BitVec.ofInt_natCast, BitVec.toNat_ofNat]; exact Nat.mod_eq_of_lt (by omega)
 have h2 : (BitVec.ofInt 64 (b : Int)).toNat = b := by
  rw [BitVec.ofInt_natCast, BitVec.toNat_ofNat]; exact Nat.mod_eq_of_lt (by omega)
 show IntKind.i64.wrap ((BitVec.ofInt 64 (a : Int) ^^^ BitVec.ofInt 64 (b : Int)).toNat : Int) = _
 rw [BitVec.toNat_xor, h1, h2]; simp [IntKind.wrap, IntKind.bits, IntKind.signed]; omega
theorem mix_nat {x n : Int} (x0 : 0 ≤ x) (x1 : x < 4611686018427387904) (hn : 1 ≤ n) : ∃ m : Nat, (m : Int) < n ∧ (bits .xor .i64 x (x / 64)).tmod n = m := by
 obtain ⟨k, rfl⟩ := Int.eq_ofNat_of_zero_le x0; rw [show ((k : Int) / 64) = ((k / 64 : Nat) : Int) from by omega, zd1 k (k / 64) (by omega) (by omega)]; obtain ⟨m, h1, h2⟩ := mod_nat (u := ((k ^^^ k / 64 : Nat) : Int)) (n := n) (by omega) hn; exact ⟨m, h1, by rw [Int.tmod_eq_emod_of_nonneg (by omega)]; exact h2⟩
theorem Rdr.drewN {w : World} {rb p k : Nat} (h : Rdr w rb p) : Rdr (w.drewN k) rb p := h
theorem Only.drewN {w w' : World} {fp : List Nat} (h : Only fp w w') (k : Nat) : Only fp w (w'.drewN k) := ⟨h.os, h.tape, h.output, h.size, h.block⟩
theorem zS (rb p : Nat) (n : Int) (w : World) (hp : p ≤ 1000000000) (hn : 1 ≤ n) (hn2 : n ≤ 1000000000) (h : Rdr w rb p) :
  Calls Tryz.prog 72 #[.pointer (some ⟨rb, 0, none⟩), .int .i64 n] w fun e w' => (∃ m : Nat, (m : Int) < n ∧ e = .returned (.int .i64 m)) ∧ Rdr w' rb (p + 1) ∧ Only [rb] w w' := by
 obtain ⟨a, len, cap, q, T, hq, hlen, hb, hbs⟩ := h
 have c0 : w.cell? ⟨rb, 0, none⟩ = some (.slice a len cap) := by simp [World.cell?, hb]
 have c1 : w.cell? ⟨rb, 1, none⟩ = some (.int .i64 q) := by simp [World.cell?, hb]
 have hf : w.frozen? ⟨rb, 1, none⟩ = false := by unfold World.frozen?; rw [hb]; simp
 have dn : decide (n < 1) = false := by simp; omega
 have hO := Only.set (fp := [rb]) (w := w) (a := ⟨rb, 1, none⟩) (u := .int .i64 ((q : Int) + 1)) (by simp); have hR := Rdr.next hq hlen hb hbs
 rcases hbs with rfl | ⟨b, off, rfl, hrb, hbs⟩
 ·go_enter Tryz.func72, Tryz.ntmps72
  go_wp2_with fail; go_ret; exact ⟨⟨0, by omega, rfl⟩, hR, hO⟩
 ·have hne : b ≠ rb := by omega
  have dl : ((len : Int) == 0) = false ∨ len = 0 := by by_cases h : len = 0 <;> simp [h]
  rcases dl with dl | rfl
  rotate_left
  ·go_enter Tryz.func72, Tryz.ntmps72
   go_wp2_with fail; go_ret; exact ⟨⟨0, by omega, rfl⟩, hR, hO⟩
  have hl0 : 0 < len := by simp at dl; omega
  by_cases hk : q < len
  ·obtain ⟨u, hu, hc⟩ := hbs q hk
   obtain ⟨m, hm1, hm2⟩ := mod_nat (u := u) (n := n) (by omega) hn; have HM := zgn hm2; clear hm2; go_enter Tryz.func72, Tryz.ntmps72; go_wp2_with fail; go_ret; exact ⟨⟨m, hm1, by rw [HM.out]; rfl⟩, hR, hO⟩
  ·obtain ⟨u, hu, hc⟩ := hbs (q % len) (Nat.mod_lt _ hl0)
   obtain ⟨v, hv, hd⟩ := hbs ((q * 7 + 3) % len) (Nat.mod_lt _ hl0)
   have hlp : (0 : Int) < (len : Int) := by omega
   have hm1 : (0 : Int) ≤ (q : Int) % (len : Int) := Int.emod_nonneg _ (by omega); have hm2 : (q : Int) % (len : Int) < (len : Int) := Int.emod_lt_of_pos _ hlp; have hm3 : (0 : Int) ≤ ((q : Int) * 7 + 3) % (len : Int) := Int.emod_nonneg _ (by omega); have hm4 : ((q : Int) * 7 + 3) % (len : Int) < (len : Int) := Int.emod_lt_of_pos _ hlp; have hq1 : (0 : Int) ≤ (q : Int) / (len : Int) := Int.ediv_nonneg (by omega) (by omega); have hq2 : (q : Int) / (len : Int) ≤ (q : Int) := Int.ediv_le_self _ (by omega); obtain ⟨m, hx1, hx2⟩ := mix_nat (x := (u : Int) * 131 + (v : Int) * 1117 + (q : Int) * 29 + (q : Int) / (len : Int) * 53) (n := n) (by omega) (by omega) hn; have HX := zgn hx2; clear hx2; go_enter Tryz.func72, Tryz.ntmps72; go_wp2_with fail
   go_quiet (fail)
   go_wp2_with fail; go_ret; exact ⟨⟨m, hx1, by rw [← HX.out]; rfl⟩, hR.drewN, hO.drewN _⟩
theorem Only.cell {w w' : World} {rb b i : Nat} (h : Only [rb] w w') (hb : b < w.heap.size) (hne : b ≠ rb) : w'.cell? ⟨b, i, none⟩ = w.cell? ⟨b, i, none⟩ := zgv (h.block b hb (by simpa using hne))
theorem Only.keep {w w' : World} {rb b i : Nat} {u : Value} (h : Only [rb] w w') (hc : w.cell? ⟨b, i, none⟩ = some u) (hb : b < w.heap.size) (hne : b ≠ rb) : w'.cell? ⟨b, i, none⟩ = some u := (h.cell hb hne).trans hc
theorem Only.sameOn {w w' : World} {rb : Nat} {fp : List Nat} (h : Only [rb] w w') (hl : ∀ b ∈ fp, b < w.heap.size) (hn : rb ∉ fp) : SameOn fp w w' := h.same hl (fun b hb hm => hn (by rw [List.mem_singleton.1 hm] at hb; exact hb))
theorem Rd.only {w w' : World} {d : CD} {v : Value} {fp : List Nat} {rb : Nat} (h : Rd w d v fp) (ho : Only [rb] w w') (hn : rb ∉ fp) : Rd w' d v fp := h.same d (ho.sameOn (h.lt d) hn)
theorem RdVs.only {w w' : World} {d : List CD} {v : List Value} {fp : List Nat} {rb : Nat} (h : RdVs w d v fp) (ho : Only [rb] w w') (hn : rb ∉ fp) : RdVs w' d v fp := h.same d (ho.sameOn (h.lt d) hn)
theorem Fresh.only {w w' : World} {lo rb : Nat} {fp : List Nat} (h : Fresh lo w fp) (ho : Only [rb] w w') (hn : rb < lo) : Fresh lo w' fp := h.same (ho.sameOn h.lt (fun hm => by have := (h.2 _ hm).1; omega))
theorem Own.only {w w' : World} {base e k rb : Nat} {v : Value} {es : List (List CD)} {fp : List Nat} (h : Own w base e k v es fp) (ho : Only [rb] w w') (hb : rb < base) (hn : rb ∉ fp) : Own w' base e k v es fp :=
 h.same (ho.sameOn h.lt hn) (fun b hv => ho.block b (h.block hv).2 (by have := (h.block hv).1; simp; omega))
theorem Only.alloc {w w' : World} {rb : Nat} (h : Only [rb] w w') (o : Obj) : Only [rb] w (w'.alloc o) :=
 h.trans (Only.below (zb w' o))
theorem Rdr.same {w w' : World} {rb p : Nat} (h : Rdr w rb p) (hs : ∀ b, b ≤ rb → w'.heap[b]? = w.heap[b]?) : Rdr w' rb p := by
 obtain ⟨a, n, cap, q, T, h1, h2, h3, h4⟩ := h; refine ⟨a, n, cap, q, T, h1, h2, (hs rb (zgo _)).trans h3, ?_⟩
 rcases h4 with h4 | ⟨b, off, r1, r2, r4⟩
 ·exact .inl h4
 ·refine .inr ⟨b, off, r1, r2, fun i hi => ?_⟩
  obtain ⟨u, hu, hc⟩ := r4 i hi; exact ⟨u, hu, (zgv (w := w) (hs b (by omega))).trans hc⟩
theorem Rdr.lt {w : World} {rb p : Nat} (h : Rdr w rb p) : rb < w.heap.size := by
 obtain ⟨a, n, cap, q', T, h1, h2, h3, h4⟩ := h; exact (Array.getElem?_eq_some_iff.1 h3).1
theorem Rdr.below {w w' : World} {rb p : Nat} (h : Rdr w rb p) (hb : Below w.heap.size w w') : Rdr w' rb p := h.same (fun b hl => hb.block b (by have := h.lt; omega))
theorem Rdr.alloc {w : World} {rb p : Nat} (h : Rdr w rb p) (o : Obj) : Rdr (w.alloc o) rb p := h.below (zb w o)
theorem Rdr.mono {w : World} {rb p q : Nat} (h : Rdr w rb p) (hp : p ≤ q) : Rdr w rb q := by
 obtain ⟨a, n, cap, q', T, h1, h2⟩ := h; exact ⟨a, n, cap, q', T, by omega, h2⟩
/-- What an append leaves of an older frame. -/
theorem Only.grown {a w w' : World} {rb : Nat} {r : Option Nat} (h : Only [rb] a w) (hg : w.grownBy w' r) (hr : ∀ b, r = some b → a.heap.size ≤ b) : Only [rb] a w' :=
 ⟨hg.os.trans h.os, hg.tape.trans h.tape, hg.output.trans h.output, zgy h.size hg.size, fun b hb hn => (hg.block b (zge hb h.size) (fun e => by have := hr b e.symm; omega)).trans (h.block b hb hn)⟩
theorem Rdr.grown {w w' : World} {rb p : Nat} {r : Option Nat} (h : Rdr w rb p) (hg : w.grownBy w' r) (hr : ∀ b, r = some b → rb < b) : Rdr w' rb p :=
 h.same (fun b hb => hg.block b (by have := h.lt; omega) (fun e => by have := hr b e.symm; omega))
theorem num_any (xs : List Int) (rb p lb : Nat) (w : World) (hp : p ≤ 1000000000) (h0 : 1 ≤ xs.length) (h1 : xs.length ≤ 1000) (hne : lb ≠ rb) (hlb : lb < w.heap.size)
  (hc : ∀ i (h : i < xs.length), w.cell? ⟨lb, i, none⟩ = some (.int .i64 xs[i])) (h : Rdr w rb p) :
  Calls Tryz.prog 71 #[.pointer (some ⟨rb, 0, none⟩), .slice (some ⟨lb, 0, none⟩) xs.length xs.length] w fun e w' => (∃ x, x ∈ xs ∧ e = .returned (.int .i64 x)) ∧ Rdr w' rb (p + 1) ∧ Only [rb] w w' := by
 go_enter Tryz.func71, Tryz.ntmps71; go_wp2_with fail; refine (zS rb p xs.length w hp (by omega) (by omega) h).mono ?_; rintro e w1 ⟨⟨m, hm, rfl⟩, hr, ho⟩
 have hm' : m < xs.length := by omega
 have c := ho.keep (hc m hm') hlb hne; have HX := zgn (zgh hm'); go_wp2_with fail; go_ret; exact ⟨⟨xs[m], HX.out, rfl⟩, hr, ho⟩
theorem of_any (xs : List ByteArray) (rb p lb : Nat) (w : World) (hp : p ≤ 1000000000) (h0 : 1 ≤ xs.length) (h1 : xs.length ≤ 1000) (hne : lb ≠ rb) (hlb : lb < w.heap.size)
  (hc : ∀ i (h : i < xs.length), w.cell? ⟨lb, i, none⟩ = some (.string xs[i])) (h : Rdr w rb p) :
  Calls Tryz.prog 111 #[.pointer (some ⟨rb, 0, none⟩), .slice (some ⟨lb, 0, none⟩) xs.length xs.length] w fun e w' => (∃ x, x ∈ xs ∧ e = .returned (.string x)) ∧ Rdr w' rb (p + 1) ∧ Only [rb] w w' := by
 go_enter Tryz.func111, Tryz.ntmps111; go_wp2_with fail; refine (zS rb p xs.length w hp (by omega) (by omega) h).mono ?_; rintro e w1 ⟨⟨m, hm, rfl⟩, hr, ho⟩
 have hm' : m < xs.length := by omega
 have c := ho.keep (hc m hm') hlb hne; have HX := zgn (zgh hm'); go_wp2_with fail; go_ret; exact ⟨⟨xs[m], HX.out, rfl⟩, hr, ho⟩
/-- Bytes that came in. -/
def Byts (w : World) (v : Value) : Prop := ∃ a n cap, v = .slice a n cap ∧ n ≤ cap ∧ cap ≤ 9223372036854775807 ∧ (n = 0 ∨ ∃ b off, a = some ⟨b, off, none⟩ ∧ b < w.heap.size ∧ ∀ i : Nat, i < n → ∃ u : Nat, u ≤ 255 ∧ w.cell? ⟨b, off + i, none⟩ = some (.int .u8 u))
theorem Byts.below {w w' : World} {v : Value} (h : Byts w v) (hb : Below w.heap.size w w') : Byts w' v := by
 obtain ⟨a, n, cap, h1, h2, h3, h4⟩ := h; refine ⟨a, n, cap, h1, h2, h3, ?_⟩
 rcases h4 with h4 | ⟨b, off, r1, r3, r4⟩
 ·exact .inl h4
 ·refine .inr ⟨b, off, r1, by have := hb.size; omega, fun i hi => ?_⟩
  obtain ⟨u, hu, hc⟩ := r4 i hi; exact ⟨u, hu, (zgv (w := w) (hb.block b r3)).trans hc⟩
theorem rdr_new {w : World} {a : Option Addr} {n cap T : Nat} (hn : n ≤ 2000) (h : n = 0 ∨ ∃ b off, a = some ⟨b, off, none⟩ ∧ b < w.heap.size ∧ ∀ i : Nat, i < n → ∃ u : Nat, u ≤ 255 ∧ w.cell? ⟨b, off + i, none⟩ = some (.int .u8 u)) :
  Rdr (w.alloc (.cells #[.slice a n cap, .int .i64 0] T)) w.heap.size 0 := by
 refine ⟨a, n, cap, 0, T, zgo _, hn, by show (w.heap.push _)[w.heap.size]? = _; simp, ?_⟩
 rcases h with h | ⟨b, off, r1, r3, r4⟩
 ·exact .inl h
 ·refine .inr ⟨b, off, r1, r3, fun i hi => ?_⟩
  obtain ⟨u, hu, hc⟩ := r4 i hi; exact ⟨u, hu, (zgv (w := w) ((zb w _).block b r3)).trans hc⟩
theorem zeA (v : Value) (w : World) (h : Byts w v) :
  Calls Tryz.prog 37 #[v] w fun e w' => e = .returned (.pointer (some ⟨w.heap.size, 0, none⟩)) ∧ Rdr w' w.heap.size 0 ∧ Below w.heap.size w w' := by
 obtain ⟨a, n, cap, rfl, h1, h2, h3⟩ := h
 by_cases hn : n ≤ 2000
 ·have dn : decide ((2000 : Int) < (n : Int)) = false := by simp; omega
  go_enter Tryz.func37, Tryz.ntmps37; go_wp2_with fail; go_ret; exact ⟨rfl, rdr_new hn h3, zb _ _⟩
 ·have dn : decide ((2000 : Int) < (n : Int)) = true := by simp; omega
  obtain ⟨b, off, rfl, r3, r4⟩ : ∃ b off, a = some ⟨b, off, none⟩ ∧ b < w.heap.size ∧ ∀ i : Nat, i < n → ∃ u : Nat, u ≤ 255 ∧ w.cell? ⟨b, off + i, none⟩ = some (.int .u8 u) := by
   rcases h3 with h3 | h3
   ·omega
   ·exact h3
  go_enter Tryz.func37, Tryz.ntmps37; go_wp2_with fail; go_ret; exact ⟨rfl, rdr_new (zgo _) (.inr ⟨b, off, rfl, r3, fun i hi => r4 i (by omega)⟩), zb _ _⟩
theorem RdVs.one_inv {w : World} {d : CD} {vs : List Value} {fp : List Nat} (h : RdVs w [d] vs fp) : ∃ v, vs = [v] ∧ Rd w d v fp := by
 simp only [RdVs] at h; obtain ⟨v, vs', f1, f2, rfl, rfl, hd, rfl, rfl⟩ := h; exact ⟨v, rfl, by simpa using hd⟩
theorem zaG {w : World} {n : Int} {v : Value} {f : List Nat} (h : Rd w (.int n) v f) : v = .int .i64 n ∧ I64 n ∧ f = [] := by simpa only [Rd] using h
theorem zbZ {w : World} {s : ByteArray} {v : Value} {f : List Nat} (h : Rd w (.str s) v f) : v = .string s ∧ s.size ≤ maxLen ∧ f = [] := by simpa only [Rd] using h
theorem zbx {w : World} {b : Bool} {v : Value} {f : List Nat} (h : Rd w (.bool b) v f) : v = .bool b ∧ f = [] := by simpa only [Rd] using h
theorem zg {w : World} {α : Type} {cd : α → List CD} {xs : List α} {v : Value} {f : List Nat} (h : Rd w (.sl (xs.map cd)) v f) : ∃ a c, v = .slice a xs.length c ∧ xs.length ≤ c ∧ c ≤ 9223372036854775807 := by
 obtain ⟨a, c, h1, h2, h3⟩ := h.sl_form; exact ⟨a, c, by simpa using h1, by simpa using h2, h3⟩
theorem zaM {w : World} {n : Int} (h : I64 n) : RdVs w [.int n] [.int .i64 n] [] := RdVs.single (by simp only [Rd]; exact ⟨trivial, h, trivial⟩)
theorem zcs {w : World} {s : ByteArray} (h : s.size ≤ maxLen) : RdVs w [.str s] [.string s] [] := RdVs.single (by simp only [Rd]; exact ⟨trivial, h, trivial⟩)
theorem zbk {w : World} {b : Bool} : RdVs w [.bool b] [.bool b] [] := RdVs.single (by simp only [Rd]; exact ⟨trivial, trivial⟩)
theorem zl {w : World} {α : Type} {cd : α → List CD} {xs : List α} {a : Option Addr} {n c : Nat} {f : List Nat} (h : Rd w (.sl (xs.map cd)) (.slice a n c) f) (hne : 0 < xs.length) :
  ∃ b off, a = some ⟨b, off, none⟩ ∧ b < w.heap.size ∧ b ∈ f := by
 obtain ⟨b, off, g, h1, h2, rfl, _⟩ := h.addr (by simpa using hne); exact ⟨b, off, h1, h2, by simp⟩
theorem zL (n : Int) : (zv n).length = 1 := rfl
theorem fmsCd_len (n : List Fm) : (zG n).length = 1 := rfl
theorem zan {w : World} {xs : List Int} {b off n cap : Nat} {fp : List Nat} (h : Rd w (.sl (xs.map zv)) (.slice (some ⟨b, off, none⟩) n cap) fp) {k : Nat} (hk : k < xs.length) : w.cell? ⟨b, off + k, none⟩ = some (.int .i64 xs[k]) ∧ I64 xs[k] := by
 obtain ⟨vs, f, h1, h2, h3⟩ := h.row (k := 1) (by simp only [List.mem_map]; rintro e ⟨t, _, rfl⟩; exact zL t) k (by simpa using hk); rw [List.getElem_map] at h2; obtain ⟨v, rfl, hr⟩ := RdVs.one_inv h2; have hc := h1 0 v rfl; rw [Nat.mul_one, Nat.add_zero] at hc; obtain ⟨rfl, hi, rfl⟩ := zaG hr; exact ⟨hc, hi⟩
theorem za4 {w : World} {xs : List (List Fm)} {b off n cap : Nat} {fp : List Nat} (h : Rd w (.sl (xs.map zG)) (.slice (some ⟨b, off, none⟩) n cap) fp) {k : Nat} (hk : k < xs.length) : ∃ a0 c0 f0, w.cell? ⟨b, off + k, none⟩ = some (.slice a0 xs[k].length c0) ∧ Rd w (.sl (xs[k].map Fm.cd)) (.slice a0 xs[k].length c0) f0 ∧ ∀ y ∈ f0, y ∈ fp := by
 obtain ⟨vs, f, h1, h2, h3⟩ := h.row (k := 1) (by simp only [List.mem_map]; rintro e ⟨t, _, rfl⟩; exact fmsCd_len t) k (by simpa using hk); rw [List.getElem_map] at h2; obtain ⟨v, rfl, hr⟩ := RdVs.one_inv h2; have hc := h1 0 v rfl; rw [Nat.mul_one, Nat.add_zero] at hc; obtain ⟨a, c, rfl, _⟩ := zg hr; exact ⟨a, c, f, hc, hr, h3⟩
theorem Sy.cd_len (x : Sy) : x.cd.length = 3 := by simp [Sy.cd]
theorem Sy.open {w : World} {x : Sy} {vs : List Value} {fp : List Nat} (h : RdVs w x.cd vs fp) : ∃ (a1 : Option Addr) (c1 : Nat) (f1 : List Nat), vs = [.string x.name, .slice a1 x.args.length c1, .int .i64 x.sort] ∧ fp = f1 ∧ x.name.size ≤ maxLen ∧ Rd w (.sl (x.args.map zv)) (.slice a1 x.args.length c1) f1 ∧ I64 x.sort := by
 unfold Sy.cd at h; obtain ⟨u0, r0, g0, s0, ha, hb, e0, h0⟩ := h.split; clear h; subst ha; subst hb; obtain ⟨v0, rfl, q0⟩ := RdVs.one_inv e0; obtain ⟨rfl, i0, rfl⟩ := zbZ q0; obtain ⟨u1, r1, g1, s1, ha, hb, e1, h1⟩ := h0.split; clear h0; subst ha; subst hb; obtain ⟨v1, rfl, q1⟩ := RdVs.one_inv e1; obtain ⟨xa1, xc1, rfl, _⟩ := zg q1; obtain ⟨v2, rfl, q2⟩ := RdVs.one_inv h1; obtain ⟨rfl, i2, rfl⟩ := zaG q2; exact ⟨_, _, _, rfl, by simp, i0, q1, i2⟩
theorem Sy.close {w : World} {x : Sy} {a1 : Option Addr} {c1 : Nat} {f1 : List Nat} (p0 : x.name.size ≤ maxLen) (p1 : Rd w (.sl (x.args.map zv)) (.slice a1 x.args.length c1) f1) (p2 : I64 x.sort) : RdVs w x.cd [.string x.name, .slice a1 x.args.length c1, .int .i64 x.sort] (f1) := by
 have e : ([] ++ (f1 ++ []) : List Nat) = f1 := by simp
 rw [← e]; exact ((zcs p0).app ((RdVs.single p1).app (zaM p2)))
theorem Sy.at {w : World} {xs : List Sy} {b off n cap : Nat} {fp : List Nat} (h : Rd w (.sl (xs.map Sy.cd)) (.slice (some ⟨b, off, none⟩) n cap) fp) {k : Nat} (hk : k < xs.length) : ∃ (a1 : Option Addr) (c1 : Nat) (f1 : List Nat), w.cell? ⟨b, off + k * 3, none⟩ = some (.string xs[k].name) ∧ w.cell? ⟨b, off + k * 3 + 1, none⟩ = some (.slice a1 xs[k].args.length c1) ∧ w.cell? ⟨b, off + k * 3 + 2, none⟩ = some (.int .i64 xs[k].sort) ∧ xs[k].name.size ≤ maxLen ∧ Rd w (.sl (xs[k].args.map zv)) (.slice a1 xs[k].args.length c1) f1 ∧ I64 xs[k].sort ∧ ∀ y ∈ (f1), y ∈ fp := by
 obtain ⟨vs, f, h1, h2, h3⟩ := h.row (k := 3) (by simp only [List.mem_map]; rintro e ⟨t, _, rfl⟩; exact Sy.cd_len t) k (by simpa using hk); rw [List.getElem_map] at h2; obtain ⟨a1, c1, f1, rfl, hfp, m0, m1, m2⟩ := Sy.open h2; exact ⟨a1, c1, f1, h1 0 _ rfl, h1 1 _ rfl, h1 2 _ rfl, m0, m1, m2, fun y hy => h3 y (by rw [hfp]; exact hy)⟩
theorem Sg.cd_len (x : Sg) : x.cd.length = 1 := by simp [Sg.cd]
theorem Sg.open {w : World} {x : Sg} {vs : List Value} {fp : List Nat} (h : RdVs w x.cd vs fp) : ∃ (a0 : Option Addr) (c0 : Nat) (f0 : List Nat), vs = [.slice a0 x.Y.length c0] ∧ fp = f0 ∧ Rd w (.sl (x.Y.map Sy.cd)) (.slice a0 x.Y.length c0) f0 := by
 unfold Sg.cd at h; obtain ⟨v0, rfl, q0⟩ := RdVs.one_inv h; obtain ⟨xa0, xc0, rfl, _⟩ := zg q0; exact ⟨_, _, _, rfl, by simp, q0⟩
theorem Sg.close {w : World} {x : Sg} {a0 : Option Addr} {c0 : Nat} {f0 : List Nat} (p0 : Rd w (.sl (x.Y.map Sy.cd)) (.slice a0 x.Y.length c0) f0) : RdVs w x.cd [.slice a0 x.Y.length c0] (f0) := by
 have e : (f0 : List Nat) = f0 := rfl; rw [← e]; exact (RdVs.single p0)
theorem Tm.cd_app (x : Tm) : x.cd = [.str x.name] ++ [.sl (x.K.map Tm.cd)] := Tm.cd_eq x
theorem Tm.open {w : World} {x : Tm} {vs : List Value} {fp : List Nat} (h : RdVs w x.cd vs fp) : ∃ (a1 : Option Addr) (c1 : Nat) (f1 : List Nat), vs = [.string x.name, .slice a1 x.K.length c1] ∧ fp = f1 ∧ x.name.size ≤ maxLen ∧ Rd w (.sl (x.K.map Tm.cd)) (.slice a1 x.K.length c1) f1 := by
 rw [Tm.cd_app] at h; obtain ⟨u0, r0, g0, s0, ha, hb, e0, h0⟩ := h.split; clear h; subst ha; subst hb; obtain ⟨v0, rfl, q0⟩ := RdVs.one_inv e0; obtain ⟨rfl, i0, rfl⟩ := zbZ q0; obtain ⟨v1, rfl, q1⟩ := RdVs.one_inv h0; obtain ⟨xa1, xc1, rfl, _⟩ := zg q1; exact ⟨_, _, _, rfl, by simp, i0, q1⟩
theorem Tm.close {w : World} {x : Tm} {a1 : Option Addr} {c1 : Nat} {f1 : List Nat} (p0 : x.name.size ≤ maxLen) (p1 : Rd w (.sl (x.K.map Tm.cd)) (.slice a1 x.K.length c1) f1) : RdVs w x.cd [.string x.name, .slice a1 x.K.length c1] (f1) := by
 have e : ([] ++ f1 : List Nat) = f1 := by simp
 rw [← e]; rw [Tm.cd_app]; exact ((zcs p0).app (RdVs.single p1))
theorem Tm.at {w : World} {xs : List Tm} {b off n cap : Nat} {fp : List Nat} (h : Rd w (.sl (xs.map Tm.cd)) (.slice (some ⟨b, off, none⟩) n cap) fp) {k : Nat} (hk : k < xs.length) : ∃ (a1 : Option Addr) (c1 : Nat) (f1 : List Nat), w.cell? ⟨b, off + k * 2, none⟩ = some (.string xs[k].name) ∧ w.cell? ⟨b, off + k * 2 + 1, none⟩ = some (.slice a1 xs[k].K.length c1) ∧ xs[k].name.size ≤ maxLen ∧ Rd w (.sl (xs[k].K.map Tm.cd)) (.slice a1 xs[k].K.length c1) f1 ∧ ∀ y ∈ (f1), y ∈ fp := by
 obtain ⟨vs, f, h1, h2, h3⟩ := h.row (k := 2) (by simp only [List.mem_map]; rintro e ⟨t, _, rfl⟩; exact Tm.cd_len t) k (by simpa using hk); rw [List.getElem_map] at h2; obtain ⟨a1, c1, f1, rfl, hfp, m0, m1⟩ := Tm.open h2; exact ⟨a1, c1, f1, h1 0 _ rfl, h1 1 _ rfl, m0, m1, fun y hy => h3 y (by rw [hfp]; exact hy)⟩
theorem Eqn.open {w : World} {x : Eqn} {vs : List Value} {fp : List Nat} (h : RdVs w x.cd vs fp) : ∃ (a1 : Option Addr) (c1 : Nat) (f1 : List Nat), ∃ (a3 : Option Addr) (c3 : Nat) (f3 : List Nat), vs = [.string x.a.name, .slice a1 x.a.K.length c1, .string x.b.name, .slice a3 x.b.K.length c3] ∧ fp = f1 ++ f3 ∧ x.a.name.size ≤ maxLen ∧ Rd w (.sl (x.a.K.map Tm.cd)) (.slice a1 x.a.K.length c1) f1 ∧ x.b.name.size ≤ maxLen ∧ Rd w (.sl (x.b.K.map Tm.cd)) (.slice a3 x.b.K.length c3) f3 := by
 unfold Eqn.cd at h; obtain ⟨u0, r0, g0, s0, ha, hb, e0, h0⟩ := h.split; clear h; subst ha; subst hb; obtain ⟨n0_0_a, n0_0_c, n0_0_f, rfl, rfl, m0_0, m0_1⟩ := Tm.open e0; obtain ⟨n1_0_a, n1_0_c, n1_0_f, rfl, rfl, m1_0, m1_1⟩ := Tm.open h0; exact ⟨_, _, _, _, _, _, rfl, by simp, m0_0, m0_1, m1_0, m1_1⟩
theorem Eqn.close {w : World} {x : Eqn} {a1 : Option Addr} {c1 : Nat} {f1 : List Nat} {a3 : Option Addr} {c3 : Nat} {f3 : List Nat} (p0 : x.a.name.size ≤ maxLen) (p1 : Rd w (.sl (x.a.K.map Tm.cd)) (.slice a1 x.a.K.length c1) f1) (p2 : x.b.name.size ≤ maxLen) (p3 : Rd w (.sl (x.b.K.map Tm.cd)) (.slice a3 x.b.K.length c3) f3) : RdVs w x.cd [.string x.a.name, .slice a1 x.a.K.length c1, .string x.b.name, .slice a3 x.b.K.length c3] (f1 ++ f3) := by
 have e : (f1 ++ f3 : List Nat) = f1 ++ f3 := by simp
 rw [← e]; exact ((Tm.close p0 p1).app (Tm.close p2 p3))
theorem Atm.cd_len (x : Atm) : x.cd.length = 9 := by simp [Atm.cd, Tm.cd_len]
theorem Atm.open {w : World} {x : Atm} {vs : List Value} {fp : List Nat} (h : RdVs w x.cd vs fp) : ∃ (a2 : Option Addr) (c2 : Nat) (f2 : List Nat), ∃ (a4 : Option Addr) (c4 : Nat) (f4 : List Nat), ∃ (a5 : Option Addr) (c5 : Nat) (f5 : List Nat), ∃ (a6 : Option Addr) (c6 : Nat) (f6 : List Nat), vs = (yNl x a2 c2 a4 c4 a5 c5 a6 c6) ∧ fp = f2 ++ (f4 ++ (f5 ++ f6)) ∧ I64 x.kind ∧ x.a.name.size ≤ maxLen ∧ Rd w (.sl (x.a.K.map Tm.cd)) (.slice a2 x.a.K.length c2) f2 ∧ x.b.name.size ≤ maxLen ∧ Rd w (.sl (x.b.K.map Tm.cd)) (.slice a4 x.b.K.length c4) f4 ∧ Rd w (.sl (x.N.map Tm.cd)) (.slice a5 x.N.length c5) f5 ∧ Rd w (.sl (x.T.map zv)) (.slice a6 x.T.length c6) f6 ∧ I64 x.O := by
 unfold Atm.cd at h; obtain ⟨u0, r0, g0, s0, ha, hb, e0, h0⟩ := h.split; clear h; subst ha; subst hb; obtain ⟨v0, rfl, q0⟩ := RdVs.one_inv e0; obtain ⟨rfl, i0, rfl⟩ := zaG q0; obtain ⟨u1, r1, g1, s1, ha, hb, e1, h1⟩ := h0.split; clear h0; subst ha; subst hb; obtain ⟨n1_0_a, n1_0_c, n1_0_f, rfl, rfl, m1_0, m1_1⟩ := Tm.open e1; obtain ⟨u2, r2, g2, s2, ha, hb, e2, h2⟩ := h1.split; clear h1; subst ha; subst hb; obtain ⟨n2_0_a, n2_0_c, n2_0_f, rfl, rfl, m2_0, m2_1⟩ := Tm.open e2; obtain ⟨u3, r3, g3, s3, ha, hb, e3, h3⟩ := h2.split; clear h2; subst ha; subst hb; obtain ⟨v3, rfl, q3⟩ := RdVs.one_inv e3; obtain ⟨xa3, xc3, rfl, _⟩ := zg q3; obtain ⟨u4, r4, g4, s4, ha, hb, e4, h4⟩ := h3.split; clear h3; subst ha; subst hb; obtain ⟨v4, rfl, q4⟩ := RdVs.one_inv e4; obtain ⟨xa4, xc4, rfl, _⟩ := zg q4; obtain ⟨u5, r5, g5, s5, ha, hb, e5, h5⟩ := h4.split; clear h4; subst ha; subst hb; obtain ⟨v5, rfl, q5⟩ := RdVs.one_inv e5; obtain ⟨rfl, i5, rfl⟩ := zaG q5; obtain ⟨v6, rfl, q6⟩ := RdVs.one_inv h5; obtain ⟨rfl, rfl⟩ := zbx q6; exact ⟨_, _, _, _, _, _, _, _, _, _, _, _, rfl, by simp, i0, m1_0, m1_1, m2_0, m2_1, q3, q4, i5⟩
theorem Atm.close {w : World} {x : Atm} {a2 : Option Addr} {c2 : Nat} {f2 : List Nat} {a4 : Option Addr} {c4 : Nat} {f4 : List Nat} {a5 : Option Addr} {c5 : Nat} {f5 : List Nat} {a6 : Option Addr} {c6 : Nat} {f6 : List Nat} (p0 : I64 x.kind) (p1 : x.a.name.size ≤ maxLen) (p2 : Rd w (.sl (x.a.K.map Tm.cd)) (.slice a2 x.a.K.length c2) f2) (p3 : x.b.name.size ≤ maxLen) (p4 : Rd w (.sl (x.b.K.map Tm.cd)) (.slice a4 x.b.K.length c4) f4) (p5 : Rd w (.sl (x.N.map Tm.cd)) (.slice a5 x.N.length c5) f5) (p6 : Rd w (.sl (x.T.map zv)) (.slice a6 x.T.length c6) f6) (p7 : I64 x.O) : RdVs w x.cd (yNl x a2 c2 a4 c4 a5 c5 a6 c6) (f2 ++ (f4 ++ (f5 ++ f6))) := by
 have e : ([] ++ (f2 ++ (f4 ++ (f5 ++ (f6 ++ ([] ++ []))))) : List Nat) = f2 ++ (f4 ++ (f5 ++ f6)) := by simp
 rw [← e]; exact ((zaM p0).app ((Tm.close p1 p2).app ((Tm.close p3 p4).app ((RdVs.single p5).app ((RdVs.single p6).app ((zaM p7).app zbk))))))
theorem Atm.at {w : World} {xs : List Atm} {b off n cap : Nat} {fp : List Nat} (h : Rd w (.sl (xs.map Atm.cd)) (.slice (some ⟨b, off, none⟩) n cap) fp) {k : Nat} (hk : k < xs.length) : ∃ (a2 : Option Addr) (c2 : Nat) (f2 : List Nat), ∃ (a4 : Option Addr) (c4 : Nat) (f4 : List Nat), ∃ (a5 : Option Addr) (c5 : Nat) (f5 : List Nat), ∃ (a6 : Option Addr) (c6 : Nat) (f6 : List Nat), w.cell? ⟨b, off + k * 9, none⟩ = some (.int .i64 xs[k].kind) ∧ w.cell? ⟨b, off + k * 9 + 1, none⟩ = some (.string xs[k].a.name) ∧ w.cell? ⟨b, off + k * 9 + 2, none⟩ = some (.slice a2 xs[k].a.K.length c2) ∧ w.cell? ⟨b, off + k * 9 + 3, none⟩ = some (.string xs[k].b.name) ∧ w.cell? ⟨b, off + k * 9 + 4, none⟩ = some (.slice a4 xs[k].b.K.length c4) ∧ w.cell? ⟨b, off + k * 9 + 5, none⟩ = some (.slice a5 xs[k].N.length c5) ∧ w.cell? ⟨b, off + k * 9 + 6, none⟩ = some (.slice a6 xs[k].T.length c6) ∧ w.cell? ⟨b, off + k * 9 + 7, none⟩ = some (.int .i64 xs[k].O) ∧ w.cell? ⟨b, off + k * 9 + 8, none⟩ = some (.bool xs[k].C) ∧ I64 xs[k].kind ∧ xs[k].a.name.size ≤ maxLen ∧ Rd w (.sl (xs[k].a.K.map Tm.cd)) (.slice a2 xs[k].a.K.length c2) f2 ∧ xs[k].b.name.size ≤ maxLen ∧ Rd w (.sl (xs[k].b.K.map Tm.cd)) (.slice a4 xs[k].b.K.length c4) f4 ∧ Rd w (.sl (xs[k].N.map Tm.cd)) (.slice a5 xs[k].N.length c5) f5 ∧ Rd w (.sl (xs[k].T.map zv)) (.slice a6 xs[k].T.length c6) f6 ∧ I64 xs[k].O ∧ ∀ y ∈ (f2 ++ (f4 ++ (f5 ++ f6))), y ∈ fp := by
 obtain ⟨vs, f, h1, h2, h3⟩ := h.row (k := 9) (by simp only [List.mem_map]; rintro e ⟨t, _, rfl⟩; exact Atm.cd_len t) k (by simpa using hk); rw [List.getElem_map] at h2; obtain ⟨a2, c2, f2, a4, c4, f4, a5, c5, f5, a6, c6, f6, rfl, hfp, m0, m1, m2, m3, m4, m5, m6, m7⟩ := Atm.open h2; exact ⟨a2, c2, f2, a4, c4, f4, a5, c5, f5, a6, c6, f6, h1 0 _ rfl, h1 1 _ rfl, h1 2 _ rfl, h1 3 _ rfl, h1 4 _ rfl, h1 5 _ rfl, h1 6 _ rfl, h1 7 _ rfl, h1 8 _ rfl, m0, m1, m2, m3, m4, m5, m6, m7, fun y hy => h3 y (by rw [hfp]; exact hy)⟩
theorem Lt.cd_len (x : Lt) : x.cd.length = 10 := by simp [Lt.cd, Atm.cd_len]
theorem Lt.open {w : World} {x : Lt} {vs : List Value} {fp : List Nat} (h : RdVs w x.cd vs fp) : ∃ (a2 : Option Addr) (c2 : Nat) (f2 : List Nat), ∃ (a4 : Option Addr) (c4 : Nat) (f4 : List Nat), ∃ (a5 : Option Addr) (c5 : Nat) (f5 : List Nat), ∃ (a6 : Option Addr) (c6 : Nat) (f6 : List Nat), vs = [.int .i64 x.M.kind, .string x.M.a.name, .slice a2 x.M.a.K.length c2, .string x.M.b.name, .slice a4 x.M.b.K.length c4, .slice a5 x.M.N.length c5, .slice a6 x.M.T.length c6, .int .i64 x.M.O, .bool x.M.C, .bool x.no] ∧ fp = f2 ++ (f4 ++ (f5 ++ f6)) ∧ I64 x.M.kind ∧ x.M.a.name.size ≤ maxLen ∧ Rd w (.sl (x.M.a.K.map Tm.cd)) (.slice a2 x.M.a.K.length c2) f2 ∧ x.M.b.name.size ≤ maxLen ∧ Rd w (.sl (x.M.b.K.map Tm.cd)) (.slice a4 x.M.b.K.length c4) f4 ∧ Rd w (.sl (x.M.N.map Tm.cd)) (.slice a5 x.M.N.length c5) f5 ∧ Rd w (.sl (x.M.T.map zv)) (.slice a6 x.M.T.length c6) f6 ∧ I64 x.M.O := by
 unfold Lt.cd at h; obtain ⟨u0, r0, g0, s0, ha, hb, e0, h0⟩ := h.split; clear h; subst ha; subst hb; obtain ⟨n0_0_a, n0_0_c, n0_0_f, n0_1_a, n0_1_c, n0_1_f, n0_2_a, n0_2_c, n0_2_f, n0_3_a, n0_3_c, n0_3_f, rfl, rfl, m0_0, m0_1, m0_2, m0_3, m0_4, m0_5, m0_6, m0_7⟩ := Atm.open e0; obtain ⟨v1, rfl, q1⟩ := RdVs.one_inv h0; obtain ⟨rfl, rfl⟩ := zbx q1; exact ⟨_, _, _, _, _, _, _, _, _, _, _, _, rfl, by simp, m0_0, m0_1, m0_2, m0_3, m0_4, m0_5, m0_6, m0_7⟩
theorem Lt.close {w : World} {x : Lt} {a2 : Option Addr} {c2 : Nat} {f2 : List Nat} {a4 : Option Addr} {c4 : Nat} {f4 : List Nat} {a5 : Option Addr} {c5 : Nat} {f5 : List Nat} {a6 : Option Addr} {c6 : Nat} {f6 : List Nat} (p0 : I64 x.M.kind) (p1 : x.M.a.name.size ≤ maxLen) (p2 : Rd w (.sl (x.M.a.K.map Tm.cd)) (.slice a2 x.M.a.K.length c2) f2) (p3 : x.M.b.name.size ≤ maxLen) (p4 : Rd w (.sl (x.M.b.K.map Tm.cd)) (.slice a4 x.M.b.K.length c4) f4) (p5 : Rd w (.sl (x.M.N.map Tm.cd)) (.slice a5 x.M.N.length c5) f5) (p6 : Rd w (.sl (x.M.T.map zv)) (.slice a6 x.M.T.length c6) f6) (p7 : I64 x.M.O) : RdVs w x.cd [.int .i64 x.M.kind, .string x.M.a.name, .slice a2 x.M.a.K.length c2, .string x.M.b.name, .slice a4 x.M.b.K.length c4, .slice a5 x.M.N.length c5, .slice a6 x.M.T.length c6, .int .i64 x.M.O, .bool x.M.C, .bool x.no] (f2 ++ (f4 ++ (f5 ++ f6))) := by
 have e : ((f2 ++ (f4 ++ (f5 ++ f6))) ++ [] : List Nat) = f2 ++ (f4 ++ (f5 ++ f6)) := by simp
 rw [← e]; exact ((Atm.close p0 p1 p2 p3 p4 p5 p6 p7).app zbk)
theorem Lt.at {w : World} {xs : List Lt} {b off n cap : Nat} {fp : List Nat} (h : Rd w (.sl (xs.map Lt.cd)) (.slice (some ⟨b, off, none⟩) n cap) fp) {k : Nat} (hk : k < xs.length) : ∃ (a2 : Option Addr) (c2 : Nat) (f2 : List Nat), ∃ (a4 : Option Addr) (c4 : Nat) (f4 : List Nat), ∃ (a5 : Option Addr) (c5 : Nat) (f5 : List Nat), ∃ (a6 : Option Addr) (c6 : Nat) (f6 : List Nat), w.cell? ⟨b, off + k * 10, none⟩ = some (.int .i64 xs[k].M.kind) ∧ w.cell? ⟨b, off + k * 10 + 1, none⟩ = some (.string xs[k].M.a.name) ∧ w.cell? ⟨b, off + k * 10 + 2, none⟩ = some (.slice a2 xs[k].M.a.K.length c2) ∧ w.cell? ⟨b, off + k * 10 + 3, none⟩ = some (.string xs[k].M.b.name) ∧ w.cell? ⟨b, off + k * 10 + 4, none⟩ = some (.slice a4 xs[k].M.b.K.length c4) ∧ w.cell? ⟨b, off + k * 10 + 5, none⟩ = some (.slice a5 xs[k].M.N.length c5) ∧ w.cell? ⟨b, off + k * 10 + 6, none⟩ = some (.slice a6 xs[k].M.T.length c6) ∧ w.cell? ⟨b, off + k * 10 + 7, none⟩ = some (.int .i64 xs[k].M.O) ∧ w.cell? ⟨b, off + k * 10 + 8, none⟩ = some (.bool xs[k].M.C) ∧ w.cell? ⟨b, off + k * 10 + 9, none⟩ = some (.bool xs[k].no) ∧ I64 xs[k].M.kind ∧ xs[k].M.a.name.size ≤ maxLen ∧ Rd w (.sl (xs[k].M.a.K.map Tm.cd)) (.slice a2 xs[k].M.a.K.length c2) f2 ∧ xs[k].M.b.name.size ≤ maxLen ∧ Rd w (.sl (xs[k].M.b.K.map Tm.cd)) (.slice a4 xs[k].M.b.K.length c4) f4 ∧ Rd w (.sl (xs[k].M.N.map Tm.cd)) (.slice a5 xs[k].M.N.length c5) f5 ∧ Rd w (.sl (xs[k].M.T.map zv)) (.slice a6 xs[k].M.T.length c6) f6 ∧ I64 xs[k].M.O ∧ ∀ y ∈ (f2 ++ (f4 ++ (f5 ++ f6))), y ∈ fp := by
 obtain ⟨vs, f, h1, h2, h3⟩ := h.row (k := 10) (by simp only [List.mem_map]; rintro e ⟨t, _, rfl⟩; exact Lt.cd_len t) k (by simpa using hk); rw [List.getElem_map] at h2; obtain ⟨a2, c2, f2, a4, c4, f4, a5, c5, f5, a6, c6, f6, rfl, hfp, m0, m1, m2, m3, m4, m5, m6, m7⟩ := Lt.open h2; exact ⟨a2, c2, f2, a4, c4, f4, a5, c5, f5, a6, c6, f6, h1 0 _ rfl, h1 1 _ rfl, h1 2 _ rfl, h1 3 _ rfl, h1 4 _ rfl, h1 5 _ rfl, h1 6 _ rfl, h1 7 _ rfl, h1 8 _ rfl, h1 9 _ rfl, m0, m1, m2, m3, m4, m5, m6, m7, fun y hy => h3 y (by rw [hfp]; exact hy)⟩
theorem Fm.cd_len (x : Fm) : x.cd.length = 12 := by rw [Fm.cd_eq]; simp [Lt.cd_len]
theorem Fm.open {w : World} {x : Fm} {vs : List Value} {fp : List Nat} (h : RdVs w x.cd vs fp) : ∃ (a3 : Option Addr) (c3 : Nat) (f3 : List Nat), ∃ (a5 : Option Addr) (c5 : Nat) (f5 : List Nat), ∃ (a6 : Option Addr) (c6 : Nat) (f6 : List Nat), ∃ (a7 : Option Addr) (c7 : Nat) (f7 : List Nat), ∃ (a11 : Option Addr) (c11 : Nat) (f11 : List Nat), vs = (yTl x a3 c3 a5 c5 a6 c6 a7 c7 a11 c11) ∧ fp = f3 ++ (f5 ++ (f6 ++ (f7 ++ f11))) ∧ I64 x.kind ∧ I64 x.L.M.kind ∧ x.L.M.a.name.size ≤ maxLen ∧ Rd w (.sl (x.L.M.a.K.map Tm.cd)) (.slice a3 x.L.M.a.K.length c3) f3 ∧ x.L.M.b.name.size ≤ maxLen ∧ Rd w (.sl (x.L.M.b.K.map Tm.cd)) (.slice a5 x.L.M.b.K.length c5) f5 ∧ Rd w (.sl (x.L.M.N.map Tm.cd)) (.slice a6 x.L.M.N.length c6) f6 ∧ Rd w (.sl (x.L.M.T.map zv)) (.slice a7 x.L.M.T.length c7) f7 ∧ I64 x.L.M.O ∧ Rd w (.sl (x.K.map Fm.cd)) (.slice a11 x.K.length c11) f11 := by
 rw [Fm.cd_eq] at h; obtain ⟨u0, r0, g0, s0, ha, hb, e0, h0⟩ := h.split; clear h; subst ha; subst hb; obtain ⟨v0, rfl, q0⟩ := RdVs.one_inv e0; obtain ⟨rfl, i0, rfl⟩ := zaG q0; obtain ⟨u1, r1, g1, s1, ha, hb, e1, h1⟩ := h0.split; clear h0; subst ha; subst hb; obtain ⟨n1_0_a, n1_0_c, n1_0_f, n1_1_a, n1_1_c, n1_1_f, n1_2_a, n1_2_c, n1_2_f, n1_3_a, n1_3_c, n1_3_f, rfl, rfl, m1_0, m1_1, m1_2, m1_3, m1_4, m1_5, m1_6, m1_7⟩ := Lt.open e1; obtain ⟨v2, rfl, q2⟩ := RdVs.one_inv h1; obtain ⟨xa2, xc2, rfl, _⟩ := zg q2; exact ⟨_, _, _, _, _, _, _, _, _, _, _, _, _, _, _, rfl, by simp, i0, m1_0, m1_1, m1_2, m1_3, m1_4, m1_5, m1_6, m1_7, q2⟩
theorem Fm.close {w : World} {x : Fm} {a3 : Option Addr} {c3 : Nat} {f3 : List Nat} {a5 : Option Addr} {c5 : Nat} {f5 : List Nat} {a6 : Option Addr} {c6 : Nat} {f6 : List Nat} {a7 : Option Addr} {c7 : Nat} {f7 : List Nat} {a11 : Option Addr} {c11 : Nat} {f11 : List Nat} (p0 : I64 x.kind) (p1 : I64 x.L.M.kind) (p2 : x.L.M.a.name.size ≤ maxLen) (p3 : Rd w (.sl (x.L.M.a.K.map Tm.cd)) (.slice a3 x.L.M.a.K.length c3) f3) (p4 : x.L.M.b.name.size ≤ maxLen) (p5 : Rd w (.sl (x.L.M.b.K.map Tm.cd)) (.slice a5 x.L.M.b.K.length c5) f5) (p6 : Rd w (.sl (x.L.M.N.map Tm.cd)) (.slice a6 x.L.M.N.length c6) f6) (p7 : Rd w (.sl (x.L.M.T.map zv)) (.slice a7 x.L.M.T.length c7) f7) (p8 : I64 x.L.M.O) (p9 : Rd w (.sl (x.K.map Fm.cd)) (.slice a11 x.K.length c11) f11) : RdVs w x.cd (yTl x a3 c3 a5 c5 a6 c6 a7 c7 a11 c11) (f3 ++ (f5 ++ (f6 ++ (f7 ++ f11)))) := by
 have e : ([] ++ ((f3 ++ (f5 ++ (f6 ++ f7))) ++ f11) : List Nat) = f3 ++ (f5 ++ (f6 ++ (f7 ++ f11))) := by simp
 rw [← e]; rw [Fm.cd_eq]; exact ((zaM p0).app ((Lt.close p1 p2 p3 p4 p5 p6 p7 p8).app (RdVs.single p9)))
theorem Fm.at {w : World} {xs : List Fm} {b off n cap : Nat} {fp : List Nat} (h : Rd w (.sl (xs.map Fm.cd)) (.slice (some ⟨b, off, none⟩) n cap) fp) {k : Nat} (hk : k < xs.length) : ∃ (a3 : Option Addr) (c3 : Nat) (f3 : List Nat), ∃ (a5 : Option Addr) (c5 : Nat) (f5 : List Nat), ∃ (a6 : Option Addr) (c6 : Nat) (f6 : List Nat), ∃ (a7 : Option Addr) (c7 : Nat) (f7 : List Nat), ∃ (a11 : Option Addr) (c11 : Nat) (f11 : List Nat), w.cell? ⟨b, off + k * 12, none⟩ = some (.int .i64 xs[k].kind) ∧ w.cell? ⟨b, off + k * 12 + 1, none⟩ = some (.int .i64 xs[k].L.M.kind) ∧ w.cell? ⟨b, off + k * 12 + 2, none⟩ = some (.string xs[k].L.M.a.name) ∧ w.cell? ⟨b, off + k * 12 + 3, none⟩ = some (.slice a3 xs[k].L.M.a.K.length c3) ∧ w.cell? ⟨b, off + k * 12 + 4, none⟩ = some (.string xs[k].L.M.b.name) ∧ w.cell? ⟨b, off + k * 12 + 5, none⟩ = some (.slice a5 xs[k].L.M.b.K.length c5) ∧ w.cell? ⟨b, off + k * 12 + 6, none⟩ = some (.slice a6 xs[k].L.M.N.length c6) ∧ w.cell? ⟨b, off + k * 12 + 7, none⟩ = some (.slice a7 xs[k].L.M.T.length c7) ∧ w.cell? ⟨b, off + k * 12 + 8, none⟩ = some (.int .i64 xs[k].L.M.O) ∧ w.cell? ⟨b, off + k * 12 + 9, none⟩ = some (.bool xs[k].L.M.C) ∧ w.cell? ⟨b, off + k * 12 + 10, none⟩ = some (.bool xs[k].L.no) ∧ w.cell? ⟨b, off + k * 12 + 11, none⟩ = some (.slice a11 xs[k].K.length c11) ∧ I64 xs[k].kind ∧ I64 xs[k].L.M.kind ∧ xs[k].L.M.a.name.size ≤ maxLen ∧ Rd w (.sl (xs[k].L.M.a.K.map Tm.cd)) (.slice a3 xs[k].L.M.a.K.length c3) f3 ∧ xs[k].L.M.b.name.size ≤ maxLen ∧ Rd w (.sl (xs[k].L.M.b.K.map Tm.cd)) (.slice a5 xs[k].L.M.b.K.length c5) f5 ∧ Rd w (.sl (xs[k].L.M.N.map Tm.cd)) (.slice a6 xs[k].L.M.N.length c6) f6 ∧ Rd w (.sl (xs[k].L.M.T.map zv)) (.slice a7 xs[k].L.M.T.length c7) f7 ∧ I64 xs[k].L.M.O ∧ Rd w (.sl (xs[k].K.map Fm.cd)) (.slice a11 xs[k].K.length c11) f11 ∧ ∀ y ∈ (f3 ++ (f5 ++ (f6 ++ (f7 ++ f11)))), y ∈ fp := by
 obtain ⟨vs, f, h1, h2, h3⟩ := h.row (k := 12) (by simp only [List.mem_map]; rintro e ⟨t, _, rfl⟩; exact Fm.cd_len t) k (by simpa using hk); rw [List.getElem_map] at h2; obtain ⟨a3, c3, f3, a5, c5, f5, a6, c6, f6, a7, c7, f7, a11, c11, f11, rfl, hfp, m0, m1, m2, m3, m4, m5, m6, m7, m8, m9⟩ := Fm.open h2; exact ⟨a3, c3, f3, a5, c5, f5, a6, c6, f6, a7, c7, f7, a11, c11, f11, h1 0 _ rfl, h1 1 _ rfl, h1 2 _ rfl, h1 3 _ rfl, h1 4 _ rfl, h1 5 _ rfl, h1 6 _ rfl, h1 7 _ rfl, h1 8 _ rfl, h1 9 _ rfl, h1 10 _ rfl, h1 11 _ rfl, m0, m1, m2, m3, m4, m5, m6, m7, m8, m9, fun y hy => h3 y (by rw [hfp]; exact hy)⟩
theorem Stk.open {w : World} {x : Stk} {vs : List Value} {fp : List Nat} (h : RdVs w x.cd vs fp) : ∃ (a0 : Option Addr) (c0 : Nat) (f0 : List Nat), ∃ (a1 : Option Addr) (c1 : Nat) (f1 : List Nat), vs = [.slice a0 x.sig.Y.length c0, .slice a1 x.E.length c1] ∧ fp = f0 ++ f1 ∧ Rd w (.sl (x.sig.Y.map Sy.cd)) (.slice a0 x.sig.Y.length c0) f0 ∧ Rd w (.sl (x.E.map zG)) (.slice a1 x.E.length c1) f1 := by
 unfold Stk.cd at h; obtain ⟨u0, r0, g0, s0, ha, hb, e0, h0⟩ := h.split; clear h; subst ha; subst hb; obtain ⟨n0_0_a, n0_0_c, n0_0_f, rfl, rfl, m0_0⟩ := Sg.open e0; obtain ⟨v1, rfl, q1⟩ := RdVs.one_inv h0; obtain ⟨xa1, xc1, rfl, _⟩ := zg q1; exact ⟨_, _, _, _, _, _, rfl, by simp, m0_0, q1⟩
mutual
def wtC : CD → Nat
 | .str s => s.size
 | .sl es => es.length + wtR es
 | _ => 0
def wtR : List (List CD) → Nat
 | [] => 0
 | e :: es => wtV e + wtR es
def wtV : List CD → Nat
 | [] => 0
 | d :: ds => wtC d + wtV ds
end
mutual
def ndC : CD → Nat
 | .sl es => 1 + ndR es
 | _ => 1
def ndR : List (List CD) → Nat
 | [] => 0
 | e :: es => 1 + ndV e + ndR es
def ndV : List CD → Nat
 | [] => 0
 | d :: ds => ndC d + ndV ds
end
theorem zI : ∀ (a b : List CD), wtV (a ++ b) = wtV a + wtV b
 | [], b => by simp [wtV]
 | d :: ds, b => by simp only [List.cons_append, wtV, zI ds b]; omega
theorem zW : ∀ (a b : List (List CD)), wtR (a ++ b) = wtR a + wtR b
 | [], b => by simp [wtR]
 | d :: ds, b => by simp only [List.cons_append, wtR, zW ds b]; omega
theorem zdy : ∀ {es : List (List CD)} {e : List CD}, e ∈ es → ndV e < ndR es
 | [], e, h => by simp at h
 | d :: ds, e, h => by
  simp only [ndR]
  rcases zgk.1 h with rfl | h
  ·omega
  ·have := zdy h; omega
theorem ndV_sl {es : List (List CD)} {ds : List CD} (h : CD.sl es ∈ ds) : ndR es < ndV ds := by
 induction ds with
 | nil => simp at h
 | cons d ds ih =>
  simp only [ndV]
  rcases zgk.1 h with rfl | h
  ·simp only [ndC]; omega
  ·have := ih h; omega
theorem zC {α : Type} (f : α → List CD) (ts : List α) (k : Nat) (h : k < ts.length) : wtR ((ts.map f).take (k + 1)) = wtR ((ts.map f).take k) + wtV (f ts[k]) := by
 rw [zgf (by simpa using h), zW]; simp [wtR]
theorem zu {α : Type} (f : α → List CD) (ts : List α) (k : Nat) : wtR ((ts.map f).take k) ≤ wtR (ts.map f) := by
 have := zW ((ts.map f).take k) ((ts.map f).drop k); rw [List.take_append_drop] at this; omega
theorem zeZ (ns : List Int) : wtR (ns.map zv) = 0 := by induction ns with
 | nil => rfl
 | cons n ns ih => simp only [List.map_cons, wtR, ih, zv, wtV, wtC]
theorem zaS (n : Int) : wtV [.int n] = 0 := rfl
theorem zav (n : Bool) : wtV [.bool n] = 0 := rfl
theorem zb0 (n : ByteArray) : wtV [.str n] = n.size := by simp [wtV, wtC]
theorem zaj {α : Type} (f : α → List CD) (xs : List α) : wtV [.sl (xs.map f)] = xs.length + wtR (xs.map f) := by simp [wtV, wtC]
theorem zh {w1 w2 : World} {b : Nat} {cs : Array Value} (h : ∀ j, w1.cell? ⟨b, j, none⟩ = cs[j]?) (hl : b < w1.heap.size) (hb : Below w1.heap.size w1 w2) : ∀ j, w2.cell? ⟨b, j, none⟩ = cs[j]? :=
 fun j => (hb.cell (p := ⟨b, j, none⟩) hl).trans (h j)
theorem Fm.kid_nd {x k : Fm} (h : k ∈ x.K) : ndV k.cd < ndV x.cd := by
 have h1 := zdy (List.mem_map_of_mem (f := Fm.cd) h); have h2 : ndR (x.K.map Fm.cd) < ndV x.cd := ndV_sl (by rw [Fm.cd_eq]; simp); omega
end Go.Proofs.YtbfinjiledfpcaaGreat
end
namespace Go.Proofs.YtbfinjiledfpcaaGreat
open Go Go.RowKit
set_option linter.unusedVariables false
set_option linter.unusedSimpArgs false
set_option maxHeartbeats 800000
theorem z_int (w : World) : RdVs w [.int 0] [.int .i64 0] [] := zaM (by unfold I64; omega)
theorem z_str (w : World) : RdVs w [.str ⟨#[]⟩] [.string ⟨#[]⟩] [] := zcs (by simp [maxLen, ByteArray.size])
theorem z_bool (w : World) : RdVs w [.bool false] [.bool false] [] := zbk
theorem z_sl (w : World) : RdVs w [.sl []] [.slice none 0 0] [] := RdVs.single (by simp only [Rd]; exact ⟨none, 0, rfl, by simp, by simp [maxLen], by simp⟩)
theorem zcl {n : Int} : NoFp [.int n] := fun w vs f h => by obtain ⟨v, rfl, h'⟩ := RdVs.one_inv h; exact (zaG h').2.2
theorem ze1 {n : ByteArray} : NoFp [.str n] := fun w vs f h => by obtain ⟨v, rfl, h'⟩ := RdVs.one_inv h; exact (zbZ h').2.2
theorem zd2 {n : Bool} : NoFp [.bool n] := fun w vs f h => by obtain ⟨v, rfl, h'⟩ := RdVs.one_inv h; exact (zbx h').2
theorem zcw : NoFp [.sl []] := fun w vs f h => by
 obtain ⟨v, rfl, h'⟩ := RdVs.one_inv h; simp only [Rd] at h'; obtain ⟨a, c, _, _, _, ⟨_, h2⟩ | ⟨h2, _⟩⟩ := h'
 ·exact h2
 ·exact absurd rfl h2
def zda (d : CD) (w : World) (e : Ending) (w' : World) : Prop := ∃ kv fp, e = .returned kv ∧ Rd w' d kv fp ∧ Fresh w.heap.size w' fp ∧ Below w.heap.size w w'
def zbg (ds : List CD) (w : World) (e : Ending) (w' : World) : Prop := ∃ vs fp, e = .returned (.agg vs.toArray) ∧ RdVs w' ds vs fp ∧ Fresh w.heap.size w' fp ∧ Below w.heap.size w w'
theorem cells_set {w : World} {b : Nat} {cs : Array Value} (h : ∀ j, w.cell? ⟨b, j, none⟩ = cs[j]?) (i : Nat) (v : Value) (hi : i < cs.size := by simp) : ∀ j, (w.setCell ⟨b, i, none⟩ v).cell? ⟨b, j, none⟩ = (cs.setIfInBounds i v)[j]? := by
 intro j
 by_cases hij : i = j
 ·subst hij
  rw [zgu w _ v ((h i).trans (Array.getElem?_eq_getElem hi)), Array.getElem?_setIfInBounds]; simp [hi]
 ·rw [zgt w _ _ v (by simp [hij]), h j, Array.getElem?_setIfInBounds]
  simp [hij]
theorem zcx {w : World} {b b' : Nat} {cs : Array Value} (h : ∀ j, w.cell? ⟨b, j, none⟩ = cs[j]?) (i : Nat) (v : Value) (hne : b' ≠ b) : ∀ j, (w.setCell ⟨b', i, none⟩ v).cell? ⟨b, j, none⟩ = cs[j]? :=
 fun j => (zgt w _ _ v (by simp [hne])).trans (h j)
theorem zK {w1 w2 : World} {b : Nat} (h : ∀ j, w1.frozen? ⟨b, j, none⟩ = false) (hl : b < w1.heap.size) (hb : Below w1.heap.size w1 w2) : ∀ j, w2.frozen? ⟨b, j, none⟩ = false :=
 fun j => (hb.frozen (p := ⟨b, j, none⟩) hl).trans (h j)
theorem zaR {w : World} {b : Nat} (h : ∀ j, w.frozen? ⟨b, j, none⟩ = false) (a : Addr) (v : Value) : ∀ j, (w.setCell a v).frozen? ⟨b, j, none⟩ = false := fun j => by rw [World.frozen?_setCell]; exact h j
/-- From w to w' of what was there the blocks from lo to hi alone have turned. -/
structure Loc (lo hi : Nat) (w w' : World) : Prop where
 os : w'.os = w.os
 tape : w'.tape = w.tape
 output : w'.output = w.output
 size : w.heap.size ≤ w'.heap.size
 block : ∀ k, k < w.heap.size → (k < lo ∨ hi ≤ k) → w'.heap[k]? = w.heap[k]?
theorem Loc.refl (lo hi : Nat) (w : World) : Loc lo hi w w := ⟨rfl, rfl, rfl, zgo _, fun _ _ _ => rfl⟩
theorem Loc.set {lo hi : Nat} {w w' : World} (h : Loc lo hi w w') {b i : Nat} {v : Value} (h1 : lo ≤ b) (h2 : b < hi) : Loc lo hi w (w'.setCell ⟨b, i, none⟩ v) :=
 ⟨h.os, h.tape, h.output, by simpa [World.setCell] using h.size, fun k hk hn => (Below.heap_setCell _ _ _ _ (by simp only; omega)).trans (h.block k hk hn)⟩
theorem Loc.below {lo hi : Nat} {w w1 w2 : World} (h : Loc lo hi w w1) (hb : Below w1.heap.size w1 w2) : Loc lo hi w w2 :=
 ⟨hb.os.trans h.os, hb.tape.trans h.tape, hb.output.trans h.output, zgy h.size hb.size, fun k hk hn => (hb.block k (zge hk h.size)).trans (h.block k hk hn)⟩
theorem Loc.toBelow {lo hi : Nat} {w w1 : World} (h : Loc lo hi w w1) {B : Nat} (hB : B ≤ w.heap.size) (hl : B ≤ lo) : Below B w w1 :=
 ⟨h.os, h.tape, h.output, h.size, fun k hk => h.block k (by omega) (.inl (by omega))⟩
theorem Loc.same {lo hi : Nat} {w w1 w0 : World} (h : Loc lo hi w w1) {f : List Nat} (hf : Fresh hi w f) : SameOn f w w1 := fun b hb => h.block b (hf.lt b hb) (.inr (hf.2 b hb).1)
def zi (b : Nat) : List (Nat × Value) → World → World
 | [], w => w
 | u :: r, w => zi b r (w.setCell ⟨b, u.1, none⟩ u.2)
def zag : List (Nat × Value) → List Value → List Value
 | [], l => l
 | u :: r, l => zag r (l.set u.1 u.2)
theorem zw {b : Nat} : ∀ (ups : List (Nat × Value)) {w : World} {l : List Value}, (∀ j, w.cell? ⟨b, j, none⟩ = (l.toArray)[j]?) → (∀ u ∈ ups, u.1 < l.length) → ∀ j, (zi b ups w).cell? ⟨b, j, none⟩ = ((zag ups l).toArray)[j]?
 | [], _, _, h, _ => h
 | u :: r, w, l, h, hu => by
  have h1 := cells_set h u.1 u.2 (by simpa using hu u (List.mem_cons_self ..)); rw [zfY] at h1; exact zw r h1 (fun x hx => by rw [List.length_set]; exact hu x (List.mem_cons_of_mem _ hx))
theorem zaw {b b' : Nat} {cs : Array Value} (hne : b' ≠ b) : ∀ (ups : List (Nat × Value)) {w : World}, (∀ j, w.cell? ⟨b, j, none⟩ = cs[j]?) → ∀ j, (zi b' ups w).cell? ⟨b, j, none⟩ = cs[j]?
 | [], _, h => h
 | u :: r, w, h => zaw hne r (zcx h u.1 u.2 hne)
theorem zak {b b' : Nat} : ∀ (ups : List (Nat × Value)) {w : World}, (∀ j, w.frozen? ⟨b, j, none⟩ = false) → ∀ j, (zi b' ups w).frozen? ⟨b, j, none⟩ = false
 | [], _, h => h
 | u :: r, w, h => zak r (zaR h _ _)
theorem Loc.sets {lo hi b : Nat} {w : World} (h1 : lo ≤ b) (h2 : b < hi) : ∀ (ups : List (Nat × Value)) {w' : World}, Loc lo hi w w' → Loc lo hi w (zi b ups w')
 | [], _, h => h
 | u :: r, w', h => Loc.sets h1 h2 r (h.set h1 h2)
theorem Fresh.app2 {lo mid : Nat} {w : World} {f g : List Nat} (h : Fresh lo w f) (hm : ∀ b ∈ f, b < mid) (h' : Fresh mid w g) (hl : lo ≤ mid) : Fresh lo w (f ++ g) := Fresh.app h hm hl h'
theorem zU : SlTy Tryz.prog 29 3 (.int .i64 0) 1 8 := ⟨Tryz.underlying29, by kernel_rfl, rfl, by omega⟩
theorem za2 : SlTy Tryz.prog 51 34 (.slice none 0 0) 1 24 := ⟨Tryz.underlying51, by kernel_rfl, rfl, by omega⟩
theorem zbm : SlTy Tryz.prog 23 109 (.agg #[.string ByteArray.empty, .slice none 0 0, .int .i64 0]) 3 48 := ⟨Tryz.underlying23, by kernel_rfl, rfl, by omega⟩
theorem zaE : SlTy Tryz.prog 39 31 (.agg #[.int .i64 0, .string ByteArray.empty, .slice none 0 0, .string ByteArray.empty, .slice none 0 0, .slice none 0 0, .slice none 0 0, .int .i64 0, .bool false]) 9 152 := ⟨Tryz.underlying39, by kernel_rfl, rfl, by omega⟩
theorem ze2 : SlTy Tryz.prog 42 33 (.agg #[.int .i64 0, .string ByteArray.empty, .slice none 0 0, .string ByteArray.empty, .slice none 0 0, .slice none 0 0, .slice none 0 0, .int .i64 0, .bool false, .bool false]) 10 160 := ⟨Tryz.underlying42, by kernel_rfl, rfl, by omega⟩
theorem zM : SlTy Tryz.prog 34 36 (.agg #[.int .i64 0, .int .i64 0, .string ByteArray.empty, .slice none 0 0, .string ByteArray.empty, .slice none 0 0, .slice none 0 0, .slice none 0 0, .int .i64 0, .bool false, .bool false, .slice none 0 0]) 12 192 := ⟨Tryz.underlying34, by kernel_rfl, rfl, by omega⟩
def zy : List CD := [.int 0, .int 0, .str ⟨#[]⟩, .sl [], .str ⟨#[]⟩, .sl [], .sl [], .sl [], .int 0, .bool false, .bool false, .sl []]
theorem zaT (w : World) : RdVs w zy yYl [] := by
 have h := (RdVs.app (z_int w) (RdVs.app (z_int w) (RdVs.app (z_str w) (RdVs.app (z_sl w) (RdVs.app (z_str w) (RdVs.app (z_sl w) (RdVs.app (z_sl w) (RdVs.app (z_sl w) (RdVs.app (z_int w) (RdVs.app (z_bool w) (RdVs.app (z_bool w) (z_sl w)))))))))))); exact h
theorem za5 : NoFp zy := (NoFp.append zcl (NoFp.append zcl (NoFp.append ze1 (NoFp.append zcw (NoFp.append ze1 (NoFp.append zcw (NoFp.append zcw (NoFp.append zcw (NoFp.append zcl (NoFp.append zd2 (NoFp.append zd2 zcw)))))))))))
end Go.Proofs.YtbfinjiledfpcaaGreat
section
namespace Go.Proofs.YtbfinjiledfpcaaGreat
open Go Go.RowKit
set_option linter.unusedVariables false
set_option linter.unusedSimpArgs false
set_option maxRecDepth 100000
set_option maxHeartbeats 16000000
theorem Tm.wtV_eq (t : Tm) : wtV t.cd = t.name.size + (t.K.length + wtR (t.K.map Tm.cd)) := by
 rw [Tm.cd_eq]; simp [wtV, wtC]
theorem zX (e : List CD) (es : List (List CD)) : wtR (e :: es) = wtV e + wtR es := by simp [wtR]
mutual
theorem Tm.size_wtV : ∀ (t : Tm), t.size ≤ 1 + wtV t.cd
 | .mk n ks => by
  have := Tm.sizes_wtR ks; rw [Tm.wtV_eq]; simp only [Tm.size, Tm.K]; omega
theorem Tm.sizes_wtR : ∀ (ts : List Tm), Tm.sizes ts ≤ ts.length + wtR (ts.map Tm.cd)
 | [] => by simp [Tm.sizes]
 | t :: ts => by
  have h1 := Tm.size_wtV t; have h2 := Tm.sizes_wtR ts; simp only [Tm.sizes, zgw, List.map_cons, zX]; omega
end
end Go.Proofs.YtbfinjiledfpcaaGreat
end
namespace Go.Proofs.YtbfinjiledfpcaaGreat
open Go Go.RowKit
set_option linter.unusedVariables false
set_option linter.unusedSimpArgs false
set_option maxHeartbeats 1600000
/-- append of nothing, in the walk. -/
theorem zeF {P : Program} {t e : TypeId} {z : Value} {k bytes : Nat} (hT : SlTy P t e z k bytes) {w : World} {ops : Array Oper} {rest : List Oper} {o : Oper} {a : Act} {Q : Exit → Act → World → Prop} (hgd : o.guard = none) (s x : Operand)
  (ho : o.op = .call { callee := .builtin .append, args := #[s, x], argTypes := #[t, t] }) (base ao : Option Addr) (n c c' : Nat) (hle : n ≤ c) (hs : a.eval s = .slice base n c) (hx : a.eval x = .slice ao 0 c')
  (h : wpList P ops Q rest (a.put o.dst (.slice base n c)) w) : wpList P ops Q (o :: rest) a w := by
 obtain ⟨i, hi, hz, hsz, hb⟩ := info_parts hT.info
 have hsrc : Src P i.size t (.slice ao 0 c') 0 [] w := by
  cases ao with
  | none => exact Src.ofNil _ hT.und c'
  | some ad => exact Src.ofSlice _ hT.und ad 0 c' [] (by simp) (fun j u h => by simp at h) (by simp)
 have hr := run_append_nothing (P := P) w t t o.type e i hT.und hi base n c hle _ hsrc; refine wpList_plain hgd fun K hK => ?_; unfold Oper.wp execOp; simp only [ho, resolve, invoke, builtin, Sem.run_bind, Sem.run_pure, Result.andThen_ok, List.map_toArray, List.map_cons, List.map_nil, hs, hx, hr]; exact hK _ _ h
/-- append of a whole row, read, to a row of the call's own. -/
theorem zar {P : Program} {t e : TypeId} {z : Value} {k bytes : Nat} (hT : SlTy P t e z k bytes) {w : World} {ops : Array Oper} {rest : List Oper} {o : Oper} {a : Act} {Q : Exit → Act → World → Prop} (hgd : o.guard = none) (s x : Operand)
  (ho : o.op = .call { callee := .builtin .append, args := #[s, x], argTypes := #[t, t] })
  (base : Nat) (v : Value) (es : List (List CD)) (fp : List Nat) (hs : a.eval s = v) (hown : Own w base e k v es fp)
  (news : List (List CD)) (nv : Value) (nf : List Nat) (hx : a.eval x = nv) (hrd : Rd w (.sl news) nv nf) (hnk : ∀ x ∈ news, x.length = k) (hna : ∀ b ∈ nf, v.ownBlock ≠ some b)
  (hbytes : (es.length + news.length) * bytes ≤ 140737488355328) (hlen : es.length + news.length ≤ 140737488355328) (hbase : base ≤ w.heap.size)
  (h : ∀ v' w' nfp, (∀ b ∈ nfp, b ∈ nf) → Own w' base e k v' (es ++ news) (fp ++ nfp) → w.grownBy w' v.ownBlock → (∀ b, v'.ownBlock = some b → v.ownBlock = some b ∨ w.heap.size ≤ b) → SameOn (fp ++ nfp) w w' → wpList P ops Q rest (a.put o.dst v') w') : wpList P ops Q (o :: rest) a w := by
 obtain ⟨xa, xc, rfl, _, _⟩ := hrd.sl_form
 rcases Nat.eq_zero_or_pos news.length with hz | hne
 ·obtain rfl := List.eq_nil_of_length_eq_zero hz
  obtain ⟨va, vc, rfl, hv1, _⟩ := hown.form; refine zeF hT hgd s x ho va xa es.length vc xc hv1 hs hx ?_; exact h _ w [] (by simp) (by simpa using hown) (zaX _ _) (fun b hb => .inl hb) (SameOn.refl _ _)
 ·obtain ⟨b, off, f, rfl, hb, rfl, hr⟩ := hrd.addr hne
  obtain ⟨vs, hc, hvs⟩ := hr.flat
  exact zz hT hgd s x ho base v es fp hs hown ⟨b, off, none⟩ news.length xc news vs f hx rfl hvs hnk (fun j u hj => by simpa [Addr.add_lit] using hc j u hj) (fun y hy => hna y (by simp [hy])) hbytes hlen hbase
   (fun v' w' h1 h2 h3 h4 => h v' w' f (fun y hy => by simp [hy]) h1 h2 h3 h4)
theorem zdo (n : Nat) (ih : ∀ (x : Fm) (vs : List Value) (fp : List Nat) (w : World), ndV x.cd ≤ n → wtV x.cd ≤ 1048576 → RdVs w x.cd vs fp → Calls Tryz.prog 101 #[.agg vs.toArray] w (zbg x.cd w))
  (xs : List Fm) (v : Value) (fp0 : List Nat) (w : World) (hn : ∀ x ∈ xs, ndV x.cd ≤ n) (hbig : xs.length + wtR (xs.map Fm.cd) ≤ 1048576) (hv : Rd w (.sl (xs.map Fm.cd)) v fp0) :
  Calls Tryz.prog 59 #[v] w (zda (.sl (xs.map Fm.cd)) w) := by
 obtain ⟨a, cap, rfl, hc1, hc2⟩ := zg hv; have IH := zgn ih; have HN := zgn hn; clear ih hn; go_enter Tryz.func59, Tryz.ntmps59; go_wp2_with fail
 go_loopw [3, 8] (fun ov i wr => ∃ (k : Nat) (fp : List Nat), k ≤ xs.length ∧ i = .int .i64 k ∧ Own wr w.heap.size 36 12 ov ((xs.take k).map Fm.cd) fp ∧ Fresh w.heap.size wr fp ∧ Below w.heap.size w wr) (fun _ i _ => xs.length - (intOf i).toNat)
 case atStart => first | exact ⟨0, [], zgx _, rfl, Own.nil _ _ _ _, Fresh.nil _ _, zgz _ _⟩ | exact ⟨0, [], zgx _, rfl, by exact Own.empty _ _ _ _ (zgo _), Fresh.nil _ _, (zgz _ _).alloc (zgo _) _⟩
 case round =>
  obtain ⟨k, fp, hkl, rfl, hown, hfr, hb⟩ := hrel; have hz := hb.size
  by_cases hlt : k < xs.length
  ·obtain ⟨b, off, rfl, hbs, _⟩ := zl hv (by omega)
   obtain ⟨a3, c3, f3, a5, c5, f5, a6, c6, f6, a7, c7, f7, a11, c11, f11, d0, d1, d2, d3, d4, d5, d6, d7, d8, d9, d10, d11, m0, m1, m2, m3, m4, m5, m6, m7, m8, m9, _⟩ := Fm.at (hv.below hb) hlt
   have hbz : b < wr.heap.size := by omega
   have hle := zu Fm.cd xs (k + 1); rw [zC Fm.cd xs k hlt] at hle; go_wp2_with fail; refine (IH.out xs[k] _ _ _ (HN.out _ (zgh hlt)) (by omega) (by exact (Fm.close m0 m1 m2 m3 m4 m5 m6 m7 m8 m9).below ((zgz _ _).alloc (zgo _) _))).mono ?_; rintro e w2 ⟨kv, fk, rfl, hrk, hfk, hb2⟩; obtain ⟨b3, e3, g3, b5, e5, g5, b6, e6, g6, b7, e7, g7, b11, e11, g11, rfl, -, n0, n1, n2, n3, n4, n5, n6, n7, n8, n9⟩ := Fm.open hrk; have hbw : Below wr.heap.size wr w2 := ((zgz _ _).alloc (zgo _) _).trans (hb2.mono (by simp)); have hz2 := hbw.size; have hown2 := (hown.below (hbw.alloc hz2 (.cells (yTa xs[k] b3 e3 b5 e5 b6 e6 b7 e7 b11 e11) 36))); have hrk2 := hrk.below (zb w2 (.cells (yTa xs[k] b3 e3 b5 e5 b6 e6 b7 e7 b11 e11) 36))
   have hl : ((xs.take k).map Fm.cd).length ≤ xs.length := by simp; omega
   go_wp2_with (at_builtin; refine zz zM rfl _ _ rfl w.heap.size _ _ _ rfl hown2 ⟨w2.heap.size, 0, none⟩ 1 1 [xs[k].cd] (yTl xs[k] b3 e3 b5 e5 b6 e6 b7 e7 b11 e11) fk rfl rfl ?rd ?k ?cells ?na ?bytes ?len ?base ?next)
   case rd => simpa using hrk2
   case k => simp [Fm.cd_len]
   case cells => exact zq _ _ _
   case na => exact hown.away (by simp) hfk
   case bytes => omega
   case len => omega
   case base => simp; omega
   case next =>
    intro v' w4 hown4 hg hv' hs4; go_wp2_with fail; go_roundw
    case rel =>
     refine ⟨k + 1, fp ++ fk, by omega, by go_num, ?_, ?_, ?_⟩
     ·rw [zgf hlt, zgj]; simpa using hown4
     ·exact ((Fresh.app (hfr.below hbw) hfr.lt hz (hfk.mono (by simp))).below (zb _ _)).same hs4
     ·exact zo ((hb.trans (hbw.mono hz)).alloc (by omega) _) hg (by simp; omega) (fun k hk => (hown.block hk).1)
    case measure => simp [intOf]; omega
  ·have he : xs.take k = xs := zgq (by omega)
   rw [he] at hown; go_wp2_with fail; go_ret; obtain ⟨fp', h1, h2, _⟩ := hown.fresh hfr; exact ⟨_, fp', rfl, h1, h2, hb⟩
theorem zQ : ∀ (xs : List Int), NoFp (xs.map zv).flatten
 | [] => fun w vs f h => by simp only [List.map_nil, List.flatten_nil, RdVs] at h; exact h.2
 | x :: xs => NoFp.append zcl (zQ xs)
set_option maxRecDepth 100000 in
theorem zcA (xs : List Int) (v : Value) (fp0 : List Nat) (w : World) (hbig : xs.length ≤ 1048576) (hv : Rd w (.sl (xs.map zv)) v fp0) :
  Calls Tryz.prog 118 #[v] w (zda (.sl (xs.map zv)) w) := by
 obtain ⟨a, cap, rfl, hc1, hc2⟩ := zg hv
 cases a with
 | none =>
  have hx0 : xs = [] := by
   rcases Nat.eq_zero_or_pos xs.length with h | h
   ·exact List.eq_nil_of_length_eq_zero h
   ·obtain ⟨_, _, h2, _⟩ := zl hv h; simp at h2
  subst hx0; have hnil : ∀ (W : World) (n c : Nat), (binOp .eql 29 (.slice none n c) (.slice none 0 0)).run Tryz.prog W = .ok (.bool true) W := fun W n c => Lib.run_eql_slice_nil_nil W n c Tryz.underlying29; go_enter Tryz.func118, Tryz.ntmps118; go_wp2_with fail; go_ret; exact ⟨_, [], rfl, by simp only [List.map_nil, Rd]; exact ⟨none, 0, rfl, by simp, by simp [maxLen], by simp⟩, Fresh.nil _ _, zgz _ _⟩
 | some ad =>
  have hnil : ∀ (W : World) (n c : Nat), (binOp .eql 29 (.slice (some ad) n c) (.slice none 0 0)).run Tryz.prog W = .ok (.bool false) W := fun W n c => Lib.run_eql_slice_some_nil W ad n c Tryz.underlying29; go_enter Tryz.func118, Tryz.ntmps118; go_wp2_with (at_builtin; refine zar zU rfl _ _ rfl w.heap.size _ [] [] rfl (Own.empty w w.heap.size _ _ (zgo _)) (xs.map zv) (.slice (some ad) xs.length cap) fp0 rfl (by exact hv.below (zb _ _)) ?k ?na ?bytes ?len ?base ?next)
  case k => simp only [List.mem_map]; rintro e ⟨t, _, rfl⟩; exact zL t
  case na => intro b hb h; have h1 := hv.lt _ b hb; have h2 : w.heap.size = b := zgA h; omega
  case bytes => simp; omega
  case len => simp; omega
  case base => simp
  case next =>
   intro v' w4 nfp hnf hown4 hg hv' hs4; have hb4 := zo ((zgz w.heap.size w).alloc (zgo _) _) hg (by simp) (fun q hq => by have h2 : w.heap.size = q := zgA hq; omega)
   try simp only [List.nil_append] at hown4
   obtain rfl : nfp = [] := by obtain ⟨ys, _, h, _⟩ := hown4; exact zQ xs _ _ _ h
   clear hg hs4; go_wp2_with fail; go_ret; obtain ⟨fp', h1, h2, _⟩ := hown4.fresh (Fresh.nil _ _); exact ⟨_, fp', rfl, h1, h2, hb4⟩
end Go.Proofs.YtbfinjiledfpcaaGreat
section
namespace Go.Proofs.YtbfinjiledfpcaaGreat
open Go Go.RowKit
set_option linter.unusedVariables false
set_option linter.unusedSimpArgs false
set_option maxRecDepth 100000
set_option maxHeartbeats 16000000
theorem zcS : ∀ (ys : List Sy), (ys.map Sy.cd).flatten.length = ys.length * 3
 | [] => by simp
 | y :: ys => by rw [List.map_cons, List.flatten_cons, zgi, zcS ys, Sy.cd_len, zgw]; omega
/-- Put another word in the place of one. -/
theorem sg_put {w : World} {ys : List Sy} {xs : List Value} {fp : List Nat} {k : Nat} (h : RdVs w (ys.map Sy.cd).flatten xs fp) (hk : k < ys.length) :
  ∃ (us rest : List Value) (a : Option Addr) (c : Nat) (f1 f2 f3 : List Nat), xs = us ++ ([.string ys[k].name, .slice a ys[k].args.length c, .int .i64 ys[k].sort] ++ rest) ∧ us.length = k * 3 ∧ fp = f1 ++ (f2 ++ f3) ∧ ys[k].name.size ≤ maxLen ∧
   Rd w (.sl (ys[k].args.map zv)) (.slice a ys[k].args.length c) f2 ∧ I64 ys[k].sort ∧
   ∀ (w' : World) (y : Sy) (a' : Option Addr) (c' : Nat) (f2' : List Nat), SameOn f1 w w' → SameOn f3 w w' → y.name.size ≤ maxLen → Rd w' (.sl (y.args.map zv)) (.slice a' y.args.length c') f2' → I64 y.sort →
    RdVs w' ((ys.set k y).map Sy.cd).flatten (us ++ ([.string y.name, .slice a' y.args.length c', .int .i64 y.sort] ++ rest)) (f1 ++ (f2' ++ f3)) := by
 have e : ys = ys.take k ++ ys[k] :: ys.drop (k + 1) := by rw [List.getElem_cons_drop, List.take_append_drop]
 have h1 : RdVs w (((ys.take k).map Sy.cd).flatten ++ (ys[k].cd ++ ((ys.drop (k + 1)).map Sy.cd).flatten)) xs fp := by
  have h2 := h; rw [e] at h2
  simpa only [zgj, List.map_cons, List.flatten_append, List.flatten_cons] using h2
 obtain ⟨us, ur, f1, fr, rfl, rfl, r1, r2⟩ := h1.split; obtain ⟨um, rest, f2, f3, rfl, rfl, r3, r4⟩ := r2.split; obtain ⟨a, c, f2', rfl, rfl, n0, n1, n2⟩ := Sy.open r3; refine ⟨us, rest, a, c, f1, f2, f3, rfl, ?_, rfl, n0, n1, n2, fun w' y a' c' f2' s1 s3 m0 m1 m2 => ?_⟩
 ·rw [r1.length, zcS, List.length_take]; omega
 ·have e2 : ys.set k y = ys.take k ++ y :: ys.drop (k + 1) := List.set_eq_take_append_cons_drop ▸ (if_pos hk ▸ rfl)
  rw [e2]; simp only [zgj, List.map_cons, List.flatten_append, List.flatten_cons]; exact (r1.same _ s1).app ((Sy.close m0 m1 m2).app (r4.same _ s3))
def SgRow (w : World) (B x m : Nat) (v : Value) (ys : List Sy) (fp : List Nat) : Prop :=
 ∃ xs, w.ownsRow B 109 3 v ys.length xs ∧ RdVs w (ys.map Sy.cd).flatten xs fp ∧ (∀ b ∈ fp, v.ownBlock ≠ some b) ∧ Fresh B w fp ∧
  (∀ j (hj : j < ys.length), ∃ va, xs[j * 3 + 1]? = some va ∧ Own w B 3 1 va (ys[j].args.map zv) [] ∧ ∀ g, va.ownBlock = some g → (g < m ∧ g ≠ x) ∧ v.ownBlock ≠ some g ∧ (ys[j].args = [] → g ∉ fp)) ∧ (∀ g, v.ownBlock = some g → g < m ∧ g ≠ x) ∧ ∀ b ∈ fp, b < m ∧ b ≠ x
theorem SgRow.own {w : World} {B x m : Nat} {v : Value} {ys : List Sy} {fp : List Nat} (h : SgRow w B x m v ys fp) : Own w B 109 3 v (ys.map Sy.cd) fp := by
 obtain ⟨xs, h1, h2, h3, _⟩ := h; exact ⟨xs, by rw [zgl]; exact h1, h2, by simp only [List.mem_map]; rintro x ⟨y, _, rfl⟩; exact y.cd_len, h3⟩
theorem SgRow.fresh {w : World} {B x m : Nat} {v : Value} {ys : List Sy} {fp : List Nat} (h : SgRow w B x m v ys fp) : Fresh B w fp := by
 obtain ⟨_, _, _, _, h, _⟩ := h; exact h
theorem zch {w w' : World} {base e k : Nat} {v : Value} {n : Nat} {xs : List Value} (h : w.ownsRow base e k v n xs) (hv : ∀ b, v.ownBlock = some b → w'.heap[b]? = w.heap[b]?) : w'.ownsRow base e k v n xs := by
 refine ⟨h.1, ?_⟩
 rcases h.2 with hn | ⟨g, cap, cur, rfl, hg, hh, rest⟩
 ·exact .inl hn
 ·exact .inr ⟨g, cap, cur, rfl, hg, (hv g rfl).trans hh, rest⟩
theorem SgRow.same {w w' : World} {B x m : Nat} {v : Value} {ys : List Sy} {fp : List Nat} (h : SgRow w B x m v ys fp) (hb : ∀ b, B ≤ b → b ≠ x → b < w.heap.size → w'.heap[b]? = w.heap[b]?) : SgRow w' B x m v ys fp := by
 obtain ⟨xs, h1, h2, h3, h4, h5, h6, h7⟩ := h; have hs : SameOn fp w w' := fun b hm => hb b (h4.2 b hm).1 (h7 b hm).2 (h4.lt b hm); refine ⟨xs, zch h1 (fun b hv => hb b (h1.lt b hv).1 (h6 b hv).2 (h1.lt b hv).2), h2.same _ hs, h3, h4.same hs, fun j hj => ?_, h6, h7⟩; obtain ⟨va, e1, e2, e3⟩ := h5 j hj; exact ⟨va, e1, e2.same (fun b hm => by simp at hm) (fun b hv => hb b (e2.block hv).1 (e3 b hv).1.2 (e2.block hv).2), e3⟩
theorem SgRow.below {w w' : World} {B x m : Nat} {v : Value} {ys : List Sy} {fp : List Nat} (h : SgRow w B x m v ys fp) (hb : Below w.heap.size w w') : SgRow w' B x m v ys fp := h.same fun b _ _ hl => hb.block b hl
theorem SgRow.only {w w' : World} {B x m rb : Nat} {v : Value} {ys : List Sy} {fp : List Nat} (h : SgRow w B x m v ys fp) (ho : Only [rb] w w') (hr : rb < B) : SgRow w' B x m v ys fp := h.same fun b hB _ hl => ho.block b hl (by simp; omega)
theorem SgRow.nil {w : World} {B x m : Nat} {v : Value} (h : Own w B 109 3 v [] []) (hv : ∀ g, v.ownBlock = some g → g < m ∧ g ≠ x) : SgRow w B x m v [] [] := by
 obtain ⟨xs, h1, h2, _, _⟩ := h; exact ⟨xs, h1, by simpa using h2, by simp, Fresh.nil _ _, fun j hj => by simp at hj, hv, by simp⟩
theorem SgRow.form {w : World} {B x m : Nat} {v : Value} {ys : List Sy} {fp : List Nat} (h : SgRow w B x m v ys fp) : ∃ a c, v = .slice a ys.length c ∧ ys.length ≤ c ∧ c ≤ 9223372036854775807 := by
 have := h.own.form; rw [zgl] at this; exact this
theorem SgRow.at {w : World} {B x m : Nat} {v : Value} {ys : List Sy} {fp : List Nat} (h : SgRow w B x m v ys fp) {k : Nat} (hk : k < ys.length) :
  ∃ (g c : Nat) (a : Option Addr) (ca : Nat), v = .slice (some ⟨g, 0, none⟩) ys.length c ∧ g < w.heap.size ∧ B ≤ g ∧ g ≠ x ∧ w.cell? ⟨g, k * 3, none⟩ = some (.string ys[k].name) ∧ w.cell? ⟨g, k * 3 + 1, none⟩ = some (.slice a ys[k].args.length ca) ∧ w.cell? ⟨g, k * 3 + 2, none⟩ = some (.int .i64 ys[k].sort) ∧
   (∀ j, w.frozen? ⟨g, j, none⟩ = false) ∧ Own w B 3 1 (.slice a ys[k].args.length ca) (ys[k].args.map zv) [] ∧ (∀ q, (Value.slice a ys[k].args.length ca).ownBlock = some q → q ≠ x ∧ q ≠ g ∧ q < w.heap.size) ∧ ys[k].name.size ≤ maxLen ∧ I64 ys[k].sort ∧
   (∃ f2, Rd w (.sl (ys[k].args.map zv)) (.slice a ys[k].args.length ca) f2 ∧ ∀ b ∈ f2, B ≤ b ∧ b ≠ g ∧ b ≠ x) ∧
   ∀ (w' : World) (y : Sy) (a' : Option Addr) (c' : Nat) (f2' : List Nat) (i : Nat) (u : Value), (∀ b, B ≤ b → b ≠ g → b ≠ x → (Value.slice a ys[k].args.length ca).ownBlock ≠ some b → b < w.heap.size → w'.heap[b]? = w.heap[b]?) → w'.heap[g]? = w.heap[g]? → y.name.size ≤ maxLen →
    Rd w' (.sl (y.args.map zv)) (.slice a' y.args.length c') f2' → (∀ b ∈ f2', B ≤ b ∧ b ≠ g) → I64 y.sort → i < 3 → [Value.string y.name, .slice a' y.args.length c', .int .i64 y.sort] = ([.string ys[k].name, .slice a ys[k].args.length ca, .int .i64 ys[k].sort] : List Value).set i u →
    ∃ f, Rd (w'.setCell ⟨g, k * 3 + i, none⟩ u) (.sl ((ys.set k y).map Sy.cd)) (.slice (some ⟨g, 0, none⟩) ys.length c) f ∧ ∀ b ∈ f, B ≤ b := by
 obtain ⟨xs, h1, h2, h3, h4, h5, h6, h7⟩ := h; obtain ⟨us, rest, a, ca, f1, f2, f3, rfl, hus, rfl, n0, n1, n2, hput⟩ := sg_put h2 hk; obtain ⟨va, e1, e2, e3⟩ := h5 k hk
 have hva : va = .slice a ys[k].args.length ca := by
  rw [List.getElem?_append_right (by omega), hus] at e1; rw [show k * 3 + 1 - k * 3 = 1 from by omega] at e1
  simpa using e1.symm
 subst hva
 rcases h1.2 with ⟨rfl, h0⟩ | ⟨g, c, cur, rfl, hbg, hg, hnc, hcm, hcs, htk⟩
 ·omega
 have hcell : ∀ j u, ([.string ys[k].name, .slice a ys[k].args.length ca, .int .i64 ys[k].sort] : List Value)[j]? = some u → w.cell? ⟨g, k * 3 + j, none⟩ = some u := fun j u hu => by
  have hj3 : j < 3 := by have := (List.getElem?_eq_some_iff.1 hu).1; simpa using this
  have := h1.cells (g := g) rfl (k * 3 + j) u (by rw [List.getElem?_append_right (by omega), hus, show k * 3 + j - k * 3 = j from by omega, List.getElem?_append_left (by simpa using hj3)]; exact hu); rw [Addr.add_lit] at this
  simpa using this
 have hgl := (h1.lt g rfl).2; refine ⟨g, c, a, ca, rfl, hgl, hbg, (h6 g rfl).2, hcell 0 _ rfl, hcell 1 _ rfl, hcell 2 _ rfl, fun j => by unfold World.frozen?; rw [hg]; simp, e2, fun q hq => ⟨(e3 q hq).1.2, fun e => (e3 q hq).2.1 (by rw [e]; rfl), (e2.block hq).2⟩, n0, n2, ⟨f2, n1, fun b hb => ⟨(h4.2 b (by simp [hb])).1, fun e => h3 b (by simp [hb]) (by rw [e]; rfl), (h7 b (by simp [hb])).2⟩⟩, ?_⟩; intro w' y a' c' f2' i u hsame hgs m0 hrd' hf2' m2 hi3 htri; have hnd := h4.1
 have hq1 : ∀ b ∈ f1, (Value.slice a ys[k].args.length ca).ownBlock ≠ some b := fun b hb e => by
  by_cases hnil : ys[k].args = []
  ·exact (e3 b e).2.2 hnil (by simp [hb])
  ·obtain ⟨b', off, f, h8, _, rfl, _⟩ := n1.addr (by simpa using List.length_pos_iff.2 hnil)
   have : b' = b := by
    rw [h8] at e; simp only [Value.ownBlock, Option.some.injEq] at e; exact e
   subst this; exact (List.nodup_append.1 hnd).2.2 b' hb b' (by simp) rfl
 have hq3 : ∀ b ∈ f3, (Value.slice a ys[k].args.length ca).ownBlock ≠ some b := fun b hb e => by
  by_cases hnil : ys[k].args = []
  ·exact (e3 b e).2.2 hnil (by simp [hb])
  ·obtain ⟨b', off, f, h8, _, rfl, _⟩ := n1.addr (by simpa using List.length_pos_iff.2 hnil)
   have : b' = b := by
    rw [h8] at e; simp only [Value.ownBlock, Option.some.injEq] at e; exact e
   subst this; exact (List.nodup_append.1 (List.nodup_append.1 hnd).2.1).2.2 b' (by simp) b' hb rfl
 have hs : ∀ b ∈ f1 ++ (f2 ++ f3), (Value.slice a ys[k].args.length ca).ownBlock ≠ some b → (w'.setCell ⟨g, k * 3 + i, none⟩ u).heap[b]? = w.heap[b]? := fun b hb hq => by
  have hbg' : b ≠ g := fun e => h3 b hb (by rw [e]; rfl); exact (Below.heap_setCell _ _ _ _ hbg').trans (hsame b (h4.2 b hb).1 hbg' (h7 b hb).2 hq (h2.lt _ b hb))
 have hset : (us ++ ([Value.string ys[k].name, .slice a ys[k].args.length ca, .int .i64 ys[k].sort] ++ rest)).set (k * 3 + i) u = us ++ ([Value.string y.name, .slice a' y.args.length c', .int .i64 y.sort] ++ rest) := by
  rw [List.set_append_right _ _ (by omega), hus, show k * 3 + i - k * 3 = i from by omega, List.set_append_left _ _ (by simpa using hi3), htri]
 have hst := ((zch h1 (fun b hb => by obtain rfl : g = b := zgA hb; exact hgs)).stored (k * 3 + i) u).1; rw [hset] at hst
 have hown : Own (w'.setCell ⟨g, k * 3 + i, none⟩ u) B 109 3 (.slice (some ⟨g, 0, none⟩) ys.length c) ((ys.set k y).map Sy.cd) (f1 ++ (f2' ++ f3)) := by
  refine ⟨_, by rw [zgl, List.length_set]; exact hst, hput _ y a' c' f2' (fun b hb => hs b (by simp [hb]) (hq1 b hb)) (fun b hb => hs b (by simp [hb]) (hq3 b hb)) m0 (hrd'.same _ (zD (fun b hb => (hf2' b hb).2))) m2, ?_, fun b hb e => ?_⟩
  ·simp only [List.mem_map]; rintro z ⟨q, _, rfl⟩; exact q.cd_len
  ·have e' : g = b := zgA e
   rcases zgg.1 hb with hb | hb
   ·exact h3 b (by simp [hb]) e
   ·rcases zgg.1 hb with hb | hb
    ·exact (hf2' b hb).2 e'.symm
    ·exact h3 b (by simp [hb]) e
 obtain ⟨f, r1, ⟨_, _, rfl⟩ | ⟨b, _, e, rfl, _, hBb, _⟩⟩ := hown.rd
 ·exact ⟨[], r1, by simp⟩
 ·refine ⟨_, r1, fun z hz => ?_⟩
  rcases zgk.1 hz with rfl | hz
  ·exact hBb
  ·rcases zgg.1 hz with hz | hz
   ·exact (h4.2 z (by simp [hz])).1
   ·rcases zgg.1 hz with hz | hz
    ·exact (hf2' z hz).1
    ·exact (h4.2 z (by simp [hz])).1
theorem SgRow.notx {w : World} {B x m : Nat} {v : Value} {ys : List Sy} {fp : List Nat} (h : SgRow w B x m v ys fp) : ∀ b ∈ fp, B ≤ b ∧ b ≠ x := by
 obtain ⟨_, _, _, _, h4, _, _, h7⟩ := h; exact fun b hb => ⟨(h4.2 b hb).1, (h7 b hb).2⟩
/-- append of one word, in the walk. -/
theorem zeu {P : Program} {t : TypeId} {z : Value} {bytes : Nat} (hT : SlTy P t 109 z 3 bytes) {w : World} {ops : Array Oper} {rest : List Oper} {o : Oper} {a : Act} {Q : Exit → Act → World → Prop} (hgd : o.guard = none) (s x : Operand)
  (ho : o.op = .call { callee := .builtin .append, args := #[s, x], argTypes := #[t, t] })
  (B x0 mid : Nat) (v : Value) (ys : List Sy) (fp : List Nat) (hs : a.eval s = v) (h0 : SgRow w B x0 mid v ys fp) (ad : Addr) (c : Nat) (y : Sy) (va : Value) (f2 : List Nat) (hx : a.eval x = .slice (some ad) 1 c)
  (hcells : ∀ j u, [Value.string y.name, va, .int .i64 y.sort][j]? = some u → w.cell? (ad.add j) = some u) (hy : y.name.size ≤ maxLen) (hs64 : I64 y.sort) (hva : Own w B 3 1 va (y.args.map zv) []) (hrd : Rd w (.sl (y.args.map zv)) va f2) (hf2 : Fresh mid w f2)
  (hBm : B ≤ mid) (hx0 : x0 < mid) (hmw : mid ≤ w.heap.size) (hvag : ∀ g, va.ownBlock = some g → mid ≤ g)
  (hbytes : (ys.length + 1) * bytes ≤ 140737488355328) (hlen : ys.length + 1 ≤ 140737488355328) (hbase : B ≤ w.heap.size)
  (h : ∀ v' w', SgRow w' B x0 w'.heap.size v' (ys ++ [y]) (fp ++ f2) → w.grownBy w' v.ownBlock → (∀ b, v'.ownBlock = some b → v.ownBlock = some b ∨ w.heap.size ≤ b) → wpList P ops Q rest (a.put o.dst v') w') : wpList P ops Q (o :: rest) a w := by
 obtain ⟨xs, h1, h2, h3, h4, h5, hvm, hfm⟩ := h0; obtain ⟨a1, c1, hvae, _, _⟩ := hva.form; rw [zgl] at hvae; subst hvae; have hnv : RdVs w y.cd [.string y.name, .slice a1 y.args.length c1, .int .i64 y.sort] f2 := Sy.close hy hrd hs64; obtain ⟨v', w', hr, g1, g2, g3⟩ := zco hT w o.type B v ys.length xs h1 ad 1 c [.string y.name, .slice a1 y.args.length c1, .int .i64 y.sort] rfl hcells hnv.one (by simp [maxLen]; omega) hbytes hbase; refine wpList_plain hgd fun K hK => ?_; unfold Oper.wp execOp; simp only [ho, resolve, invoke, builtin, Sem.run_bind, Sem.run_pure, Result.andThen_ok, List.map_toArray, List.map_cons, List.map_nil, hs, hx, hr]; refine hK _ _ (h v' w' ?_ g2 g3); have hlt1 := h2.lt; have hlt2 := hnv.lt
 have hno2 : ∀ b ∈ f2, v.ownBlock ≠ some b := fun b hb e => by have h6 := (hvm b e).1; have h7 := (hf2.2 b hb).1; omega
 have s1 : SameOn fp w w' := fun b hb => g2.block b (hlt1 b hb) (fun he => h3 b hb he.symm); have s2 : SameOn f2 w w' := fun b hb => g2.block b (hlt2 b hb) (fun he => hno2 b hb he.symm); have hxl : xs.length = ys.length * 3 := h1.1; refine ⟨_, by rw [zgi]; exact g1, by rw [zgj, List.flatten_append]; exact (h2.same _ s1).app (by simpa using hnv.same _ s2), fun b hb e => ?_, (Fresh.app h4 (fun b hb => (hfm b hb).1) hBm hf2).same (s1.app s2), fun j hj => ?_, fun g hg => ⟨(g1.lt g hg).2, ?_⟩, fun b hb => ?_⟩; rotate_left 2
 ·rcases g3 g hg with h | h
  ·exact (hvm g h).2
  ·omega
 ·have hz := g2.size
  rcases zgg.1 hb with hb | hb
  ·have := hlt1 b hb; exact ⟨by omega, (hfm b hb).2⟩
  ·have := hlt2 b hb; have := (hf2.2 b hb).1; omega
 ·rcases zgg.1 hb with hb | hb
  ·rcases g3 b e with h | h
   ·exact h3 b hb h
   ·have := hlt1 b hb; omega
  ·rcases g3 b e with h | h
   ·exact hno2 b hb h
   ·have := hlt2 b hb; omega
 ·rw [zgi, List.length_singleton] at hj
  rcases Nat.lt_or_ge j ys.length with hjl | hjl
  ·obtain ⟨vj, e1, e2, e3⟩ := h5 j hjl
   refine ⟨vj, by rw [List.getElem?_append_left (by omega)]; exact e1, ?_, fun g hg => ?_⟩
   ·rw [List.getElem_append_left hjl]
    exact e2.same (fun b hm => by simp at hm) (fun b hv => g2.block b (e2.block hv).2 (fun he => (e3 b hv).2.1 he.symm))
   ·rw [List.getElem_append_left hjl]
    have hgm := (e3 g hg).1; refine ⟨⟨by have := g2.size; have := (e2.block hg).2; omega, hgm.2⟩, fun e => ?_, fun hnil hm => ?_⟩
    ·rcases g3 g e with h | h
     ·exact (e3 g hg).2.1 h
     ·have := (e2.block hg).2; omega
    ·rcases zgg.1 hm with hm | hm
     ·exact (e3 g hg).2.2 hnil hm
     ·have := (hf2.2 g hm).1; omega
  ·obtain rfl : j = ys.length := by omega
   refine ⟨.slice a1 y.args.length c1, by rw [List.getElem?_append_right (by omega), hxl]; simp, ?_, fun g hg => ?_⟩
   ·simp only [List.getElem_append_right (zgo _), Nat.sub_self, List.getElem_cons_zero]
    exact hva.same (fun b hm => by simp at hm) (fun b hv => g2.block b (hva.block hv).2 (fun he => by have := hvag b hv; have := (hvm b he.symm).1; omega))
   ·refine ⟨⟨by have := g2.size; have := (hva.block hg).2; omega, by have := hvag g hg; omega⟩, fun e => ?_, fun hnil hm => ?_⟩
    ·rcases g3 g e with h | h
     ·have := hvag g hg; have := (hvm g h).1; omega
     ·have := (hva.block hg).2; omega
    ·simp only [List.getElem_append_right (zgo _), Nat.sub_self, List.getElem_cons_zero] at hnil
     rcases zgg.1 hm with hm | hm
     ·have := (hfm g hm).1; have := hvag g hg; omega
     ·rw [hnil] at hrd
      simp only [List.map_nil, Rd] at hrd; obtain ⟨_, _, _, _, _, ⟨_, rfl⟩ | ⟨hne, _⟩⟩ := hrd
      ·simp at hm
      ·exact hne rfl
/-- The row, read: its blocks lie behind B. -/
theorem SgRow.rd {w : World} {B x m : Nat} {v : Value} {ys : List Sy} {fp : List Nat} (h : SgRow w B x m v ys fp) : ∃ f, Rd w (.sl (ys.map Sy.cd)) v f ∧ ∀ b ∈ f, B ≤ b := by
 obtain ⟨f, h1, h2, h3⟩ := h.own.fresh h.fresh; exact ⟨f, h1, fun b hb => (h2.2 b hb).1⟩
end Go.Proofs.YtbfinjiledfpcaaGreat
end
